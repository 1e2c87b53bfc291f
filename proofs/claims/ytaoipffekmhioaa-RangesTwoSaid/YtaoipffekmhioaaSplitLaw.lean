/-
  RangesSplit: the walk over the contracts.
-/
import Derived.Test.YtaoipffekmhioaaPage
import Derived.Test.YtaoipffekmhioaaRefSplit
import Derived.Test.YtaoipffekmhioaaPartsLaw
import Derived.Deep.RegionHeld3
namespace Go.Proofs.Ytaoipffekmhioaa
open Go.RowKit
set_option maxRecDepth 100000
theorem box_next {w w1 : World} {s : Nat} {u0 u1 u2 : Value} (hs : s < w.heap.size) (hb : Below w.heap.size w w1) (h0 : w.cell? ⟨s, 0, none⟩ = some u0) (h1 : w.cell? ⟨s, 1, none⟩ = some u1) (h2 : w.cell? ⟨s, 2, none⟩ = some u2) :
    w1.cell? ⟨s, 0, none⟩ = some u0 ∧ w1.cell? ⟨s, 1, none⟩ = some u1 ∧ w1.cell? ⟨s, 2, none⟩ = some u2 :=
  ⟨(hb.cell (p := ⟨s, 0, none⟩) hs).trans h0, (hb.cell (p := ⟨s, 1, none⟩) hs).trans h1, (hb.cell (p := ⟨s, 2, none⟩) hs).trans h2⟩
/-- a shorter slice over the same row -/
theorem OwnC.cut {w : World} {base n k c : Nat} {e : TypeId} {size : Nat} {A : Option Addr} {xs : List Value} (h : OwnC w base e size (.slice A (n + k) c) (n + k) xs) (hk : 0 < k) : OwnC w base e size (.slice A n c) n (xs.take (n * size)) := by
  rcases h.2 with ⟨h1, h2⟩ | ⟨g, cap, cur, hv, hg, hh, h3, h4, h5, h6⟩
  · omega
  · injection hv with hv _ hc
    subst hc
    refine ⟨by rw [List.length_take, h.1, Nat.min_eq_left (Nat.mul_le_mul_right _ (by omega))], .inr ⟨g, c, cur, by rw [hv], hg, hh, by omega, h4, h5, ?_⟩⟩
    rw [← h6, List.take_take, Nat.min_eq_left (Nat.mul_le_mul_right _ (by omega))]
theorem two_all {α : Type} {P : α → Prop} {p q : α} (h : P p) (k : P q) : ∀ x ∈ [p, q], P x := by
  intro x hx
  simp at hx
  rcases hx with rfl | rfl
  · exact h
  · exact k
theorem splitOf_none : splitOf (List.map neatOf []) = [] := by
  have h : placesOf (endsOf (List.map neatOf [])) = [] := List.eq_nil_of_length_eq_zero (Nat.le_zero.1 (placesOf_len (endsOf (List.map neatOf []))))
  unfold splitOf
  rw [h]
  rfl
theorem opt_ne {g1 g2 : Option Nat} (h : ∀ b1 b2, g1 = some b1 → g2 = some b2 → b1 ≠ b2) : g1 = none ∨ g1 ≠ g2 := by
  cases g1 with
  | none => exact .inl rfl
  | some b =>
    refine .inr fun e => ?_
    exact h b b rfl e.symm rfl
theorem OwnC.cap_le {w : World} {base n c : Nat} {e : TypeId} {size : Nat} {A : Option Addr} {xs : List Value} (h : OwnC w base e size (.slice A n c) n xs) : c ≤ 9223372036854775807 := by
  rcases h.2 with ⟨h1, h2⟩ | ⟨g, cap, cur, hv, hg, hh, h3, h4, h5, h6⟩
  · injection h1 with _ _ h1; omega
  · injection hv with _ _ hv
    subst hv
    simpa [maxLen] using h4
set_option maxHeartbeats 8000000 in
theorem splitLaw_walk (a b d m : List Rg) (A B D : Option Addr) (ca cb cd : Nat) (x : Int) (w : World) (hla : a.length ≤ 40) (hlb : b.length ≤ 40) (hld : d.length ≤ 40) (hwa : WfL a) (hwb : WfL b) (hwd : WfL d)
    (hs : Hid (splitOf ([a, b, d].map neatOf) = m))
    (ra : Reads w w.heap.size 2 A a.length (flat encR a)) (rb : Reads w w.heap.size 2 B b.length (flat encR b)) (rc : Reads w w.heap.size 2 D d.length (flat encR d)) :
    Calls Try.prog 3 #[.agg #[.slice A a.length ca, .slice B b.length cb, .slice D d.length cd], .int .i32 x] w fun e w' => e = .returned (.bool true) ∧ Below w.heap.size w w' := by
  have hwf : WfL [a, b, d].flatten := by simpa using hwa.append (hwb.append hwd)
  have hlen : [a, b, d].flatten.length ≤ 1000 := by simp; omega
  have hlm : m.length ≤ 10000 := by
    have h1 := splitOf_len ([a, b, d].map neatOf)
    rw [hs.out] at h1
    have h2 := neats_len [a, b, d]
    omega
  obtain ⟨wx, hwx⟩ : ∃ wx, Hid (w.alloc (.cells #[.slice A a.length ca, .slice B b.length cb, .slice D d.length cd] 23) = wx) := ⟨_, rfl⟩
  have hB : Below w.heap.size w wx := by rw [← hwx.out]; exact below_new _ _
  have hS : w.heap.size < wx.heap.size := by rw [← hwx.out]; simp
  have k0 : wx.cell? ⟨w.heap.size, 0, none⟩ = some (.slice A a.length ca) := by rw [← hwx.out, cell_new]; rfl
  have k1 : wx.cell? ⟨w.heap.size, 1, none⟩ = some (.slice B b.length cb) := by rw [← hwx.out, cell_new]; rfl
  have k2 : wx.cell? ⟨w.heap.size, 2, none⟩ = some (.slice D d.length cd) := by rw [← hwx.out, cell_new]; rfl
  have ra := ra.next hB
  have rb := rb.next hB
  have rc := rc.next hB
  go_enter Try.func3, Try.ntmps3
  go_wp2_with fail
  rw [hwx.out]
  clear hwx
  refine (twinR_any a A ca _ (by omega) ra).mono ?_
  rintro e w1 ⟨g, rfl, ht, hb1⟩
  have ra := ra.next hb1
  have rb := rb.next hb1
  have rc := rc.next hb1
  have ⟨k0, k1, k2⟩ := box_next hS (hb1) k0 k1 k2
  have hS := Nat.lt_of_lt_of_le hS (hb1).size
  have hB := hB.trans ((hb1).mono hB.size)
  have rt := Reads.of_own ht
  have rtl : Reads w1 w1.heap.size 2 (some ⟨g, 0, none⟩) a.length (flat encR a) := reads_prefix (m := [(-77, 0), (-77, 0)]) (by simpa using rt)
  have hgl := (ht.lt g rfl).2
  have HT := hid ((OwnC.of ht).cut (by omega))
  clear ht
  go_wp2_with fail
  refine (split_at _ 3 [a, b, d] _ _ m _ (by simp) (by omega) hwf (LL.moved (LL.three 22 rtl rb rc) (by simp)) (hid rfl) (hid rfl) hs).mono ?_
  rintro e w2 ⟨Am, cm, rfl, hm, hb2⟩
  have HM := hid (hm.base (B := w1.heap.size) (by simp))
  have hb2 := below_drop hb2
  have ra := ra.next hb2
  have rb := rb.next hb2
  have rc := rc.next hb2
  have rt := rt.next hb2
  have rtl := rtl.next hb2
  have ⟨k0, k1, k2⟩ := box_next hS (hb2) k0 k1 k2
  have hS := Nat.lt_of_lt_of_le hS (hb2).size
  have hB := hB.trans ((hb2).mono hB.size)
  have rm := hm.reads
  clear hm
  go_wp2_with fail
  have hLL : LL (w2.alloc (.cells #[.slice A a.length ca, .slice B b.length cb, .slice D d.length cd] 22)).drew (some ⟨w2.heap.size, 0, none⟩) [a, b, d] := LL.three 22 ra rb rc
  have rt := (rt : Reads w2 w2.heap.size 2 (some ⟨g, 0, none⟩) (a.length + 2) _)
  go_region_held3 (fun w' => w'.cell? ⟨w.heap.size, 0, none⟩ = some (.slice A a.length ca) ∧ w'.cell? ⟨w.heap.size, 1, none⟩ = some (.slice B b.length cb) ∧ w'.cell? ⟨w.heap.size, 2, none⟩ = some (.slice D d.length cd)) (first | assumption | exact ⟨k0, k1, k2⟩ | exact box_next hS (below_new w2 _).drew k0 k1 k2)
    (first | (go_simp; go_at_call 11; refine (refSplit_any _ 3 [a, b, d] m _ (by simp) (by omega) hwf hs hLL).mono ?_; rintro e w3 ⟨A3, c3, rfl, r3, hb3'⟩; have hb3 : Below w2.heap.size w2 w3 := (below_new w2 _).drew.trans (hb3'.mono (by simp)); have s3 := box_next hS hb3 k0 k1 k2; have hS3 := Nat.lt_of_lt_of_le hS hb3.size; have rm3 := rm.next hb3; have rt3 := rt.next hb3; have rtl3 := rtl.next hb3; have ra3 := ra.next hb3; clear hLL hb3'; dsimp only) | (go_simp; go_at_call 10; refine (sameR_any Am A3 cm c3 m m _ (by omega) rm3 r3).mono ?_; rw [decide_eq_true rfl]; rintro e w4 ⟨rfl, hb4⟩; have s4 := box_next hS3 hb4 s3.1 s3.2.1 s3.2.2; have hS4 := Nat.lt_of_lt_of_le hS3 hb4.size; have rt4 := rt3.next hb4; have rtl4 := rtl3.next hb4; have ra4 := ra3.next hb4; clear r3 rm3; dsimp only) | (go_simp; go_at_call 12; refine (leftR_any a g A ca _ (by omega) rt4 ra4).mono ?_; rintro e w5 ⟨rfl, hb5⟩; have s5 := box_next hS4 hb5 s4.1 s4.2.1 s4.2.2; have hS5 := Nat.lt_of_lt_of_le hS4 hb5.size; have rtl5 := rtl4.next hb5; have ra5 := ra4.next hb5; dsimp only) | (go_simp; go_at_call 13; refine (class_any _ _ a x _ (by omega) rtl5).mono ?_; rintro e w6 ⟨rfl, hb6⟩; have s6 := box_next hS5 hb6 s5.1 s5.2.1 s5.2.2; have hS6 := Nat.lt_of_lt_of_le hS5 hb6.size; have rtl6 := rtl5.next hb6; have ra6 := ra5.next hb6; dsimp only) | (go_simp; go_at_call 14; refine (refClass_any _ _ a x _ (by omega) ra6).mono ?_; rintro e w7 ⟨rfl, rfl⟩; dsimp only) | (go_simp; go_at_call 15; refine (has_any _ _ a x _ (by omega) rtl6).mono ?_; rintro e w8 ⟨rfl, hb8⟩; have s8 := box_next hS6 hb8 s6.1 s6.2.1 s6.2.2; have ra8 := ra6.next hb8; dsimp only) | (go_simp; go_at_call 16; refine (refHas_any _ _ a x _ (by omega) ra8).mono ?_; rintro e w9 ⟨rfl, rfl⟩; dsimp only))
  have hB8 : Below w2.heap.size w2 w8 := hb3.trans ((hb4.trans ((hb5.trans ((hb6.trans (hb8.mono hb6.size)).mono hb5.size)).mono hb4.size)).mono hb3.size)
  have HT8 := hid ((HT.out.below hb2 (Nat.le_refl _)).below hB8 (Nat.le_refl _))
  have HM8 := hid (HM.out.below hB8 (Nat.le_refl _))
  have hB := hB.trans (hB8.mono hB.size)
  have hs1 := hb1.size
  clear s3 s4 s5 s6 s8 rt3 rt4 rtl3 rtl4 rtl5 rtl6 ra3 ra4 ra5 ra6 ra8 rt rtl rm HT HM k0 k1 k2
  go_wp2_with fail
  obtain ⟨g1, cu1, hA1, hp1, hst1, hlt1⟩ := page_of_own 1 HT8.out (by omega)
  obtain ⟨g2, cu2, hA2, hp2, hst2, hlt2⟩ := page_of_own 2 HM8.out (HM8.out.cap_le)
  have HA1 := hid hA1
  have HA2 := hid hA2
  clear hA1 hA2
  have hne : ∀ b1 b2, g1 = some b1 → g2 = some b2 → b1 ≠ b2 := fun b1 b2 e1 e2 => by have h9 := HA1.out; rw [e1] at h9; injection h9 with h9; injection h9 with h9 _ _; have := (hlt2 b2 e2).1; omega
  have hsz8 := hB8.size
  have hsz2 := hb2.size
  refine (bookR_any w8.heap.size a.length (a.length + 2) (some ⟨g, 0, none⟩) [] _ (by simp) (bookSt_new w8)).mono ?_
  rintro e w9 ⟨rfl, hbk9, hb9⟩
  have hb9 : Below w8.heap.size w8 w9 := (below_new w8 _).trans hb9
  have HK9 := hid hbk9
  clear hbk9
  go_wp2_with fail
  refine (bookR_any w8.heap.size m.length cm Am _ _ (by simp) HK9.out).mono ?_
  rintro e w10 ⟨rfl, hbk10, hb10⟩
  have hb10 : Below w8.heap.size w8 w10 := hb9.trans hb10
  have HK10 := hid hbk10
  clear hbk10
  go_wp2_with fail
  have hok1 := rgPg_ok (k := 1) hp1
  have hok2 := rgPg_ok (k := 2) hp2
  refine (apart_go w8.heap.size [rgPg g1 a.length (a.length + 2) 1 cu1, rgPg g2 m.length cm 2 cu2] w8 _ (by simp) rfl (two_all hok1 hok2) (apart2_two (opt_ne hne) (opt_ne fun b1 b2 e1 e2 e => hne b2 b1 e2 e1 e.symm)) (two_all hst1 hst2) (two_all (fun b h => (hlt1 b h).2) (fun b h => (hlt2 b h).2)) hb10 (by have h9 := HK10.out; rw [HA1.out, HA2.out] at h9; exact h9)).mono ?_
  rintro e w11 ⟨rfl, hL⟩
  have hB11 : Below w.heap.size w w11 := hL.below (two_all (fun b h => by have := (hlt1 b h).1; have := hB.size; omega) (fun b h => by have := (hlt2 b h).1; have := hB.size; omega)) (hB.trans (hb10.mono hB.size)) (by have := hB.size; have := hb10.size; omega)
  clear hL HK9 HK10 hok1 hok2 hst1 hst2 hlt1 hlt2 hp1 hp2 HA1 HA2 HT8 HM8
  go_wp2_with fail
  refine (split_at none 0 [] _ _ [] _ (by simp) (by simp) (by intro r hr; cases hr) (LL.nil _ _) (hid rfl) (hid rfl) (hid splitOf_none)).mono ?_
  rintro e w12 ⟨A12, c12, rfl, _, hb12⟩
  go_wp2_with fail
  refine (union_at none 0 [] [] [] _ (by simp) (hid rfl) (neatOf_self NeatP.nil) (by simp) (by intro r hr; cases hr) (LL.nil _ _)).mono ?_
  rintro e w13 ⟨A13, c13, rfl, _, hb13⟩
  go_wp2_with fail
  refine (lives_any _).mono ?_
  rintro e w14 ⟨rfl, hb14⟩
  go_wp2_with fail
  go_ret
  exact ⟨rfl, hB11.trans ((hb12.trans ((hb13.trans (hb14.mono hb13.size)).mono hb12.size)).mono hB11.size)⟩
end Go.Proofs.Ytaoipffekmhioaa
