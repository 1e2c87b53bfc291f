/-
  The rules of some sorts (checks.Of): the walk.
-/
import Derived.Test.YtpbnfinmjnpkpaaGreatDoorGrTl
namespace Go.Proofs.YtpbnfinmjnpkpaaGreatDoor
open Go.RowKit
set_option maxRecDepth 100000
theorem readsK {w w1 : World} {A : Option Addr} {l : List Nat} (hr : Reads w w.heap.size 1 A l.length (l.map fun (k : Nat) => Value.int .u8 (k : Int))) (hb : Below w.heap.size w w1) (k : Nat) (hk : k < l.length) :
    ∃ b o, A = some ⟨b, o, none⟩ ∧ b < w.heap.size ∧ w1.cell? ⟨b, o + k, none⟩ = some (.int .u8 (l[k] : Int)) := by
  obtain ⟨b, o, e, hlt, hc⟩ := hr.2 (by omega)
  exact ⟨b, o, e, hlt, (hb.cell (p := ⟨b, o + k, none⟩) hlt).trans (hc k _ (by rw [List.getElem?_map, List.getElem?_eq_getElem hk]; rfl))⟩
def firstK (x : Nat) (l : List Nat) : Int := match l.findIdx? (x == ·) with
  | some i => (i : Int)
  | none => -1
theorem firstK_hit (x : Nat) (l : List Nat) (k : Nat) (hk : k < l.length) (h : x = l[k]) (hn : ∀ j (hj : j < l.length), j < k → (x == l[j]) = false) : firstK x l = k := by
  unfold firstK
  rw [List.findIdx?_eq_some_iff_getElem.2 ⟨hk, by simpa using h, fun j hj => by rw [hn j (by omega) hj]; simp⟩]
theorem firstK_miss (x : Nat) (l : List Nat) (hn : ∀ j (hj : j < l.length), (x == l[j]) = false) : firstK x l = -1 := by
  unfold firstK
  rw [List.findIdx?_eq_none_iff.2 (fun y hy => by
    obtain ⟨j, hj, rfl⟩ := List.mem_iff_getElem.1 hy
    exact hn j hj)]
theorem firstK_any (x : Nat) (l : List Nat) : decide (0 ≤ firstK x l) = l.any (x == ·) := by
  unfold firstK
  cases h : l.findIdx? (x == ·) with
  | none =>
    have := List.findIdx?_eq_none_iff.1 h
    have : l.any (x == ·) = false := by simpa using this
    rw [this]; decide
  | some i =>
    obtain ⟨h1, h2, _⟩ := List.findIdx?_eq_some_iff_getElem.1 h
    have : l.any (x == ·) = true := List.any_eq_true.2 ⟨_, List.getElem_mem h1, h2⟩
    rw [this]; simp
set_option maxHeartbeats 800000 in
theorem idxK_any (A : Option Addr) (c : Nat) (l : List Nat) (x : Nat) (w : World) (hm : l.length ≤ 1000000000000) (hr : Reads w w.heap.size 1 A l.length (l.map fun (k : Nat) => Value.int .u8 (k : Int))) :
    Calls Tryz.prog 132 #[.slice A l.length c, .int .u8 (x : Int)] w fun e w' => e = .returned (.int .i64 (firstK x l)) ∧ w = w' := by
  obtain ⟨xz, hxz⟩ : ∃ z : Int, (x : Int) = z := ⟨_, rfl⟩
  rw [hxz]
  have HXZ := hid hxz
  clear hxz
  go_enter Tryz.func132, Tryz.ntmps132
  go_wp2
  go_loop [5, 8] (fun _ i => ∃ k : Nat, k ≤ l.length ∧ i = .int .i64 k ∧ Hid (∀ j (hj : j < l.length), j < k → (x == l[j]) = false)) (fun _ i => l.length - (intOf i).toNat)
  case atStart => exact ⟨0, Nat.zero_le _, rfl, fun j _ hj => absurd hj (by omega)⟩
  case round =>
    obtain ⟨k, hk, rfl, HN⟩ := hrel
    by_cases hlt : k < l.length
    · obtain ⟨b, off, rfl, hbl, c0⟩ := readsK hr (Below.refl _ _) k hlt
      obtain ⟨y, hy⟩ : ∃ y : Int, (l[k] : Int) = y := ⟨_, rfl⟩
      rw [hy] at c0
      have HX := hid hy
      clear hy
      by_cases e : xz = y
      · have HF := hid (firstK_hit x l k hlt (by have := HXZ.out; have := HX.out; omega) (fun j hj hjk => HN.out j hj hjk))
        subst e
        go_wp2
        go_ret
        exact ⟨ret_int HF.out.symm, rfl⟩
      · have E1 := hid (show (x == l[k]) = false by have := HXZ.out; have := HX.out; simp; omega)
        go_wp2
        go_round
        case rel =>
          refine ⟨k + 1, by omega, by go_num, ?_⟩
          intro j hj hjk
          by_cases e : j = k
          · subst e; exact E1.out
          · exact HN.out j hj (by omega)
        case measure => simp [intOf]; omega
    · go_wp2
      go_ret
      exact ⟨ret_int (firstK_miss x l fun j hj => HN.out j hj (by omega)).symm, rfl⟩
theorem hasK_any (A : Option Addr) (c : Nat) (l : List Nat) (x : Nat) (w : World) (hm : l.length ≤ 1000000000000) (hr : Reads w w.heap.size 1 A l.length (l.map fun (k : Nat) => Value.int .u8 (k : Int))) :
    Calls Tryz.prog 96 #[.slice A l.length c, .int .u8 (x : Int)] w fun e w' => e = .returned (.bool (l.any (x == ·))) ∧ w = w' := by
  have H := hid (idxK_any A c l x w hm hr)
  rw [← firstK_any]
  generalize (x : Int) = xz at H ⊢
  generalize firstK x l = q at H ⊢
  go_enter Tryz.func96, Tryz.ntmps96
  go_wp2_with (go_at_call 132; refine H.out.mono ?_; rintro e w' ⟨rfl, rfl⟩)
  go_ret
  exact ⟨rfl, rfl⟩
theorem clipN_any (A : Option Addr) (n c : Nat) (w : World) (hc : n ≤ c) : Calls Tryz.prog 48 #[.slice A n c] w fun e w' => e = .returned (.slice A n n) ∧ w = w' := by
  go_enter Tryz.func48, Tryz.ntmps48
  go_wp2
  go_ret
  exact ⟨rfl, rfl⟩
theorem infoI : (Tryz.prog.info? 3).map (fun i => (i.zero, i.size, i.bytes)) = some (some (.int .i64 0), 1, 8) := by kernel_rfl
def ofL (rs : List Gr.Ru) (ks : List Nat) (n : Nat) : List Nat := (List.range n).filter fun i => ks.any ((Gr.ruAt rs i).sort == ·)
theorem ofL_succ (rs : List Gr.Ru) (ks : List Nat) (n : Nat) : ofL rs ks (n + 1) = ofL rs ks n ++ (if ks.any ((Gr.ruAt rs n).sort == ·) then [n] else []) := by
  unfold ofL
  rw [List.range_succ, List.filter_append]
  cases h : (ks.any ((Gr.ruAt rs n).sort == ·)) <;> simp [List.filter, h]
theorem ofL_len (rs : List Gr.Ru) (ks : List Nat) (n : Nat) : (ofL rs ks n).length ≤ n := by
  have := List.length_filter_le (fun i => ks.any ((Gr.ruAt rs i).sort == ·)) (List.range n)
  rw [List.length_range] at this
  exact this
def numsV (l : List Nat) : List Value := l.map fun (k : Nat) => Value.int .i64 (k : Int)
section
variable {w0 : World} {B : Nat} {rs : List Gr.Ru}
def OfP (rs : List Gr.Ru) (ks : List Nat) (W : World) (e : Ending) (W' : World) : Prop := ∃ A k, e = .returned (.slice A k k) ∧ (ofL rs ks rs.length).length = k ∧ Reads W' W'.heap.size 1 A k (numsV (ofL rs ks rs.length)) ∧ Below W.heap.size W W'
set_option maxHeartbeats 8000000 in
theorem of_any (gn : List UInt8) (bd st : Int) (RA : Option Addr) (rc : Nat) (KA : Option Addr) (kc : Nat) (ks : List Nat) (W : World) (hr0 : RsAt w0 B RA rs) (hb0 : Below B w0 W) (hB0 : B ≤ W.heap.size) (hkl : ks.length ≤ 1000)
    (hks : Reads W W.heap.size 1 KA ks.length (ks.map fun (k : Nat) => Value.int .u8 (k : Int))) :
    Calls Tryz.prog 60 #[.agg #[Gr.strV gn, .int .i64 bd, .int .i64 st, .slice RA rs.length rc], .slice KA ks.length kc] W (OfP rs ks W) := by
  obtain ⟨xs, hr1, hr2⟩ := hr0.r
  have hfew := hr0.few
  have hb1 := below_new W (.cells #[.string ⟨gn.toArray⟩, .int .i64 bd, .int .i64 st, .slice RA rs.length rc] 56)
  have h1 := heap_alloc_new W (.cells #[.string ⟨gn.toArray⟩, .int .i64 bd, .int .i64 st, .slice RA rs.length rc] 56)
  obtain ⟨W1, hW1⟩ : ∃ W1, Hid (W.alloc (.cells #[.string ⟨gn.toArray⟩, .int .i64 bd, .int .i64 st, .slice RA rs.length rc] 56) = W1) := ⟨_, hid rfl⟩
  rw [hW1.out] at hb1 h1
  have c3 : W1.cell? ⟨W.heap.size, 3, none⟩ = some (.slice RA rs.length rc) := by rw [Lib.cell_of_heap h1]; rfl
  have HB1 := hid hb1
  have HH1 := hid h1
  have HR1 := hid hr1
  have HR2 := hid hr2
  have HB0 := hid (And.intro hb0 hB0)
  have HHAS := hid (fun (u : World) (hu : Below W.heap.size W u) (x : Nat) => hasK_any KA kc ks x u (by omega) ((hks.below hu).more hu.size))
  obtain ⟨n, hn⟩ : ∃ n, rs.length = n := ⟨_, rfl⟩
  have HN := hid hn
  have HL := hid (fun i => ofL_len rs ks i)
  unfold Gr.strV at *
  unfold OfP
  rw [hn] at c3 hW1 hfew ⊢
  generalize ks.length = kn at *
  clear h1 hb1 hr1 hr2 hr0 hb0 hB0 hks hkl hn
  obtain ⟨i0, hi, hz0, hz1, hz2⟩ := info_parts infoI
  go_enter Tryz.func60, Tryz.ntmps60
  go_upto_region 1 with fail
  rw [hW1.out]
  clear hW1
  go_upto_region 2 with fail
  clear c3
  go_loopw [4, 5, 6, 10] (fun v _ _ iv wr => ∃ (i : Nat), i ≤ n ∧ iv = .int .i64 (i : Int) ∧ Hid (wr.ownsRow W.heap.size 3 1 v (ofL rs ks i).length (numsV (ofL rs ks i))) ∧ Hid (Below W.heap.size W wr)) (fun _ _ _ iv _ => n - (intOf iv).toNat)
  case atStart => exact ⟨0, Nat.zero_le _, rfl, hid (World.ownsRow_nil _ _ _ _), HB1⟩
  case round =>
    obtain ⟨i, hin, rfl, HO, HW⟩ := hrel
    by_cases hlt : i < n
    · have hir : i < rs.length := by have := HN.out; omega
      obtain ⟨b, o, u0, u1, u2, u3, u4, u5, u6, u7, u8, u9, rfl, hbB, hru, c0, c1, c2, c3, c4, c5, c6, c7, c8, c9⟩ := readsRu HR1.out HR2.out i hir
      obtain ⟨xk, xm, xt, xSA, xa, xsc, xUA, xb, xuc, z0, z1, z2, hv, _⟩ := hru.form
      cases hv
      have hbw : Below B w0 wr := HB0.out.1.trans (HW.out.mono HB0.out.2)
      have c0 := (hbw.cell (p := ⟨b, o + i * 10, none⟩) hbB).trans c0
      have c1 := (hbw.cell (p := ⟨b, o + i * 10 + 1, none⟩) hbB).trans c1
      have c2 := (hbw.cell (p := ⟨b, o + i * 10 + 2, none⟩) hbB).trans c2
      have c3 := (hbw.cell (p := ⟨b, o + i * 10 + 3, none⟩) hbB).trans c3
      have c4 := (hbw.cell (p := ⟨b, o + i * 10 + 4, none⟩) hbB).trans c4
      have c5 := (hbw.cell (p := ⟨b, o + i * 10 + 5, none⟩) hbB).trans c5
      have c6 := (hbw.cell (p := ⟨b, o + i * 10 + 6, none⟩) hbB).trans c6
      have c7 := (hbw.cell (p := ⟨b, o + i * 10 + 7, none⟩) hbB).trans c7
      have c8 := (hbw.cell (p := ⟨b, o + i * 10 + 8, none⟩) hbB).trans c8
      have c9 := (hbw.cell (p := ⟨b, o + i * 10 + 9, none⟩) hbB).trans c9
      have hra : Gr.ruAt rs i = rs[i] := by unfold Gr.ruAt; simp [hir]
      have hsu := ofL_succ rs ks i
      have hll := HL.out i
      rw [hra] at hsu
      have HHX := hid (fun (u : World) (hu : Below W.heap.size W u) => HHAS.out u hu rs[i].sort)
      obtain ⟨kz, hkz⟩ : ∃ z : Int, (rs[i].sort : Int) = z := ⟨_, rfl⟩
      obtain ⟨qb, hqb⟩ : ∃ q, ks.any (rs[i].sort == ·) = q := ⟨_, rfl⟩
      rw [hqb] at hsu HHX
      rw [hkz] at c1 HHX
      obtain ⟨rnm, hrn⟩ : ∃ q, (⟨rs[i].name.toArray⟩ : ByteArray) = q := ⟨_, rfl⟩
      unfold Gr.strV at c0
      rw [hrn] at c0
      have HSU := hid hsu
      obtain ⟨L, hL⟩ : ∃ L, ofL rs ks i = L := ⟨_, rfl⟩
      rw [hL] at HO HSU hll
      obtain ⟨m, hm⟩ : ∃ m, L.length = m := ⟨_, rfl⟩
      rw [hm] at HO hll
      have HM := hid hm
      clear hra hsu hkz hqb hrn hbw hL hm
      have hown := HO.out
      have hbz := (HW.out.alloc HW.out.size (.cells #[] 3)).size
      cases qb with
      | true =>
        go_wp2_with (first
          | (go_at_call 96; refine (HHX.out _ (HW.out.alloc HW.out.size _)).mono ?_; rintro _ w3 ⟨rfl, rfl⟩)
          | (at_builtin; refine wpList_push _ rfl _ _ 25 rfl W.heap.size 3 i0 _ 1 8 Tryz.underlying25 hi hz0 hz1 hz2 rfl (by omega) _ m _ rfl (hown.alloc _) [.int .i64 (i : Int)] 1 _ rfl (by simp) rfl (by simp [Value.oneCell']) (by simp only [maxLen]; omega) (by omega) (HW.out.alloc HW.out.size _).size ?_; intro v' w' hown' hsz' hB'; have HB9 := hid (hB' _ (HW.out.alloc HW.out.size _)); have HO9 := hid hown'; clear hB' hown'))
        go_roundw
        case rel =>
          refine ⟨i + 1, hlt, by go_num, ?_, HB9⟩
          have h9 := HO9.out
          rw [HSU.out]
          simp only [if_true, numsV, List.map_append, List.length_append, List.map_cons, List.map_nil, List.length_cons, List.length_nil, HM.out]
          exact hid h9
        case measure => simp [intOf]; omega
      | false =>
        go_wp2_with (first
          | (go_at_call 96; refine (HHX.out _ (HW.out.alloc HW.out.size _)).mono ?_; rintro _ w3 ⟨rfl, rfl⟩))
        go_roundw
        case rel =>
          refine ⟨i + 1, hlt, by go_num, ?_, hid (HW.out.alloc HW.out.size _)⟩
          rw [HSU.out]
          simp only [Bool.false_eq_true, if_false, List.append_nil, HM.out]
          exact hid (hown.alloc _)
        case measure => simp [intOf]; omega
    · have hie : i = n := by omega
      subst hie
      have hown := HO.out
      obtain ⟨A8, c8, rfl⟩ := row_form hown
      have hlc : (ofL rs ks i).length ≤ c8 := by
        obtain ⟨A', c', hv, _, h9⟩ := Reads.own hown
        injection hv with _ _ hv
        omega
      have HRD := hid (Reads.of_own hown)
      obtain ⟨m, hm⟩ : ∃ m, (ofL rs ks i).length = m := ⟨_, rfl⟩
      have HM := hid hm
      rw [hm] at hlc HRD ⊢
      have HCL := hid (clipN_any A8 m c8 wr hlc)
      clear hown hm hlc HO
      go_wp2_with fail
      refine HCL.out.mono ?_
      rintro _ w9 ⟨rfl, rfl⟩
      go_wp2_with fail
      go_ret
      exact ⟨A8, m, rfl, HM.out, HRD.out, HW.out⟩
end
end Go.Proofs.YtpbnfinmjnpkpaaGreatDoor
