/-
  RangesTwo: the walk over the contracts.
-/
import Derived.Test.YtaoipffekmhioaaSplitLaw
import Derived.Test.YtaoipffekmhioaaRefKept1
import Derived.Test.YtaoipffekmhioaaRefKept2
namespace Go.Proofs.Ytaoipffekmhioaa
open Go.RowKit
open Go.Sort (grow)
set_option maxRecDepth 100000
/-- a block that was just built, cell by cell -/
def Cells (w : World) (b : Nat) (vs : List Value) : Prop := b < w.heap.size ∧ ∀ j u, vs[j]? = some u → w.cell? ⟨b, j, none⟩ = some u
theorem Cells.next {w w' : World} {b : Nat} {vs : List Value} (h : Cells w b vs) (hb : Below w.heap.size w w') : Cells w' b vs :=
  ⟨Nat.lt_of_lt_of_le h.1 hb.size, fun j u hu => (hb.cell (p := ⟨b, j, none⟩) h.1).trans (h.2 j u hu)⟩
theorem cells_new (w : World) (vs : List Value) (t : TypeId) : Cells (w.alloc (.cells vs.toArray t)) w.heap.size vs := ⟨by simp, fun j u hu => by rw [cell_new]; simpa using hu⟩
theorem BookSt.next {w w' : World} {bb : Nat} {xs : List Value} (h : BookSt w bb xs) (hb : Below w.heap.size w w') : BookSt w' bb xs := by
  obtain ⟨h1, A, c, h2, h3, h4⟩ := h
  exact ⟨Nat.lt_of_lt_of_le h1 hb.size, A, c, (hb.cell (p := ⟨bb, 0, none⟩) h1).trans h2, (hb.frozen (p := ⟨bb, 0, none⟩) h1).trans h3, ownsRow_below h4 hb (Nat.le_refl _)⟩
theorem apart2_rise {ps : List Pg} (h : ps.Pairwise fun p q => ∀ b1 b2, p.blk = some b1 → q.blk = some b2 → b1 < b2) : Apart2 ps := by
  intro i j hi hj hne
  rcases Nat.lt_or_ge i j with h1 | h1
  · have := List.pairwise_iff_getElem.1 h i j hi hj h1
    exact opt_ne fun b1 b2 e1 e2 e => by have := this b1 b2 e1 e2; omega
  · have := List.pairwise_iff_getElem.1 h j i hj hi (by omega)
    exact opt_ne fun b1 b2 e1 e2 e => by have := this b2 b1 e2 e1; omega
theorem kept_is {lls : List (List Rg)} {r o : List Rg} {way : Nat} (hwf : WfL lls.flatten) (hr : NeatP r) (hx : ∀ x, Holds1 r x ↔ wantB way lls x = true) (hin : ∀ x, wantB way lls x = true → ∃ l ∈ lls, Holds1 l x) (ho : KeptI (wantB way lls) top32 o) : o = r := by
  refine neat_unique _ _ ho.neat hr fun x => ?_
  rw [ho.holds, hx]
  constructor
  · exact fun h => h.2.2
  · intro h
    obtain ⟨l, hl, q, hq, h1⟩ := hin x h
    have := hwf q (List.mem_flatten.2 ⟨l, hl, hq⟩)
    unfold Wf at this
    exact ⟨by unfold low32; omega, by unfold top32; omega, h⟩
/-- a page of the book, as an interface value -/
def pgV (A : Option Addr) (n c k : Nat) : Value := .iface 56 (.agg (rowV A n c ((k : Int), 0) (0, (k : Int))))
theorem same_quiet (A B : Option Addr) (c d : Nat) (l : List Rg) (w : World) (hm : l.length ≤ 10000000) (ha : Reads w w.heap.size 2 A l.length (flat encR l)) (hb : Reads w w.heap.size 2 B l.length (flat encR l)) (i : Nat) (os : Array Obj) :
    Calls Try.prog 10 #[.slice A l.length c, .slice B l.length d] (grow (redrawn w i) os) fun e w'' => e = .returned (.bool true) ∧ ∃ p : Regrown, w'' = grow (redrawn w p.d) p.os := by
  have h9 := sameR_any A B c d l l (grow (redrawn w i) os) hm (ha.next (below_regrown w i os)) (hb.next (below_regrown w i os))
  rw [decide_eq_true rfl] at h9
  exact Calls.regrown_of h9
theorem five_all {α : Type} {P : α → Prop} {p q r s t : α} (h1 : P p) (h2 : P q) (h3 : P r) (h4 : P s) (h5 : P t) : ∀ x ∈ [p, q, r, s, t], P x := by
  intro x hx
  simp at hx
  rcases hx with rfl | rfl | rfl | rfl | rfl
  · exact h1
  · exact h2
  · exact h3
  · exact h4
  · exact h5
theorem five_rise {α : Type} {R : α → α → Prop} {p q r s t : α} (h1 : R p q) (h2 : R p r) (h3 : R p s) (h4 : R p t) (h5 : R q r) (h6 : R q s) (h7 : R q t) (h8 : R r s) (h9 : R r t) (h10 : R s t) : [p, q, r, s, t].Pairwise R := by
  simp [List.pairwise_cons, h1, h2, h3, h4, h5, h6, h7, h8, h9, h10]
theorem any_held {lls : List (List Rg)} {x : Int} (h : (lls.any fun l => hasB l x) = true) : ∃ l ∈ lls, Holds1 l x := (held_any lls x).1 h
theorem kept_one {a n o : List Rg} (hwa : WfL a) (hn : neatOf a = n) (ho : KeptI (wantB 0 [a]) top32 o) : o = n := by
  refine kept_is (way := 0) (by simpa using hwa) (by rw [← hn]; exact (neatOf_law a).1) (fun x => ?_) (fun x h => any_held (lls := [a]) h) ho
  rw [← hn, holds_neat, ← hasB_holds]
  simp [wantB]
theorem kept_two {a b u o : List Rg} (hwa : WfL a) (hwb : WfL b) (hu : neatOf (a ++ b) = u) (ho : KeptI (wantB 0 [a, b]) top32 o) : o = u := by
  refine kept_is (way := 0) (by simpa using hwa.append hwb) (by rw [← hu]; exact (neatOf_law _).1) (fun x => ?_) (fun x h => any_held (lls := [a, b]) h) ho
  rw [← hu, holds_neat, holds_append, ← hasB_holds, ← hasB_holds]
  simp [wantB]
theorem kept_minus {a b m o : List Rg} (hwa : WfL a) (hwb : WfL b) (hm : partOf a b false = m) (ho : KeptI (wantB 1 [a, b]) top32 o) : o = m := by
  refine kept_is (by simpa using hwa.append hwb) (by rw [← hm]; exact (partOf_law _ _ _).1) (fun x => ?_) (fun x h => ?_) ho
  · rw [← hm, (partOf_law a b false).2, ← hasB_holds, ← hasB_holds]
    simp [wantB]
  · simp [wantB] at h
    exact ⟨a, by simp, (hasB_holds a x).1 h.1⟩
theorem kept_both {a b m o : List Rg} (hwa : WfL a) (hwb : WfL b) (hm : partOf a b true = m) (ho : KeptI (wantB 2 [a, b]) top32 o) : o = m := by
  refine kept_is (by simpa using hwa.append hwb) (by rw [← hm]; exact (partOf_law _ _ _).1) (fun x => ?_) (fun x h => ?_) ho
  · rw [← hm, (partOf_law a b true).2, ← hasB_holds, ← hasB_holds]
    simp [wantB]
  · simp [wantB] at h
    exact ⟨a, by simp, (hasB_holds a x).1 h.1⟩
set_option maxHeartbeats 16000000 in
theorem two_walk (a b n u m o : List Rg) (A B : Option Addr) (ca cb : Nat) (w : World) (hla : a.length ≤ 60) (hlb : b.length ≤ 60) (hwa : WfL a) (hwb : WfL b)
    (hn : Hid (neatOf a = n)) (hu : Hid (neatOf (a ++ b) = u)) (hm : Hid (partOf a b false = m)) (ho : Hid (partOf a b true = o))
    (ra : Reads w w.heap.size 2 A a.length (flat encR a)) (rb : Reads w w.heap.size 2 B b.length (flat encR b)) :
    Calls Try.prog 4 #[.slice A a.length ca, .slice B b.length cb] w fun e w' => e = .returned (.bool true) ∧ Below w.heap.size w w' := by
  have lu : u.length ≤ 1000 := by have := neatOf_len (a ++ b); rw [hu.out] at this; simp at this; omega
  have ln : n.length ≤ 1000 := by have := neatOf_len a; rw [hn.out] at this; omega
  have lm : m.length ≤ 1000 := by have := partOf_len a b false; rw [hm.out] at this; omega
  have lo : o.length ≤ 1000 := by have := partOf_len a b true; rw [ho.out] at this; omega
  have hB : Below w.heap.size w w := Below.refl _ _
  have hwf1 : WfL [a].flatten := by simpa using hwa
  have hwf2 : WfL [a, b].flatten := by simpa using hwa.append hwb
  have hlf1 : [a].flatten.length ≤ 100000 := by simp; omega
  have hlf2 : [a, b].flatten.length ≤ 100000 := by simp; omega
  go_enter Try.func4, Try.ntmps4
  go_wp2_with fail
  refine (twinR_any a A ca _ (by omega) ra).mono ?_
  rintro e w1 ⟨gt, rfl, ht, hb1⟩
  have ra := ra.next hb1
  have rb := rb.next hb1
  have hB := hB.trans ((hb1).mono hB.size)
  have rt := Reads.of_own ht
  have rtl : Reads w1 w1.heap.size 2 (some ⟨gt, 0, none⟩) a.length (flat encR a) := reads_prefix (m := [(-77, 0), (-77, 0)]) (by simpa using rt)
  have hot := (OwnC.of ht).cut (by omega)
  clear ht
  obtain ⟨g0, cu0, hA0, hp0, hst0, hlt0⟩ := page_of_own 1 hot (hot.cap_le)
  have HA0 := hid hA0
  have HP0 := hid hp0
  have HS0 := hid hst0
  have HL0 := hid hlt0
  clear hA0 hp0 hst0 hlt0 hot
  have P0 := Below.refl w1.heap.size w1
  go_wp2_with fail
  refine (twinR_any b B cb _ (by omega) rb).mono ?_
  rintro e w2 ⟨gu, rfl, ht, hb2⟩
  have ra := ra.next hb2
  have rb := rb.next hb2
  have rt := rt.next hb2
  have rtl := rtl.next hb2
  have P0 := P0.trans ((hb2).mono P0.size)
  have hB := hB.trans ((hb2).mono hB.size)
  have ru := Reads.of_own ht
  have rul : Reads w2 w2.heap.size 2 (some ⟨gu, 0, none⟩) b.length (flat encR b) := reads_prefix (m := [(-77, 0), (-77, 0)]) (by simpa using ru)
  clear ht
  have hll : LL (w2.alloc (.cells #[.slice A a.length ca, .slice B b.length cb] 22)) (some ⟨w2.heap.size, 0, none⟩) [a, b] := LL.two 22 ra rb
  obtain ⟨bls, hbls⟩ : ∃ x, Hid (w2.heap.size = x) := ⟨_, rfl⟩
  rw [hbls.out] at hll
  go_wp2_with fail
  rw [hbls.out]
  obtain ⟨w3, hw3⟩ : ∃ x, Hid ((w2.alloc (.cells #[.slice A a.length ca, .slice B b.length cb] 22)) = x) := ⟨_, rfl⟩
  have hb3 : Below w2.heap.size w2 w3 := by rw [← hw3.out]; exact below_new _ _
  rw [hw3.out] at hll ⊢
  have ra := ra.next hb3
  have rb := rb.next hb3
  have rt := rt.next hb3
  have rtl := rtl.next hb3
  have ru := ru.next hb3
  have rul := rul.next hb3
  have P0 := P0.trans ((hb3).mono P0.size)
  have hB := hB.trans ((hb3).mono hB.size)
  clear hw3 hbls
  refine (neat_any (some ⟨gt, 0, none⟩) (a.length + 2) a _ (by omega) hwa rtl).mono ?_
  rw [hn.out]
  rintro e w4 ⟨A1, c1, rfl, hown, hb4⟩
  have ra := ra.next hb4
  have rb := rb.next hb4
  have rt := rt.next hb4
  have rtl := rtl.next hb4
  have ru := ru.next hb4
  have rul := rul.next hb4
  have hll := hll.next hb4
  have P0 := P0.trans ((hb4).mono P0.size)
  have hB := hB.trans ((hb4).mono hB.size)
  have r1 := hown.reads
  obtain ⟨g1, cu1, hA1, hp1, hst1, hlt1⟩ := page_of_own 2 hown (hown.cap_le)
  have HA1 := hid hA1
  have HP1 := hid hp1
  have HS1 := hid hst1
  have HL1 := hid hlt1
  clear hA1 hp1 hst1 hlt1 hown
  have P1 := Below.refl w4.heap.size w4
  have hl2 := LL.two (c := a.length + 2) (d := b.length + 2) 22 rtl rul
  go_wp2_with fail
  refine (union_at _ 2 [a, b] (a ++ b) u _ (by simp) (hid (by simp)) hu (by simp; omega) (hwa.append hwb) hl2).mono ?_
  rintro e w5 ⟨A2, c2, rfl, hown, hb5⟩
  have hown := hown.base (B := w4.heap.size) (by simp)
  have hb5 := below_drop hb5
  clear hl2
  have ra := ra.next hb5
  have rb := rb.next hb5
  have rt := rt.next hb5
  have rtl := rtl.next hb5
  have ru := ru.next hb5
  have rul := rul.next hb5
  have r1 := r1.next hb5
  have hll := hll.next hb5
  have P0 := P0.trans ((hb5).mono P0.size)
  have P1 := P1.trans ((hb5).mono P1.size)
  have hB := hB.trans ((hb5).mono hB.size)
  have r2 := hown.reads
  obtain ⟨g2, cu2, hA2, hp2, hst2, hlt2⟩ := page_of_own 3 hown (hown.cap_le)
  have HA2 := hid hA2
  have HP2 := hid hp2
  have HS2 := hid hst2
  have HL2 := hid hlt2
  clear hA2 hp2 hst2 hlt2 hown
  have P2 := Below.refl w5.heap.size w5
  go_wp2_with fail
  refine (minus_at a b m (some ⟨gt, 0, none⟩) (some ⟨gu, 0, none⟩) (a.length + 2) (b.length + 2) _ (by omega) (by omega) hwa hwb hm rtl rul).mono ?_
  rintro e w6 ⟨A3, c3, rfl, hown, hb6⟩
  have ra := ra.next hb6
  have rb := rb.next hb6
  have rt := rt.next hb6
  have rtl := rtl.next hb6
  have ru := ru.next hb6
  have rul := rul.next hb6
  have r1 := r1.next hb6
  have r2 := r2.next hb6
  have hll := hll.next hb6
  have P0 := P0.trans ((hb6).mono P0.size)
  have P1 := P1.trans ((hb6).mono P1.size)
  have P2 := P2.trans ((hb6).mono P2.size)
  have hB := hB.trans ((hb6).mono hB.size)
  have r3 := hown.reads
  obtain ⟨g3, cu3, hA3, hp3, hst3, hlt3⟩ := page_of_own 4 hown (hown.cap_le)
  have HA3 := hid hA3
  have HP3 := hid hp3
  have HS3 := hid hst3
  have HL3 := hid hlt3
  clear hA3 hp3 hst3 hlt3 hown
  have P3 := Below.refl w6.heap.size w6
  go_wp2_with fail
  refine (both_at a b o (some ⟨gt, 0, none⟩) (some ⟨gu, 0, none⟩) (a.length + 2) (b.length + 2) _ (by omega) (by omega) hwa hwb ho rtl rul).mono ?_
  rintro e w7 ⟨A4, c4, rfl, hown, hb7⟩
  have ra := ra.next hb7
  have rb := rb.next hb7
  have rt := rt.next hb7
  have rtl := rtl.next hb7
  have ru := ru.next hb7
  have rul := rul.next hb7
  have r1 := r1.next hb7
  have r2 := r2.next hb7
  have r3 := r3.next hb7
  have hll := hll.next hb7
  have P0 := P0.trans ((hb7).mono P0.size)
  have P1 := P1.trans ((hb7).mono P1.size)
  have P2 := P2.trans ((hb7).mono P2.size)
  have P3 := P3.trans ((hb7).mono P3.size)
  have hB := hB.trans ((hb7).mono hB.size)
  have r4 := hown.reads
  obtain ⟨g4, cu4, hA4, hp4, hst4, hlt4⟩ := page_of_own 5 hown (hown.cap_le)
  have HA4 := hid hA4
  have HP4 := hid hp4
  have HS4 := hid hst4
  have HL4 := hid hlt4
  clear hA4 hp4 hst4 hlt4 hown
  have P4 := Below.refl w7.heap.size w7
  have hc4 := cells_new w7 [.slice A1 n.length c1, .slice A2 u.length c2, .slice A3 m.length c3, .slice A4 o.length c4] 22
  obtain ⟨bl, hbl⟩ : ∃ x, Hid (w7.heap.size = x) := ⟨_, rfl⟩
  rw [hbl.out] at hc4
  go_wp2_with fail
  obtain ⟨w8, hw8⟩ : ∃ x, Hid ((w7.alloc (.cells #[.slice A1 n.length c1, .slice A2 u.length c2, .slice A3 m.length c3, .slice A4 o.length c4] 22)) = x) := ⟨_, rfl⟩
  have hb8 : Below w7.heap.size w7 w8 := by rw [← hw8.out]; exact below_new _ _
  have hs8 : bl + 1 = w8.heap.size := by rw [← hw8.out, ← hbl.out]; simp
  have hc4 : Cells w8 bl [.slice A1 n.length c1, .slice A2 u.length c2, .slice A3 m.length c3, .slice A4 o.length c4] := by rw [← hw8.out]; exact hc4
  rw [hbl.out, hw8.out]
  have ra := ra.next hb8
  have rb := rb.next hb8
  have rt := rt.next hb8
  have rtl := rtl.next hb8
  have ru := ru.next hb8
  have rul := rul.next hb8
  have r1 := r1.next hb8
  have r2 := r2.next hb8
  have r3 := r3.next hb8
  have r4 := r4.next hb8
  have hll := hll.next hb8
  have P0 := P0.trans ((hb8).mono P0.size)
  have P1 := P1.trans ((hb8).mono P1.size)
  have P2 := P2.trans ((hb8).mono P2.size)
  have P3 := P3.trans ((hb8).mono P3.size)
  have P4 := P4.trans ((hb8).mono P4.size)
  have hB := hB.trans ((hb8).mono hB.size)
  clear hw8 hbl
  have hl1 := LL.one (c := ca) 22 ra
  refine (refKept0_any _ 1 [a] n _ (by simp) hlf1 hwf1 (fun o ho => kept_one hwa hn.out ho) (LL.moved hl1 hs8)).mono ?_
  rintro e w9 ⟨B1, d1, rfl, q1, hb9⟩
  have hb9 := below_drop hb9
  clear hl1 hs8
  have ra := ra.next hb9
  have rb := rb.next hb9
  have rt := rt.next hb9
  have rtl := rtl.next hb9
  have ru := ru.next hb9
  have rul := rul.next hb9
  have r1 := r1.next hb9
  have r2 := r2.next hb9
  have r3 := r3.next hb9
  have r4 := r4.next hb9
  have hll := hll.next hb9
  have hc4 := hc4.next hb9
  have P0 := P0.trans ((hb9).mono P0.size)
  have P1 := P1.trans ((hb9).mono P1.size)
  have P2 := P2.trans ((hb9).mono P2.size)
  have P3 := P3.trans ((hb9).mono P3.size)
  have P4 := P4.trans ((hb9).mono P4.size)
  have hB := hB.trans ((hb9).mono hB.size)
  go_wp2_with fail
  refine (refKept0_any _ 2 [a, b] u _ (by simp) hlf2 hwf2 (fun o ho => kept_two hwa hwb hu.out ho) hll).mono ?_
  rintro e w10 ⟨B2, d2, rfl, q2, hb10⟩
  have ra := ra.next hb10
  have rb := rb.next hb10
  have rt := rt.next hb10
  have rtl := rtl.next hb10
  have ru := ru.next hb10
  have rul := rul.next hb10
  have r1 := r1.next hb10
  have r2 := r2.next hb10
  have r3 := r3.next hb10
  have r4 := r4.next hb10
  have q1 := q1.next hb10
  have hll := hll.next hb10
  have hc4 := hc4.next hb10
  have P0 := P0.trans ((hb10).mono P0.size)
  have P1 := P1.trans ((hb10).mono P1.size)
  have P2 := P2.trans ((hb10).mono P2.size)
  have P3 := P3.trans ((hb10).mono P3.size)
  have P4 := P4.trans ((hb10).mono P4.size)
  have hB := hB.trans ((hb10).mono hB.size)
  go_wp2_with fail
  refine (refKept1_any _ 2 [a, b] m _ (by simp) (by simp) hlf2 hwf2 (fun o ho => kept_minus hwa hwb hm.out ho) hll).mono ?_
  rintro e w11 ⟨B3, d3, rfl, q3, hb11⟩
  have ra := ra.next hb11
  have rb := rb.next hb11
  have rt := rt.next hb11
  have rtl := rtl.next hb11
  have ru := ru.next hb11
  have rul := rul.next hb11
  have r1 := r1.next hb11
  have r2 := r2.next hb11
  have r3 := r3.next hb11
  have r4 := r4.next hb11
  have q1 := q1.next hb11
  have q2 := q2.next hb11
  have hll := hll.next hb11
  have hc4 := hc4.next hb11
  have P0 := P0.trans ((hb11).mono P0.size)
  have P1 := P1.trans ((hb11).mono P1.size)
  have P2 := P2.trans ((hb11).mono P2.size)
  have P3 := P3.trans ((hb11).mono P3.size)
  have P4 := P4.trans ((hb11).mono P4.size)
  have hB := hB.trans ((hb11).mono hB.size)
  go_wp2_with fail
  refine (refKept2_any _ 2 [a, b] o _ (by simp) (by simp) hlf2 hwf2 (fun o9 ho9 => kept_both hwa hwb ho.out ho9) hll).mono ?_
  rintro e w12 ⟨B4, d4, rfl, q4, hb12⟩
  have ra := ra.next hb12
  have rb := rb.next hb12
  have rt := rt.next hb12
  have rtl := rtl.next hb12
  have ru := ru.next hb12
  have rul := rul.next hb12
  have r1 := r1.next hb12
  have r2 := r2.next hb12
  have r3 := r3.next hb12
  have r4 := r4.next hb12
  have q1 := q1.next hb12
  have q2 := q2.next hb12
  have q3 := q3.next hb12
  have hll := hll.next hb12
  have hc4 := hc4.next hb12
  have P0 := P0.trans ((hb12).mono P0.size)
  have P1 := P1.trans ((hb12).mono P1.size)
  have P2 := P2.trans ((hb12).mono P2.size)
  have P3 := P3.trans ((hb12).mono P3.size)
  have P4 := P4.trans ((hb12).mono P4.size)
  have hB := hB.trans ((hb12).mono hB.size)
  clear hll rtl rul hwf1 hwf2 hlf1 hlf2
  have hc5 := cells_new w12 [.slice B1 n.length d1, .slice B2 u.length d2, .slice B3 m.length d3, .slice B4 o.length d4] 22
  obtain ⟨bm, hbm⟩ : ∃ x, Hid (w12.heap.size = x) := ⟨_, rfl⟩
  rw [hbm.out] at hc5
  go_wp2_with fail
  obtain ⟨w13, hw13⟩ : ∃ x, Hid ((w12.alloc (.cells #[.slice B1 n.length d1, .slice B2 u.length d2, .slice B3 m.length d3, .slice B4 o.length d4] 22)) = x) := ⟨_, rfl⟩
  have hb13 : Below w12.heap.size w12 w13 := by rw [← hw13.out]; exact below_new _ _
  have hs13 : bm + 1 = w13.heap.size := by rw [← hw13.out, ← hbm.out]; simp
  have hc5 : Cells w13 bm [.slice B1 n.length d1, .slice B2 u.length d2, .slice B3 m.length d3, .slice B4 o.length d4] := by rw [← hw13.out]; exact hc5
  rw [hbm.out, hw13.out]
  have ra := ra.next hb13
  have rb := rb.next hb13
  have rt := rt.next hb13
  have ru := ru.next hb13
  have r1 := r1.next hb13
  have r2 := r2.next hb13
  have r3 := r3.next hb13
  have r4 := r4.next hb13
  have q1 := q1.next hb13
  have q2 := q2.next hb13
  have q3 := q3.next hb13
  have q4 := q4.next hb13
  have hc4 := hc4.next hb13
  have P0 := P0.trans ((hb13).mono P0.size)
  have P1 := P1.trans ((hb13).mono P1.size)
  have P2 := P2.trans ((hb13).mono P2.size)
  have P3 := P3.trans ((hb13).mono P3.size)
  have P4 := P4.trans ((hb13).mono P4.size)
  have hB := hB.trans ((hb13).mono hB.size)
  clear hw13 hbm
  rw [hs13]
  clear hs13
  have st0 := hid ((rgPg_ok (k := 1) HP0.out).frame 0 w1 w13 none HS0.out (OnlyO.of_below P0) (by cases (rgPg g0 a.length (a.length + 2) 1 cu0).blk <;> simp))
  have sz0 := P0.size
  clear HS0 P0
  have st1 := hid ((rgPg_ok (k := 2) HP1.out).frame 0 w4 w13 none HS1.out (OnlyO.of_below P1) (by cases (rgPg g1 n.length c1 2 cu1).blk <;> simp))
  have sz1 := P1.size
  clear HS1 P1
  have st2 := hid ((rgPg_ok (k := 3) HP2.out).frame 0 w5 w13 none HS2.out (OnlyO.of_below P2) (by cases (rgPg g2 u.length c2 3 cu2).blk <;> simp))
  have sz2 := P2.size
  clear HS2 P2
  have st3 := hid ((rgPg_ok (k := 4) HP3.out).frame 0 w6 w13 none HS3.out (OnlyO.of_below P3) (by cases (rgPg g3 m.length c3 4 cu3).blk <;> simp))
  have sz3 := P3.size
  clear HS3 P3
  have st4 := hid ((rgPg_ok (k := 5) HP4.out).frame 0 w7 w13 none HS4.out (OnlyO.of_below P4) (by cases (rgPg g4 o.length c4 5 cu4).blk <;> simp))
  have sz4 := P4.size
  clear HS4 P4
  have szB := hB.size
  have z1 := hb1.size
  have z2 := hb2.size
  have z3 := hb3.size
  have z4 := hb4.size
  have z5 := hb5.size
  have z6 := hb6.size
  have z7 := hb7.size
  have ra13 := ra
  have rb13 := rb
  clear ra rb
  refine (bookR_any w13.heap.size a.length (a.length + 2) (some ⟨gt, 0, none⟩) [] _ (by simp) (bookSt_new w13)).mono ?_
  rintro e w14 ⟨rfl, hbk, hb14⟩
  have hb14 : Below w13.heap.size w13 w14 := (below_new w13 _).trans hb14
  have hbk : BookSt w14 w13.heap.size [pgV (some ⟨gt, 0, none⟩) a.length (a.length + 2) 1] := hbk
  have HK := hid hbk
  clear hbk
  go_wp2_with fail
  go_loopw [11] (fun i wr => ∃ z : Int, i = .int .i64 z ∧ Hid (Below w13.heap.size w13 wr ∧ ((z = 0 ∧ BookSt wr w13.heap.size [pgV (some ⟨gt, 0, none⟩) a.length (a.length + 2) 1]) ∨ (z = 1 ∧ BookSt wr w13.heap.size [pgV (some ⟨gt, 0, none⟩) a.length (a.length + 2) 1, pgV A1 n.length c1 2]) ∨ (z = 2 ∧ BookSt wr w13.heap.size [pgV (some ⟨gt, 0, none⟩) a.length (a.length + 2) 1, pgV A1 n.length c1 2, pgV A2 u.length c2 3]) ∨ (z = 3 ∧ BookSt wr w13.heap.size [pgV (some ⟨gt, 0, none⟩) a.length (a.length + 2) 1, pgV A1 n.length c1 2, pgV A2 u.length c2 3, pgV A3 m.length c3 4]) ∨ (z = 4 ∧ BookSt wr w13.heap.size [pgV (some ⟨gt, 0, none⟩) a.length (a.length + 2) 1, pgV A1 n.length c1 2, pgV A2 u.length c2 3, pgV A3 m.length c3 4, pgV A4 o.length c4 5])))) (fun i _ => (4 - intOf i).toNat)
  case atStart => exact ⟨0, rfl, hb14, .inl ⟨rfl, HK.out⟩⟩
  case round =>
    clear HK
    obtain ⟨z, rfl, HW⟩ := hrel
    obtain ⟨hbw, hz⟩ := HW.out
    clear HW
    rcases hz with ⟨rfl, hbk⟩ | ⟨rfl, hbk⟩ | ⟨rfl, hbk⟩ | ⟨rfl, hbk⟩ | ⟨rfl, hbk⟩
    · have HK := hid hbk
      clear hbk
      have c0 : wr.cell? ⟨bl, 0, none⟩ = some (.slice A1 n.length c1) := (hbw.cell (p := ⟨bl, 0, none⟩) hc4.1).trans (hc4.2 0 _ rfl)
      have e0 : wr.cell? ⟨bm, 0, none⟩ = some (.slice B1 n.length d1) := (hbw.cell (p := ⟨bm, 0, none⟩) hc5.1).trans (hc5.2 0 _ rfl)
      have k0 := fun d os => cell_regrown c0 d os
      have k1 := fun d os => cell_regrown e0 d os
      have cs := fun i os => same_quiet A1 B1 c1 d1 n wr (by omega) (r1.next hbw) (q1.next hbw) i os
      go_wp2_with fail
      refine wp_region_quiet_below (by kernel_rfl) (by kernel_rfl) ?_
      repeat (quiet_step (exact cs _ _))
      refine wpQuiet_nil ?_
      intro _ hw'
      obtain ⟨⟨dq, osq⟩, hw''⟩ := hw'
      subst hw''
      have c1' := k0 dq osq
      have hbr := below_regrown wr dq osq
      obtain ⟨w15, hw15⟩ : ∃ x, Hid (grow (redrawn wr dq) osq = x) := ⟨_, rfl⟩
      rw [hw15.out] at c1' hbr ⊢
      clear hw15 k0 k1 cs c0 e0
      go_wp2_with fail
      refine (bookR_any w13.heap.size n.length c1 A1 [pgV (some ⟨gt, 0, none⟩) a.length (a.length + 2) 1] _ (by simp) (HK.out.next hbr)).mono ?_
      rintro e w16 ⟨rfl, hbk, hb16⟩
      have HK2 : Hid (BookSt w16 w13.heap.size [pgV (some ⟨gt, 0, none⟩) a.length (a.length + 2) 1, pgV A1 n.length c1 2]) := hbk
      have hb17 : Below w13.heap.size w13 w16 := (hbw.trans (hbr.mono hbw.size)).trans hb16
      clear HK hbk hb16 hbr hbw c1'
      go_wp2
      go_roundw
      case rel => exact ⟨1, rfl, hb17, .inr (.inl ⟨rfl, HK2.out⟩)⟩
      case measure => simp [intOf]
    · have HK := hid hbk
      clear hbk
      have c0 : wr.cell? ⟨bl, 1, none⟩ = some (.slice A2 u.length c2) := (hbw.cell (p := ⟨bl, 1, none⟩) hc4.1).trans (hc4.2 1 _ rfl)
      have e0 : wr.cell? ⟨bm, 1, none⟩ = some (.slice B2 u.length d2) := (hbw.cell (p := ⟨bm, 1, none⟩) hc5.1).trans (hc5.2 1 _ rfl)
      have k0 := fun d os => cell_regrown c0 d os
      have k1 := fun d os => cell_regrown e0 d os
      have cs := fun i os => same_quiet A2 B2 c2 d2 u wr (by omega) (r2.next hbw) (q2.next hbw) i os
      go_wp2_with fail
      refine wp_region_quiet_below (by kernel_rfl) (by kernel_rfl) ?_
      repeat (quiet_step (exact cs _ _))
      refine wpQuiet_nil ?_
      intro _ hw'
      obtain ⟨⟨dq, osq⟩, hw''⟩ := hw'
      subst hw''
      have c1' := k0 dq osq
      have hbr := below_regrown wr dq osq
      obtain ⟨w15, hw15⟩ : ∃ x, Hid (grow (redrawn wr dq) osq = x) := ⟨_, rfl⟩
      rw [hw15.out] at c1' hbr ⊢
      clear hw15 k0 k1 cs c0 e0
      go_wp2_with fail
      refine (bookR_any w13.heap.size u.length c2 A2 [pgV (some ⟨gt, 0, none⟩) a.length (a.length + 2) 1, pgV A1 n.length c1 2] _ (by simp) (HK.out.next hbr)).mono ?_
      rintro e w16 ⟨rfl, hbk, hb16⟩
      have HK2 : Hid (BookSt w16 w13.heap.size [pgV (some ⟨gt, 0, none⟩) a.length (a.length + 2) 1, pgV A1 n.length c1 2, pgV A2 u.length c2 3]) := hbk
      have hb17 : Below w13.heap.size w13 w16 := (hbw.trans (hbr.mono hbw.size)).trans hb16
      clear HK hbk hb16 hbr hbw c1'
      go_wp2
      go_roundw
      case rel => exact ⟨2, rfl, hb17, .inr (.inr (.inl ⟨rfl, HK2.out⟩))⟩
      case measure => simp [intOf]
    · have HK := hid hbk
      clear hbk
      have c0 : wr.cell? ⟨bl, 2, none⟩ = some (.slice A3 m.length c3) := (hbw.cell (p := ⟨bl, 2, none⟩) hc4.1).trans (hc4.2 2 _ rfl)
      have e0 : wr.cell? ⟨bm, 2, none⟩ = some (.slice B3 m.length d3) := (hbw.cell (p := ⟨bm, 2, none⟩) hc5.1).trans (hc5.2 2 _ rfl)
      have k0 := fun d os => cell_regrown c0 d os
      have k1 := fun d os => cell_regrown e0 d os
      have cs := fun i os => same_quiet A3 B3 c3 d3 m wr (by omega) (r3.next hbw) (q3.next hbw) i os
      go_wp2_with fail
      refine wp_region_quiet_below (by kernel_rfl) (by kernel_rfl) ?_
      repeat (quiet_step (exact cs _ _))
      refine wpQuiet_nil ?_
      intro _ hw'
      obtain ⟨⟨dq, osq⟩, hw''⟩ := hw'
      subst hw''
      have c1' := k0 dq osq
      have hbr := below_regrown wr dq osq
      obtain ⟨w15, hw15⟩ : ∃ x, Hid (grow (redrawn wr dq) osq = x) := ⟨_, rfl⟩
      rw [hw15.out] at c1' hbr ⊢
      clear hw15 k0 k1 cs c0 e0
      go_wp2_with fail
      refine (bookR_any w13.heap.size m.length c3 A3 [pgV (some ⟨gt, 0, none⟩) a.length (a.length + 2) 1, pgV A1 n.length c1 2, pgV A2 u.length c2 3] _ (by simp) (HK.out.next hbr)).mono ?_
      rintro e w16 ⟨rfl, hbk, hb16⟩
      have HK2 : Hid (BookSt w16 w13.heap.size [pgV (some ⟨gt, 0, none⟩) a.length (a.length + 2) 1, pgV A1 n.length c1 2, pgV A2 u.length c2 3, pgV A3 m.length c3 4]) := hbk
      have hb17 : Below w13.heap.size w13 w16 := (hbw.trans (hbr.mono hbw.size)).trans hb16
      clear HK hbk hb16 hbr hbw c1'
      go_wp2
      go_roundw
      case rel => exact ⟨3, rfl, hb17, .inr (.inr (.inr (.inl ⟨rfl, HK2.out⟩)))⟩
      case measure => simp [intOf]
    · have HK := hid hbk
      clear hbk
      have c0 : wr.cell? ⟨bl, 3, none⟩ = some (.slice A4 o.length c4) := (hbw.cell (p := ⟨bl, 3, none⟩) hc4.1).trans (hc4.2 3 _ rfl)
      have e0 : wr.cell? ⟨bm, 3, none⟩ = some (.slice B4 o.length d4) := (hbw.cell (p := ⟨bm, 3, none⟩) hc5.1).trans (hc5.2 3 _ rfl)
      have k0 := fun d os => cell_regrown c0 d os
      have k1 := fun d os => cell_regrown e0 d os
      have cs := fun i os => same_quiet A4 B4 c4 d4 o wr (by omega) (r4.next hbw) (q4.next hbw) i os
      go_wp2_with fail
      refine wp_region_quiet_below (by kernel_rfl) (by kernel_rfl) ?_
      repeat (quiet_step (exact cs _ _))
      refine wpQuiet_nil ?_
      intro _ hw'
      obtain ⟨⟨dq, osq⟩, hw''⟩ := hw'
      subst hw''
      have c1' := k0 dq osq
      have hbr := below_regrown wr dq osq
      obtain ⟨w15, hw15⟩ : ∃ x, Hid (grow (redrawn wr dq) osq = x) := ⟨_, rfl⟩
      rw [hw15.out] at c1' hbr ⊢
      clear hw15 k0 k1 cs c0 e0
      go_wp2_with fail
      refine (bookR_any w13.heap.size o.length c4 A4 [pgV (some ⟨gt, 0, none⟩) a.length (a.length + 2) 1, pgV A1 n.length c1 2, pgV A2 u.length c2 3, pgV A3 m.length c3 4] _ (by simp) (HK.out.next hbr)).mono ?_
      rintro e w16 ⟨rfl, hbk, hb16⟩
      have HK2 : Hid (BookSt w16 w13.heap.size [pgV (some ⟨gt, 0, none⟩) a.length (a.length + 2) 1, pgV A1 n.length c1 2, pgV A2 u.length c2 3, pgV A3 m.length c3 4, pgV A4 o.length c4 5]) := hbk
      have hb17 : Below w13.heap.size w13 w16 := (hbw.trans (hbr.mono hbw.size)).trans hb16
      clear HK hbk hb16 hbr hbw c1'
      go_wp2
      go_roundw
      case rel => exact ⟨4, rfl, hb17, .inr (.inr (.inr (.inr (⟨rfl, HK2.out⟩))))⟩
      case measure => simp [intOf]
    · have HK := hid hbk
      clear hbk
      go_wp2_with fail
      refine (leftR_any a gt A ca _ (by omega) (rt.next hbw) (ra13.next hbw)).mono ?_
      rintro e w20 ⟨rfl, hb20⟩
      have hbw := hbw.trans (hb20.mono hbw.size)
      have HK := hid (HK.out.next hb20)
      go_wp2_with fail
      refine (leftR_any b gu B cb _ (by omega) (ru.next hbw) (rb13.next hbw)).mono ?_
      rintro e w21 ⟨rfl, hb21⟩
      have hbw := hbw.trans (hb21.mono hbw.size)
      have HK := hid (HK.out.next hb21)
      go_wp2_with fail
      have HQ : Hid (BookSt w21 w13.heap.size ([rgPg g0 a.length (a.length + 2) 1 cu0, rgPg g1 n.length c1 2 cu1, rgPg g2 u.length c2 3 cu2, rgPg g3 m.length c3 4 cu3, rgPg g4 o.length c4 5 cu4].map fun p => .iface p.T p.v)) := by have h9 := HK.out; unfold pgV at h9; rw [HA0.out, HA1.out, HA2.out, HA3.out, HA4.out] at h9; exact h9
      refine (apart_go w13.heap.size [rgPg g0 a.length (a.length + 2) 1 cu0, rgPg g1 n.length c1 2 cu1, rgPg g2 u.length c2 3 cu2, rgPg g3 m.length c3 4 cu3, rgPg g4 o.length c4 5 cu4] w13 _ (by simp) rfl (five_all (rgPg_ok HP0.out) (rgPg_ok HP1.out) (rgPg_ok HP2.out) (rgPg_ok HP3.out) (rgPg_ok HP4.out)) (apart2_rise (five_rise ?_ ?_ ?_ ?_ ?_ ?_ ?_ ?_ ?_ ?_)) (five_all st0.out st1.out st2.out st3.out st4.out) (five_all ?_ ?_ ?_ ?_ ?_) hbw HQ.out).mono ?_
      · intro b1 b2 e1 e2; have := HL0.out b1 e1; have := HL1.out b2 e2; omega
      · intro b1 b2 e1 e2; have := HL0.out b1 e1; have := HL2.out b2 e2; omega
      · intro b1 b2 e1 e2; have := HL0.out b1 e1; have := HL3.out b2 e2; omega
      · intro b1 b2 e1 e2; have := HL0.out b1 e1; have := HL4.out b2 e2; omega
      · intro b1 b2 e1 e2; have := HL1.out b1 e1; have := HL2.out b2 e2; omega
      · intro b1 b2 e1 e2; have := HL1.out b1 e1; have := HL3.out b2 e2; omega
      · intro b1 b2 e1 e2; have := HL1.out b1 e1; have := HL4.out b2 e2; omega
      · intro b1 b2 e1 e2; have := HL2.out b1 e1; have := HL3.out b2 e2; omega
      · intro b1 b2 e1 e2; have := HL2.out b1 e1; have := HL4.out b2 e2; omega
      · intro b1 b2 e1 e2; have := HL3.out b1 e1; have := HL4.out b2 e2; omega
      · intro b1 e1; have := HL0.out b1 e1; omega
      · intro b1 e1; have := HL1.out b1 e1; omega
      · intro b1 e1; have := HL2.out b1 e1; omega
      · intro b1 e1; have := HL3.out b1 e1; omega
      · intro b1 e1; have := HL4.out b1 e1; omega
      rintro e w22 ⟨rfl, hL⟩
      have hB22 : Below w.heap.size w w22 := hL.below (five_all ?_ ?_ ?_ ?_ ?_) (hB.trans (hbw.mono szB)) (by have := hbw.size; omega)
      rotate_left
      · intro b1 e1; have := HL0.out b1 e1; omega
      · intro b1 e1; have := HL1.out b1 e1; omega
      · intro b1 e1; have := HL2.out b1 e1; omega
      · intro b1 e1; have := HL3.out b1 e1; omega
      · intro b1 e1; have := HL4.out b1 e1; omega
      clear hL HQ HK
      go_wp2_with fail
      refine (lives_any _).mono ?_
      rintro e w23 ⟨rfl, hb23⟩
      go_wp2_with fail
      go_ret
      exact ⟨rfl, hB22.trans (hb23.mono hB22.size)⟩
end Go.Proofs.Ytaoipffekmhioaa
