/-
  lives of the statements of ranges: its lists, and the walk.
-/
import Derived.Test.YtaoipffekmhioaaLaw
import Derived.Test.YtaoipffekmhioaaSplit2
namespace Go.Proofs.Ytaoipffekmhioaa
open Go.RowKit
set_option maxRecDepth 100000
theorem holds_cons (r : Rg) (l : List Rg) (x : Int) : Holds1 (r :: l) x ↔ (r.1 ≤ x ∧ x ≤ r.2) ∨ Holds1 l x := by simp [Holds1]
theorem holds_nil (x : Int) : ¬ Holds1 [] x := by simp [Holds1]
theorem liveA : neatOf [(5, 7), (1, 2), (3, 3), (9, 8)] = [(1, 3), (5, 7)] :=
  neat_unique _ _ (neatOf_law _).1 ⟨by simp, by simp⟩ fun x => by rw [(neatOf_law _).2]; simp [holds_cons, holds_nil]; omega
theorem liveB : partOf [(1, 9)] [(3, 4)] false = [(1, 2), (5, 9)] :=
  neat_unique _ _ (partOf_law _ _ _).1 ⟨by simp, by simp⟩ fun x => by rw [(partOf_law _ _ _).2]; simp [holds_cons, holds_nil]; omega
theorem liveC : splitOf ([[(1, 5)], [(4, 9)]].map neatOf) = [(1, 3), (4, 5), (6, 9)] :=
  split_unique [[(1, 5)], [(4, 9)]] _ _ 0 (splitOf_law _ 0 (by simp [holds_cons, holds_nil]; constructor <;> (intros; omega)))
    ⟨by simp, by simp, by
      simp only [List.forall_mem_cons, Alike, holds_cons, holds_nil, or_false]
      refine ⟨fun x h1 h2 => ⟨?_, ?_, by simp⟩, fun x h1 h2 => ⟨?_, ?_, by simp⟩, fun x h1 h2 => ⟨?_, ?_, by simp⟩, by simp⟩ <;> omega, fun x => by simp [holds_cons, holds_nil]; omega, by
      simp only [List.forall_mem_cons, Alike, holds_cons, holds_nil, or_false]
      simp⟩
theorem liveD : splitOf ([[(1, 2), (3, 4)]].map neatOf) = [(1, 4)] :=
  split_unique [[(1, 2), (3, 4)]] _ _ 0 (splitOf_law _ 0 (by simp [holds_cons, holds_nil]; (intros; omega)))
    ⟨by simp, by simp, by
      simp only [List.forall_mem_cons, Alike, holds_cons, holds_nil, or_false]
      refine ⟨fun x h1 h2 => ⟨?_, by simp⟩, by simp⟩ <;> omega, fun x => by simp [holds_cons, holds_nil]; omega, by
      simp only [List.forall_mem_cons, Alike, holds_cons, holds_nil, or_false]
      simp⟩
set_option maxHeartbeats 4000000 in
theorem lives_any (w : World) : Calls Try.prog 7 #[] w fun e w' => e = .returned (.bool true) ∧ Below w.heap.size w w' := by
  have hB : Below w.heap.size w w := Below.refl _ _
  go_enter Try.func7, Try.ntmps7
  go_wp2_with fail
  refine (r_any _ _ _).mono ?_
  rintro e w1 ⟨rfl, hb1⟩
  have hB := hB.trans (hb1.mono hB.size)
  go_wp2_with fail
  refine (r_any _ _ _).mono ?_
  rintro e w2 ⟨rfl, hb2⟩
  have hB := hB.trans (hb2.mono hB.size)
  go_wp2_with fail
  refine (r_any _ _ _).mono ?_
  rintro e w3 ⟨rfl, hb3⟩
  have hB := hB.trans (hb3.mono hB.size)
  go_wp2_with fail
  refine (r_any _ _ _).mono ?_
  rintro e w4 ⟨rfl, hb4⟩
  have hB := hB.trans (hb4.mono hB.size)
  have x1 := reads_new encR 2 encR_len w4 [(5, 7), (1, 2), (3, 3), (9, 8)] 42
  go_wp2_with fail
  refine (neat_any _ 4 [(5, 7), (1, 2), (3, 3), (9, 8)] _ (by simp) (by simp [WfL, Wf]) x1).mono ?_
  rw [liveA]
  rintro e w5 ⟨A1, c1, rfl, o1, hb5⟩
  have x1 := x1.next hb5
  have hb5 := below_drop hb5
  have hB := hB.trans (hb5.mono hB.size)
  clear x1
  have y1 := o1.reads
  clear o1
  go_wp2_with fail
  refine (r_any _ _ _).mono ?_
  rintro e w6 ⟨rfl, hb6⟩
  have y1 := y1.next hb6
  have hB := hB.trans (hb6.mono hB.size)
  have x1 := reads_new encR 2 encR_len w6 [(1, 9)] 42
  go_wp2_with fail
  refine (r_any _ _ _).mono ?_
  rintro e w7 ⟨rfl, hb7⟩
  have x1 := x1.next hb7
  have hb7 := below_drop hb7
  have y1 := y1.next hb7
  have hB := hB.trans (hb7.mono hB.size)
  have x2 := reads_new encR 2 encR_len w7 [(3, 4)] 42
  go_wp2_with fail
  refine (minus_at [(1, 9)] [(3, 4)] [(1, 2), (5, 9)] _ _ 1 1 _ (by simp) (by simp) (by simp [WfL, Wf]) (by simp [WfL, Wf]) (hid liveB) (x1.next (below_new _ _)) x2).mono ?_
  rintro e w8 ⟨A2, c2, rfl, o2, hb8⟩
  have x2 := x2.next hb8
  have hb8 := below_drop hb8
  have y1 := y1.next hb8
  have x1 := x1.next hb8
  have hB := hB.trans (hb8.mono hB.size)
  clear x1 x2
  have y2 := o2.reads
  clear o2
  go_wp2_with fail
  refine (r_any _ _ _).mono ?_
  rintro e w9 ⟨rfl, hb9⟩
  have y1 := y1.next hb9
  have y2 := y2.next hb9
  have hB := hB.trans (hb9.mono hB.size)
  have x1 := reads_new encR 2 encR_len w9 [(1, 5)] 42
  go_wp2_with fail
  refine (r_any _ _ _).mono ?_
  rintro e w10 ⟨rfl, hb10⟩
  have x1 := x1.next hb10
  have hb10 := below_drop hb10
  have y1 := y1.next hb10
  have y2 := y2.next hb10
  have hB := hB.trans (hb10.mono hB.size)
  have x2 := reads_new encR 2 encR_len w10 [(4, 9)] 42
  go_wp2_with fail
  refine (split_at _ 2 [[(1, 5)], [(4, 9)]] _ _ [(1, 3), (4, 5), (6, 9)] _ (by simp) (by simp) (by simp [WfL, Wf]) (LL.moved (LL.two 22 (x1.next (below_new _ _)) x2) (by simp)) (hid rfl) (hid rfl) (hid liveC)).mono ?_
  rintro e w11 ⟨A3, c3, rfl, o3, hb11⟩
  have hb11 := below_drop hb11
  have x2 := x2.next hb11
  have hb11 := below_drop hb11
  have y1 := y1.next hb11
  have y2 := y2.next hb11
  have x1 := x1.next hb11
  have hB := hB.trans (hb11.mono hB.size)
  clear x1 x2
  have y3 := o3.reads
  clear o3
  go_wp2_with fail
  refine (r_any _ _ _).mono ?_
  rintro e w12 ⟨rfl, hb12⟩
  have y1 := y1.next hb12
  have y2 := y2.next hb12
  have y3 := y3.next hb12
  have hB := hB.trans (hb12.mono hB.size)
  go_wp2_with fail
  refine (r_any _ _ _).mono ?_
  rintro e w13 ⟨rfl, hb13⟩
  have y1 := y1.next hb13
  have y2 := y2.next hb13
  have y3 := y3.next hb13
  have hB := hB.trans (hb13.mono hB.size)
  have x1 := reads_new encR 2 encR_len w13 [(1, 2), (3, 4)] 42
  go_wp2_with fail
  refine (split_at _ 1 [[(1, 2), (3, 4)]] _ _ [(1, 4)] _ (by simp) (by simp) (by simp [WfL, Wf]) (LL.moved (LL.one 22 x1) (by simp)) (hid rfl) (hid rfl) (hid liveD)).mono ?_
  rintro e w14 ⟨A4, c4, rfl, o4, hb14⟩
  have hb14 := below_drop hb14
  have x1 := x1.next hb14
  have hb14 := below_drop hb14
  have y1 := y1.next hb14
  have y2 := y2.next hb14
  have y3 := y3.next hb14
  have hB := hB.trans (hb14.mono hB.size)
  clear x1
  have y4 := o4.reads
  clear o4
  go_wp2_with fail
  refine (r_any _ _ _).mono ?_
  rintro e w15 ⟨rfl, hb15⟩
  have y1 := y1.next hb15
  have y2 := y2.next hb15
  have y3 := y3.next hb15
  have y4 := y4.next hb15
  have hB := hB.trans (hb15.mono hB.size)
  go_wp2_with fail
  refine (r_any _ _ _).mono ?_
  rintro e w16 ⟨rfl, hb16⟩
  have y1 := y1.next hb16
  have y2 := y2.next hb16
  have y3 := y3.next hb16
  have y4 := y4.next hb16
  have hB := hB.trans (hb16.mono hB.size)
  have x1 := reads_new encR 2 encR_len w16 [(1, 3), (5, 7)] 42
  go_wp2_with fail
  refine (sameR_any A1 _ c1 2 [(1, 3), (5, 7)] [(1, 3), (5, 7)] _ (by simp) (y1.next (below_new _ _)) x1).mono ?_
  rw [decide_eq_true rfl]
  rintro e w17 ⟨rfl, hb17⟩
  have x1 := x1.next hb17
  have hb17 := below_drop hb17
  have y1 := y1.next hb17
  have y2 := y2.next hb17
  have y3 := y3.next hb17
  have y4 := y4.next hb17
  have hB := hB.trans (hb17.mono hB.size)
  clear x1
  go_wp2_with fail
  refine (r_any _ _ _).mono ?_
  rintro e w18 ⟨rfl, hb18⟩
  have y1 := y1.next hb18
  have y2 := y2.next hb18
  have y3 := y3.next hb18
  have y4 := y4.next hb18
  have hB := hB.trans (hb18.mono hB.size)
  go_wp2_with fail
  refine (r_any _ _ _).mono ?_
  rintro e w19 ⟨rfl, hb19⟩
  have y1 := y1.next hb19
  have y2 := y2.next hb19
  have y3 := y3.next hb19
  have y4 := y4.next hb19
  have hB := hB.trans (hb19.mono hB.size)
  have x1 := reads_new encR 2 encR_len w19 [(1, 2), (5, 9)] 42
  go_wp2_with fail
  refine (sameR_any A2 _ c2 2 [(1, 2), (5, 9)] [(1, 2), (5, 9)] _ (by simp) (y2.next (below_new _ _)) x1).mono ?_
  rw [decide_eq_true rfl]
  rintro e w20 ⟨rfl, hb20⟩
  have x1 := x1.next hb20
  have hb20 := below_drop hb20
  have y1 := y1.next hb20
  have y2 := y2.next hb20
  have y3 := y3.next hb20
  have y4 := y4.next hb20
  have hB := hB.trans (hb20.mono hB.size)
  clear x1
  go_wp2_with fail
  refine (r_any _ _ _).mono ?_
  rintro e w21 ⟨rfl, hb21⟩
  have y1 := y1.next hb21
  have y2 := y2.next hb21
  have y3 := y3.next hb21
  have y4 := y4.next hb21
  have hB := hB.trans (hb21.mono hB.size)
  go_wp2_with fail
  refine (r_any _ _ _).mono ?_
  rintro e w22 ⟨rfl, hb22⟩
  have y1 := y1.next hb22
  have y2 := y2.next hb22
  have y3 := y3.next hb22
  have y4 := y4.next hb22
  have hB := hB.trans (hb22.mono hB.size)
  go_wp2_with fail
  refine (r_any _ _ _).mono ?_
  rintro e w23 ⟨rfl, hb23⟩
  have y1 := y1.next hb23
  have y2 := y2.next hb23
  have y3 := y3.next hb23
  have y4 := y4.next hb23
  have hB := hB.trans (hb23.mono hB.size)
  have x1 := reads_new encR 2 encR_len w23 [(1, 3), (4, 5), (6, 9)] 42
  go_wp2_with fail
  refine (sameR_any A3 _ c3 3 [(1, 3), (4, 5), (6, 9)] [(1, 3), (4, 5), (6, 9)] _ (by simp) (y3.next (below_new _ _)) x1).mono ?_
  rw [decide_eq_true rfl]
  rintro e w24 ⟨rfl, hb24⟩
  have x1 := x1.next hb24
  have hb24 := below_drop hb24
  have y1 := y1.next hb24
  have y2 := y2.next hb24
  have y3 := y3.next hb24
  have y4 := y4.next hb24
  have hB := hB.trans (hb24.mono hB.size)
  clear x1
  go_wp2_with fail
  refine (r_any _ _ _).mono ?_
  rintro e w25 ⟨rfl, hb25⟩
  have y1 := y1.next hb25
  have y2 := y2.next hb25
  have y3 := y3.next hb25
  have y4 := y4.next hb25
  have hB := hB.trans (hb25.mono hB.size)
  have x1 := reads_new encR 2 encR_len w25 [(1, 4)] 42
  go_wp2_with fail
  refine (sameR_any A4 _ c4 1 [(1, 4)] [(1, 4)] _ (by simp) (y4.next (below_new _ _)) x1).mono ?_
  rw [decide_eq_true rfl]
  rintro e w26 ⟨rfl, hb26⟩
  have x1 := x1.next hb26
  have hb26 := below_drop hb26
  have y1 := y1.next hb26
  have y2 := y2.next hb26
  have y3 := y3.next hb26
  have y4 := y4.next hb26
  have hB := hB.trans (hb26.mono hB.size)
  clear x1
  go_wp2_with fail
  go_ret
  exact ⟨rfl, hB⟩
end Go.Proofs.Ytaoipffekmhioaa
