/-
  Places and faults as text: the walks.
-/
import Derived.Test.YtcbilcfieoibbaaGreatDoorRep7
import Derived.Test.YtcbilcfieoibbaaGreatDoorRpWr2
import Derived.Lib.QuietBelow
import Derived.Lib.AppendIntMem
import Derived.Lib.ItoaLen
import Derived.Deep.QuietTactic
namespace Go.Proofs.YtcbilcfieoibbaaGreatDoor
open Go.RowKit
open Go.Sort (grow)
set_option maxRecDepth 100000
theorem itoa_any (n : Int) (h0 : -9223372036854775808 ≤ n) (h1 : n ≤ 9223372036854775807) (w : World) (hT : TB w.heap.size w) :
    Calls Tryz.prog 22 #[.int .i64 n] w fun e w' => e = .returned (.string ⟨(Lib.itoa n).toArray⟩) ∧ Below w.heap.size w w' := by
  refine (Tryz.strconv_Itoa n h0 h1 w hT.pow).mono ?_
  rintro e w' ⟨rfl, k, os, rfl⟩
  exact ⟨rfl, Lib.below_grow _ _ (Nat.le_refl _) k os⟩
def placeT (l c : Int) : List UInt8 := Lib.itoa l ++ [58] ++ Lib.itoa c ++ [58, 32]
def i64b (n : Int) : Prop := -9223372036854775808 ≤ n ∧ n ≤ 9223372036854775807
theorem placeT_len (l c : Int) (hl : i64b l) (hc : i64b c) : (placeT l c).length ≤ 45 := by
  have h1 := Lib.itoa_length_le l hl.1 hl.2
  have h2 := Lib.itoa_length_le c hc.1 hc.2
  simp [placeT]; omega
theorem itoa_quiet (n : Int) (h : i64b n) (w1 : World) (d : Nat) (os : Array Obj) (hT : TB w1.heap.size w1) :
    Calls Tryz.prog 22 #[.int .i64 n] (grow (redrawn w1 d) os) fun e w'' => e = .returned (.string ⟨(Lib.itoa n).toArray⟩) ∧ ∃ p : Regrown, w'' = grow (redrawn w1 p.d) p.os :=
  Calls.regrown_of (itoa_any n h.1 h.2 _ (hT.next (below_regrown w1 d os)))
set_option maxHeartbeats 2000000 in
theorem place_any (at0 l c : Int) (hl : i64b l) (hc : i64b c) (w : World) (hT : TB w.heap.size w) :
    Calls Tryz.prog 21 #[.agg #[.int .i64 at0, .int .i64 l, .int .i64 c]] w fun e w' => e = .returned (.string ⟨(placeT l c).toArray⟩) ∧ Below w.heap.size w w' := by
  obtain ⟨w1, hw1⟩ : ∃ w1, w1 = w.alloc (.cells #[.int .i64 at0, .int .i64 l, .int .i64 c] 24) := ⟨_, rfl⟩
  have hb1 : Below w.heap.size w w1 := by rw [hw1]; exact below_new _ _
  have k1 : w1.cell? ⟨w.heap.size, 1, none⟩ = some (.int .i64 l) := by rw [hw1]; simp
  have k2 : w1.cell? ⟨w.heap.size, 2, none⟩ = some (.int .i64 c) := by rw [hw1]; simp
  have q1 := fun d os => cell_regrown k1 d os
  have q2 := fun d os => cell_regrown k2 d os
  have ca := fun d os => itoa_quiet l hl w1 d os (hT.next hb1)
  have cb := fun d os => itoa_quiet c hc w1 d os (hT.next hb1)
  have h1 := Lib.itoa_length_le l hl.1 hl.2
  have h2 := Lib.itoa_length_le c hc.1 hc.2
  unfold placeT
  generalize Lib.itoa l = dl at *
  generalize Lib.itoa c = dc at *
  have z1 : ¬ 9223372036854775807 < dl.length + 1 := by omega
  have z2 : ¬ 9223372036854775807 < dl.length + 1 + dc.length := by omega
  have z3 : ¬ 9223372036854775807 < dl.length + 1 + dc.length + 2 := by omega
  go_enter Tryz.func21, Tryz.ntmps21
  go_wp2
  rw [← hw1]
  clear hw1
  refine wp_region_quiet_below (by kernel_rfl) (by kernel_rfl) ?_
  repeat (quiet_step (first | exact ca _ _ | exact cb _ _))
  refine wpQuiet_nil ?_
  intro _ hw'
  obtain ⟨⟨dq, osq⟩, hw''⟩ := hw'
  subst hw''
  go_wp2
  go_ret
  exact ⟨rfl, hb1.trans ((below_regrown w1 dq osq).mono hb1.size)⟩
set_option maxHeartbeats 2000000 in
theorem refPlace_any (at0 l c : Int) (hl : i64b l) (hc : i64b c) (w : World) (hT : TB w.heap.size w) :
    Calls Tryz.prog 23 #[.agg #[.int .i64 at0, .int .i64 l, .int .i64 c]] w fun e w' => e = .returned (.string ⟨(placeT l c).toArray⟩) ∧ Below w.heap.size w w' := by
  obtain ⟨w1, hw1⟩ : ∃ w1, w1 = w.alloc (.cells #[.int .i64 at0, .int .i64 l, .int .i64 c] 24) := ⟨_, rfl⟩
  have hb1 : Below w.heap.size w w1 := by rw [hw1]; exact below_new _ _
  have k1 : w1.cell? ⟨w.heap.size, 1, none⟩ = some (.int .i64 l) := by rw [hw1]; simp
  have k2 : w1.cell? ⟨w.heap.size, 2, none⟩ = some (.int .i64 c) := by rw [hw1]; simp
  have q1 := fun d os => cell_regrown k1 d os
  have q2 := fun d os => cell_regrown k2 d os
  have ca := fun d os => itoa_quiet l hl w1 d os (hT.next hb1)
  have cb := fun d os => itoa_quiet c hc w1 d os (hT.next hb1)
  have h1 := Lib.itoa_length_le l hl.1 hl.2
  have h2 := Lib.itoa_length_le c hc.1 hc.2
  unfold placeT
  generalize Lib.itoa l = dl at *
  generalize Lib.itoa c = dc at *
  have z1 : ¬ 9223372036854775807 < dl.length + 1 := by omega
  have z2 : ¬ 9223372036854775807 < dl.length + 1 + dc.length := by omega
  have z3 : ¬ 9223372036854775807 < dl.length + 1 + dc.length + 2 := by omega
  go_enter Tryz.func23, Tryz.ntmps23
  go_wp2
  rw [← hw1]
  clear hw1
  refine wp_region_quiet_below (by kernel_rfl) (by kernel_rfl) ?_
  repeat (quiet_step (first | exact ca _ _ | exact cb _ _))
  refine wpQuiet_nil ?_
  intro _ hw'
  obtain ⟨⟨dq, osq⟩, hw''⟩ := hw'
  subst hw''
  go_wp2
  go_ret
  exact ⟨rfl, hb1.trans ((below_regrown w1 dq osq).mono hb1.size)⟩
theorem place_quiet (at0 l c : Int) (hl : i64b l) (hc : i64b c) (w1 : World) (d : Nat) (os : Array Obj) (hT : TB w1.heap.size w1) :
    Calls Tryz.prog 21 #[.agg #[.int .i64 at0, .int .i64 l, .int .i64 c]] (grow (redrawn w1 d) os) fun e w'' => e = .returned (.string ⟨(placeT l c).toArray⟩) ∧ ∃ p : Regrown, w'' = grow (redrawn w1 p.d) p.os :=
  Calls.regrown_of (place_any at0 l c hl hc _ (hT.next (below_regrown w1 d os)))
theorem refPlace_quiet (at0 l c : Int) (hl : i64b l) (hc : i64b c) (w1 : World) (d : Nat) (os : Array Obj) (hT : TB w1.heap.size w1) :
    Calls Tryz.prog 23 #[.agg #[.int .i64 at0, .int .i64 l, .int .i64 c]] (grow (redrawn w1 d) os) fun e w'' => e = .returned (.string ⟨(placeT l c).toArray⟩) ∧ ∃ p : Regrown, w'' = grow (redrawn w1 p.d) p.os :=
  Calls.regrown_of (refPlace_any at0 l c hl hc _ (hT.next (below_regrown w1 d os)))
def faultT (e l c : Int) : List UInt8 := placeT l c ++ [101, 114, 114, 111, 114, 32] ++ Lib.itoa e
set_option maxHeartbeats 2000000 in
theorem fault_any (e0 at0 l c : Int) (he : i64b e0) (hl : i64b l) (hc : i64b c) (w : World) (hT : TB w.heap.size w) :
    Calls Tryz.prog 7 #[.agg #[.int .i64 e0, .int .i64 at0, .int .i64 l, .int .i64 c]] w fun e w' => e = .returned (.string ⟨(faultT e0 l c).toArray⟩) ∧ Below w.heap.size w w' := by
  obtain ⟨w1, hw1⟩ : ∃ w1, w1 = w.alloc (.cells #[.int .i64 e0, .int .i64 at0, .int .i64 l, .int .i64 c] 26) := ⟨_, rfl⟩
  have hb1 : Below w.heap.size w w1 := by rw [hw1]; exact below_new _ _
  have k0 : w1.cell? ⟨w.heap.size, 0, none⟩ = some (.int .i64 e0) := by rw [hw1]; simp
  have k1 : w1.cell? ⟨w.heap.size, 1, none⟩ = some (.int .i64 at0) := by rw [hw1]; simp
  have k2 : w1.cell? ⟨w.heap.size, 2, none⟩ = some (.int .i64 l) := by rw [hw1]; simp
  have k3 : w1.cell? ⟨w.heap.size, 3, none⟩ = some (.int .i64 c) := by rw [hw1]; simp
  have q0 := fun d os => cell_regrown k0 d os
  have q1 := fun d os => cell_regrown k1 d os
  have q2 := fun d os => cell_regrown k2 d os
  have q3 := fun d os => cell_regrown k3 d os
  have ca := fun d os => place_quiet at0 l c hl hc w1 d os (hT.next hb1)
  have cb := fun d os => itoa_quiet e0 he w1 d os (hT.next hb1)
  have h1 := placeT_len l c hl hc
  have h2 := Lib.itoa_length_le e0 he.1 he.2
  unfold faultT
  generalize placeT l c = dl at *
  generalize Lib.itoa e0 = dc at *
  have z1 : ¬ 9223372036854775807 < dl.length + 6 := by omega
  have z2 : ¬ 9223372036854775807 < dl.length + 6 + dc.length := by omega
  go_enter Tryz.func7, Tryz.ntmps7
  go_wp2
  rw [← hw1]
  clear hw1
  refine wp_region_quiet_below (by kernel_rfl) (by kernel_rfl) ?_
  repeat (quiet_step (first | exact ca _ _ | exact cb _ _))
  refine wpQuiet_nil ?_
  intro _ hw'
  obtain ⟨⟨dq, osq⟩, hw''⟩ := hw'
  subst hw''
  go_wp2
  go_ret
  exact ⟨rfl, hb1.trans ((below_regrown w1 dq osq).mono hb1.size)⟩
set_option maxHeartbeats 2000000 in
theorem refFault_any (e0 at0 l c : Int) (he : i64b e0) (hl : i64b l) (hc : i64b c) (w : World) (hT : TB w.heap.size w) :
    Calls Tryz.prog 8 #[.int .i64 e0, .agg #[.int .i64 at0, .int .i64 l, .int .i64 c]] w fun e w' => e = .returned (.string ⟨(faultT e0 l c).toArray⟩) ∧ Below w.heap.size w w' := by
  have hb1 := below_new w (.cells #[.int .i64 at0, .int .i64 l, .int .i64 c] 24)
  have h1 := placeT_len l c hl hc
  have h2 := Lib.itoa_length_le e0 he.1 he.2
  have CA := hid (refPlace_any at0 l c hl hc (w.alloc (.cells #[.int .i64 at0, .int .i64 l, .int .i64 c] 24)) (hT.next hb1))
  unfold faultT
  generalize hdl : placeT l c = dl at *
  have z1 : ¬ 9223372036854775807 < dl.length + 6 := by omega
  have z2 : ¬ 9223372036854775807 < dl.length + 6 + (Lib.itoa e0).length := by omega
  go_enter Tryz.func8, Tryz.ntmps8
  go_wp2_with fail
  refine CA.out.mono ?_
  rintro e w2 ⟨rfl, hb2⟩
  go_wp2_with fail
  refine (itoa_any e0 he.1 he.2 w2 ((hT.next hb1).next hb2)).mono ?_
  rintro e w3 ⟨rfl, hb3⟩
  go_wp2_with fail
  go_ret
  exact ⟨rfl, hb1.trans ((hb2.mono hb1.size).trans (hb3.mono (Nat.le_trans hb1.size hb2.size)))⟩
end Go.Proofs.YtcbilcfieoibbaaGreatDoor
