/-
  harbingerlaw25.ReportsText: the walk.
-/
import Derived.Test.YtcbilcfieoibbaaGreatDoorRep13
namespace Go.Proofs.YtcbilcfieoibbaaGreatDoor
open Go.RowKit
open Go.Sort (grow)
set_option maxRecDepth 100000
theorem lives_quiet (w1 : World) (d : Nat) (os : Array Obj) (hT : TB w1.heap.size w1) :
    Calls Tryz.prog 6 #[] (grow (redrawn w1 d) os) fun e w'' => e = .returned (.bool true) ∧ ∃ p : Regrown, w'' = grow (redrawn w1 p.d) p.os :=
  Calls.regrown_of (lives_any _ (hT.next (below_regrown w1 d os)))
theorem fault_quiet (e0 at0 l c : Int) (he : i64b e0) (hl : i64b l) (hc : i64b c) (w1 : World) (d : Nat) (os : Array Obj) (hT : TB w1.heap.size w1) :
    Calls Tryz.prog 7 #[.agg #[.int .i64 e0, .int .i64 at0, .int .i64 l, .int .i64 c]] (grow (redrawn w1 d) os) fun e w'' => e = .returned (.string ⟨(faultT e0 l c).toArray⟩) ∧ ∃ p : Regrown, w'' = grow (redrawn w1 p.d) p.os :=
  Calls.regrown_of (fault_any e0 at0 l c he hl hc _ (hT.next (below_regrown w1 d os)))
theorem refFault_quiet (e0 at0 l c : Int) (he : i64b e0) (hl : i64b l) (hc : i64b c) (w1 : World) (d : Nat) (os : Array Obj) (hT : TB w1.heap.size w1) :
    Calls Tryz.prog 8 #[.int .i64 e0, .agg #[.int .i64 at0, .int .i64 l, .int .i64 c]] (grow (redrawn w1 d) os) fun e w'' => e = .returned (.string ⟨(faultT e0 l c).toArray⟩) ∧ ∃ p : Regrown, w'' = grow (redrawn w1 p.d) p.os :=
  Calls.regrown_of (refFault_any e0 at0 l c he hl hc _ (hT.next (below_regrown w1 d os)))
theorem GRR.next {w w' : World} {A : Option Addr} {l : List RuP} (h : GRR w w.heap.size A l) (hb : Below w.heap.size w w') : GRR w' w'.heap.size A l := by
  intro k hk
  obtain ⟨b, off, e, hB, q⟩ := (h.below hb) k hk
  exact ⟨b, off, e, Nat.lt_of_lt_of_le hB hb.size, q⟩
theorem prob_quiet (gn : ByteArray) (g1 g2 : Int) (A : Option Addr) (c : Nat) (l : List RuP) (code : Nat) (i : Int) (named : List UInt8) (w1 : World) (d : Nat) (os : Array Obj) (hT : TB w1.heap.size w1) (hG : GRR w1 w1.heap.size A l) (hl : ∀ r ∈ l, r.ok) (hc : code < 256) (hi : i64b i) (hn : named.length ≤ 140737488351232) :
    Calls Tryz.prog 9 #[.agg #[.string gn, .int .i64 g1, .int .i64 g2, .slice A l.length c], .agg #[.int .u8 (code : Nat), .int .i64 i, .string ⟨named.toArray⟩]] (grow (redrawn w1 d) os) fun e w'' => e = .returned (.string ⟨(probT l code i named).toArray⟩) ∧ ∃ p : Regrown, w'' = grow (redrawn w1 p.d) p.os :=
  Calls.regrown_of (prob_any gn g1 g2 A c l code i named _ (hT.next (below_regrown w1 d os)) (hG.next (below_regrown w1 d os)) hl hc hi hn)
theorem refProb_quiet (gn : ByteArray) (g1 g2 : Int) (A : Option Addr) (c : Nat) (l : List RuP) (code : Nat) (i : Int) (named : List UInt8) (w1 : World) (d : Nat) (os : Array Obj) (hT : TB w1.heap.size w1) (hG : GRR w1 w1.heap.size A l) (hl : ∀ r ∈ l, r.ok) (hc : code < 256) (hi : i64b i) (hn : named.length ≤ 140737488351232) :
    Calls Tryz.prog 10 #[.agg #[.string gn, .int .i64 g1, .int .i64 g2, .slice A l.length c], .int .i64 (code : Nat), .int .i64 i, .string ⟨named.toArray⟩] (grow (redrawn w1 d) os) fun e w'' => e = .returned (.string ⟨(probT l code i named).toArray⟩) ∧ ∃ p : Regrown, w'' = grow (redrawn w1 p.d) p.os :=
  Calls.regrown_of (refProb_any gn g1 g2 A c l code i named _ (hT.next (below_regrown w1 d os)) (hG.next (below_regrown w1 d os)) hl hc hi hn)
set_option maxHeartbeats 1000000 in
theorem textW_any (e0 at0 ln col : Int) (he : i64b e0) (hln : i64b ln) (hcol : i64b col) (gn : ByteArray) (g1 g2 : Int) (A : Option Addr) (c : Nat) (l : List RuP) (code : Nat) (i : Int) (named : List UInt8) (w : World) (hT : TB w.heap.size w) (hG : GRR w w.heap.size A l) (hl : ∀ r ∈ l, r.ok) (hc : code < 256) (hi : i64b i) (hn : named.length ≤ 140737488351232) :
    Calls Tryz.prog 3 #[.agg #[.int .i64 e0, .int .i64 at0, .int .i64 ln, .int .i64 col], .agg #[.string gn, .int .i64 g1, .int .i64 g2, .slice A l.length c], .agg #[.int .u8 (code : Nat), .int .i64 i, .string ⟨named.toArray⟩]] w fun e w' => e = .returned (.bool true) ∧ Below w.heap.size w w' := by
  obtain ⟨w1, hw1⟩ : ∃ w1, w1 = ((w.alloc (.cells #[.int .i64 e0, .int .i64 at0, .int .i64 ln, .int .i64 col] 26)).alloc (.cells #[.string gn, .int .i64 g1, .int .i64 g2, .slice A l.length c] 31)).alloc (.cells #[.int .u8 (code : Nat), .int .i64 i, .string ⟨named.toArray⟩] 34) := ⟨_, rfl⟩
  have hb1 : Below w.heap.size w w1 := by rw [hw1]; exact ((below_new _ _).alloc (by simp) _).alloc (by simp; omega) _
  have hWo : w1 = [Obj.cells #[.int .i64 e0, .int .i64 at0, .int .i64 ln, .int .i64 col] 26, .cells #[.string gn, .int .i64 g1, .int .i64 g2, .slice A l.length c] 31, .cells #[.int .u8 (code : Nat), .int .i64 i, .string ⟨named.toArray⟩] 34].foldl World.alloc w := hw1
  have b0 : w1.heap[w.heap.size + 0]? = some (Obj.cells #[.int .i64 e0, .int .i64 at0, .int .i64 ln, .int .i64 col] 26) := by rw [hWo]; exact al_at _ _ 0 _ rfl
  have b1 : w1.heap[w.heap.size + 1]? = some (Obj.cells #[.string gn, .int .i64 g1, .int .i64 g2, .slice A l.length c] 31) := by rw [hWo]; exact al_at _ _ 1 _ rfl
  have b2 : w1.heap[w.heap.size + 2]? = some (Obj.cells #[.int .u8 (code : Nat), .int .i64 i, .string ⟨named.toArray⟩] 34) := by rw [hWo]; exact al_at _ _ 2 _ rfl
  have f0 : w1.cell? ⟨w.heap.size, 0, none⟩ = some (.int .i64 e0) := Lib.cell_of_heap b0 0
  have f1 : w1.cell? ⟨w.heap.size, 1, none⟩ = some (.int .i64 at0) := Lib.cell_of_heap b0 1
  have f2 : w1.cell? ⟨w.heap.size, 2, none⟩ = some (.int .i64 ln) := Lib.cell_of_heap b0 2
  have f3 : w1.cell? ⟨w.heap.size, 3, none⟩ = some (.int .i64 col) := Lib.cell_of_heap b0 3
  have k0 : w1.cell? ⟨w.heap.size + 1, 0, none⟩ = some (.string gn) := Lib.cell_of_heap b1 0
  have k1 : w1.cell? ⟨w.heap.size + 1, 1, none⟩ = some (.int .i64 g1) := Lib.cell_of_heap b1 1
  have k2 : w1.cell? ⟨w.heap.size + 1, 2, none⟩ = some (.int .i64 g2) := Lib.cell_of_heap b1 2
  have k3 : w1.cell? ⟨w.heap.size + 1, 3, none⟩ = some (.slice A l.length c) := Lib.cell_of_heap b1 3
  have p0 : w1.cell? ⟨w.heap.size + 1 + 1, 0, none⟩ = some (.int .u8 (code : Nat)) := Lib.cell_of_heap b2 0
  have p1 : w1.cell? ⟨w.heap.size + 1 + 1, 1, none⟩ = some (.int .i64 i) := Lib.cell_of_heap b2 1
  have p2 : w1.cell? ⟨w.heap.size + 1 + 1, 2, none⟩ = some (.string ⟨named.toArray⟩) := Lib.cell_of_heap b2 2
  clear hWo b0 b1 b2
  have hT1 := hT.next hb1
  have hG1 := hG.next hb1
  by_cases h2 : 200 < l.length
  · have d2 : decide ((200 : Int) < (l.length : Int)) = true := decide_eq_true (by omega)
    go_enter Tryz.func3, Tryz.ntmps3
    go_wp2_with fail
    rw [← hw1]
    refine (lives_any w1 hT1).mono ?_
    rintro e w2 ⟨rfl, hb2⟩
    go_wp2_with fail
    go_ret
    exact ⟨rfl, hb1.trans (hb2.mono hb1.size)⟩
  · have d2 : decide ((200 : Int) < (l.length : Int)) = false := decide_eq_false (by omega)
    have c1 := fun d os => fault_quiet e0 at0 ln col he hln hcol w1 d os hT1
    have c2 := fun d os => refFault_quiet e0 at0 ln col he hln hcol w1 d os hT1
    have c3 := fun d os => prob_quiet gn g1 g2 A c l code i named w1 d os hT1 hG1 hl hc hi hn
    have c4 := fun d os => refProb_quiet gn g1 g2 A c l code i named w1 d os hT1 hG1 hl hc hi hn
    have c5 := fun d os => lives_quiet w1 d os hT1
    generalize faultT e0 ln col = FT at *
    generalize probT l code i named = PT at *
    have hwr : IntKind.i64.wrap ((code : Nat) : Int) = (code : Nat) := IntWalk.i64_in _ (by omega)
    have F0 := fun d os => cell_regrown f0 d os
    have F1 := fun d os => cell_regrown f1 d os
    have F2 := fun d os => cell_regrown f2 d os
    have F3 := fun d os => cell_regrown f3 d os
    have K0 := fun d os => cell_regrown k0 d os
    have K1 := fun d os => cell_regrown k1 d os
    have K2 := fun d os => cell_regrown k2 d os
    have K3 := fun d os => cell_regrown k3 d os
    have P0 := fun d os => cell_regrown p0 d os
    have P1 := fun d os => cell_regrown p1 d os
    have P2 := fun d os => cell_regrown p2 d os
    go_enter Tryz.func3, Tryz.ntmps3
    go_wp2_with fail
    rw [← hw1]
    clear hw1
    refine wp_region_quiet_below (by kernel_rfl) (by kernel_rfl) ?_
    repeat (quiet_step (first | with_reducible exact c1 _ _ | with_reducible exact c2 _ _ | with_reducible exact c3 _ _ | with_reducible exact c4 _ _ | with_reducible exact c5 _ _))
    refine wpQuiet_nil ?_
    intro _ hw'
    obtain ⟨⟨dq, osq⟩, hw''⟩ := hw'
    subst hw''
    go_wp2_with fail
    go_ret
    exact ⟨rfl, hb1.trans ((below_regrown w1 dq osq).mono hb1.size)⟩
end Go.Proofs.YtcbilcfieoibbaaGreatDoor
