/-
  Is a configuration one of a view? (configs.View.has); a configuration at another state (Config.at): the walks.
-/
import Derived.Test.YtnpcjbdolmmaeaaDoorCfMem
import Derived.Deep.QuietTactic
import Derived.BigQuiet
import Derived.Laws.Rows
namespace Go.Proofs.YtnpcjbdolmmaeaaDoor
open Go.RowKit Go.Maps
set_option maxRecDepth 100000
def BlP (b : Bool) (w : World) (e : Ending) (w' : World) : Prop := e = .returned (.bool b) ∧ Below w.heap.size w w'
theorem BlP.of {b c : Bool} {w w' : World} (h : b = c) (hb : Below w.heap.size w w') : BlP b w (.returned (.bool c)) w' := ⟨by rw [h], hb⟩
theorem has_eq (v : Cf.Vw) (x : Cf.Cfg) : Cf.has v x = (decide (0 ≤ x.alt) && decide (x.alt < v.d.ends.length) && decide (0 ≤ x.state) && decide (x.state < v.n.states.length)) := rfl
set_option maxHeartbeats 4000000 in
theorem has_any (x : Cf.Cfg) (A : Option Addr) (c : Nat) (w : World) (B V : Nat) (a : VwA) (v : Cf.Vw) (hv : VwAt w B V a v) (hB : B ≤ w.heap.size) :
    Calls Tryd.prog 9 #[.pointer (some ⟨V, 0, none⟩), .agg #[.int .i64 x.alt, .int .i64 x.state, .slice A x.stack.length c, .bool x.exact, .bool x.ended]] w (BlP (Cf.has v x) w) := by
  rw [has_eq]
  obtain ⟨alt, state, stack, exact, ended⟩ := x
  dsimp only
  obtain ⟨W, hW⟩ : ∃ W, W = w.alloc (.cells #[.int .i64 alt, .int .i64 state, .slice A stack.length c, .bool exact, .bool ended] 40) := ⟨_, rfl⟩
  have hbW : Below w.heap.size w W := by rw [hW]; exact below_new _ _
  have k0 : W.cell? ⟨w.heap.size, 0, none⟩ = some (.int .i64 alt) := by rw [hW, cell_new]; rfl
  have k1 : W.cell? ⟨w.heap.size, 1, none⟩ = some (.int .i64 state) := by rw [hW, cell_new]; rfl
  have hvW := (hv.below (hbW.mono hB)).blk
  have v0 : W.cell? ⟨V, 0, none⟩ = some (.slice a.SA v.n.states.length a.sc) := by rw [Lib.cell_of_heap hvW]; rfl
  have v7 : W.cell? ⟨V, 7, none⟩ = some (.slice a.XA v.d.ends.length a.xc) := by rw [Lib.cell_of_heap hvW]; rfl
  generalize v.d.ends.length = ne at *
  generalize v.n.states.length = ns at *
  have HBW := hid hbW
  clear hbW hvW hv
  by_cases h1 : 0 ≤ alt
  · have f1 : decide (0 ≤ alt) = true := decide_eq_true h1
    rw [f1]
    by_cases h2 : alt < (ne : Int)
    · have f2 : decide (alt < (ne : Int)) = true := decide_eq_true h2
      rw [f2]
      by_cases h3 : 0 ≤ state
      · have f3 : decide (0 ≤ state) = true := decide_eq_true h3
        rw [f3]
        by_cases h4 : state < (ns : Int)
        · have f4 : decide (state < (ns : Int)) = true := decide_eq_true h4
          rw [f4]
          go_enter Tryd.func9, Tryd.ntmps9
          go_wp2_with fail
          rw [← hW]
          clear hW
          go_quiet (fail)
          go_wp2_with fail
          go_ret
          exact BlP.of rfl (below_drewN HBW.out _)
        · have f4 : decide (state < (ns : Int)) = false := decide_eq_false h4
          rw [f4]
          go_enter Tryd.func9, Tryd.ntmps9
          go_wp2_with fail
          rw [← hW]
          clear hW
          go_quiet (fail)
          go_wp2_with fail
          go_ret
          exact BlP.of rfl (below_drewN HBW.out _)
      · have f3 : decide (0 ≤ state) = false := decide_eq_false h3
        rw [f3]
        go_enter Tryd.func9, Tryd.ntmps9
        go_wp2_with fail
        rw [← hW]
        clear hW
        go_quiet (fail)
        go_wp2_with fail
        go_ret
        exact BlP.of rfl (below_drewN HBW.out _)
    · have f2 : decide (alt < (ne : Int)) = false := decide_eq_false h2
      rw [f2]
      go_enter Tryd.func9, Tryd.ntmps9
      go_wp2_with fail
      rw [← hW]
      clear hW
      go_quiet (fail)
      go_wp2_with fail
      go_ret
      exact BlP.of rfl (below_drewN HBW.out _)
  · have f1 : decide (0 ≤ alt) = false := decide_eq_false h1
    rw [f1]
    go_enter Tryd.func9, Tryd.ntmps9
    go_wp2_with fail
    rw [← hW]
    clear hW
    go_quiet (fail)
    go_wp2_with fail
    go_ret
    exact BlP.of rfl (below_drewN HBW.out _)
theorem infoCf : (Tryd.prog.info? 40).map (·.size) = some 5 := by kernel_rfl
/-- a configuration at another state -/
def AtP (x : Cf.Cfg) (state : Int) (A : Option Addr) (n c : Nat) (ex : Bool) (w : World) (e : Ending) (w' : World) : Prop :=
  e = .returned (.agg #[.int .i64 x.alt, .int .i64 state, .slice A n c, .bool (x.exact && ex), .bool false]) ∧ Below w.heap.size w w'
theorem AtP.of {x : Cf.Cfg} {state : Int} {A : Option Addr} {n c : Nat} {ex b : Bool} {w w' : World} (h : (x.exact && ex) = b) (hb : Below w.heap.size w w') : AtP x state A n c ex w (.returned (.agg #[.int .i64 x.alt, .int .i64 state, .slice A n c, .bool b, .bool false])) w' := ⟨by rw [h], hb⟩
set_option maxHeartbeats 2000000 in
theorem at_any (x : Cf.Cfg) (A : Option Addr) (c : Nat) (state : Int) (A2 : Option Addr) (n2 c2 : Nat) (ex : Bool) (w : World) :
    Calls Tryd.prog 10 #[.agg #[.int .i64 x.alt, .int .i64 x.state, .slice A x.stack.length c, .bool x.exact, .bool x.ended], .int .i64 state, .slice A2 n2 c2, .bool ex] w (AtP x state A2 n2 c2 ex w) := by
  obtain ⟨alt, st, stack, exact, ended⟩ := x
  dsimp only
  have hb : ∀ (b : Bool), Below w.heap.size w ((w.alloc (.cells #[.int .i64 alt, .int .i64 st, .slice A stack.length c, .bool exact, .bool ended] 40)).alloc (.cells #[.int .i64 alt, .int .i64 state, .slice A2 n2 c2, .bool b, .bool false] 40)) := fun b => (below_new _ _).alloc (by simp) _
  have hh : ∀ (b : Bool), ((w.alloc (.cells #[.int .i64 alt, .int .i64 st, .slice A stack.length c, .bool exact, .bool ended] 40)).alloc (.cells #[.int .i64 alt, .int .i64 state, .slice A2 n2 c2, .bool b, .bool false] 40)).heap[w.heap.size + 1]? = some (.cells #[.int .i64 alt, .int .i64 state, .slice A2 n2 c2, .bool b, .bool false] 40 (0, 0)) := fun b => by
    have := heap_alloc_new (w.alloc (.cells #[.int .i64 alt, .int .i64 st, .slice A stack.length c, .bool exact, .bool ended] 40)) (.cells #[.int .i64 alt, .int .i64 state, .slice A2 n2 c2, .bool b, .bool false] 40)
    rwa [show (w.alloc (.cells #[.int .i64 alt, .int .i64 st, .slice A stack.length c, .bool exact, .bool ended] 40)).heap.size = w.heap.size + 1 by simp] at this
  have HB := hid hb
  have HH := hid hh
  clear hb hh
  cases exact <;> cases ex
  all_goals
    go_enter Tryd.func10, Tryd.ntmps10
    go_wp2
    refine bodyPost_ret (results_cell_row rfl _ _ (w.heap.size + 1) 40 _ _ _ rfl (HH.out _) Tryd.underlying40 rfl infoCf) rfl ?_
    exact AtP.of rfl (HB.out _)
end Go.Proofs.YtnpcjbdolmmaeaaDoor
