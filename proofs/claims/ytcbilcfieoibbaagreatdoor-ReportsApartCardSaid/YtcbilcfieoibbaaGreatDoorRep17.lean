/-
  Tables that hold nothing but names, as the document has them: the walks.
-/
import Derived.Test.YtcbilcfieoibbaaGreatDoorRep12
namespace Go.Proofs.YtcbilcfieoibbaaGreatDoor
open Go.RowKit
set_option maxRecDepth 100000
theorem infoL9 : (Tryz.prog.info? 64).map (·.size) = some 4 := by kernel_rfl
theorem lexer_nil (w : World) : Calls Tryz.prog 31 #[.agg #[.slice none 0 0, .slice none 0 0, .slice none 0 0, .slice none 0 0]] w fun e w' => e = .returned (.agg #[.slice none 0 0, .slice none 0 0, .slice none 0 0, .slice none 0 0]) ∧ Below w.heap.size w w' := by
  go_enter Tryz.func31, Tryz.ntmps31
  go_wp2
  have hh := heap_alloc_new (w.alloc (.cells #[.slice none 0 0, .slice none 0 0, .slice none 0 0, .slice none 0 0] 55)) (.cells #[.slice none 0 0, .slice none 0 0, .slice none 0 0, .slice none 0 0] 64)
  rw [show (w.alloc (.cells #[.slice none 0 0, .slice none 0 0, .slice none 0 0, .slice none 0 0] 55)).heap.size = w.heap.size + 1 by simp] at hh
  refine bodyPost_ret (results_cell_row rfl _ _ (w.heap.size + 1) 64 _ _ _ rfl hh Tryz.underlying64 rfl infoL9) rfl ?_
  exact ⟨rfl, (below_new _ _).alloc (by simp) _⟩
theorem infoN12 : (Tryz.prog.info? 67).map (·.size) = some 5 := by kernel_rfl
set_option maxHeartbeats 1000000 in
theorem netOther_nil (w : World) : Calls Tryz.prog 32 #[.agg #[.slice none 0 0, .slice none 0 0, .slice none 0 0, .slice none 0 0, .slice none 0 0]] w fun e w' => e = .returned (.agg #[.slice none 0 0, .slice none 0 0, .slice none 0 0, .slice none 0 0, .slice none 0 0]) ∧ Below w.heap.size w w' := by
  go_enter Tryz.func32, Tryz.ntmps32
  go_wp2_with fail
  go_loop [4] (fun i => i = .int .i64 0) (fun _ => 0)
  case atStart => rfl
  case round =>
    obtain rfl := hrel
    go_wp2
    have hh : (((w.alloc (.cells #[.slice none 0 0, .slice none 0 0, .slice none 0 0, .slice none 0 0, .slice none 0 0] 58)).alloc (.cells #[.slice none 0 0, .slice none 0 0, .slice none 0 0, .slice none 0 0, .slice none 0 0] 67)).alloc (.cells #[.slice none 0 0, .slice none 0 0, .slice none 0 0, .slice none 0 0, .slice none 0 0] 67)).heap[w.heap.size + 1]? = some (.cells #[.slice none 0 0, .slice none 0 0, .slice none 0 0, .slice none 0 0, .slice none 0 0] 67 (0, 0)) := by
      have h1 := heap_alloc_new (w.alloc (.cells #[.slice none 0 0, .slice none 0 0, .slice none 0 0, .slice none 0 0, .slice none 0 0] 58)) (.cells #[.slice none 0 0, .slice none 0 0, .slice none 0 0, .slice none 0 0, .slice none 0 0] 67)
      rw [show (w.alloc (.cells #[.slice none 0 0, .slice none 0 0, .slice none 0 0, .slice none 0 0, .slice none 0 0] 58)).heap.size = w.heap.size + 1 by simp] at h1
      exact ((below_new _ _).block _ (by simp)).trans h1
    refine bodyPost_ret (results_cell_row rfl _ _ (w.heap.size + 1) 67 _ _ _ rfl hh Tryz.underlying67 rfl infoN12) rfl ?_
    exact ⟨rfl, ((below_new _ _).alloc (by simp) _).alloc (by simp; omega) _⟩
end Go.Proofs.YtcbilcfieoibbaaGreatDoor
