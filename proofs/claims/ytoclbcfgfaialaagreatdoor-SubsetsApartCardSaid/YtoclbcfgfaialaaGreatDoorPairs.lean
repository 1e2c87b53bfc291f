/-
  Has in a region that draws; the pieces between places. Small lemmas.
-/
import Derived.Test.YtoclbcfgfaialaaGreatDoorCuts
import Derived.Lib.QuietBelow
import Derived.Deep.RegionHeld3
import Derived.Deep.DeepCutAuto
namespace Go.Proofs.YtoclbcfgfaialaaGreatDoor
open Go.RowKit
open Go.Sort (grow)
set_option maxRecDepth 100000
theorem has_quiet (A : Option Addr) (c : Nat) (l : List Rg) (x : Int) (w : World) (d : Nat) (os : Array Obj) (hm : l.length ≤ 10000000) (hr : Reads w w.heap.size 2 A l.length (flat encR l)) :
   Calls Tryz.prog 31 #[.slice A l.length c, .int .i32 x] (grow (redrawn w d) os) fun e w'' => e = .returned (.bool (hasB l x)) ∧ ∃ p : Regrown, w'' = grow (redrawn w p.d) p.os :=
  Calls.regrown_of (has_any A c l x _ hm (hr.next (below_regrown w d os)))
theorem pairs_wf {lls : List (List Rg)} (hwf : WfL lls.flatten) : WfL (pairs (placesOf (endsOf lls))) := by
  have h1 := places_wf hwf
  have h2 := (placesOf_law (endsOf lls)).1
  generalize placesOf (endsOf lls) = p at h1 h2
  induction p with
  | nil => exact WfL.nil
  | cons a r ih =>
    cases r with
    | nil => exact WfL.nil
    | cons b r =>
      intro x hx
      rw [List.pairwise_cons] at h2
      have h3 := h2.1 b (by simp)
      have h4 := h1 a (by simp)
      have h5 := h1 b (by simp)
      simp only [pairs, List.mem_cons] at hx
      rcases hx with rfl | hx
      · unfold Wf; simp only; omega
      · exact ih (fun y hy => h1 y (by simp [hy])) h2.2 x hx
end Go.Proofs.YtoclbcfgfaialaaGreatDoor
