/-
  A store into the last element of a row of the call's own. Plain lemmas.
-/
import Derived.Test.YtoclbcfgfaialaaGreatDoorClass
namespace Go.Proofs.YtoclbcfgfaialaaGreatDoor
open Go.RowKit
set_option maxRecDepth 100000
theorem ownsRow_setLast {w : World} {base : Nat} {e : TypeId} {g cap j : Nat} {m0 : List Rg} {q : Rg} {x : Int} (hj : m0.length = j) (h : w.ownsRow base e 2 (.slice (some ⟨g, 0, none⟩) (j+1) cap) (j+1) (flat encR (m0 ++ [q]))) :
    (w.setCell ⟨g, j*2+1, none⟩ (.int .i32 x)).ownsRow base e 2 (.slice (some ⟨g, 0, none⟩) (j+1) cap) (j+1) (flat encR (m0 ++ [(q.1, x)])) := by
  obtain ⟨h1, h2⟩ := h
  rcases h2 with ⟨h2, _⟩ | ⟨g', cap', cur, hv, hg, hh, hnc, hcm, hcs, htk⟩
  · cases h2
  · injection hv with hv1 _ hv3
    injection hv1 with hv1
    injection hv1 with hv1
    subst hv1 hv3
    refine ⟨by rw [flat_length encR 2 encR_len]; simp [hj], .inr ⟨g, cap, cur.setIfInBounds (j*2+1) (.int .i32 x), rfl, hg, ?_, hnc, hcm, by simpa using hcs, ?_⟩⟩
    · simp [World.setCell, Array.getElem?_modify, hh]
    · rw [Array.toList_setIfInBounds, List.take_set, htk, flat_snoc, flat_snoc, List.set_append_right _ _ (by rw [flat_length encR 2 encR_len, hj]; omega), flat_length encR 2 encR_len, hj]
      simp [encR]
end Go.Proofs.YtoclbcfgfaialaaGreatDoor
