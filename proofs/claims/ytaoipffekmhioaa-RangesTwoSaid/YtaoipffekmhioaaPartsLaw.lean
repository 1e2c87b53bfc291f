/-
  RangesParts: the plain law, and the walk.
-/
import Derived.Test.YtaoipffekmhioaaHold
namespace Go.Proofs.Ytaoipffekmhioaa
open Go.RowKit
set_option maxRecDepth 100000
/-- a piece and a list: all of it, or nothing -/
theorem piece_part (r : Rg) (a : List Rg) (hr : r.1 ≤ r.2) (h : ∀ x, r.1 ≤ x → x ≤ r.2 → (Holds1 a r.1 ↔ Holds1 a x)) : partOf [r] a true = [] ∨ partOf [r] a true = [r] := by
  by_cases ha : Holds1 a r.1
  · refine .inr (neat_unique _ _ (partOf_law _ _ _).1 ⟨by simpa using hr, by simp⟩ fun x => ?_)
    rw [(partOf_law [r] a true).2]
    simp only [iff_true]
    constructor
    · exact fun h => h.1
    · rintro ⟨z, hz, hx⟩
      simp at hz; subst hz
      exact ⟨⟨z, by simp, hx⟩, (h x hx.1 hx.2).1 ha⟩
  · refine .inl (neat_unique _ _ (partOf_law _ _ _).1 NeatP.nil fun x => ?_)
    rw [(partOf_law [r] a true).2]
    simp only [iff_true]
    constructor
    · rintro ⟨⟨z, hz, hx⟩, h2⟩
      simp at hz; subst hz
      exact absurd ((h x hx.1 hx.2).2 h2) ha
    · rintro ⟨z, hz, _⟩; cases hz
/-- two pieces side by side are held otherwise by one of two lists -/
theorem side_by_side {a b s : List Rg} {lo : Int} (h : SplitP [a, b] lo s) {y z : Rg} (hy : y ∈ s) (hz : z ∈ s) (he : y.2 + 1 = z.1) : hasB a y.2 ≠ hasB a z.1 ∨ hasB b y.2 ≠ hasB b z.1 := by
  by_cases h1 : hasB a y.2 = hasB a z.1
  · by_cases h2 : hasB b y.2 = hasB b z.1
    · refine absurd ?_ (h.apart y hy z hz he)
      have hal := h.alike y hy y.2 (h.some y hy) (Int.le_refl _)
      intro l hl
      rw [hal l hl]
      simp at hl
      rcases hl with rfl | rfl
      · rw [← hasB_holds, ← hasB_holds, h1]
      · rw [← hasB_holds, ← hasB_holds, h2]
    · exact .inr h2
  · exact .inl h1
theorem wf_lo {l : List Rg} (h : WfL l) (x : Int) (hx : Holds1 l x) : -2147483649 < x := by
  obtain ⟨r, hr, h1⟩ := hx
  have := h r hr
  unfold Wf at this
  omega
theorem split_two {a b : List Rg} (ha : WfL a) (hb : WfL b) : SplitP [a, b] (-2147483649) (splitOf ([a, b].map neatOf)) :=
  splitOf_law [a, b] _ fun l hl x hx => by
    simp at hl
    rcases hl with rfl | rfl
    · exact wf_lo ha x hx
    · exact wf_lo hb x hx
theorem foldS_wf (nl : List (List Rg)) (ps : List Rg) (h : WfL ps) : WfL (foldS nl ps) := by
  suffices H : ∀ k, k ≤ ps.length → WfL (foldS nl (ps.take k)) by
    have := H ps.length (Nat.le_refl _)
    rwa [List.take_length] at this
  intro k
  induction k with
  | zero => intro _; exact WfL.nil
  | succ k ih => intro hk; rw [foldS_snoc nl ps k (by omega)]; exact WfL.addS (ih (by omega)) (h _ (List.getElem_mem _))
theorem splitOf_wf {nl : List (List Rg)} (h : WfL nl.flatten) : WfL (splitOf nl) := foldS_wf _ _ fun r hr => pairs_wf h r (List.mem_filter.1 hr).1
theorem splitOf_len (nl : List (List Rg)) : (splitOf nl).length ≤ 2 * nl.flatten.length := by
  unfold splitOf
  have h1 := foldS_len nl ((pairs (placesOf (endsOf nl))).filter (heldB nl)) _ (Nat.le_refl _)
  rw [List.take_length] at h1
  have h2 := List.length_filter_le (heldB nl) (pairs (placesOf (endsOf nl)))
  have h3 := pairs_len (placesOf (endsOf nl))
  have h4 := placesOf_len (endsOf nl)
  have h5 := endsOf_len nl
  omega
end Go.Proofs.Ytaoipffekmhioaa
