/-
  SubsetsApart: plain law of what is reached, and its memory.
-/
import Derived.Test.YtoclbcfgfaialaaGreatDoorSubLive3
namespace Go.Proofs.YtoclbcfgfaialaaGreatDoor
open Go.RowKit
set_option maxRecDepth 100000
/-- reached ahead of cell c of row s -/
def Rch (rows : List (List Int)) (s c : Nat) (j : Nat) : Prop :=
  j = 0 ∨ (∃ q row, q < s ∧ rows[q]? = some row ∧ (j : Int) ∈ row) ∨ ∃ row, rows[s]? = some row ∧ (j : Int) ∈ row.take c
theorem Rch.cell {rows : List (List Int)} {s c j : Nat} {row : List Int} (hrow : rows[s]? = some row) (hc : c < row.length) (h : Rch rows s (c + 1) j) : Rch rows s c j ∨ (j : Int) = row[c] := by
  rcases h with h | h | ⟨r, e, h⟩
  · exact .inl (.inl h)
  · exact .inl (.inr (.inl h))
  · rw [hrow] at e
    injection e with e
    subst e
    rw [List.take_succ_eq_append_getElem hc] at h
    rcases List.mem_append.1 h with h | h
    · exact .inl (.inr (.inr ⟨_, hrow, h⟩))
    · simp at h; exact .inr h
theorem Rch.next {rows : List (List Int)} {s j : Nat} {row : List Int} (hrow : rows[s]? = some row) (h : Rch rows (s + 1) 0 j) : Rch rows s row.length j := by
  rcases h with h | ⟨q, r, hq, e, h⟩ | ⟨r, e, h⟩
  · exact .inl h
  · by_cases hs : q = s
    · subst hs
      rw [hrow] at e
      injection e with e
      subst e
      exact .inr (.inr ⟨_, hrow, by rw [List.take_length]; exact h⟩)
    · exact .inr (.inl ⟨q, r, by omega, e, h⟩)
  · simp at h
/-- a list of bools in a block, true where P says so -/
def BoolsAt (w : World) (rb n : Nat) (P : Nat → Prop) : Prop :=
  ∃ bs : List Bool, bs.length = n ∧ w.heap[rb]? = some (.cells (bs.map Value.bool).toArray 4 (0, 0)) ∧ ∀ j, j < n → P j → bs[j]? = some true
theorem BoolsAt.weak {w : World} {rb n : Nat} {P Q : Nat → Prop} (h : BoolsAt w rb n P) (hQ : ∀ j, j < n → Q j → P j) : BoolsAt w rb n Q := by
  obtain ⟨bs, h1, h2, h3⟩ := h
  exact ⟨bs, h1, h2, fun j hj hq => h3 j hj (hQ j hj hq)⟩
theorem BoolsAt.cell {w : World} {rb n : Nat} {P : Nat → Prop} (h : BoolsAt w rb n P) (j : Nat) (hj : j < n) : ∃ b, w.cell? ⟨rb, j, none⟩ = some (.bool b) ∧ w.frozen? ⟨rb, j, none⟩ = false ∧ (P j → b = true) := by
  obtain ⟨bs, h1, h2, h3⟩ := h
  refine ⟨bs[j]'(by omega), ?_, Lib.frozen_of_heap h2 j, fun hp => ?_⟩
  · rw [Lib.cell_of_heap h2]
    simp [List.getElem?_eq_getElem (show j < bs.length by omega)]
  · have := h3 j hj hp
    rw [List.getElem?_eq_getElem (by omega)] at this
    injection this
theorem BoolsAt.set {w : World} {rb n : Nat} {P : Nat → Prop} (h : BoolsAt w rb n P) (j : Nat) (hj : j < n) : BoolsAt (w.setCell ⟨rb, j, none⟩ (.bool true)) rb n (fun i => P i ∨ i = j) := by
  obtain ⟨bs, h1, h2, h3⟩ := h
  refine ⟨bs.set j true, by simp [h1], ?_, fun i hi hp => ?_⟩
  · rw [heap_setCell_same w rb j _ _ _ h2]
    simp [List.map_set]
  · by_cases e : i = j
    · subst e
      rw [List.getElem?_set_self (by omega)]
    · rw [List.getElem?_set_ne (by omega)]
      exact h3 i hi (hp.resolve_right e)
end Go.Proofs.YtoclbcfgfaialaaGreatDoor
