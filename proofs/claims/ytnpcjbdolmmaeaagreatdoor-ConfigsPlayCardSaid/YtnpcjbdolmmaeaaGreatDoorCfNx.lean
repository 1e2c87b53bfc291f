/-
  slices.Sort and slices.Compact at int, by the shelf's contracts; a list's numbers, each once, rising. (Cut out of Cuts and Next.)
-/
import Derived.Test.YtnpcjbdolmmaeaaGreatDoorDBase
import Derived.Test.YtnpcjbdolmmaeaaGreatDoorShelf
import Derived.Lib.SlicesCompact
namespace Go.Proofs.YtnpcjbdolmmaeaaGreatDoor
open Go.RowKit
open Go.Sort (putRow putCells Holds heap_grow_old grow_empty mapBlock onCells grow)
set_option maxRecDepth 100000
/-- what compact makes of a list that rises: it rises strictly, and has the same members -/
theorem compactUpTo_law (d : Array Int) (hs : ∀ i j, i < j → j < d.size → d[i]! ≤ d[j]!) (m : Nat) (hm : m ≤ d.size) :
    (Lib.compactUpTo d m).Pairwise (· < ·) ∧ (∀ x, x ∈ Lib.compactUpTo d m ↔ ∃ j, j < m ∧ d[j]! = x) ∧ (∀ x ∈ Lib.compactUpTo d m, 0 < m ∧ x ≤ d[m-1]!) := by
  induction m with
  | zero => simp [Lib.compactUpTo]
  | succ m ih =>
    obtain ⟨i1, i2, i3⟩ := ih (by omega)
    rw [Lib.compactUpTo_succ]
    rcases Nat.eq_zero_or_pos m with h0 | h0
    · subst h0
      have : Lib.keeps d 0 = true := by simp [Lib.keeps]
      rw [this]
      simp [Lib.compactUpTo]
      exact fun x => eq_comm
    · have hle := hs (m-1) m (by omega) (by omega)
      by_cases hd : d[m]! = d[m-1]!
      · rw [Lib.keeps_neg h0 hd]
        simp only [Bool.false_eq_true, if_false, List.append_nil]
        refine ⟨i1, fun x => ?_, fun x hx => ?_⟩
        · rw [i2]
          constructor
          · rintro ⟨j, hj, rfl⟩; exact ⟨j, by omega, rfl⟩
          · rintro ⟨j, hj, rfl⟩
            by_cases e : j = m
            · subst e; exact ⟨j - 1, by omega, hd.symm⟩
            · exact ⟨j, by omega, rfl⟩
        · have := i3 x hx
          simp only [Nat.add_sub_cancel]
          exact ⟨by omega, by omega⟩
      · rw [Lib.keeps_pos hd]
        simp only [if_true]
        refine ⟨?_, fun x => ?_, fun x hx => ?_⟩
        · rw [List.pairwise_append]
          refine ⟨i1, List.pairwise_singleton _ _, fun a ha b hb => ?_⟩
          simp at hb; subst hb
          have := i3 a ha
          omega
        · rw [List.mem_append, i2]
          constructor
          · rintro (⟨j, hj, rfl⟩ | h)
            · exact ⟨j, by omega, rfl⟩
            · simp at h; exact ⟨m, by omega, h.symm⟩
          · rintro ⟨j, hj, rfl⟩
            by_cases e : j = m
            · subst e; exact .inr (by simp)
            · exact .inl ⟨j, by omega, rfl⟩
        · simp only [Nat.add_sub_cancel]
          rcases List.mem_append.1 hx with h | h
          · have := i3 x h; exact ⟨by omega, by omega⟩
          · simp at h; subst h; exact ⟨by omega, Int.le_refl _⟩
def leI (x y : Int) : Bool := decide (x ≤ y)
/-- the places, each once, rising -/
def placesOf (l : List Int) : List Int := Lib.compact (l.mergeSort fun x y => decide (x ≤ y))
theorem placesOf_law (l : List Int) : (placesOf l).Pairwise (· < ·) ∧ ∀ x, x ∈ placesOf l ↔ x ∈ l := by
  have hs := List.pairwise_mergeSort (le := fun x y : Int => decide (x ≤ y)) (fun a b c h1 h2 => by simp at *; omega) (fun a b => by simp; omega) l
  have hp := List.mergeSort_perm l (fun x y : Int => decide (x ≤ y))
  unfold placesOf Lib.compact
  generalize l.mergeSort (fun x y : Int => decide (x ≤ y)) = s at hs hp
  have hg : ∀ i (h : i < s.length), s.toArray[i]! = s[i] := fun i h => by rw [getElem!_pos s.toArray i (by simpa using h)]; simp
  obtain ⟨a1, a2, _⟩ := compactUpTo_law s.toArray (fun i j hij hj => by
    have hj' : j < s.length := by simpa using hj
    rw [hg i (by omega), hg j hj']
    have := (List.pairwise_iff_getElem.1 hs) i j (by omega) hj' hij
    simpa using this) s.length (by simp)
  refine ⟨a1, fun x => ?_⟩
  rw [a2, ← hp.mem_iff, List.mem_iff_getElem]
  constructor
  · rintro ⟨j, hj, h⟩; exact ⟨j, hj, by rw [← hg j hj]; exact h⟩
  · rintro ⟨j, hj, h⟩; exact ⟨j, hj, by rw [hg j hj]; exact h⟩
theorem placesOf_len (l : List Int) : (placesOf l).length ≤ l.length := by
  unfold placesOf Lib.compact Lib.compactUpTo
  rw [List.length_map]
  exact Nat.le_trans (List.length_filter_le _ _) (by simp)
/-- a row of int of the call's own, written over as a whole -/
theorem own_putRowN {w : World} {base g cap n : Nat} {zs zs' : List Int} {q : Nat} {os : Array Obj} (h : w.ownsRow base 3 1 (.slice (some ⟨g, 0, none⟩) n cap) n (zs.map (Value.int .i64))) (hz : zs'.length = n) :
    (grow (putRow (Value.int .i64) (Sort.ahead w q) g 0 zs'.toArray) os).ownsRow base 3 1 (.slice (some ⟨g, 0, none⟩) n cap) n (zs'.map (Value.int .i64)) ∧
    (∀ W, base ≤ w.heap.size → Below base W w → Below base W (grow (putRow (Value.int .i64) (Sort.ahead w q) g 0 zs'.toArray) os)) := by
  have hlt := (h.lt g rfl).2
  have hbg := (h.lt g rfl).1
  obtain ⟨h1, h2⟩ := h
  rcases h2 with ⟨h2, _⟩ | ⟨g', cap', cur, hv, hg, hh, hnc, hcm, hcs, htk⟩
  · cases h2
  · injection hv with hv1 _ hv3
    injection hv1 with hv1
    injection hv1 with hv1
    subst hv1 hv3
    constructor
    · refine ⟨by simp [hz], .inr ⟨g, cap, putCells (Value.int .i64) 0 zs'.toArray cur, rfl, hg, ?_, hnc, hcm, by simpa [putCells] using hcs, ?_⟩⟩
      · rw [heap_grow_old _ _ (by simpa using hlt)]
        simp only [putRow, mapBlock, Array.getElem?_modify]
        rw [if_pos trivial]
        show Option.map _ (w.heap[g]?) = _
        rw [hh]
        rfl
      · apply List.ext_getElem?
        intro t
        rw [List.getElem?_take]
        by_cases ht : t < n
        · rw [if_pos (by omega), Array.getElem?_toList, putCells, Array.getElem?_mapIdx, Array.getElem?_eq_getElem (by omega), List.getElem?_map, List.getElem?_eq_getElem (by omega)]
          simp only [Option.map_some]
          rw [if_pos (by simp; omega), getElem!_pos _ _ (by simp; omega)]
          simp
        · rw [if_neg (by omega), List.getElem?_eq_none (by simp; omega)]
    · intro W hbase hW
      refine ⟨hW.os, hW.tape, hW.output, Nat.le_trans hW.size (by simp), fun k hk => ?_⟩
      rw [heap_grow_old _ _ (by simp; omega)]
      simp only [putRow, mapBlock, Array.getElem?_modify]
      rw [if_neg (by omega)]
      exact hW.block k hk
theorem holds_ownN {w : World} {base g cap n : Nat} {zs : List Int} (h : w.ownsRow base 3 1 (.slice (some ⟨g, 0, none⟩) n cap) n (zs.map (Value.int .i64))) : Holds (Value.int .i64) w g 0 zs.toArray := by
  intro j hj
  have hj' : j < zs.length := by simpa using hj
  refine ⟨?_, own_frozen h _⟩
  have := h.cells (g := g) rfl j (.int .i64 zs[j]) (by simp [hj'])
  rw [getElem!_pos zs.toArray j hj]
  have e : (⟨g, 0, none⟩ : Addr).add j = ⟨g, 0 + j, none⟩ := by
    unfold Addr.add; by_cases h : j = 0 <;> simp [h]
  rw [e] at this
  simpa using this
/-- slices.Sort at a row of the call's own -/
theorem sortN_any (base : Nat) (v : Value) (zs : List Int) (w : World) (hm : zs.length ≤ 100000000) (hown : w.ownsRow base 3 1 v zs.length (zs.map (Value.int .i64))) :
    Calls Tryz.prog 81 #[v] w fun e w' => e = .returned (.tuple #[]) ∧ w'.ownsRow base 3 1 v zs.length ((zs.mergeSort fun x y => decide (x ≤ y)).map (Value.int .i64)) ∧ (∀ W, base ≤ w.heap.size → Below base W w → Below base W w') := by
  rcases hown.2 with ⟨rfl, h0⟩ | ⟨g, cap, cur, rfl, _⟩
  · have hl : zs = [] := List.eq_nil_of_length_eq_zero h0
    subst hl
    first | exact (Tryz.slices_Sort_int_none_f81 none 0 w).mono fun e w' ⟨he, hw⟩ => ⟨he, by rw [hw]; simpa using hown, fun W _ hW => by rw [hw]; exact hW⟩ | exact (Tryz.slices_Sort_int_none none 0 w).mono fun e w' ⟨he, hw⟩ => ⟨he, by rw [hw]; simpa using hown, fun W _ hW => by rw [hw]; exact hW⟩
  · first | refine (Tryz.slices_Sort_int_f81 g 0 cap zs w (holds_ownN hown) (hown.lt g rfl).2 (by omega)).mono ?_ | refine (Tryz.slices_Sort_int g 0 cap zs w (holds_ownN hown) (hown.lt g rfl).2 (by omega)).mono ?_
    rintro e w' ⟨he, q, os, hw⟩
    have := own_putRowN (q := q) (os := os) hown (zs' := zs.mergeSort fun x y => decide (x ≤ y)) (List.length_mergeSort _)
    rw [hw]
    exact ⟨he, this.1, this.2⟩
/-- slices.Compact at a row of the call's own -/
theorem compactN_any (base : Nat) (v : Value) (zs : List Int) (w : World) (hm : zs.length ≤ 100000000) (hown : w.ownsRow base 3 1 v zs.length (zs.map (Value.int .i64))) :
    Calls Tryz.prog 82 #[v] w fun e w' => ∃ v', e = .returned v' ∧ w'.ownsRow base 3 1 v' (Lib.compact zs).length ((Lib.compact zs).map (Value.int .i64)) ∧ (∀ W, base ≤ w.heap.size → Below base W w → Below base W w') := by
  rcases hown.2 with ⟨rfl, h0⟩ | ⟨g, cap, cur, rfl, _, _, hnc, _⟩
  · have hl : zs = [] := List.eq_nil_of_length_eq_zero h0
    subst hl
    exact (Tryz.slices_Compact_int_empty none 0 w).mono fun e w' ⟨he, hw⟩ => ⟨_, he, by rw [hw]; simpa [Lib.compact, Lib.compactUpTo] using hown, fun W _ hW => by rw [hw]; exact hW⟩
  · refine (Tryz.slices_Compact_int g 0 cap zs w (holds_ownN hown) (by omega) hnc).mono ?_
    rintro e w' ⟨he, q, hw⟩
    have hcl : (Lib.compact zs).length ≤ zs.length := by
      unfold Lib.compact Lib.compactUpTo
      rw [List.length_map]
      exact Nat.le_trans (List.length_filter_le _ _) (by simp)
    have := own_putRowN (q := q) (os := #[]) hown (zs' := Lib.compact zs ++ List.replicate (zs.length - (Lib.compact zs).length) 0) (by simp; omega)
    rw [grow_empty] at this
    rw [hw]
    refine ⟨_, he, ?_, this.2⟩
    obtain ⟨_, h2⟩ := this.1
    rcases h2 with ⟨h2, _⟩ | ⟨g', cap', cur', hv, hg', hh', hnc', hcm', hcs', htk'⟩
    · cases h2
    · injection hv with hv1 _ hv3
      injection hv1 with hv1
      injection hv1 with hv1
      subst hv1 hv3
      refine ⟨by simp, .inr ⟨g, cap, cur', rfl, hg', hh', by omega, hcm', hcs', ?_⟩⟩
      have h3 : (cur'.toList.take (zs.length * 1)).take (Lib.compact zs).length = (Lib.compact zs).map (Value.int .i64) := by
        rw [htk']; simp
      rw [List.take_take, Nat.min_eq_left (by omega)] at h3
      simpa using h3
end Go.Proofs.YtnpcjbdolmmaeaaGreatDoor
