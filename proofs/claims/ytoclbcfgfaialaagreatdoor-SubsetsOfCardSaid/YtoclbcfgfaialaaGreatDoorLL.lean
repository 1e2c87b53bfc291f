/-
  Slices of slices of ranges, and of int64, that are readable. Plain lemmas.
-/
import Derived.Test.YtoclbcfgfaialaaGreatDoorClass
namespace Go.Proofs.YtoclbcfgfaialaaGreatDoor
open Go.RowKit
set_option maxRecDepth 100000
/-- a slice of slices of ranges, readable -/
def LL (w : World) (A : Option Addr) (lls : List (List Rg)) : Prop :=
  ∃ vs : List Value, Reads w w.heap.size 1 A lls.length vs ∧ ∀ i (h : i < lls.length), ∃ Ai ci, vs[i]? = some (.slice Ai lls[i].length ci) ∧ Reads w w.heap.size 2 Ai lls[i].length (flat encR lls[i])
theorem LL.next {w w' : World} {A : Option Addr} {lls : List (List Rg)} (h : LL w A lls) (hb : Below w.heap.size w w') : LL w' A lls := by
  obtain ⟨vs, h1, h2⟩ := h
  refine ⟨vs, h1.next hb, fun i hi => ?_⟩
  obtain ⟨Ai, ci, h3, h4⟩ := h2 i hi
  exact ⟨Ai, ci, h3, h4.next hb⟩
theorem LL.two {w : World} {A B : Option Addr} {c d : Nat} {a b : List Rg} (t : TypeId) (ha : Reads w w.heap.size 2 A a.length (flat encR a)) (hb : Reads w w.heap.size 2 B b.length (flat encR b)) :
    LL (w.alloc (.cells #[.slice A a.length c, .slice B b.length d] t)) (some ⟨w.heap.size, 0, none⟩) [a, b] := by
  have hbel : Below w.heap.size w (w.alloc (.cells #[.slice A a.length c, .slice B b.length d] t)) := (Below.refl _ _).alloc (Nat.le_refl _) _
  refine ⟨[.slice A a.length c, .slice B b.length d], ⟨rfl, fun _ => ⟨w.heap.size, 0, rfl, by simp, fun j u hu => ?_⟩⟩, fun i hi => ?_⟩
  · rw [Nat.zero_add, cell_new]
    simpa using hu
  · match i, hi with
    | 0, _ => exact ⟨A, c, rfl, ha.next hbel⟩
    | 1, _ => exact ⟨B, d, rfl, hb.next hbel⟩
theorem LL.one {w : World} {A : Option Addr} {c : Nat} {a : List Rg} (t : TypeId) (ha : Reads w w.heap.size 2 A a.length (flat encR a)) :
    LL (w.alloc (.cells #[.slice A a.length c] t)) (some ⟨w.heap.size, 0, none⟩) [a] := by
  have hbel : Below w.heap.size w (w.alloc (.cells #[.slice A a.length c] t)) := (Below.refl _ _).alloc (Nat.le_refl _) _
  refine ⟨[.slice A a.length c], ⟨rfl, fun _ => ⟨w.heap.size, 0, rfl, by simp, fun j u hu => ?_⟩⟩, fun i hi => ?_⟩
  · rw [Nat.zero_add, cell_new]
    simpa using hu
  · match i, hi with
    | 0, _ => exact ⟨A, c, rfl, ha.next hbel⟩
theorem LL.three {w : World} {A B C : Option Addr} {c d e : Nat} {a b f : List Rg} (t : TypeId) (ha : Reads w w.heap.size 2 A a.length (flat encR a)) (hb : Reads w w.heap.size 2 B b.length (flat encR b)) (hf : Reads w w.heap.size 2 C f.length (flat encR f)) :
    LL (w.alloc (.cells #[.slice A a.length c, .slice B b.length d, .slice C f.length e] t)) (some ⟨w.heap.size, 0, none⟩) [a, b, f] := by
  have hbel : Below w.heap.size w (w.alloc (.cells #[.slice A a.length c, .slice B b.length d, .slice C f.length e] t)) := (Below.refl _ _).alloc (Nat.le_refl _) _
  refine ⟨[.slice A a.length c, .slice B b.length d, .slice C f.length e], ⟨rfl, fun _ => ⟨w.heap.size, 0, rfl, by simp, fun j u hu => ?_⟩⟩, fun i hi => ?_⟩
  · rw [Nat.zero_add, cell_new]
    simpa using hu
  · match i, hi with
    | 0, _ => exact ⟨A, c, rfl, ha.next hbel⟩
    | 1, _ => exact ⟨B, d, rfl, hb.next hbel⟩
    | 2, _ => exact ⟨C, e, rfl, hf.next hbel⟩
theorem LL.nil (w : World) (A : Option Addr) : LL w A [] := ⟨[], ⟨rfl, fun h => absurd h (by simp)⟩, fun i hi => absurd hi (by simp)⟩
theorem LL.moved {w : World} {b b' : Nat} {l : List (List Rg)} (h : LL w (some ⟨b, 0, none⟩) l) (e : b' = b) : LL w (some ⟨b', 0, none⟩) l := by rw [e]; exact h
theorem LL.at {w : World} {A : Option Addr} {lls : List (List Rg)} (h : LL w A lls) (i : Nat) (hi : i < lls.length) :
    ∃ b off Ai ci, A = some ⟨b, off, none⟩ ∧ b < w.heap.size ∧ w.cell? ⟨b, off + i, none⟩ = some (.slice Ai lls[i].length ci) ∧ Reads w w.heap.size 2 Ai lls[i].length (flat encR lls[i]) := by
  obtain ⟨vs, h1, h2⟩ := h
  obtain ⟨Ai, ci, h3, h4⟩ := h2 i hi
  obtain ⟨b, off, hA, hb, hc⟩ := h1.2 (by omega)
  exact ⟨b, off, Ai, ci, hA, hb, hc i _ h3, h4⟩
theorem cells_oneR (q : List Rg) : ∀ u ∈ flat encR q, u.oneCell' = true := by
  intro u hu
  obtain ⟨r, _, h⟩ := List.mem_flatMap.1 hu
  simp [encR] at h
  rcases h with rfl | rfl <;> rfl
theorem flatten_take_len (lls : List (List Rg)) (k : Nat) (hk : k < lls.length) : (lls.take (k+1)).flatten.length = (lls.take k).flatten.length + lls[k].length := by
  rw [List.take_succ_eq_append_getElem hk, List.flatten_append, List.length_append]; simp only [List.flatten_cons, List.flatten_nil, List.append_nil]
theorem flatten_take (lls : List (List Rg)) (k : Nat) (hk : k < lls.length) : (lls.take (k+1)).flatten = (lls.take k).flatten ++ lls[k] := by
  rw [List.take_succ_eq_append_getElem hk, List.flatten_append]; simp only [List.flatten_cons, List.flatten_nil, List.append_nil]
theorem flatten_take_le (lls : List (List Rg)) (k : Nat) : (lls.take k).flatten.length ≤ lls.flatten.length := by
  have : lls.flatten = (lls.take k).flatten ++ (lls.drop k).flatten := by rw [← List.flatten_append, List.take_append_drop]
  rw [this]; simp
def encI (x : Int) : List Value := [.int .i64 x]
theorem encI_len (x : Int) : (encI x).length = 1 := rfl
theorem flatI (l : List Int) : flat encI l = l.map (Value.int .i64) := by
  induction l with
  | nil => rfl
  | cons x r ih => rw [flat_cons, ih]; rfl
theorem info64 : (Tryz.prog.info? 2).map (fun i => (i.zero, i.size, i.bytes)) = some (some (.int .i64 0), 1, 8) := by kernel_rfl
theorem cell64 (zs : List Int) : ∀ u ∈ zs.map (Value.int .i64), u.oneCell' = true := by
  intro u hu
  obtain ⟨x, _, rfl⟩ := List.mem_map.1 hu
  rfl
end Go.Proofs.YtoclbcfgfaialaaGreatDoor

/-
  A store into the last element of a row of the call's own. Plain lemmas.
-/
namespace Go.Proofs.YtoclbcfgfaialaaGreatDoor
open Go.RowKit
set_option maxRecDepth 100000
theorem ownsRow_setLast {w : World} {base : Nat} {e : TypeId} {g cap j : Nat} {m0 : List Rg} {q : Rg} {x : Int} (hj : m0.length = j) (h : w.ownsRow base e 2 (.slice (some ⟨g, 0, none⟩) (j+1) cap) (j+1) (flat encR (m0 ++ [q]))) :
    (w.setCell ⟨g, j*2+1, none⟩ (.int .i32 x)).ownsRow base e 2 (.slice (some ⟨g, 0, none⟩) (j+1) cap) (j+1) (flat encR (m0 ++ [(q.1, x)])) := by
  obtain ⟨h1, h2⟩ := h
  rcases h2 with ⟨h2, _⟩ | ⟨g', cap', cur, hv, hg, hh, hnc, hcm, hcs, htk⟩
  · cases h2
  · injection hv with hv1 _ hv3
    injection hv1 with hv1
    injection hv1 with hv1
    subst hv1 hv3
    refine ⟨by rw [flat_length encR 2 encR_len]; simp [hj], .inr ⟨g, cap, cur.setIfInBounds (j*2+1) (.int .i32 x), rfl, hg, ?_, hnc, hcm, by simpa using hcs, ?_⟩⟩
    · simp [World.setCell, Array.getElem?_modify, hh]
    · rw [Array.toList_setIfInBounds, List.take_set, htk, flat_snoc, flat_snoc, List.set_append_right _ _ (by rw [flat_length encR 2 encR_len, hj]; omega), flat_length encR 2 encR_len, hj]
      simp [encR]
end Go.Proofs.YtoclbcfgfaialaaGreatDoor
