/-
  The document's answer for ranges: Kept: the walks, way by way.
-/
import Derived.Test.YtoclbcfgfaialaaGreatDoorRef
import Derived.Test.YtoclbcfgfaialaaGreatDoorLL
namespace Go.Proofs.YtoclbcfgfaialaaGreatDoor
open Go.RowKit
set_option maxRecDepth 100000
def wantB : Nat → List (List Rg) → Int → Bool
  | 1, lls, x => hasB (lls.getD 0 []) x && !hasB (lls.getD 1 []) x
  | 2, lls, x => hasB (lls.getD 0 []) x && hasB (lls.getD 1 []) x
  | _, lls, x => lls.any fun l => hasB l x
theorem hasB_holds1 (l : List Rg) (x : Int) : hasB l x = true ↔ Holds1 l x := by rw [hasB_iff, any_iff]
theorem bool_eq {a b : Bool} (h : a = true ↔ b = true) : a = b := by cases a <;> cases b <;> simp_all
theorem has_const {lls : List (List Rg)} {pts : List Int} {a b x : Int} (hp : ptsOf lls.flatten = pts) (hn : ∀ p ∈ pts, ¬ (a < p ∧ p < b)) (h1 : a ≤ x) (h2 : x < b) : ∀ l ∈ lls, hasB l x = hasB l a := by
  intro l hl
  refine bool_eq ?_
  rw [hasB_holds1, hasB_holds1]
  refine gap_const (fun p hpp => hn p ?_) h1 h2
  rw [← hp]
  obtain ⟨r, hr, h3⟩ := List.mem_flatMap.1 hpp
  exact List.mem_flatMap.2 ⟨r, List.mem_flatten.2 ⟨l, hl, hr⟩, h3⟩
theorem has_getD {lls : List (List Rg)} {a x : Int} (h : ∀ l ∈ lls, hasB l x = hasB l a) (i : Nat) : hasB (lls.getD i []) x = hasB (lls.getD i []) a := by
  by_cases hi : i < lls.length
  · rw [List.getD_eq_getElem?_getD, List.getElem?_eq_getElem hi]; exact h _ (List.getElem_mem hi)
  · rw [List.getD_eq_getElem?_getD, List.getElem?_eq_none (by omega)]; rfl
theorem want_const {lls : List (List Rg)} {pts : List Int} {a b x : Int} (way : Nat) (hp : ptsOf lls.flatten = pts) (hn : ∀ p ∈ pts, ¬ (a < p ∧ p < b)) (h1 : a ≤ x) (h2 : x < b) : wantB way lls x = wantB way lls a := by
  have h := has_const hp hn h1 h2
  unfold wantB
  split
  · rw [has_getD h, has_getD h]
  · rw [has_getD h, has_getD h]
  · rw [Bool.eq_iff_iff]
    simp only [List.any_eq_true]
    constructor
    · rintro ⟨l, hl, h3⟩; exact ⟨l, hl, by rw [← h l hl]; exact h3⟩
    · rintro ⟨l, hl, h3⟩; exact ⟨l, hl, by rw [h l hl]; exact h3⟩
theorem flatten_mem_le {lls : List (List Rg)} {l : List Rg} (h : l ∈ lls) : l.length ≤ lls.flatten.length := by
  induction lls with
  | nil => cases h
  | cons x r ih =>
    rw [List.flatten_cons, List.length_append]
    rcases List.mem_cons.1 h with e | e
    · subst e; omega
    · have := ih e; omega
theorem Gap.start {pts z : List Int} (h : Gap pts z) (hz : 1 ≤ z.length) : z.getD 0 0 = low32 := by
  rw [List.getD_eq_getElem?_getD, List.getElem?_eq_getElem (by omega)]
  exact h.first (by omega)
theorem Gap.at {pts z : List Int} (h : Gap pts z) (k : Nat) (hk : k + 1 < z.length) : z.getD k 0 < z.getD (k+1) 0 ∧ low32 ≤ z.getD k 0 ∧ z.getD (k+1) 0 ≤ top32 ∧ ∀ p ∈ pts, ¬ (z.getD k 0 < p ∧ p < z.getD (k+1) 0) := by
  simp only [List.getD_eq_getElem?_getD, List.getElem?_eq_getElem (show k < z.length by omega), List.getElem?_eq_getElem hk, Option.getD_some]
  exact ⟨h.rise k hk, (h.in32 _ (List.getElem_mem _)).1, (h.in32 _ (List.getElem_mem _)).2, h.none k hk⟩
theorem gap_last {z : List Int} (h : z.getLast? = some top32) {k : Nat} (hk : k = z.length - 1) : z.getD k 0 = top32 := by
  rw [List.getLast?_eq_getElem?] at h
  rw [List.getD_eq_getElem?_getD, hk, h]
  rfl
/-- two numbers of a readable list, side by side -/
theorem readsI2 {w w' : World} {B : Nat} {A : Option Addr} {z : List Int} (hr : Reads w B 1 A z.length (z.map (Value.int .i64))) (hb : Below B w w') (k : Nat) (hk : k + 1 < z.length) :
    ∃ b off, A = some ⟨b, off, none⟩ ∧ b < B ∧ w'.cell? ⟨b, off + k, none⟩ = some (.int .i64 (z.getD k 0)) ∧ w'.cell? ⟨b, off + (k + 1), none⟩ = some (.int .i64 (z.getD (k+1) 0)) := by
  obtain ⟨b, off, rfl, hbl, hcell⟩ := hr.2 (by omega)
  have g : ∀ j, j < z.length → w'.cell? ⟨b, off + j, none⟩ = some (.int .i64 (z.getD j 0)) := fun j hj =>
    (hb.cell (p := ⟨b, off + j, none⟩) hbl).trans (hcell j _ (by simp [List.getElem?_eq_getElem hj, List.getD_eq_getElem?_getD]))
  exact ⟨b, off, rfl, hbl, g k (by omega), g (k+1) hk⟩
/-- a list of ranges is answered -/
def ReadR (w : World) (m : List Rg) (e : Ending) (w' : World) : Prop :=
  ∃ A' c', e = .returned (.slice A' m.length c') ∧ Reads w' w'.heap.size 2 A' m.length (flat encR m) ∧ Below w.heap.size w w'
end Go.Proofs.YtoclbcfgfaialaaGreatDoor
