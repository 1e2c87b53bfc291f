/-
  The document's answer for ranges: the places where something may change, and the neat list of what is wanted. Plain law, no program in sight.
-/
import Derived.Test.YtaoipffekmhioaaMath
namespace Go.Proofs.Ytaoipffekmhioaa
/-- where a range begins, and where it is over -/
def ptsOf (l : List Rg) : List Int := l.flatMap fun r => [r.1, r.2 + 1]
theorem ptsOf_append (a b : List Rg) : ptsOf (a ++ b) = ptsOf a ++ ptsOf b := by simp [ptsOf]
theorem ptsOf_len (l : List Rg) : (ptsOf l).length = 2 * l.length := by
  induction l with
  | nil => rfl
  | cons x r ih => rw [ptsOf, List.flatMap_cons, List.length_append, ← ptsOf, ih]; simp; omega
def top32 : Int := 2147483648
/-- the lesser one of a place so far and one more, if that lies behind 'at' -/
def stepN (a n p : Int) : Int := if a < p ∧ p < n then p else n
def nextOf (a : Int) (pts : List Int) : Int := pts.foldl (stepN a) top32
theorem nextOf_snoc2 (a : Int) (l : List Rg) (k : Nat) (h : k < l.length) (pre : List Int) :
    nextOf a (pre ++ ptsOf (l.take (k+1))) = stepN a (stepN a (nextOf a (pre ++ ptsOf (l.take k))) l[k].1) (l[k].2 + 1) := by
  rw [List.take_succ_eq_append_getElem h, ptsOf_append, ← List.append_assoc, nextOf, List.foldl_append]
  rfl
theorem stepN_law (a n p : Int) (h : a < n) : a < stepN a n p ∧ stepN a n p ≤ n ∧ (stepN a n p = n ∨ stepN a n p = p) ∧ ¬ (a < p ∧ p < stepN a n p) := by
  unfold stepN; split <;> omega
theorem foldN_law (a : Int) (pts : List Int) (n : Int) (h : a < n) :
    a < pts.foldl (stepN a) n ∧ pts.foldl (stepN a) n ≤ n ∧ (pts.foldl (stepN a) n = n ∨ pts.foldl (stepN a) n ∈ pts) ∧ ∀ p ∈ pts, ¬ (a < p ∧ p < pts.foldl (stepN a) n) := by
  induction pts generalizing n with
  | nil => exact ⟨h, Int.le_refl _, .inl rfl, fun p hp => by cases hp⟩
  | cons x r ih =>
    obtain ⟨h1, h2, h3, h4⟩ := stepN_law a n x h
    obtain ⟨i1, i2, i3, i4⟩ := ih (stepN a n x) h1
    rw [List.foldl_cons]
    refine ⟨i1, by omega, ?_, fun p hp => ?_⟩
    · rcases i3 with e | e
      · rcases h3 with f | f
        · exact .inl (e.trans f)
        · exact .inr (by rw [e, f]; simp)
      · exact .inr (List.mem_cons_of_mem _ e)
    · rcases List.mem_cons.1 hp with e | e
      · subst e; omega
      · exact i4 p e
theorem nextOf_law (a : Int) (pts : List Int) (h : a < top32) :
    a < nextOf a pts ∧ nextOf a pts ≤ top32 ∧ (nextOf a pts = top32 ∨ nextOf a pts ∈ pts) ∧ ∀ p ∈ pts, ¬ (a < p ∧ p < nextOf a pts) := foldN_law a pts top32 h
def low32 : Int := -2147483648
/-- places that rise from the least number on, and no change lies between two of them -/
structure Gap (pts l : List Int) : Prop where
  first : ∀ h : 0 < l.length, l[0] = low32
  rise : ∀ i (h : i + 1 < l.length), l[i] < l[i+1]
  none : ∀ i (h : i + 1 < l.length), ∀ p ∈ pts, ¬ (l[i] < p ∧ p < l[i+1])
  in32 : ∀ x ∈ l, low32 ≤ x ∧ x ≤ top32
theorem Gap.one (pts : List Int) : Gap pts [low32] :=
  ⟨fun _ => rfl, fun i h => absurd h (by simp), fun i h => absurd h (by simp), fun x hx => by simp at hx; subst hx; unfold low32 top32; omega⟩
theorem Gap.snoc {pts l : List Int} {a b : Int} (h : Gap pts (l ++ [a])) (hab : a < b) (hn : ∀ p ∈ pts, ¬ (a < p ∧ p < b)) (hb : b ≤ top32) : Gap pts (l ++ [a] ++ [b]) := by
  have hlen : (l ++ [a]).length = l.length + 1 := by simp
  have hg : ∀ i (h1 : i < (l ++ [a]).length), (l ++ [a] ++ [b])[i]'(by simp at h1 ⊢; omega) = (l ++ [a])[i] := fun i h1 => List.getElem_append_left h1
  have hla : (l ++ [a])[l.length]'(by simp) = a := by simp
  have hlb : (l ++ [a] ++ [b])[l.length + 1]'(by simp) = b := by rw [List.getElem_append_right (by simp)]; simp
  have two : ∀ i (h1 : i + 1 < (l ++ [a] ++ [b]).length), (∃ h2 : i + 1 < (l ++ [a]).length, (l ++ [a] ++ [b])[i] = (l ++ [a])[i] ∧ (l ++ [a] ++ [b])[i+1] = (l ++ [a])[i+1]) ∨ ((l ++ [a] ++ [b])[i] = a ∧ (l ++ [a] ++ [b])[i+1] = b) := by
    intro i h1
    by_cases h2 : i + 1 < (l ++ [a]).length
    · exact .inl ⟨h2, hg i (by omega), hg (i+1) h2⟩
    · have : i = l.length := by simp at h1 h2; omega
      subst this
      exact .inr ⟨(hg _ (by simp)).trans hla, hlb⟩
  refine ⟨fun h1 => ?_, fun i h1 => ?_, fun i h1 p hp => ?_, fun x hx => ?_⟩
  · rw [hg 0 (by simp)]; exact h.first (by simp)
  · rcases two i h1 with ⟨h2, e1, e2⟩ | ⟨e1, e2⟩
    · rw [e1, e2]; exact h.rise i h2
    · rw [e1, e2]; exact hab
  · rcases two i h1 with ⟨h2, e1, e2⟩ | ⟨e1, e2⟩
    · rw [e1, e2]; exact h.none i h2 p hp
    · rw [e1, e2]; exact hn p hp
  · rcases List.mem_append.1 hx with e | e
    · exact h.in32 x e
    · simp at e; subst e
      have := h.in32 a (by simp)
      omega
/-- how many places lie behind one -/
def behind (pts : List Int) (a : Int) : Nat := pts.countP (fun p => decide (a < p))
theorem behind_le (pts : List Int) (a : Int) : behind pts a ≤ pts.length := List.countP_le_length
theorem behind_lt {pts : List Int} {a b : Int} (hab : a < b) (hb : b ∈ pts) : behind pts b + 1 ≤ behind pts a := by
  unfold behind
  induction pts with
  | nil => cases hb
  | cons x r ih =>
    have mono : ∀ l : List Int, l.countP (fun p => decide (b < p)) ≤ l.countP (fun p => decide (a < p)) := fun l =>
      List.countP_mono_left fun p _ h => by simp at h ⊢; omega
    rw [List.countP_cons, List.countP_cons]
    rcases List.mem_cons.1 hb with e | e
    · subst e
      have := mono r
      rw [if_neg (by simp), if_pos (by simp [hab])]
      omega
    · have := ih e
      by_cases h1 : b < x
      · rw [if_pos (by simp [h1]), if_pos (by simp; omega)]; omega
      · rw [if_neg (by simp [h1])]
        split <;> omega
/-- the rounds of Changes: what was noted, and the place that comes -/
structure ChgI (pts l : List Int) (a : Int) : Prop where
  gap : Gap pts (l ++ [a])
  few : a < top32 → l.length + behind pts a ≤ pts.length
  last : a = top32 → l.length ≤ pts.length + 1
theorem ChgI.init (pts : List Int) : ChgI pts [] low32 := ⟨Gap.one pts, fun _ => by simpa using behind_le pts low32, fun h => by simp⟩
theorem ChgI.step {pts l : List Int} {a : Int} (h : ChgI pts l a) (ha : a < top32) : ChgI pts (l ++ [a]) (nextOf a pts) := by
  obtain ⟨h1, h2, h3, h4⟩ := nextOf_law a pts ha
  have hf := h.few ha
  refine ⟨h.gap.snoc h1 h4 h2, fun hl => ?_, fun hl => ?_⟩
  · rcases h3 with e | e
    · omega
    · have := behind_lt h1 e
      simp; omega
  · simp
    omega
theorem ChgI.lo {pts l : List Int} {a : Int} (h : ChgI pts l a) : low32 ≤ a ∧ a ≤ top32 := h.gap.in32 a (by simp)
theorem ChgI.len {pts l : List Int} {a : Int} (h : ChgI pts l a) : l.length ≤ pts.length + 1 := by
  have := h.lo
  by_cases h1 : a < top32
  · have := h.few h1; omega
  · exact h.last (by omega)
/-- one piece more of what is wanted, behind all others -/
def addK (o : List Rg) (r : Rg) : List Rg := match o.getLast? with
  | some q => if q.2 + 1 = r.1 then o.dropLast ++ [(q.1, r.2)] else o ++ [r]
  | none => [r]
theorem addK_len (m : List Rg) (r : Rg) : (addK m r).length ≤ m.length + 1 := by
  unfold addK
  split
  · split <;> simp
  · simp
theorem addK_addR {o : List Rg} {r : Rg} (hr : r.1 ≤ r.2) (h : ∀ q ∈ o, q.2 < r.1) : addK o r = addR o r := by
  unfold addK addR
  cases hq : o.getLast? with
  | none => rfl
  | some q =>
    have := h q (List.mem_of_getLast? hq)
    simp only
    by_cases e : q.2 + 1 = r.1
    · rw [if_pos e, if_pos (by omega), Int.max_eq_right (by omega)]
    · rw [if_neg e, if_neg (by omega)]
/-- what Kept has, so far: neat, and just what is wanted below a place -/
structure KeptI (want : Int → Bool) (a : Int) (o : List Rg) : Prop where
  neat : NeatP o
  holds : ∀ x, Holds1 o x ↔ low32 ≤ x ∧ x < a ∧ want x = true
  below : ∀ q ∈ o, q.2 < a
  wf : WfL o
theorem KeptI.nil (want : Int → Bool) : KeptI want low32 [] :=
  ⟨NeatP.nil, fun x => ⟨fun ⟨_, h, _⟩ => absurd h (by simp), fun h => by omega⟩, fun _ h => absurd h (by simp), WfL.nil⟩
theorem KeptI.skip {want : Int → Bool} {a b : Int} {o : List Rg} (h : KeptI want a o) (hab : a < b) (hw : ∀ x, a ≤ x → x < b → want x = false) : KeptI want b o := by
  refine ⟨h.neat, fun x => ?_, fun q hq => by have := h.below q hq; omega, h.wf⟩
  rw [h.holds]
  constructor
  · rintro ⟨h1, h2, h3⟩; exact ⟨h1, by omega, h3⟩
  · rintro ⟨h1, h2, h3⟩
    refine ⟨h1, ?_, h3⟩
    rcases Int.lt_or_le x a with h4 | h4
    · exact h4
    · rw [hw x h4 h2] at h3; cases h3
theorem KeptI.take {want : Int → Bool} {a b : Int} {o : List Rg} (h : KeptI want a o) (hab : a < b) (ha : low32 ≤ a) (hb : b ≤ top32) (hw : ∀ x, a ≤ x → x < b → want x = true) : KeptI want b (addK o (a, b - 1)) := by
  have hr : (a, b - 1).1 ≤ (a, b - 1).2 := by simp only; omega
  have hlow : ∀ z ∈ o, z.1 ≤ (a, b - 1).1 := fun z hz => by have := h.below z hz; have := h.neat.1 z hz; simp only; omega
  rw [addK_addR hr h.below]
  obtain ⟨h1, h2, h3⟩ := addR_law o (a, b - 1) h.neat hr hlow
  refine ⟨h1, fun x => ?_, fun q hq => ?_, WfL.addR h.wf (by unfold Wf low32 top32 at *; simp only; omega)⟩
  · rw [h2, h.holds]
    simp only
    constructor
    · rintro (⟨h4, h5, h6⟩ | ⟨h4, h5⟩)
      · exact ⟨h4, by omega, h6⟩
      · exact ⟨by omega, by omega, hw x h4 (by omega)⟩
    · rintro ⟨h4, h5, h6⟩
      rcases Int.lt_or_le x a with h7 | h7
      · exact .inl ⟨h4, h7, h6⟩
      · exact .inr ⟨h7, by omega⟩
  · have hq1 := h1.1 q hq
    have : Holds1 (addR o (a, b - 1)) q.2 := ⟨q, hq, hq1, Int.le_refl _⟩
    rw [h2, h.holds] at this
    simp only at this
    omega
/-- between two places a list holds all, or nothing -/
theorem gap_const {l : List Rg} {a b x : Int} (hn : ∀ p ∈ ptsOf l, ¬ (a < p ∧ p < b)) (h1 : a ≤ x) (h2 : x < b) : Holds1 l x ↔ Holds1 l a := by
  have hp : ∀ r ∈ l, r.1 ∈ ptsOf l ∧ r.2 + 1 ∈ ptsOf l := fun r hr => ⟨List.mem_flatMap.2 ⟨r, hr, by simp⟩, List.mem_flatMap.2 ⟨r, hr, by simp⟩⟩
  constructor
  · rintro ⟨r, hr, h3, h4⟩
    have a1 := hn _ (hp r hr).1
    have a2 := hn _ (hp r hr).2
    exact ⟨r, hr, by omega, by omega⟩
  · rintro ⟨r, hr, h3, h4⟩
    have a1 := hn _ (hp r hr).1
    have a2 := hn _ (hp r hr).2
    exact ⟨r, hr, by omega, by omega⟩
end Go.Proofs.Ytaoipffekmhioaa
