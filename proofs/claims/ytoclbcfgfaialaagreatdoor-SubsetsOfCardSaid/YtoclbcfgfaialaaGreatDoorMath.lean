/-
  Plain law: lists of ranges; the neat list of what a list holds; one neat list for what is held. No program in sight.
-/

namespace Go.Proofs.YtoclbcfgfaialaaGreatDoor
abbrev Rg := Int × Int
def someB (r : Rg) : Bool := decide (r.1 ≤ r.2)
def inB (x : Int) (r : Rg) : Bool := decide (r.1 ≤ x) && decide (x ≤ r.2)
theorem inB_iff (x : Int) (r : Rg) : inB x r = true ↔ r.1 ≤ x ∧ x ≤ r.2 := by simp [inB]
/-- the list holds x -/
def Holds1 (l : List Rg) (x : Int) : Prop := ∃ r ∈ l, r.1 ≤ x ∧ x ≤ r.2
theorem any_iff (l : List Rg) (x : Int) : l.any (inB x) = true ↔ Holds1 l x := by simp [Holds1, inB, List.any_eq_true]
/-- one range more, behind those that rise -/
def addR (out : List Rg) (r : Rg) : List Rg := match out.getLast? with
  | some q => if r.1 ≤ q.2 + 1 then out.dropLast ++ [(q.1, max q.2 r.2)] else out ++ [r]
  | none => [r]
def mergeL (l : List Rg) : List Rg := l.foldl addR []
theorem mergeL_snoc (l : List Rg) (k : Nat) (h : k < l.length) : mergeL (l.take (k+1)) = addR (mergeL (l.take k)) l[k] := by
  rw [List.take_succ_eq_append_getElem h, mergeL, List.foldl_append]
  rfl
theorem addR_len (m : List Rg) (r : Rg) : (addR m r).length ≤ m.length + 1 := by
  unfold addR
  split
  · split <;> simp
  · simp
theorem mergeL_len (l : List Rg) (k : Nat) (hk : k ≤ l.length) : (mergeL (l.take k)).length ≤ k := by
  induction k with
  | zero => simp [mergeL]
  | succ k ih =>
    rw [mergeL_snoc l k (by omega)]
    have := addR_len (mergeL (l.take k)) l[k]
    have := ih (by omega)
    omega
/-- its numbers are those of 32 bits -/
def Wf (r : Rg) : Prop := (-2147483648 ≤ r.1 ∧ r.1 ≤ 2147483647) ∧ (-2147483648 ≤ r.2 ∧ r.2 ≤ 2147483647)
def WfL (l : List Rg) : Prop := ∀ r ∈ l, Wf r
theorem WfL.nil : WfL [] := fun _ h => by cases h
theorem WfL.append {l m : List Rg} (hl : WfL l) (hm : WfL m) : WfL (l ++ m) := fun r h => by
  rcases List.mem_append.1 h with h | h
  · exact hl r h
  · exact hm r h
theorem WfL.addR {m : List Rg} {r : Rg} (hm : WfL m) (hr : Wf r) : WfL (addR m r) := by
  unfold YtoclbcfgfaialaaGreatDoor.addR
  split
  · rename_i q hq
    have hqw := hm q (List.mem_of_getLast? hq)
    split
    · intro x hx
      rcases List.mem_append.1 hx with h | h
      · exact hm x (List.dropLast_subset _ h)
      · simp at h; subst h; unfold Wf at *; simp only; omega
    · intro x hx
      rcases List.mem_append.1 hx with h | h
      · exact hm x h
      · simp at h; subst h; exact hr
  · intro x hx; simp at hx; subst hx; exact hr
/-- rising by Low -/
def Rising (l : List Rg) : Prop := l.Pairwise fun a b => a.1 ≤ b.1
/-- a neat list: no range of it is empty; they rise, and none touches the next one -/
def NeatP (l : List Rg) : Prop := (∀ r ∈ l, r.1 ≤ r.2) ∧ l.Pairwise fun a b => a.2 + 1 < b.1
theorem NeatP.nil : NeatP [] := ⟨fun _ h => by (cases h), List.Pairwise.nil⟩
theorem addR_law (m : List Rg) (r : Rg) (hm : NeatP m) (hr : r.1 ≤ r.2) (hlow : ∀ z ∈ m, z.1 ≤ r.1) :
    NeatP (addR m r) ∧ (∀ x, Holds1 (addR m r) x ↔ Holds1 m x ∨ (r.1 ≤ x ∧ x ≤ r.2)) ∧ ∀ z ∈ addR m r, z.1 ≤ r.1 := by
  rcases List.eq_nil_or_concat m with h0 | ⟨m0, q, h0⟩
  · subst h0
    refine ⟨⟨fun z hz => ?_, List.pairwise_singleton _ _⟩, fun x => ?_, fun z hz => ?_⟩
    · simp [addR] at hz; subst hz; exact hr
    · simp [addR, Holds1]
    · simp [addR] at hz; subst hz; exact Int.le_refl _
  · rw [List.concat_eq_append] at h0
    subst h0
    obtain ⟨h1, h2⟩ := hm
    rw [List.pairwise_append] at h2
    obtain ⟨p1, _, p3⟩ := h2
    have hq := h1 q (by simp)
    have hql := hlow q (by simp)
    by_cases hle : r.1 ≤ q.2 + 1
    · have ea : addR (m0 ++ [q]) r = m0 ++ [(q.1, max q.2 r.2)] := by simp [addR, hle]
      rw [ea]
      refine ⟨⟨fun z hz => ?_, ?_⟩, fun x => ?_, fun z hz => ?_⟩
      · rcases List.mem_append.1 hz with h | h
        · exact h1 z (by simp [h])
        · simp at h; subst h; simp only; omega
      · rw [List.pairwise_append]
        refine ⟨p1, List.pairwise_singleton _ _, fun a ha b hb => ?_⟩
        simp at hb; subst hb
        exact p3 a ha q (by simp)
      · constructor
        · rintro ⟨z, hz, hx⟩
          rcases List.mem_append.1 hz with h | h
          · exact .inl ⟨z, by simp [h], hx⟩
          · simp at h; subst h
            simp only at hx
            by_cases h5 : x ≤ q.2
            · exact .inl ⟨q, by simp, by omega⟩
            · exact .inr (by omega)
        · rintro (⟨z, hz, hx⟩ | hx)
          · rcases List.mem_append.1 hz with h | h
            · exact ⟨z, by simp [h], hx⟩
            · simp at h; subst h
              exact ⟨(z.1, max z.2 r.2), by simp, by simp only; omega⟩
          · exact ⟨(q.1, max q.2 r.2), by simp, by simp only; omega⟩
      · rcases List.mem_append.1 hz with h | h
        · exact hlow z (by simp [h])
        · simp at h; subst h; exact hql
    · have ea : addR (m0 ++ [q]) r = m0 ++ [q] ++ [r] := by simp [addR]; omega
      rw [ea]
      refine ⟨⟨fun z hz => ?_, ?_⟩, fun x => ?_, fun z hz => ?_⟩
      · rcases List.mem_append.1 hz with h | h
        · exact h1 z h
        · simp at h; subst h; exact hr
      · rw [List.pairwise_append]
        refine ⟨List.pairwise_append.2 ⟨p1, List.pairwise_singleton _ _, p3⟩, List.pairwise_singleton _ _, fun a ha b hb => ?_⟩
        simp at hb; subst hb
        rcases List.mem_append.1 ha with h | h
        · have := p3 a h q (by simp); omega
        · simp at h; subst h; omega
      · constructor
        · rintro ⟨z, hz, hx⟩
          rcases List.mem_append.1 hz with h | h
          · exact .inl ⟨z, h, hx⟩
          · simp at h; subst h; exact .inr hx
        · rintro (⟨z, hz, hx⟩ | hx)
          · exact ⟨z, List.mem_append_left _ hz, hx⟩
          · exact ⟨r, by simp, hx⟩
      · rcases List.mem_append.1 hz with h | h
        · exact hlow z h
        · simp at h; subst h; exact Int.le_refl _
theorem mergeL_law (l : List Rg) (hr : Rising l) (hs : ∀ r ∈ l, r.1 ≤ r.2) : NeatP (mergeL l) ∧ ∀ x, Holds1 (mergeL l) x ↔ Holds1 l x := by
  suffices H : ∀ k, k ≤ l.length → NeatP (mergeL (l.take k)) ∧ (∀ x, Holds1 (mergeL (l.take k)) x ↔ Holds1 (l.take k) x) ∧ ∀ z ∈ mergeL (l.take k), ∀ j (hj : j < l.length), k ≤ j → z.1 ≤ l[j].1 by
    have := H l.length (Nat.le_refl _)
    rw [List.take_length] at this
    exact ⟨this.1, this.2.1⟩
  intro k
  induction k with
  | zero => intro _; simp [mergeL, NeatP.nil]
  | succ k ih =>
    intro hk
    obtain ⟨i1, i2, i3⟩ := ih (by omega)
    rw [mergeL_snoc l k (by omega)]
    obtain ⟨a1, a2, a3⟩ := addR_law (mergeL (l.take k)) l[k] i1 (hs _ (List.getElem_mem _)) (fun z hz => i3 z hz k (by omega) (Nat.le_refl _))
    refine ⟨a1, fun x => ?_, fun z hz j hj hkj => ?_⟩
    · rw [a2, i2, List.take_succ_eq_append_getElem (by omega)]
      constructor
      · rintro (⟨z, hz, hx⟩ | hx)
        · exact ⟨z, List.mem_append_left _ hz, hx⟩
        · exact ⟨l[k], List.mem_append_right _ (List.mem_singleton.2 rfl), hx⟩
      · rintro ⟨z, hz, hx⟩
        rcases List.mem_append.1 hz with h | h
        · exact .inl ⟨z, h, hx⟩
        · simp at h; subst h; exact .inr hx
    · have h1 := a3 z hz
      have h2 := (List.pairwise_iff_getElem.1 hr) k j (by omega) hj (by omega)
      omega
/-- one neat list for what is held -/
theorem neat_unique (a b : List Rg) (ha : NeatP a) (hb : NeatP b) (h : ∀ x, Holds1 a x ↔ Holds1 b x) : a = b := by
  induction a generalizing b with
  | nil =>
    cases b with
    | nil => rfl
    | cons s b =>
      have := hb.1 s (by simp)
      obtain ⟨r, hr, _⟩ := (h s.1).2 ⟨s, by simp, by omega⟩
      cases hr
  | cons r a ih =>
    cases b with
    | nil =>
      have := ha.1 r (by simp)
      obtain ⟨s, hs, _⟩ := (h r.1).1 ⟨r, by simp, by omega⟩
      cases hs
    | cons s b =>
      obtain ⟨ha1, ha2⟩ := ha
      obtain ⟨hb1, hb2⟩ := hb
      rw [List.pairwise_cons] at ha2 hb2
      have hr := ha1 r (by simp)
      have hs := hb1 s (by simp)
      have low : ∀ (p q : Rg) (l m : List Rg), p.1 ≤ p.2 → q.1 ≤ q.2 → (∀ z ∈ m, q.2 + 1 < z.1) → (∀ x, Holds1 (p :: l) x → Holds1 (q :: m) x) → q.1 ≤ p.1 := by
        intro p q l m h1 h2 h3 h4
        obtain ⟨z, hz, hx⟩ := h4 p.1 ⟨p, by simp, by omega⟩
        rcases List.mem_cons.1 hz with e | e
        · subst e; exact hx.1
        · have := h3 z e; omega
      have e1 : r.1 = s.1 := by
        have := low r s a b hr hs hb2.1 (fun x => (h x).1)
        have := low s r b a hs hr ha2.1 (fun x => (h x).2)
        omega
      have high : ∀ (p q : Rg) (l m : List Rg), p.1 = q.1 → p.1 ≤ p.2 → q.1 ≤ q.2 → (∀ z ∈ m, q.2 + 1 < z.1) → (∀ x, Holds1 (p :: l) x → Holds1 (q :: m) x) → p.2 ≤ q.2 := by
        intro p q l m h0 h1 h2 h3 h4
        rcases Int.lt_or_le q.2 p.2 with hlt | hle
        · obtain ⟨z, hz, hx⟩ := h4 (q.2 + 1) ⟨p, by simp, by omega⟩
          rcases List.mem_cons.1 hz with e | e
          · subst e; omega
          · have := h3 z e; omega
        · exact hle
      have e2 : r.2 = s.2 := by
        have := high r s a b e1 hr hs hb2.1 (fun x => (h x).1)
        have := high s r b a e1.symm hs hr ha2.1 (fun x => (h x).2)
        omega
      have e : r = s := Prod.ext e1 e2
      subst e
      congr 1
      refine ih b ⟨fun z hz => ha1 z (by simp [hz]), ha2.2⟩ ⟨fun z hz => hb1 z (by simp [hz]), hb2.2⟩ ?_
      have rest : ∀ (l m : List Rg), (∀ z ∈ l, r.2 + 1 < z.1) → (∀ x, Holds1 (r :: l) x → Holds1 (r :: m) x) → ∀ x, Holds1 l x → Holds1 m x := by
        rintro l m h1 h2 x ⟨z, hz, hx⟩
        obtain ⟨y, hy, hxy⟩ := h2 x ⟨z, by simp [hz], hx⟩
        rcases List.mem_cons.1 hy with e | e
        · subst e; have := h1 z hz; omega
        · exact ⟨y, e, hxy⟩
      exact fun x => ⟨rest a b ha2.1 (fun x => (h x).1) x, rest b a hb2.1 (fun x => (h x).2) x⟩
def leLow (a b : Rg) : Bool := decide (a.1 ≤ b.1)
/-- the neat list -/
def neatOf (l : List Rg) : List Rg := mergeL ((l.filter someB).mergeSort leLow)
theorem holds_filter (l : List Rg) (x : Int) : Holds1 (l.filter someB) x ↔ Holds1 l x := by
  constructor
  · rintro ⟨r, hr, hx⟩; exact ⟨r, (List.mem_filter.1 hr).1, hx⟩
  · rintro ⟨r, hr, hx⟩; exact ⟨r, List.mem_filter.2 ⟨hr, by simp [someB]; omega⟩, hx⟩
theorem holds_perm {l m : List Rg} (h : l.Perm m) (x : Int) : Holds1 l x ↔ Holds1 m x := by
  constructor
  · rintro ⟨r, hr, hx⟩; exact ⟨r, h.mem_iff.1 hr, hx⟩
  · rintro ⟨r, hr, hx⟩; exact ⟨r, h.mem_iff.2 hr, hx⟩
theorem rising_sort (l : List Rg) : Rising (l.mergeSort leLow) := by
  have := List.pairwise_mergeSort (le := leLow) (fun a b c h1 h2 => by simp [leLow] at *; omega) (fun a b => by simp [leLow]; omega) l
  exact this.imp (fun h => by simpa [leLow] using h)
theorem merge_any (l l' : List Rg) (hp : l'.Perm (l.filter someB)) (hr : Rising l') : NeatP (mergeL l') ∧ ∀ x, Holds1 (mergeL l') x ↔ Holds1 l x := by
  have := mergeL_law l' hr (fun r h => by simpa [someB] using (List.mem_filter.1 (hp.mem_iff.1 h)).2)
  exact ⟨this.1, fun x => by rw [this.2, holds_perm hp, holds_filter]⟩
theorem neatOf_law (l : List Rg) : NeatP (neatOf l) ∧ ∀ x, Holds1 (neatOf l) x ↔ Holds1 l x := merge_any l _ (List.mergeSort_perm _ _) (rising_sort _)
theorem neatOf_eq (l l' : List Rg) (hp : l'.Perm (l.filter someB)) (hr : Rising l') : mergeL l' = neatOf l :=
  neat_unique _ _ (merge_any l l' hp hr).1 (neatOf_law l).1 fun x => by rw [(merge_any l l' hp hr).2, (neatOf_law l).2]
theorem WfL.merge (l : List Rg) (h : WfL l) : WfL (mergeL l) := by
  suffices H : ∀ k, k ≤ l.length → WfL (mergeL (l.take k)) by
    have := H l.length (Nat.le_refl _)
    rwa [List.take_length] at this
  intro k
  induction k with
  | zero => intro _; exact WfL.nil
  | succ k ih => intro hk; rw [mergeL_snoc l k (by omega)]; exact WfL.addR (ih (by omega)) (h _ (List.getElem_mem _))
theorem WfL.neatOf {l : List Rg} (h : WfL l) : WfL (neatOf l) := WfL.merge _ fun r hr => h r (List.mem_filter.1 ((List.mergeSort_perm _ _).mem_iff.1 hr)).1
theorem neatOf_len (l : List Rg) : (neatOf l).length ≤ l.length := by
  have h := mergeL_len ((l.filter someB).mergeSort leLow) _ (Nat.le_refl _)
  rw [List.take_length, List.length_mergeSort] at h
  exact Nat.le_trans h (List.length_filter_le _ _)
theorem neatOf_self {l : List Rg} (h : NeatP l) : neatOf l = l := neat_unique _ _ (neatOf_law l).1 h (neatOf_law l).2
end Go.Proofs.YtoclbcfgfaialaaGreatDoor

/-
  The document's answer for ranges: the places where something may change, and the neat list of what is wanted. Plain law, no program in sight.
-/
namespace Go.Proofs.YtoclbcfgfaialaaGreatDoor
/-- where a range begins, and where it is over -/
def ptsOf (l : List Rg) : List Int := l.flatMap fun r => [r.1, r.2 + 1]
theorem ptsOf_append (a b : List Rg) : ptsOf (a ++ b) = ptsOf a ++ ptsOf b := by simp [ptsOf]
theorem ptsOf_len (l : List Rg) : (ptsOf l).length = 2 * l.length := by
  induction l with
  | nil => rfl
  | cons x r ih => rw [ptsOf, List.flatMap_cons, List.length_append, ← ptsOf, ih]; simp; omega
def top32 : Int := 2147483648
/-- the lesser one of a place so far and one more, if that lies behind 'at' -/
def stepN (a n p : Int) : Int := if a < p ∧ p < n then p else n
def nextOf (a : Int) (pts : List Int) : Int := pts.foldl (stepN a) top32
theorem nextOf_snoc2 (a : Int) (l : List Rg) (k : Nat) (h : k < l.length) (pre : List Int) :
    nextOf a (pre ++ ptsOf (l.take (k+1))) = stepN a (stepN a (nextOf a (pre ++ ptsOf (l.take k))) l[k].1) (l[k].2 + 1) := by
  rw [List.take_succ_eq_append_getElem h, ptsOf_append, ← List.append_assoc, nextOf, List.foldl_append]
  rfl
theorem stepN_law (a n p : Int) (h : a < n) : a < stepN a n p ∧ stepN a n p ≤ n ∧ (stepN a n p = n ∨ stepN a n p = p) ∧ ¬ (a < p ∧ p < stepN a n p) := by
  unfold stepN; split <;> omega
theorem foldN_law (a : Int) (pts : List Int) (n : Int) (h : a < n) :
    a < pts.foldl (stepN a) n ∧ pts.foldl (stepN a) n ≤ n ∧ (pts.foldl (stepN a) n = n ∨ pts.foldl (stepN a) n ∈ pts) ∧ ∀ p ∈ pts, ¬ (a < p ∧ p < pts.foldl (stepN a) n) := by
  induction pts generalizing n with
  | nil => exact ⟨h, Int.le_refl _, .inl rfl, fun p hp => by cases hp⟩
  | cons x r ih =>
    obtain ⟨h1, h2, h3, h4⟩ := stepN_law a n x h
    obtain ⟨i1, i2, i3, i4⟩ := ih (stepN a n x) h1
    rw [List.foldl_cons]
    refine ⟨i1, by omega, ?_, fun p hp => ?_⟩
    · rcases i3 with e | e
      · rcases h3 with f | f
        · exact .inl (e.trans f)
        · exact .inr (by rw [e, f]; simp)
      · exact .inr (List.mem_cons_of_mem _ e)
    · rcases List.mem_cons.1 hp with e | e
      · subst e; omega
      · exact i4 p e
theorem nextOf_law (a : Int) (pts : List Int) (h : a < top32) :
    a < nextOf a pts ∧ nextOf a pts ≤ top32 ∧ (nextOf a pts = top32 ∨ nextOf a pts ∈ pts) ∧ ∀ p ∈ pts, ¬ (a < p ∧ p < nextOf a pts) := foldN_law a pts top32 h
def low32 : Int := -2147483648
/-- places that rise from the least number on, and no change lies between two of them -/
structure Gap (pts l : List Int) : Prop where
  first : ∀ h : 0 < l.length, l[0] = low32
  rise : ∀ i (h : i + 1 < l.length), l[i] < l[i+1]
  none : ∀ i (h : i + 1 < l.length), ∀ p ∈ pts, ¬ (l[i] < p ∧ p < l[i+1])
  in32 : ∀ x ∈ l, low32 ≤ x ∧ x ≤ top32
theorem Gap.one (pts : List Int) : Gap pts [low32] :=
  ⟨fun _ => rfl, fun i h => absurd h (by simp), fun i h => absurd h (by simp), fun x hx => by simp at hx; subst hx; unfold low32 top32; omega⟩
theorem Gap.snoc {pts l : List Int} {a b : Int} (h : Gap pts (l ++ [a])) (hab : a < b) (hn : ∀ p ∈ pts, ¬ (a < p ∧ p < b)) (hb : b ≤ top32) : Gap pts (l ++ [a] ++ [b]) := by
  have hlen : (l ++ [a]).length = l.length + 1 := by simp
  have hg : ∀ i (h1 : i < (l ++ [a]).length), (l ++ [a] ++ [b])[i]'(by simp at h1 ⊢; omega) = (l ++ [a])[i] := fun i h1 => List.getElem_append_left h1
  have hla : (l ++ [a])[l.length]'(by simp) = a := by simp
  have hlb : (l ++ [a] ++ [b])[l.length + 1]'(by simp) = b := by rw [List.getElem_append_right (by simp)]; simp
  have two : ∀ i (h1 : i + 1 < (l ++ [a] ++ [b]).length), (∃ h2 : i + 1 < (l ++ [a]).length, (l ++ [a] ++ [b])[i] = (l ++ [a])[i] ∧ (l ++ [a] ++ [b])[i+1] = (l ++ [a])[i+1]) ∨ ((l ++ [a] ++ [b])[i] = a ∧ (l ++ [a] ++ [b])[i+1] = b) := by
    intro i h1
    by_cases h2 : i + 1 < (l ++ [a]).length
    · exact .inl ⟨h2, hg i (by omega), hg (i+1) h2⟩
    · have : i = l.length := by simp at h1 h2; omega
      subst this
      exact .inr ⟨(hg _ (by simp)).trans hla, hlb⟩
  refine ⟨fun h1 => ?_, fun i h1 => ?_, fun i h1 p hp => ?_, fun x hx => ?_⟩
  · rw [hg 0 (by simp)]; exact h.first (by simp)
  · rcases two i h1 with ⟨h2, e1, e2⟩ | ⟨e1, e2⟩
    · rw [e1, e2]; exact h.rise i h2
    · rw [e1, e2]; exact hab
  · rcases two i h1 with ⟨h2, e1, e2⟩ | ⟨e1, e2⟩
    · rw [e1, e2]; exact h.none i h2 p hp
    · rw [e1, e2]; exact hn p hp
  · rcases List.mem_append.1 hx with e | e
    · exact h.in32 x e
    · simp at e; subst e
      have := h.in32 a (by simp)
      omega
/-- how many places lie behind one -/
def behind (pts : List Int) (a : Int) : Nat := pts.countP (fun p => decide (a < p))
theorem behind_le (pts : List Int) (a : Int) : behind pts a ≤ pts.length := List.countP_le_length
theorem behind_lt {pts : List Int} {a b : Int} (hab : a < b) (hb : b ∈ pts) : behind pts b + 1 ≤ behind pts a := by
  unfold behind
  induction pts with
  | nil => cases hb
  | cons x r ih =>
    have mono : ∀ l : List Int, l.countP (fun p => decide (b < p)) ≤ l.countP (fun p => decide (a < p)) := fun l =>
      List.countP_mono_left fun p _ h => by simp at h ⊢; omega
    rw [List.countP_cons, List.countP_cons]
    rcases List.mem_cons.1 hb with e | e
    · subst e
      have := mono r
      rw [if_neg (by simp), if_pos (by simp [hab])]
      omega
    · have := ih e
      by_cases h1 : b < x
      · rw [if_pos (by simp [h1]), if_pos (by simp; omega)]; omega
      · rw [if_neg (by simp [h1])]
        split <;> omega
/-- the rounds of Changes: what was noted, and the place that comes -/
structure ChgI (pts l : List Int) (a : Int) : Prop where
  gap : Gap pts (l ++ [a])
  few : a < top32 → l.length + behind pts a ≤ pts.length
  last : a = top32 → l.length ≤ pts.length + 1
theorem ChgI.init (pts : List Int) : ChgI pts [] low32 := ⟨Gap.one pts, fun _ => by simpa using behind_le pts low32, fun h => by simp⟩
theorem ChgI.step {pts l : List Int} {a : Int} (h : ChgI pts l a) (ha : a < top32) : ChgI pts (l ++ [a]) (nextOf a pts) := by
  obtain ⟨h1, h2, h3, h4⟩ := nextOf_law a pts ha
  have hf := h.few ha
  refine ⟨h.gap.snoc h1 h4 h2, fun hl => ?_, fun hl => ?_⟩
  · rcases h3 with e | e
    · omega
    · have := behind_lt h1 e
      simp; omega
  · simp
    omega
theorem ChgI.lo {pts l : List Int} {a : Int} (h : ChgI pts l a) : low32 ≤ a ∧ a ≤ top32 := h.gap.in32 a (by simp)
theorem ChgI.len {pts l : List Int} {a : Int} (h : ChgI pts l a) : l.length ≤ pts.length + 1 := by
  have := h.lo
  by_cases h1 : a < top32
  · have := h.few h1; omega
  · exact h.last (by omega)
/-- one piece more of what is wanted, behind all others -/
def addK (o : List Rg) (r : Rg) : List Rg := match o.getLast? with
  | some q => if q.2 + 1 = r.1 then o.dropLast ++ [(q.1, r.2)] else o ++ [r]
  | none => [r]
theorem addK_len (m : List Rg) (r : Rg) : (addK m r).length ≤ m.length + 1 := by
  unfold addK
  split
  · split <;> simp
  · simp
theorem addK_addR {o : List Rg} {r : Rg} (hr : r.1 ≤ r.2) (h : ∀ q ∈ o, q.2 < r.1) : addK o r = addR o r := by
  unfold addK addR
  cases hq : o.getLast? with
  | none => rfl
  | some q =>
    have := h q (List.mem_of_getLast? hq)
    simp only
    by_cases e : q.2 + 1 = r.1
    · rw [if_pos e, if_pos (by omega), Int.max_eq_right (by omega)]
    · rw [if_neg e, if_neg (by omega)]
/-- what Kept has, so far: neat, and just what is wanted below a place -/
structure KeptI (want : Int → Bool) (a : Int) (o : List Rg) : Prop where
  neat : NeatP o
  holds : ∀ x, Holds1 o x ↔ low32 ≤ x ∧ x < a ∧ want x = true
  below : ∀ q ∈ o, q.2 < a
  wf : WfL o
theorem KeptI.nil (want : Int → Bool) : KeptI want low32 [] :=
  ⟨NeatP.nil, fun x => ⟨fun ⟨_, h, _⟩ => absurd h (by simp), fun h => by omega⟩, fun _ h => absurd h (by simp), WfL.nil⟩
theorem KeptI.skip {want : Int → Bool} {a b : Int} {o : List Rg} (h : KeptI want a o) (hab : a < b) (hw : ∀ x, a ≤ x → x < b → want x = false) : KeptI want b o := by
  refine ⟨h.neat, fun x => ?_, fun q hq => by have := h.below q hq; omega, h.wf⟩
  rw [h.holds]
  constructor
  · rintro ⟨h1, h2, h3⟩; exact ⟨h1, by omega, h3⟩
  · rintro ⟨h1, h2, h3⟩
    refine ⟨h1, ?_, h3⟩
    rcases Int.lt_or_le x a with h4 | h4
    · exact h4
    · rw [hw x h4 h2] at h3; cases h3
theorem KeptI.take {want : Int → Bool} {a b : Int} {o : List Rg} (h : KeptI want a o) (hab : a < b) (ha : low32 ≤ a) (hb : b ≤ top32) (hw : ∀ x, a ≤ x → x < b → want x = true) : KeptI want b (addK o (a, b - 1)) := by
  have hr : (a, b - 1).1 ≤ (a, b - 1).2 := by simp only; omega
  have hlow : ∀ z ∈ o, z.1 ≤ (a, b - 1).1 := fun z hz => by have := h.below z hz; have := h.neat.1 z hz; simp only; omega
  rw [addK_addR hr h.below]
  obtain ⟨h1, h2, h3⟩ := addR_law o (a, b - 1) h.neat hr hlow
  refine ⟨h1, fun x => ?_, fun q hq => ?_, WfL.addR h.wf (by unfold Wf low32 top32 at *; simp only; omega)⟩
  · rw [h2, h.holds]
    simp only
    constructor
    · rintro (⟨h4, h5, h6⟩ | ⟨h4, h5⟩)
      · exact ⟨h4, by omega, h6⟩
      · exact ⟨by omega, by omega, hw x h4 (by omega)⟩
    · rintro ⟨h4, h5, h6⟩
      rcases Int.lt_or_le x a with h7 | h7
      · exact .inl ⟨h4, h7, h6⟩
      · exact .inr ⟨h7, by omega⟩
  · have hq1 := h1.1 q hq
    have : Holds1 (addR o (a, b - 1)) q.2 := ⟨q, hq, hq1, Int.le_refl _⟩
    rw [h2, h.holds] at this
    simp only at this
    omega
/-- between two places a list holds all, or nothing -/
theorem gap_const {l : List Rg} {a b x : Int} (hn : ∀ p ∈ ptsOf l, ¬ (a < p ∧ p < b)) (h1 : a ≤ x) (h2 : x < b) : Holds1 l x ↔ Holds1 l a := by
  have hp : ∀ r ∈ l, r.1 ∈ ptsOf l ∧ r.2 + 1 ∈ ptsOf l := fun r hr => ⟨List.mem_flatMap.2 ⟨r, hr, by simp⟩, List.mem_flatMap.2 ⟨r, hr, by simp⟩⟩
  constructor
  · rintro ⟨r, hr, h3, h4⟩
    have a1 := hn _ (hp r hr).1
    have a2 := hn _ (hp r hr).2
    exact ⟨r, hr, by omega, by omega⟩
  · rintro ⟨r, hr, h3, h4⟩
    have a1 := hn _ (hp r hr).1
    have a2 := hn _ (hp r hr).2
    exact ⟨r, hr, by omega, by omega⟩
end Go.Proofs.YtoclbcfgfaialaaGreatDoor
