/-
  Plain law: places, pieces between them, what parts and Split make. No program in sight.
-/
import Derived.Test.YtoclbcfgfaialaaGreatDoorSplit
namespace Go.Proofs.YtoclbcfgfaialaaGreatDoor
/-- one list that rises strictly for what members it has -/
theorem strict_unique (a b : List Int) (ha : a.Pairwise (· < ·)) (hb : b.Pairwise (· < ·)) (h : ∀ x, x ∈ a ↔ x ∈ b) : a = b := by
  induction a generalizing b with
  | nil =>
    cases b with
    | nil => rfl
    | cons s b => exact absurd ((h s).2 (by simp)) (by simp)
  | cons r a ih =>
    cases b with
    | nil => exact absurd ((h r).1 (by simp)) (by simp)
    | cons s b =>
      rw [List.pairwise_cons] at ha hb
      have e : r = s := by
        have h1 := (h r).1 (by simp)
        have h2 := (h s).2 (by simp)
        rcases List.mem_cons.1 h1 with e | e
        · exact e
        · rcases List.mem_cons.1 h2 with e' | e'
          · exact e'.symm
          · have := hb.1 r e; have := ha.1 s e'; omega
      subst e
      congr 1
      refine ih b ha.2 hb.2 fun x => ⟨fun hx => ?_, fun hx => ?_⟩
      · rcases List.mem_cons.1 ((h x).1 (by simp [hx])) with e | e
        · subst e; exact absurd (ha.1 x hx) (by omega)
        · exact e
      · rcases List.mem_cons.1 ((h x).2 (by simp [hx])) with e | e
        · subst e; exact absurd (hb.1 x hx) (by omega)
        · exact e
theorem placesOf_eq (l p : List Int) (hp : p.Pairwise (· < ·)) (h : ∀ x, x ∈ p ↔ x ∈ l) : placesOf l = p :=
  strict_unique _ _ (placesOf_law l).1 hp fun x => by rw [(placesOf_law l).2, h]
theorem pairs_law (p : List Int) (hp : p.Pairwise (· < ·)) :
    (∀ r ∈ pairs p, r.1 ∈ p ∧ r.2 + 1 ∈ p ∧ r.1 ≤ r.2 ∧ ∀ y ∈ p, y ≤ r.1 ∨ r.2 + 1 ≤ y) ∧ (pairs p).Pairwise (fun a b => a.2 < b.1) ∧
    (∀ u ∈ p, ∀ v ∈ p, ∀ x, u ≤ x → x < v → Holds1 (pairs p) x) := by
  induction p with
  | nil => simp [pairs]
  | cons a r ih =>
    cases r with
    | nil =>
      refine ⟨by simp [pairs], by simp [pairs], ?_⟩
      intro u hu v hv x h1 h2
      simp at hu hv
      omega
    | cons b r =>
      rw [List.pairwise_cons] at hp
      obtain ⟨i1, i2, i3⟩ := ih hp.2
      have hab := hp.1 b (by simp)
      have hbr := (List.pairwise_cons.1 hp.2).1
      refine ⟨?_, ?_, ?_⟩
      · intro q hq
        simp only [pairs, List.mem_cons] at hq
        rcases hq with rfl | hq
        · refine ⟨by simp, by simp, by simp only; omega, fun y hy => ?_⟩
          simp only [List.mem_cons] at hy
          simp only
          rcases hy with rfl | rfl | hy
          · exact .inl (Int.le_refl _)
          · exact .inr (by omega)
          · have := hbr y hy; exact .inr (by omega)
        · obtain ⟨h1, h2, h3, h4⟩ := i1 q hq
          refine ⟨List.mem_cons_of_mem _ h1, List.mem_cons_of_mem _ h2, h3, fun y hy => ?_⟩
          rcases List.mem_cons.1 hy with rfl | hy
          · have := hp.1 q.1 h1; exact .inl (by omega)
          · exact h4 y hy
      · simp only [pairs]
        rw [List.pairwise_cons]
        refine ⟨fun q hq => ?_, i2⟩
        have := (i1 q hq).1
        simp only
        rcases List.mem_cons.1 this with e | e
        · omega
        · have := hbr _ e; omega
      · intro u hu v hv x h1 h2
        by_cases hx : x < b
        · refine ⟨(a, b-1), by simp [pairs], ?_⟩
          simp only
          rcases List.mem_cons.1 hu with rfl | hu
          · omega
          · rcases List.mem_cons.1 hu with rfl | hu
            · omega
            · have := hbr u hu; omega
        · have hv' : v ∈ b :: r := by
            rcases List.mem_cons.1 hv with rfl | hv
            · omega
            · exact hv
          obtain ⟨q, hq, hqx⟩ := i3 b (by simp) v hv' x (by omega) h2
          exact ⟨q, by simp only [pairs, List.mem_cons]; exact .inr hq, hqx⟩
theorem hasB_holds (l : List Rg) (x : Int) : hasB l x = true ↔ Holds1 l x := by rw [hasB_iff, any_iff]
/-- the ends of a list are among the places -/
theorem ends_mem {lls : List (List Rg)} {l : List Rg} (hl : l ∈ lls) {r : Rg} (hr : r ∈ l) (hs : r.1 ≤ r.2) : r.1 ∈ placesOf (endsOf lls) ∧ r.2 + 1 ∈ placesOf (endsOf lls) := by
  have hf : r ∈ l.filter someB := List.mem_filter.2 ⟨hr, by simp [someB, hs]⟩
  constructor <;> rw [(placesOf_law _).2] <;> exact List.mem_flatMap.2 ⟨l, hl, List.mem_flatMap.2 ⟨r, hf, by simp⟩⟩
/-- between two places a list holds all or nothing -/
theorem piece_const {lls : List (List Rg)} {l : List Rg} (hl : l ∈ lls) {c : Rg} (hc : c ∈ pairs (placesOf (endsOf lls))) {x : Int} (h1 : c.1 ≤ x) (h2 : x ≤ c.2) : Holds1 l x ↔ Holds1 l c.1 := by
  obtain ⟨_, _, _, h4⟩ := (pairs_law _ (placesOf_law (endsOf lls)).1).1 c hc
  constructor
  · rintro ⟨r, hr, hx⟩
    obtain ⟨e1, e2⟩ := ends_mem hl hr (by omega)
    have := h4 _ e1
    have := h4 _ e2
    exact ⟨r, hr, by omega⟩
  · rintro ⟨r, hr, hx⟩
    obtain ⟨e1, e2⟩ := ends_mem hl hr (by omega)
    have := h4 _ e1
    have := h4 _ e2
    exact ⟨r, hr, by omega⟩
theorem piece_cover {lls : List (List Rg)} {l : List Rg} (hl : l ∈ lls) {x : Int} (hx : Holds1 l x) : Holds1 (pairs (placesOf (endsOf lls))) x := by
  obtain ⟨r, hr, h⟩ := hx
  obtain ⟨e1, e2⟩ := ends_mem hl hr (by omega)
  exact (pairs_law _ (placesOf_law (endsOf lls)).1).2.2 _ e1 _ e2 x h.1 (by omega)
theorem holds_neat (l : List Rg) (x : Int) : Holds1 (neatOf l) x ↔ Holds1 l x := (neatOf_law l).2 x
/-- all lists hold both alike -/
def Alike (lls : List (List Rg)) (x y : Int) : Prop := ∀ l ∈ lls, Holds1 l x ↔ Holds1 l y
/-- beyond lo: what lists are split into -/
structure SplitP (lls : List (List Rg)) (lo : Int) (m : List Rg) : Prop where
  some : ∀ r ∈ m, r.1 ≤ r.2
  rise : m.Pairwise fun a b => a.2 < b.1
  alike : ∀ r ∈ m, ∀ x, r.1 ≤ x → x ≤ r.2 → Alike lls r.1 x
  held : ∀ x, Holds1 m x ↔ lo < x ∧ ∃ l ∈ lls, Holds1 l x
  apart : ∀ a ∈ m, ∀ b ∈ m, a.2 + 1 = b.1 → ¬ Alike lls a.1 b.1
theorem split_unique (lls : List (List Rg)) (a b : List Rg) (lo : Int) (ha : SplitP lls lo a) (hb : SplitP lls lo b) : a = b := by
  induction a generalizing b lo with
  | nil =>
    cases b with
    | nil => rfl
    | cons s b =>
      have h0 := hb.some s (by simp)
      obtain ⟨r, hr, _⟩ := (ha.held s.1).2 ((hb.held s.1).1 ⟨s, by simp, by omega⟩)
      cases hr
  | cons r a ih =>
    cases b with
    | nil =>
      have h0 := ha.some r (by simp)
      obtain ⟨s, hs, _⟩ := (hb.held r.1).2 ((ha.held r.1).1 ⟨r, by simp, by omega⟩)
      cases hs
    | cons s b =>
      have hr := ha.some r (by simp)
      have hs := hb.some s (by simp)
      have ra := (List.pairwise_cons.1 ha.rise).1
      have rb := (List.pairwise_cons.1 hb.rise).1
      have low : ∀ (p q : Rg) (l m : List Rg), SplitP lls lo (p :: l) → SplitP lls lo (q :: m) → q.1 ≤ p.1 := by
        intro p q l m h1 h2
        have hp := h1.some p (by simp)
        obtain ⟨z, hz, hx⟩ := (h2.held p.1).2 ((h1.held p.1).1 ⟨p, by simp, by omega⟩)
        rcases List.mem_cons.1 hz with e | e
        · subst e; exact hx.1
        · have h3 := (List.pairwise_cons.1 h2.rise).1 z e
          have := h2.some q (by simp)
          omega
      have e1 : r.1 = s.1 := by
        have := low r s a b ha hb
        have := low s r b a hb ha
        omega
      have high : ∀ (p q : Rg) (l m : List Rg), SplitP lls lo (p :: l) → SplitP lls lo (q :: m) → p.1 = q.1 → q.2 ≤ p.2 := by
        intro p q l m h1 h2 h0
        rcases Int.lt_or_le p.2 q.2 with hlt | hle
        · have hp := h1.some p (by simp)
          have hin : Holds1 (q :: m) (p.2 + 1) := ⟨q, by simp, by omega⟩
          obtain ⟨z, hz, hx⟩ := (h1.held (p.2 + 1)).2 ((h2.held (p.2 + 1)).1 hin)
          rcases List.mem_cons.1 hz with e | e
          · subst e; omega
          · have h3 := (List.pairwise_cons.1 h1.rise).1 z e
            have hz1 : p.2 + 1 = z.1 := by omega
            refine absurd ?_ (h1.apart p (by simp) z hz hz1)
            intro l hl
            rw [h0]
            exact (h2.alike q (by simp) z.1 (by omega) (by omega)) l hl
        · exact hle
      have e2 : r.2 = s.2 := by
        have := high r s a b ha hb e1
        have := high s r b a hb ha e1.symm
        omega
      have e : r = s := Prod.ext e1 e2
      subst e
      congr 1
      have tail : ∀ (l : List Rg), SplitP lls lo (r :: l) → SplitP lls r.2 l := by
        intro l h
        have h3 := (List.pairwise_cons.1 h.rise).1
        refine ⟨fun z hz => h.some z (by simp [hz]), (List.pairwise_cons.1 h.rise).2, fun z hz => h.alike z (by simp [hz]), fun x => ?_, fun y hy z hz => h.apart y (by simp [hy]) z (by simp [hz])⟩
        constructor
        · rintro ⟨z, hz, hx⟩
          have := h3 z hz
          exact ⟨by omega, ((h.held x).1 ⟨z, by simp [hz], hx⟩).2⟩
        · rintro ⟨h4, h5⟩
          have hlo := ((h.held r.1).1 ⟨r, by simp, by omega⟩).1
          obtain ⟨z, hz, hx⟩ := (h.held x).2 ⟨by omega, h5⟩
          rcases List.mem_cons.1 hz with e | e
          · subst e; omega
          · exact ⟨z, e, hx⟩
      exact ih b r.2 (tail a ha) (tail b hb)
theorem alikeB_iff (nl : List (List Rg)) (a b : Rg) : alikeB nl a b = true ↔ a.2 + 1 = b.1 ∧ Alike nl a.1 b.1 := by
  unfold alikeB Alike
  rw [Bool.and_eq_true, beq_iff_eq, Bool.not_eq_true', List.any_eq_false]
  refine and_congr Iff.rfl ?_
  constructor
  · intro h l hl
    have := h l hl
    rw [← hasB_holds, ← hasB_holds]
    simpa using this
  · intro h l hl
    have := h l hl
    rw [← hasB_holds, ← hasB_holds] at this
    intro hne
    revert hne
    generalize hasB l a.1 = x at this ⊢
    generalize hasB l b.1 = y at this ⊢
    revert this
    cases x <;> cases y <;> simp
theorem Alike.trans' {lls : List (List Rg)} {x y z : Int} (h : Alike lls x y) (k : Alike lls y z) : Alike lls x z := fun l hl => (h l hl).trans (k l hl)
theorem Alike.symm' {lls : List (List Rg)} {x y : Int} (h : Alike lls x y) : Alike lls y x := fun l hl => (h l hl).symm
/-- what Split makes of neat lists -/
def splitOf (nl : List (List Rg)) : List Rg := foldS nl ((pairs (placesOf (endsOf nl))).filter (heldB nl))
/-- what foldS has made of some pieces -/
structure Folded (nl : List (List Rg)) (ps m : List Rg) : Prop where
  some : ∀ r ∈ m, r.1 ≤ r.2
  rise : m.Pairwise fun a b => a.2 < b.1
  alike : ∀ r ∈ m, ∀ x, r.1 ≤ x → x ≤ r.2 → Alike nl r.1 x
  held : ∀ x, Holds1 m x ↔ Holds1 ps x
  apart : ∀ a ∈ m, ∀ b ∈ m, a.2 + 1 = b.1 → ¬ Alike nl a.1 b.1
theorem addS_law (nl : List (List Rg)) (ps m : List Rg) (r : Rg) (h : Folded nl ps m) (hr : r.1 ≤ r.2) (hal : ∀ x, r.1 ≤ x → x ≤ r.2 → Alike nl r.1 x) (hlow : ∀ z ∈ m, z.2 < r.1) : Folded nl (ps ++ [r]) (addS nl m r) := by
  have hold : ∀ x, Holds1 (ps ++ [r]) x ↔ Holds1 ps x ∨ (r.1 ≤ x ∧ x ≤ r.2) := by
    intro x
    constructor
    · rintro ⟨z, hz, hx⟩
      rcases List.mem_append.1 hz with e | e
      · exact .inl ⟨z, e, hx⟩
      · simp at e; subst e; exact .inr hx
    · rintro (⟨z, hz, hx⟩ | hx)
      · exact ⟨z, List.mem_append_left _ hz, hx⟩
      · exact ⟨r, by simp, hx⟩
  rcases List.eq_nil_or_concat m with h0 | ⟨m0, q, h0⟩
  · subst h0
    have ea : addS nl [] r = [r] := by simp [addS]
    rw [ea]
    refine ⟨by simpa using hr, List.pairwise_singleton _ _, by simpa using hal, fun x => ?_, fun a ha b hb e => ?_⟩
    · rw [hold, ← h.held]; simp [Holds1]
    · simp at ha hb; subst ha hb; omega
  · rw [List.concat_eq_append] at h0
    subst h0
    have hq := h.some q (by simp)
    have hql := hlow q (by simp)
    have p3 := (List.pairwise_append.1 h.rise).2.2
    have p1 := (List.pairwise_append.1 h.rise).1
    cases hb : alikeB nl q r with
    | true =>
      have ea : addS nl (m0 ++ [q]) r = m0 ++ [(q.1, r.2)] := by simp [addS, hb]
      rw [ea]
      rw [alikeB_iff] at hb
      obtain ⟨hb1, hb2⟩ := hb
      refine ⟨fun z hz => ?_, ?_, fun z hz x h1 h2 => ?_, fun x => ?_, fun a ha b hbm e => ?_⟩
      · rcases List.mem_append.1 hz with e | e
        · exact h.some z (by simp [e])
        · simp at e; subst e; simp only; omega
      · rw [List.pairwise_append]
        refine ⟨p1, List.pairwise_singleton _ _, fun a ha b hbm => ?_⟩
        simp at hbm; subst hbm
        exact p3 a ha q (by simp)
      · rcases List.mem_append.1 hz with e | e
        · exact h.alike z (by simp [e]) x h1 h2
        · simp at e; subst e
          simp only at h1 h2 ⊢
          by_cases hx : x ≤ q.2
          · exact h.alike q (by simp) x h1 hx
          · exact hb2.trans' (hal x (by omega) h2)
      · rw [hold, ← h.held]
        constructor
        · rintro ⟨z, hz, hx⟩
          rcases List.mem_append.1 hz with e | e
          · exact .inl ⟨z, by simp [e], hx⟩
          · simp at e; subst e
            simp only at hx
            by_cases h5 : x ≤ q.2
            · exact .inl ⟨q, by simp, by omega⟩
            · exact .inr (by omega)
        · rintro (⟨z, hz, hx⟩ | hx)
          · rcases List.mem_append.1 hz with e | e
            · exact ⟨z, by simp [e], hx⟩
            · simp at e; subst e
              exact ⟨(z.1, r.2), by simp, by simp only; omega⟩
          · exact ⟨(q.1, r.2), by simp, by simp only; omega⟩
      · have ha' : ∃ a' ∈ m0 ++ [q], a'.1 = a.1 ∧ (a' = a ∨ (a' = q ∧ a.2 = r.2)) := by
          rcases List.mem_append.1 ha with e | e
          · exact ⟨a, by simp [e], rfl, .inl rfl⟩
          · simp at e; subst e; exact ⟨q, by simp, rfl, .inr ⟨rfl, rfl⟩⟩
        have hb' : ∃ b' ∈ m0 ++ [q], b'.1 = b.1 := by
          rcases List.mem_append.1 hbm with e | e
          · exact ⟨b, by simp [e], rfl⟩
          · simp at e; subst e; exact ⟨q, by simp, rfl⟩
        obtain ⟨a', m1, e1, e2⟩ := ha'
        obtain ⟨b', m2, e3⟩ := hb'
        rcases e2 with rfl | ⟨rfl, e4⟩
        · rw [← e3]; exact h.apart a' m1 b' m2 (by omega)
        · have h6 : b'.1 ≤ a'.1 := by
            rcases List.mem_append.1 m2 with e | e
            · have := p3 b' e a' (by simp); have := h.some b' m2; omega
            · simp at e; subst e; omega
          omega
    | false =>
      have ea : addS nl (m0 ++ [q]) r = m0 ++ [q] ++ [r] := by simp [addS, hb]
      rw [ea]
      refine ⟨fun z hz => ?_, ?_, fun z hz x h1 h2 => ?_, fun x => ?_, fun a ha b hbm e => ?_⟩
      · rcases List.mem_append.1 hz with e | e
        · exact h.some z e
        · simp at e; subst e; exact hr
      · rw [List.pairwise_append]
        refine ⟨h.rise, List.pairwise_singleton _ _, fun a ha b hbm => ?_⟩
        simp at hbm; subst hbm
        exact hlow a ha
      · rcases List.mem_append.1 hz with e | e
        · exact h.alike z e x h1 h2
        · simp at e; subst e; exact hal x h1 h2
      · rw [hold, ← h.held]
        constructor
        · rintro ⟨z, hz, hx⟩
          rcases List.mem_append.1 hz with e | e
          · exact .inl ⟨z, e, hx⟩
          · simp at e; subst e; exact .inr hx
        · rintro (⟨z, hz, hx⟩ | hx)
          · exact ⟨z, List.mem_append_left _ hz, hx⟩
          · exact ⟨r, by simp, hx⟩
      · rcases List.mem_append.1 ha with ea1 | ea1
        · rcases List.mem_append.1 hbm with eb1 | eb1
          · exact h.apart a ea1 b eb1 e
          · simp at eb1; subst eb1
            rcases List.mem_append.1 ea1 with e5 | e5
            · have := p3 a e5 q (by simp); omega
            · simp at e5; subst e5
              intro hc
              have := (alikeB_iff nl a b).2 ⟨e, hc⟩
              rw [hb] at this
              cases this
        · simp at ea1; subst ea1
          rcases List.mem_append.1 hbm with eb1 | eb1
          · have := hlow b eb1; have := h.some b eb1; omega
          · simp at eb1; subst eb1; omega
theorem foldS_law (nl : List (List Rg)) (ps : List Rg) (hs : ∀ r ∈ ps, r.1 ≤ r.2) (hr : ps.Pairwise fun a b => a.2 < b.1) (ha : ∀ r ∈ ps, ∀ x, r.1 ≤ x → x ≤ r.2 → Alike nl r.1 x) : Folded nl ps (foldS nl ps) := by
  suffices H : ∀ k, k ≤ ps.length → Folded nl (ps.take k) (foldS nl (ps.take k)) by
    have := H ps.length (Nat.le_refl _)
    rwa [List.take_length] at this
  intro k
  induction k with
  | zero => intro _; exact ⟨by simp [foldS], by simp [foldS], by simp [foldS], by simp [foldS], by simp [foldS]⟩
  | succ k ih =>
    intro hk
    rw [foldS_snoc nl ps k (by omega), List.take_succ_eq_append_getElem (by omega)]
    refine addS_law nl _ _ _ (ih (by omega)) (hs _ (List.getElem_mem _)) (ha _ (List.getElem_mem _)) ?_
    intro z hz
    have h0 := (ih (by omega)).some z hz
    obtain ⟨y, hy, hx⟩ := ((ih (by omega)).held z.2).1 ⟨z, hz, by omega⟩
    obtain ⟨i, hi, rfl⟩ := List.mem_iff_getElem.1 hy
    have hik : i < k := by simp at hi; omega
    have := (List.pairwise_iff_getElem.1 hr) i k (by omega) (by omega) hik
    rw [List.getElem_take] at hx
    omega
theorem heldB_iff (nl : List (List Rg)) (r : Rg) : heldB nl r = true ↔ ∃ l ∈ nl, Holds1 l r.1 := by
  unfold heldB
  rw [List.any_eq_true]
  constructor
  · rintro ⟨l, hl, h⟩; exact ⟨l, hl, (hasB_holds l _).1 h⟩
  · rintro ⟨l, hl, h⟩; exact ⟨l, hl, (hasB_holds l _).2 h⟩
/-- Split by its law, of the lists themselves -/
theorem splitOf_law (lls : List (List Rg)) (lo : Int) (hlo : ∀ l ∈ lls, ∀ x, Holds1 l x → lo < x) : SplitP lls lo (splitOf (lls.map neatOf)) := by
  have hal : ∀ x y, Alike (lls.map neatOf) x y ↔ Alike lls x y := by
    intro x y
    constructor
    · intro h l hl
      rw [← holds_neat l x, ← holds_neat l y]
      exact h _ (List.mem_map.2 ⟨l, hl, rfl⟩)
    · intro h l hl
      obtain ⟨l', hl', rfl⟩ := List.mem_map.1 hl
      rw [holds_neat, holds_neat]
      exact h l' hl'
  have hp := pairs_law _ (placesOf_law (endsOf (lls.map neatOf))).1
  have hF := foldS_law (lls.map neatOf) ((pairs (placesOf (endsOf (lls.map neatOf)))).filter (heldB (lls.map neatOf)))
    (fun r hr => (hp.1 r (List.mem_filter.1 hr).1).2.2.1) (hp.2.1.filter _)
    (fun r hr x h1 h2 l hl => (piece_const hl (List.mem_filter.1 hr).1 h1 h2).symm)
  refine ⟨hF.some, hF.rise, fun r hr x h1 h2 => (hal _ _).1 (hF.alike r hr x h1 h2), fun x => ?_, fun a ha b hb e h => hF.apart a ha b hb e ((hal _ _).2 h)⟩
  unfold splitOf
  rw [hF.held]
  constructor
  · rintro ⟨c, hc, hx⟩
    obtain ⟨h1, h2⟩ := List.mem_filter.1 hc
    obtain ⟨l, hl, h3⟩ := (heldB_iff _ _).1 h2
    rw [← piece_const hl h1 hx.1 hx.2] at h3
    obtain ⟨l', hl', rfl⟩ := List.mem_map.1 hl
    rw [holds_neat] at h3
    exact ⟨hlo l' hl' x h3, l', hl', h3⟩
  · rintro ⟨_, l, hl, hx⟩
    have hl' : neatOf l ∈ lls.map neatOf := List.mem_map.2 ⟨l, hl, rfl⟩
    rw [← holds_neat] at hx
    obtain ⟨c, hc, hcx⟩ := piece_cover hl' hx
    refine ⟨c, List.mem_filter.2 ⟨hc, (heldB_iff _ _).2 ⟨_, hl', ?_⟩⟩, hcx⟩
    rw [← piece_const hl' hc hcx.1 hcx.2]
    exact hx
end Go.Proofs.YtoclbcfgfaialaaGreatDoor
