/-
  What two loops over the kept ones' map make: the least alternative that surely ended; the list of those that stay. Plain, over what is still to come.
-/
import Derived.Test.YtnpcjbdolmmaeaaDoorCfPu
import Derived.Test.YtnpcjbdolmmaeaaDoorCfKq
import Derived.Test.YtnpcjbdolmmaeaaDoorCfRef2
import Derived.Test.YtnpcjbdolmmaeaaDoorCfCnt
import Derived.Test.YtnpcjbdolmmaeaaDoorCfSign
namespace Go.Proofs.YtnpcjbdolmmaeaaDoor
open Go.RowKit Go.Maps
set_option maxRecDepth 100000
def struck (left : Lit → Bool) (kl : Lit) : Lit → Bool := fun z => left z && !z.sameKey kl
theorem struck_false {left : Lit → Bool} {x x0 : Cf.Cfg} (h : struck left (keyL x0 false) (keyL x false) = false) : left (keyL x false) = false ∨ Cf.Like x x0 := by
  unfold struck at h
  cases hl : left (keyL x false) with
  | false => exact .inl rfl
  | true =>
    rw [hl] at h
    have h : (keyL x false).sameKey (keyL x0 false) = true := by simpa using h
    exact .inr (keyL_inj (WideAt.sameKey_eq h)).1
theorem struck_true {left : Lit → Bool} {kl z : Lit} (h : struck left kl z = true) : left z = true := by
  unfold struck at h
  exact (Bool.and_eq_true _ _ ▸ h).1
theorem struck_self {left : Lit → Bool} {x x0 : Cf.Cfg} (h : Cf.Like x x0) : struck left (keyL x0 false) (keyL x false) = false := by
  unfold struck
  rw [keyL_like h, WideAt.sameKey_self (show WideAt.IsKeyLit (keyL x0 false) by trivial)]
  simp
theorem struck_keep {left : Lit → Bool} {kl z : Lit} (h : left z = false) : struck left kl z = false := by unfold struck; rw [h]; rfl
/-- the least alternative that surely ended, of those that have come -/
structure SureI (v : Cf.Vw) (K : List Cf.Cfg) (left : Lit → Bool) (m : Int) : Prop where
  le : m ≤ v.d.ends.length
  low : ∀ x ∈ K, x.ended = true → x.exact = true → left (keyL x false) = false → m ≤ x.alt
  of : m = v.d.ends.length ∨ ∃ z ∈ K, z.ended = true ∧ z.exact = true ∧ m = z.alt
theorem SureI.start {v : Cf.Vw} {K : List Cf.Cfg} {left : Lit → Bool} (h : ∀ x ∈ K, left (keyL x false) = true) : SureI v K left v.d.ends.length :=
  ⟨Int.le_refl _, fun x hx _ _ e => (by rw [h x hx] at e; cases e), .inl rfl⟩
theorem SureI.skip {v : Cf.Vw} {K : List Cf.Cfg} {left : Lit → Bool} {m : Int} {x0 y : Cf.Cfg} (h : SureI v K left m) (hy : Cf.Like y x0) (he : y.exact = true ↔ ∃ z ∈ K, Cf.Like x0 z ∧ z.exact = true) (hn : (y.ended && y.exact) = false) : SureI v K (struck left (keyL x0 false)) m := by
  refine ⟨h.le, fun x hx e1 e2 e3 => ?_, h.of⟩
  rcases struck_false e3 with e | e
  · exact h.low x hx e1 e2 e
  · have h1 : y.ended = true := by rw [hy.2.2.2, ← e.2.2.2]; exact e1
    have h2 : y.exact = true := he.2 ⟨x, hx, e.symm, e2⟩
    rw [h1, h2] at hn
    cases hn
theorem SureI.take {v : Cf.Vw} {K : List Cf.Cfg} {left : Lit → Bool} {m : Int} {x0 y : Cf.Cfg} (h : SureI v K left m) (hy : Cf.Like y x0) (he : y.exact = true ↔ ∃ z ∈ K, Cf.Like x0 z ∧ z.exact = true) (hn : (y.ended && y.exact) = true) : SureI v K (struck left (keyL x0 false)) (min m y.alt) := by
  have hn1 : y.ended = true := (Bool.and_eq_true _ _ ▸ hn).1
  have hn2 : y.exact = true := (Bool.and_eq_true _ _ ▸ hn).2
  refine ⟨by have := h.le; omega, fun x hx e1 e2 e3 => ?_, ?_⟩
  · rcases struck_false e3 with e | e
    · have := h.low x hx e1 e2 e; omega
    · have h1 : y.alt = x.alt := by rw [hy.1, e.1]
      omega
  · by_cases hm : m ≤ y.alt
    · rw [Int.min_eq_left hm]; exact h.of
    · rw [Int.min_eq_right (by omega)]
      obtain ⟨z, hz, e1, e2⟩ := he.1 hn2
      exact .inr ⟨z, hz, by rw [← e1.2.2.2, ← hy.2.2.2]; exact hn1, e2, by rw [hy.1, e1.1]⟩
theorem SureI.done {v : Cf.Vw} {K : List Cf.Cfg} {left : Lit → Bool} {m : Int} (h : SureI v K left m) (hl : ∀ kl, left kl = false) : m = Cf.sureOf v K := by
  obtain ⟨h1, h2, h3⟩ := Cf.minf_spec (fun x => x.alt) (K.filter fun x => x.ended && x.exact) v.d.ends.length
  have e1 : m ≤ Cf.sureOf v K := by
    unfold Cf.sureOf
    rcases h3 with e | ⟨x, hx, e⟩
    · rw [e]; exact h.le
    · rw [e]
      obtain ⟨hx1, hx2⟩ := List.mem_filter.1 hx
      have hx2 := (Bool.and_eq_true _ _ ▸ hx2)
      exact h.low x hx1 hx2.1 hx2.2 (hl _)
  have e2 : Cf.sureOf v K ≤ m := by
    unfold Cf.sureOf
    rcases h.of with e | ⟨z, hz, e1, e2, e3⟩
    · rw [e]; exact h1
    · rw [e3]; exact h2 z (List.mem_filter.2 ⟨hz, by rw [e1, e2]; rfl⟩)
  omega
/-- those that stay, of those that have come -/
structure OutI (K : List Cf.Cfg) (sure : Int) (left : Lit → Bool) (L : List Cf.Cfg) : Prop where
  of : ∀ x ∈ L, x.alt ≤ sure ∧ ∃ y ∈ K, Cf.Like x y ∧ left (keyL y false) = false
  ex : ∀ x ∈ L, x.exact = true ↔ ∃ z ∈ K, Cf.Like x z ∧ z.exact = true
  has : ∀ y ∈ K, y.alt ≤ sure → left (keyL y false) = false → ∃ x ∈ L, Cf.Like x y
  un : L.Pairwise fun a b => ¬ Cf.Like a b
theorem OutI.start {K : List Cf.Cfg} {sure : Int} {left : Lit → Bool} (h : ∀ x ∈ K, left (keyL x false) = true) : OutI K sure left [] :=
  ⟨fun _ h => (by cases h), fun _ h => (by cases h), fun y hy _ e => (by rw [h y hy] at e; cases e), List.Pairwise.nil⟩
theorem OutI.skip {K : List Cf.Cfg} {sure : Int} {left : Lit → Bool} {L : List Cf.Cfg} {x0 y : Cf.Cfg} (h : OutI K sure left L) (hy : Cf.Like y x0) (hn : ¬ y.alt ≤ sure) : OutI K sure (struck left (keyL x0 false)) L := by
  refine ⟨fun x hx => ?_, h.ex, fun z hz e1 e2 => ?_, h.un⟩
  · obtain ⟨h1, y', h2, h3, h4⟩ := h.of x hx
    exact ⟨h1, y', h2, h3, struck_keep h4⟩
  · rcases struck_false e2 with e | e
    · exact h.has z hz e1 e
    · rw [e.1, ← hy.1] at e1; exact absurd e1 hn
theorem OutI.take {K : List Cf.Cfg} {sure : Int} {left : Lit → Bool} {L : List Cf.Cfg} {x0 y : Cf.Cfg} (h : OutI K sure left L) (hx0 : x0 ∈ K) (hl : left (keyL x0 false) = true) (hy : Cf.Like y x0) (he : y.exact = true ↔ ∃ z ∈ K, Cf.Like x0 z ∧ z.exact = true) (hn : y.alt ≤ sure) : OutI K sure (struck left (keyL x0 false)) (L ++ [y]) := by
  refine ⟨fun x hx => ?_, fun x hx => ?_, fun z hz e1 e2 => ?_, ?_⟩
  · rcases List.mem_append.1 hx with hx | hx
    · obtain ⟨h1, y', h2, h3, h4⟩ := h.of x hx
      exact ⟨h1, y', h2, h3, struck_keep h4⟩
    · rw [List.mem_singleton.1 hx]
      exact ⟨hn, x0, hx0, hy, struck_self (Cf.Like.refl _)⟩
  · rcases List.mem_append.1 hx with hx | hx
    · exact h.ex x hx
    · rw [List.mem_singleton.1 hx, he]
      exact ⟨fun ⟨z, h1, h2, h3⟩ => ⟨z, h1, hy.trans h2, h3⟩, fun ⟨z, h1, h2, h3⟩ => ⟨z, h1, hy.symm.trans h2, h3⟩⟩
  · rcases struck_false e2 with e | e
    · obtain ⟨x, h1, h2⟩ := h.has z hz e1 e
      exact ⟨x, List.mem_append_left _ h1, h2⟩
    · exact ⟨y, by simp, hy.trans e.symm⟩
  · rw [List.pairwise_append]
    refine ⟨h.un, List.pairwise_singleton _ _, fun a ha b hb => ?_⟩
    rw [List.mem_singleton.1 hb]
    intro e
    obtain ⟨_, y', h2, h3, h4⟩ := h.of a ha
    rw [keyL_like (h3.symm.trans (e.trans hy)), hl] at h4
    cases h4
theorem OutI.few {K : List Cf.Cfg} {sure : Int} {left : Lit → Bool} {L : List Cf.Cfg} (h : OutI K sure left L) {c : Cf.Cl} (hw : Cf.KW c) (hk : K = c.kept) : L.length ≤ 2 * c.wait.length := by
  have h1 := Cf.pigeon Cf.norm L ((c.wait ++ c.wait.map Cf.endC).map Cf.norm) (h.un.imp fun {a b} hab e => hab (Cf.norm_like e)) (fun x hx => by
    obtain ⟨_, y, hy, e, _⟩ := h.of x hx
    rw [hk] at hy
    obtain ⟨z, hz, e2⟩ := hw y hy
    rw [Cf.like_norm e]
    rcases e2 with e2 | e2
    · rw [e2]; exact List.mem_map_of_mem (List.mem_append_left _ hz)
    · rw [e2]; exact List.mem_map_of_mem (List.mem_append_right _ (List.mem_map_of_mem hz)))
  simp only [List.length_map, List.length_append] at h1
  omega
theorem OutI.done {K : List Cf.Cfg} {sure : Int} {left : Lit → Bool} {L L' : List Cf.Cfg} (h : OutI K sure left L) (hl : ∀ kl, left kl = false) (hp : L'.Perm L) (hs : L'.Pairwise fun a b => Cf.ord a b ≠ 2) : Cf.Canon (K.filter fun x => decide (x.alt ≤ sure)) L' := by
  have hun : L'.Pairwise fun a b => ¬ Cf.Like a b := (hp.symm.pairwise_iff (fun {a b} k e => k e.symm)).1 h.un
  refine ⟨?_, fun x hx => ?_, fun y hy => ?_, fun x hx => ?_⟩
  · refine (hs.and hun).imp fun {a b} hab => ?_
    have h1 := Cf.ord_cmp.le a b
    have h2 : Cf.ord a b ≠ 1 := fun e => hab.2 ((Cf.ord_one a b).1 e)
    have h3 := hab.1
    omega
  · obtain ⟨h1, y, h2, h3, _⟩ := h.of x (hp.mem_iff.1 hx)
    exact ⟨y, List.mem_filter.2 ⟨h2, by rw [← h3.1]; exact decide_eq_true h1⟩, h3⟩
  · obtain ⟨h1, h2⟩ := List.mem_filter.1 hy
    obtain ⟨x, h3, h4⟩ := h.has y h1 (of_decide_eq_true h2) (hl _)
    exact ⟨x, hp.mem_iff.2 h3, h4⟩
  · rw [h.ex x (hp.mem_iff.1 hx)]
    obtain ⟨h1, _⟩ := h.of x (hp.mem_iff.1 hx)
    exact ⟨fun ⟨z, h2, h3, h4⟩ => ⟨z, List.mem_filter.2 ⟨h2, by rw [← h3.1]; exact decide_eq_true h1⟩, h3, h4⟩, fun ⟨z, h2, h3, h4⟩ => ⟨z, (List.mem_filter.1 h2).1, h3, h4⟩⟩
/-- a map's iterator, while some blocks that are neither the map's nor its own turn -/
theorem ranges_only {H : Type} {P : Program} {k : TypeId} {R : Value → Option (DataW H × List MemPlace)} {w w' : World} {b r n : Nat} {D : DataW H} {left : Lit → Bool} {cnt : Nat} {S : Nat → Prop} (h : w.ranges P k R b r n D left cnt) (ho : Only S w w') (hb : ¬ S b) (hr : ¬ S r) : w'.ranges P k R b r n D left cnt := by
  have h1 := h.lt
  have h2 := h.owns.lt
  obtain ⟨es, clock, since, seen, c0, hbk, r1, r2, r3, hrk, r4⟩ := h
  exact ⟨es, clock, since, seen, c0, (ho.block b h2 hb).trans hbk, r1, r2, r3, (ho.block r h1 hr).trans hrk, r4⟩
end Go.Proofs.YtnpcjbdolmmaeaaDoor
