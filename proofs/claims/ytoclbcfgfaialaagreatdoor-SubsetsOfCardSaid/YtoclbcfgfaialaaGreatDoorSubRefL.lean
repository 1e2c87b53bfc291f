/-
  Subsets: the document's answer: sets of places as lists of bools. Plain law, no program in sight.
-/
import Derived.Test.YtoclbcfgfaialaaGreatDoorOfLaw
import Derived.Test.YtoclbcfgfaialaaGreatDoorSubLives
namespace Go.Proofs.YtoclbcfgfaialaaGreatDoor
set_option maxRecDepth 100000
def boolsOf (n : Nat) (o : List Int) : List Bool := (List.range n).map fun p : Nat => decide ((p : Int) ∈ o)
theorem boolsOf_len (n : Nat) (o : List Int) : (boolsOf n o).length = n := by simp [boolsOf]
theorem boolsOf_get (n : Nat) (o : List Int) (p : Nat) (h : p < n) : (boolsOf n o)[p]? = some (decide ((p : Int) ∈ o)) := by
  simp [boolsOf, List.getElem?_map, List.getElem?_range h]
theorem boolsOf_inj {n : Nat} {o q : List Int} (ho : GoodO n o) (hq : GoodO n q) (h : boolsOf n o = boolsOf n q) : o = q := by
  refine rise_unique o q ho.1 hq.1 fun x => ?_
  have key : ∀ p : Nat, p < n → ((p : Int) ∈ o ↔ (p : Int) ∈ q) := fun p hp => by
    have h1 := boolsOf_get n o p hp
    rw [h, boolsOf_get n q p hp] at h1
    injection h1 with h1
    simpa using (decide_eq_decide.1 h1).symm
  constructor
  · intro hx
    obtain ⟨h0, h1⟩ := ho.2 x hx
    have := (key x.toNat (by omega)).1 (by rwa [show ((x.toNat : Nat) : Int) = x by omega])
    rwa [show ((x.toNat : Nat) : Int) = x by omega] at this
  · intro hx
    obtain ⟨h0, h1⟩ := hq.2 x hx
    have := (key x.toNat (by omega)).2 (by rwa [show ((x.toNat : Nat) : Int) = x by omega])
    rwa [show ((x.toNat : Nat) : Int) = x by omega] at this
/-- names tell sets apart -/
theorem dec_digits : ∀ p : Nat, p < 100 → (32 : UInt8) ∉ Lib.decDigits p := by decide +kernel
theorem dec_inj : ∀ p : Nat, p < 100 → ∀ q : Nat, q < 100 → Lib.decDigits p = Lib.decDigits q → p = q := by decide +kernel
theorem split_at_mark {a b r s : List UInt8} {m : UInt8} (ha : m ∉ a) (hb : m ∉ b) (h : a ++ m :: r = b ++ m :: s) : a = b ∧ r = s := by
  induction a generalizing b with
  | nil =>
    cases b with
    | nil => simpa using h
    | cons y b =>
      simp only [List.nil_append, List.cons_append, List.cons.injEq] at h
      exact absurd h.1 (fun e => hb (by simp [e]))
  | cons x a ih =>
    cases b with
    | nil =>
      simp only [List.nil_append, List.cons_append, List.cons.injEq] at h
      exact absurd h.1 (fun e => ha (by simp [e]))
    | cons y b =>
      simp only [List.cons_append, List.cons.injEq] at h
      obtain ⟨h1, h2⟩ := ih (fun e => ha (by simp [e])) (fun e => hb (by simp [e])) h.2
      exact ⟨by rw [h.1, h1], h2⟩
theorem nameL_inj {o q : List Int} (ho : ∀ p ∈ o, 0 ≤ p ∧ p < 100) (hq : ∀ p ∈ q, 0 ≤ p ∧ p < 100) (h : nameL o = nameL q) : o = q := by
  induction o generalizing q with
  | nil =>
    cases q with
    | nil => rfl
    | cons y q =>
      simp only [nameL, List.flatMap_nil, List.flatMap_cons, wordOf] at h
      have := congrArg List.length h
      simp at this
  | cons x o ih =>
    cases q with
    | nil =>
      simp only [nameL, List.flatMap_nil, List.flatMap_cons, wordOf] at h
      have := congrArg List.length h
      simp at this
    | cons y q =>
      simp only [nameL, List.flatMap_cons, wordOf, List.append_assoc, List.cons_append, List.nil_append] at h
      have hx := ho x (by simp)
      have hy := hq y (by simp)
      obtain ⟨h1, h2⟩ := split_at_mark (dec_digits x.toNat (by omega)) (dec_digits y.toNat (by omega)) h
      have := dec_inj _ (by omega) _ (by omega) h1
      have e : x = y := by omega
      subst e
      rw [ih (fun p hp => ho p (by simp [hp])) (fun p hp => hq p (by simp [hp])) h2]
theorem GoodO.hundred {n : Nat} {o : List Int} (h : GoodO n o) (hn : n ≤ 100) : ∀ p ∈ o, 0 ≤ p ∧ p < 100 := fun p hp => by have := h.2 p hp; omega
/-- amid the making: sets are good, and stand once -/
structure Dist (n : Nat) (m : Mk) : Prop where
  good : ∀ q ∈ m.opens, GoodO n q
  head : m.opens[0]? = some []
  once : ∀ i j (hi : i < m.opens.length) (hj : j < m.opens.length), 1 ≤ i → 1 ≤ j → m.opens[i] = m.opens[j] → i = j
theorem Dist.start (n : Nat) : Dist n start0 := by
  refine ⟨fun q hq => ?_, rfl, fun i j hi hj h1 h2 _ => ?_⟩
  · simp [start0] at hq; subst hq; exact GoodO.nil n
  · simp [start0] at hi; omega
/-- the last state from 1 on that is that set -/
def lastAt (opens : List (List Int)) (o : List Int) : Nat → Int
  | 0 => -1
  | k + 1 => if 1 ≤ k ∧ opens[k]? = some o then (k : Int) else lastAt opens o k
theorem findName_iff {n : Nat} {m : Mk} (hd : Dist n m) (hn : n ≤ 100) {o : List Int} (ho : GoodO n o) (s : Nat) : findName m.opens o = some s ↔ (1 ≤ s ∧ m.opens[s]? = some o) := by
  have hlen : m.opens ≠ [] := by intro e; have := hd.head; rw [e] at this; cases this
  obtain ⟨x, r, hxr⟩ := List.exists_cons_of_ne_nil hlen
  unfold findName
  rw [hxr, List.tail_cons]
  constructor
  · intro h
    obtain ⟨i, hi, rfl⟩ := Option.map_eq_some_iff.1 h
    obtain ⟨h1, h2, _⟩ := List.findIdx?_eq_some_iff_getElem.1 hi
    have hgi : GoodO n r[i] := hd.good _ (by rw [hxr]; exact List.mem_cons_of_mem _ (List.getElem_mem h1))
    have h2 : nameL r[i] = nameL o := by simpa using h2
    refine ⟨by omega, ?_⟩
    rw [List.getElem?_cons_succ, List.getElem?_eq_getElem h1, nameL_inj (hgi.hundred hn) (ho.hundred hn) h2]
  · rintro ⟨h1, h2⟩
    obtain ⟨i, rfl⟩ : ∃ i, s = i + 1 := ⟨s - 1, by omega⟩
    rw [List.getElem?_cons_succ] at h2
    obtain ⟨h3, h4⟩ := List.getElem?_eq_some_iff.1 h2
    have : r.findIdx? (fun q => nameL q == nameL o) = some i := by
      rw [List.findIdx?_eq_some_iff_getElem]
      refine ⟨h3, by rw [h4]; simp, fun j hj => ?_⟩
      have hgj : GoodO n r[j] := hd.good _ (by rw [hxr]; exact List.mem_cons_of_mem _ (List.getElem_mem (by omega)))
      intro hc
      have hc : nameL r[j] = nameL o := by simpa using hc
      have e := nameL_inj (hgj.hundred hn) (ho.hundred hn) hc
      have := hd.once (j + 1) (i + 1) (by rw [hxr]; simp; omega) (by rw [hxr]; simp; omega) (by omega) (by omega) (by simp only [hxr, List.getElem_cons_succ]; rw [e, h4])
      omega
    rw [this]; rfl
theorem lastAt_law {n : Nat} {m : Mk} (hd : Dist n m) (hn : n ≤ 100) {o : List Int} (ho : GoodO n o) : ∀ k, k ≤ m.opens.length →
    (∀ s, s < k → findName m.opens o = some s → lastAt m.opens o k = s) ∧ ((∀ s, s < k → findName m.opens o ≠ some s) → lastAt m.opens o k = -1)
  | 0, _ => ⟨fun s hs => by omega, fun _ => rfl⟩
  | k + 1, hk => by
    obtain ⟨i1, i2⟩ := lastAt_law hd hn ho k (by omega)
    unfold lastAt
    by_cases hc : 1 ≤ k ∧ m.opens[k]? = some o
    · rw [if_pos hc]
      have hf := (findName_iff hd hn ho k).2 hc
      exact ⟨fun s _ h => by rw [hf] at h; injection h with h; omega, fun h => absurd hf (h k (by omega))⟩
    · rw [if_neg hc]
      refine ⟨fun s hs h => ?_, fun h => i2 fun s hs => h s (by omega)⟩
      have h1 := (findName_iff hd hn ho s).1 h
      exact i1 s (by rcases Nat.lt_or_ge s k with h2 | h2; · exact h2
                     · have : s = k := by omega
                       subst this; exact absurd h1 hc) h
theorem lastAt_some {n : Nat} {m : Mk} (hd : Dist n m) (hn : n ≤ 100) {o : List Int} (ho : GoodO n o) {s : Nat} (h : findName m.opens o = some s) : lastAt m.opens o m.opens.length = s :=
  (lastAt_law hd hn ho _ (Nat.le_refl _)).1 s (findName_lt h).2 h
theorem lastAt_none {n : Nat} {m : Mk} (hd : Dist n m) (hn : n ≤ 100) {o : List Int} (ho : GoodO n o) (h : findName m.opens o = none) : lastAt m.opens o m.opens.length = -1 :=
  (lastAt_law hd hn ho _ (Nat.le_refl _)).2 fun s _ => by rw [h]; simp
theorem Dist.state {a : Au} {n : Nat} {m : Mk} {o : List Int} (hd : Dist n m) (hn : n ≤ 100) (ho : GoodO n o) : Dist n (stateM a m o).1 := by
  unfold stateM
  cases hf : findName m.opens o with
  | some s => exact hd
  | none =>
    have hno : ∀ i, 1 ≤ i → m.opens[i]? ≠ some o := fun i hi e => by
      rw [(findName_iff hd hn ho i).2 ⟨hi, e⟩] at hf; cases hf
    refine ⟨fun q hq => ?_, ?_, fun i j hi hj h1 h2 e => ?_⟩
    · rcases List.mem_append.1 hq with h | h
      · exact hd.good q h
      · simp at h; subst h; exact ho
    · rw [List.getElem?_append_left (by have := (List.getElem?_eq_some_iff.1 hd.head).1; exact this)]; exact hd.head
    · simp only at hi hj e
      by_cases e1 : i < m.opens.length
      · by_cases e2 : j < m.opens.length
        · rw [List.getElem_append_left e1, List.getElem_append_left e2] at e
          exact hd.once i j e1 e2 h1 h2 e
        · exfalso
          have : j = m.opens.length := by simp at hj; omega
          subst this
          rw [List.getElem_append_left e1, List.getElem_append_right (by omega)] at e
          simp at e
          exact hno i h1 (by rw [List.getElem?_eq_getElem e1, e])
      · have e3 : i = m.opens.length := by simp at hi; omega
        by_cases e2 : j < m.opens.length
        · exfalso
          subst e3
          rw [List.getElem_append_left e2, List.getElem_append_right (by omega)] at e
          simp at e
          exact hno j h2 (by rw [List.getElem?_eq_getElem e2, ← e])
        · simp at hi hj; omega
theorem Dist.step {a : Au} {n : Nat} {nx : List Int} {x : Mk × List Int} {r : Rg} (hd : Dist n x.1) (hn : n ≤ 100) (hx : GoodO n nx) : Dist n (stepR a nx x r).1 := by
  unfold stepR
  split
  · exact hd
  · exact hd.state hn (hx.filter _)
inductive RefR where
  | limit
  | depth
  | done (m : Mk) (rows : List (List Int))
/-- the reference's loop over the states -/
def refL (a : Au) (rs : List Rg) : Nat → Nat → Mk → List (List Int) → RefR
  | 0, _, _, _ => .depth
  | f + 1, s, m, rows =>
    if s < m.opens.length then
      if tooMany (rowM a (nextM a m.opens s) rs m).1.opens.length rs.length = true then .limit
      else if 200 < (rowM a (nextM a m.opens s) rs m).1.opens.length then .depth
      else refL a rs f (s + 1) (rowM a (nextM a m.opens s) rs m).1 (rows ++ [(rowM a (nextM a m.opens s) rs m).2])
    else .done m rows
theorem rowM_grows (a : Au) (nx : List Int) (rs : List Rg) (m : Mk) : m.opens.length ≤ (rowM a nx rs m).1.opens.length := by
  unfold rowM
  suffices H : ∀ (rs : List Rg) (x : Mk × List Int), x.1.opens.length ≤ (rs.foldl (stepR a nx) x).1.opens.length from H rs (m, [])
  intro rs
  induction rs with
  | nil => exact fun _ => Nat.le_refl _
  | cons r rs ih =>
    intro x
    rw [List.foldl_cons]
    refine Nat.le_trans ?_ (ih _)
    unfold stepR
    split
    · exact Nat.le_refl _
    · unfold stateM
      split <;> simp
theorem refL_done (a : Au) (rs : List Rg) : ∀ (f s : Nat) (m : Mk) (rows : List (List Int)) (m' : Mk) (rows' : List (List Int)), tooMany m.opens.length rs.length = false → refL a rs f s m rows = .done m' rows' → loopM a rs f s m rows = some (m', rows')
  | 0, _, _, _, _, _, _, h => by cases h
  | f + 1, s, m, rows, m', rows', ht, h => by
    unfold refL at h
    unfold loopM
    by_cases hs : s < m.opens.length
    · rw [if_pos hs] at h ⊢
      rw [if_neg (by rw [ht]; simp)]
      by_cases h1 : tooMany (rowM a (nextM a m.opens s) rs m).1.opens.length rs.length = true
      · rw [if_pos h1] at h; cases h
      · rw [if_neg h1] at h
        by_cases h2 : 200 < (rowM a (nextM a m.opens s) rs m).1.opens.length
        · rw [if_pos h2] at h; cases h
        · rw [if_neg h2] at h
          exact refL_done a rs f _ _ _ _ _ (by simpa using h1) h
    · rw [if_neg hs] at h ⊢
      injection h with h1 h2
      rw [h1, h2]
theorem refL_limit (a : Au) (rs : List Rg) : ∀ (f s : Nat) (m : Mk) (rows : List (List Int)), tooMany m.opens.length rs.length = false → refL a rs f s m rows = .limit → loopM a rs f s m rows = none
  | 0, _, _, _, _, _ => rfl
  | f + 1, s, m, rows, ht, h => by
    unfold refL at h
    unfold loopM
    by_cases hs : s < m.opens.length
    · rw [if_pos hs] at h ⊢
      rw [if_neg (by rw [ht]; simp)]
      by_cases h1 : tooMany (rowM a (nextM a m.opens s) rs m).1.opens.length rs.length = true
      · have hg := rowM_grows a (nextM a m.opens s) rs m
        cases f with
        | zero => rfl
        | succ f =>
          unfold loopM
          have hlt : s + 1 < (rowM a (nextM a m.opens s) rs m).1.opens.length := by
            rcases Nat.lt_or_ge m.opens.length (rowM a (nextM a m.opens s) rs m).1.opens.length with e | e
            · omega
            · have e2 : (rowM a (nextM a m.opens s) rs m).1.opens.length = m.opens.length := by omega
              rw [e2, ht] at h1
              cases h1
          rw [if_pos hlt, if_pos h1]
      · rw [if_neg h1] at h
        by_cases h2 : 200 < (rowM a (nextM a m.opens s) rs m).1.opens.length
        · rw [if_pos h2] at h; cases h
        · rw [if_neg h2] at h
          exact refL_limit a rs f _ _ _ (by simpa using h1) h
    · rw [if_neg hs] at h; cases h
/-- the least token that ends, over bools -/
def endB (a : Au) (bs : List Bool) (k : Nat) : Int := (List.range k).foldl (fun e p => if bs.getD p false = true then endStep a e (p : Int) else e) (-1)
theorem endB_succ (a : Au) (bs : List Bool) (k : Nat) : endB a bs (k + 1) = if bs.getD k false = true then endStep a (endB a bs k) (k : Int) else endB a bs k := by
  unfold endB
  rw [List.range_succ, List.foldl_append]
  rfl
theorem endB_bools {a : Au} {n : Nat} {o : List Int} (ho : GoodO n o) : endB a (boolsOf n o) n = endOf a o := by
  have h1 : ∀ k, k ≤ n → endB a (boolsOf n o) k = endOf a (o.filter fun p => decide (p < (k : Int))) := by
    intro k
    induction k with
    | zero =>
      intro _
      have : o.filter (fun p => decide (p < ((0 : Nat) : Int))) = [] := by
        rw [List.filter_eq_nil_iff]
        intro p hp
        have := ho.2 p hp
        simp; omega
      rw [this]; rfl
    | succ k ih =>
      intro hk
      rw [endB_succ, ih (by omega)]
      have hb : (boolsOf n o).getD k false = decide ((k : Int) ∈ o) := by
        rw [List.getD_eq_getElem?_getD, boolsOf_get n o k (by omega)]; rfl
      rw [hb]
      have hsplit : o.filter (fun p => decide (p < ((k + 1 : Nat) : Int))) = o.filter (fun p => decide (p < (k : Int))) ++ (if (k : Int) ∈ o then [(k : Int)] else []) := by
        refine rise_unique _ _ (ho.1.filter _) ?_ fun x => ?_
        · rw [List.pairwise_append]
          refine ⟨ho.1.filter _, by split <;> simp, fun x hx y hy => ?_⟩
          have hx := (List.mem_filter.1 hx).2
          split at hy
          · simp at hy hx; omega
          · cases hy
        · simp only [List.mem_filter, List.mem_append, decide_eq_true_eq]
          constructor
          · rintro ⟨h1, h2⟩
            by_cases e : x < k
            · exact .inl ⟨h1, e⟩
            · have e2 : x = k := by omega
              subst e2
              rw [if_pos h1]; exact .inr (by simp)
          · rintro (⟨h1, h2⟩ | h2)
            · exact ⟨h1, by omega⟩
            · split at h2
              · simp at h2; subst h2; exact ⟨by assumption, by omega⟩
              · cases h2
      rw [hsplit]
      by_cases hm : (k : Int) ∈ o
      · simp only [hm, decide_true, if_true]
        unfold endOf
        rw [List.foldl_append]; rfl
      · simp only [hm, decide_false]
        simp
  rw [h1 n (Nat.le_refl _)]
  congr 1
  rw [List.filter_eq_self]
  intro p hp
  have := ho.2 p hp
  simp; omega
end Go.Proofs.YtoclbcfgfaialaaGreatDoor
