/-
  Subsets: places, sets of places, and the states that they make. Plain law, no program in sight.
-/
import Derived.Test.YtoclbcfgfaialaaGreatDoorLaw
import Derived.Lib.ItoaNum
namespace Go.Proofs.YtoclbcfgfaialaaGreatDoor
/-- a place -/
structure Pl where
  set : List Rg
  kind : Int
  last : Bool
  follow : List Int
def noPl : Pl := ⟨[], 0, false, []⟩
/-- all places -/
structure Au where
  places : List Pl
  first : List Int
  kinds : Int
def okAt (l : List Int) (many : Int) (j : Nat) : Prop := 0 ≤ l.getD j 0 ∧ l.getD j 0 < many ∧ (0 < j → l.getD (j - 1) 0 < l.getD j 0)
instance (l : List Int) (many : Int) (j : Nat) : Decidable (okAt l many j) := by unfold okAt; infer_instance
def risesB (l : List Int) (many : Int) : Bool := decide (∀ j, j < l.length → okAt l many j)
theorem risesB_mem {l : List Int} {many : Int} (h : risesB l many = true) {x : Int} (hx : x ∈ l) : 0 ≤ x ∧ x < many := by
  obtain ⟨j, hj, rfl⟩ := List.getElem_of_mem hx
  have := of_decide_eq_true h j hj
  unfold okAt at this
  rw [List.getD_eq_getElem?_getD, List.getElem?_eq_getElem hj] at this
  exact ⟨this.1, this.2.1⟩
def badP (many : Int) (kinds : Int) (p : Pl) : Bool := !(decide (0 ≤ p.kind) && decide (p.kind < kinds) && risesB p.follow many)
def mayB (a : Au) : Bool := risesB a.first a.places.length && !(a.places.any (badP a.places.length a.kinds))
theorem mayB_first {a : Au} (h : mayB a = true) {x : Int} (hx : x ∈ a.first) : 0 ≤ x ∧ x < a.places.length := by
  simp only [mayB, Bool.and_eq_true] at h
  exact risesB_mem h.1 hx
theorem mayB_place {a : Au} (h : mayB a = true) {p : Pl} (hp : p ∈ a.places) : 0 ≤ p.kind ∧ p.kind < a.kinds ∧ ∀ x ∈ p.follow, 0 ≤ x ∧ x < a.places.length := by
  simp only [mayB, Bool.and_eq_true, Bool.not_eq_true', List.any_eq_false] at h
  have := h.2 p hp
  simp only [badP, Bool.not_eq_true', Bool.not_eq_false, Bool.and_eq_true, decide_eq_true_eq] at this
  exact ⟨this.1.1, this.1.2, fun x hx => risesB_mem this.2 hx⟩
def Au.at (a : Au) (p : Int) : Pl := a.places.getD p.toNat noPl
/-- a set's name -/
def wordOf (p : Int) : List UInt8 := Lib.decDigits p.toNat ++ [32]
def nameL (l : List Int) : List UInt8 := l.flatMap wordOf
/-- the least token that ends -/
def endStep (a : Au) (e p : Int) : Int := if (a.at p).last = true ∧ (e < 0 ∨ (a.at p).kind < e) then (a.at p).kind else e
def endOf (a : Au) (o : List Int) : Int := o.foldl (endStep a) (-1)
structure Mk where
  opens : List (List Int)
  ends : List Int
def findName (opens : List (List Int)) (o : List Int) : Option Nat := (opens.tail.findIdx? fun q => nameL q == nameL o).map (· + 1)
def stateM (a : Au) (m : Mk) (o : List Int) : Mk × Int := match findName m.opens o with
  | some s => (m, s)
  | none => (⟨m.opens ++ [o], m.ends ++ [endOf a o]⟩, m.opens.length)
def openAt (a : Au) (nx : List Int) (r : Rg) : List Int := nx.filter fun p => hasB (a.at p).set r.1
def stepR (a : Au) (nx : List Int) (x : Mk × List Int) (r : Rg) : Mk × List Int :=
  if openAt a nx r = [] then (x.1, x.2 ++ [-1]) else ((stateM a x.1 (openAt a nx r)).1, x.2 ++ [(stateM a x.1 (openAt a nx r)).2])
def rowM (a : Au) (nx : List Int) (rs : List Rg) (m : Mk) : Mk × List Int := rs.foldl (stepR a nx) (m, [])
def nextM (a : Au) (opens : List (List Int)) (s : Nat) : List Int := if s = 0 then a.first else placesOf ((opens.getD s []).flatMap fun p => (a.at p).follow)
def tooMany (n k : Nat) : Bool := decide (4096 < n) || decide (1048576 < n * k)
def loopM (a : Au) (rs : List Rg) : Nat → Nat → Mk → List (List Int) → Option (Mk × List (List Int))
  | 0, _, _, _ => none
  | f + 1, s, m, rows =>
    if s < m.opens.length then
      if tooMany m.opens.length rs.length = true then none
      else loopM a rs f (s + 1) (rowM a (nextM a m.opens s) rs m).1 (rows ++ [(rowM a (nextM a m.opens s) rs m).2])
    else some (m, rows)
/-- what states and rows are, so far: 's' rows, the last one perhaps not whole -/
structure SubI (m : Mk) (all : List (List Int)) : Prop where
  one : 1 ≤ m.opens.length
  ends : m.ends.length = m.opens.length
  endsIn : ∀ e ∈ m.ends, -1 ≤ e
  cell : ∀ row ∈ all, ∀ x ∈ row, x = -1 ∨ (1 ≤ x ∧ x < m.opens.length)
  come : ∀ k : Nat, 1 ≤ k → k < m.opens.length → ∃ s, s < k ∧ ∃ h : s < all.length, (k : Int) ∈ all[s]
theorem endStep_ge {a : Au} (hk : ∀ p ∈ a.places, 0 ≤ p.kind) (e p : Int) (he : -1 ≤ e) : -1 ≤ endStep a e p := by
  unfold endStep
  split
  · unfold Au.at
    rw [List.getD_eq_getElem?_getD]
    cases h : a.places[p.toNat]? with
    | none => simp [noPl]
    | some q => have := hk q (List.mem_of_getElem? h); simp; omega
  · exact he
theorem endOf_ge {a : Au} (hk : ∀ p ∈ a.places, 0 ≤ p.kind) (o : List Int) : -1 ≤ endOf a o := by
  unfold endOf
  suffices H : ∀ (o : List Int) (e : Int), -1 ≤ e → -1 ≤ o.foldl (endStep a) e from H o _ (Int.le_refl _)
  intro o
  induction o with
  | nil => exact fun e h => h
  | cons x r ih => exact fun e h => ih _ (endStep_ge hk e x h)
theorem findName_lt {opens : List (List Int)} {o : List Int} {s : Nat} (h : findName opens o = some s) : 1 ≤ s ∧ s < opens.length := by
  unfold findName at h
  obtain ⟨i, hi, rfl⟩ := Option.map_eq_some_iff.1 h
  obtain ⟨h1, _⟩ := List.findIdx?_eq_some_iff_getElem.1 hi
  simp at h1
  omega
theorem stateM_law {a : Au} (hk : ∀ p ∈ a.places, 0 ≤ p.kind) {m : Mk} {rows : List (List Int)} {row o : List Int} (h : SubI m (rows ++ [row])) (hs : rows.length < m.opens.length) :
    SubI (stateM a m o).1 (rows ++ [row ++ [(stateM a m o).2]]) ∧ m.opens.length ≤ (stateM a m o).1.opens.length ∧ (stateM a m o).1.opens.length ≤ m.opens.length + 1 := by
  have more : ∀ (n : Nat) (x : Int), (∀ y ∈ row, y = -1 ∨ (1 ≤ y ∧ y < n)) → (x = -1 ∨ (1 ≤ x ∧ x < n)) → ∀ y ∈ row ++ [x], y = -1 ∨ (1 ≤ y ∧ y < n) := by
    intro n x h1 h2 y hy
    rcases List.mem_append.1 hy with e | e
    · exact h1 y e
    · simp at e; subst e; exact h2
  have keep : ∀ (x : Int) (k s : Nat), (∃ h : s < (rows ++ [row]).length, (k : Int) ∈ (rows ++ [row])[s]) → ∃ h : s < (rows ++ [row ++ [x]]).length, (k : Int) ∈ (rows ++ [row ++ [x]])[s] := by
    rintro x k s ⟨h1, h2⟩
    refine ⟨by simpa using h1, ?_⟩
    by_cases e : s < rows.length
    · rw [List.getElem_append_left e] at h2 ⊢; exact h2
    · have e2 : s = rows.length := by simp at h1; omega
      subst e2
      simp at h2 ⊢
      exact .inl h2
  unfold stateM
  cases hf : findName m.opens o with
  | some s =>
    have hsl := findName_lt hf
    refine ⟨⟨h.one, h.ends, h.endsIn, ?_, ?_⟩, Nat.le_refl _, Nat.le_succ _⟩
    · intro r hr
      rcases List.mem_append.1 hr with e | e
      · exact h.cell r (List.mem_append_left _ e)
      · simp at e; subst e
        exact more _ _ (h.cell row (by simp)) (.inr (by simp only; omega))
    · intro k h1 h2
      obtain ⟨s', h3, h4⟩ := h.come k h1 h2
      exact ⟨s', h3, keep _ _ _ h4⟩
  | none =>
    refine ⟨⟨by simp, by simp [h.ends], ?_, ?_, ?_⟩, by simp, by simp⟩
    · intro e he
      rcases List.mem_append.1 he with h1 | h1
      · exact h.endsIn e h1
      · simp at h1; subst h1; exact endOf_ge hk o
    · intro r hr
      have wide : ∀ r ∈ rows ++ [row], ∀ y ∈ r, y = -1 ∨ (1 ≤ y ∧ y < ((m.opens ++ [o]).length : Int)) := fun r hr y hy => by
        have := h.cell r hr y hy
        simp; omega
      rcases List.mem_append.1 hr with e | e
      · exact wide r (List.mem_append_left _ e)
      · simp at e; subst e
        exact more _ _ (wide row (by simp)) (.inr (by have := h.one; simp; omega))
    · intro k h1 h2
      by_cases e : k < m.opens.length
      · obtain ⟨s', h3, h4⟩ := h.come k h1 e
        exact ⟨s', h3, keep _ _ _ h4⟩
      · have e2 : k = m.opens.length := by simp at h2; omega
        subst e2
        exact ⟨rows.length, hs, by simp, by simp⟩
theorem stepR_law {a : Au} (hk : ∀ p ∈ a.places, 0 ≤ p.kind) {nx : List Int} {rows : List (List Int)} {x : Mk × List Int} {r : Rg} (h : SubI x.1 (rows ++ [x.2])) (hs : rows.length < x.1.opens.length) :
    SubI (stepR a nx x r).1 (rows ++ [(stepR a nx x r).2]) ∧ x.1.opens.length ≤ (stepR a nx x r).1.opens.length ∧ (stepR a nx x r).1.opens.length ≤ x.1.opens.length + 1 ∧ (stepR a nx x r).2.length = x.2.length + 1 := by
  unfold stepR
  split
  · refine ⟨⟨h.one, h.ends, h.endsIn, ?_, ?_⟩, Nat.le_refl _, Nat.le_succ _, by simp⟩
    · intro q hq y hy
      rcases List.mem_append.1 hq with e | e
      · exact h.cell q (List.mem_append_left _ e) y hy
      · simp at e; subst e
        rcases List.mem_append.1 hy with e2 | e2
        · exact h.cell x.2 (by simp) y e2
        · simp at e2; exact .inl e2
    · intro k h1 h2
      obtain ⟨s, h3, h4, h5⟩ := h.come k h1 h2
      refine ⟨s, h3, by simpa using h4, ?_⟩
      by_cases e : s < rows.length
      · rw [List.getElem_append_left e] at h5 ⊢; exact h5
      · have e2 : s = rows.length := by simp at h4; omega
        subst e2
        simp at h5 ⊢
        exact h5
  · obtain ⟨h1, h2, h3⟩ := stateM_law hk (o := openAt a nx r) h hs
    exact ⟨h1, h2, h3, by simp⟩
theorem rowM_law {a : Au} (hk : ∀ p ∈ a.places, 0 ≤ p.kind) {nx : List Int} {rows : List (List Int)} {m : Mk} (h : SubI m rows) (hs : rows.length < m.opens.length) (rs : List Rg) :
    SubI (rowM a nx rs m).1 (rows ++ [(rowM a nx rs m).2]) ∧ m.opens.length ≤ (rowM a nx rs m).1.opens.length ∧ (rowM a nx rs m).1.opens.length ≤ m.opens.length + rs.length ∧ (rowM a nx rs m).2.length = rs.length := by
  have h0 : SubI m (rows ++ [[]]) := by
    refine ⟨h.one, h.ends, h.endsIn, ?_, ?_⟩
    · intro r hr
      rcases List.mem_append.1 hr with e | e
      · exact h.cell r e
      · simp at e; subst e; intro x hx; cases hx
    · intro k h1 h2
      obtain ⟨s, h3, h4, h5⟩ := h.come k h1 h2
      exact ⟨s, h3, by simp; omega, by rw [List.getElem_append_left h4]; exact h5⟩
  unfold rowM
  suffices H : ∀ (rs : List Rg) (x : Mk × List Int), SubI x.1 (rows ++ [x.2]) → rows.length < x.1.opens.length →
      SubI (rs.foldl (stepR a nx) x).1 (rows ++ [(rs.foldl (stepR a nx) x).2]) ∧ x.1.opens.length ≤ (rs.foldl (stepR a nx) x).1.opens.length ∧ (rs.foldl (stepR a nx) x).1.opens.length ≤ x.1.opens.length + rs.length ∧ (rs.foldl (stepR a nx) x).2.length = x.2.length + rs.length by
    have := H rs (m, []) h0 hs
    simpa using this
  intro rs
  induction rs with
  | nil => intro x h1 h2; exact ⟨h1, Nat.le_refl _, Nat.le_refl _, rfl⟩
  | cons r rs ih =>
    intro x h1 h2
    obtain ⟨i1, i2, i3, i4⟩ := stepR_law hk (nx := nx) (r := r) h1 h2
    obtain ⟨j1, j2, j3, j4⟩ := ih _ i1 (by omega)
    rw [List.foldl_cons]
    exact ⟨j1, by omega, by rw [List.length_cons]; omega, by rw [j4, i4, List.length_cons]; omega⟩
theorem loopM_law {a : Au} (hk : ∀ p ∈ a.places, 0 ≤ p.kind) (rs : List Rg) : ∀ (f s : Nat) (m : Mk) (rows : List (List Int)) (m' : Mk) (rows' : List (List Int)), loopM a rs f s m rows = some (m', rows') → SubI m rows → rows.length = s → s ≤ m.opens.length →
    (∀ r ∈ rows, r.length = rs.length) → SubI m' rows' ∧ rows'.length = m'.opens.length ∧ ∀ r ∈ rows', r.length = rs.length := by
  intro f
  induction f with
  | zero => intro s m rows m' rows' h; cases h
  | succ f ih =>
    intro s m rows m' rows' h hI hs hsm hr
    unfold loopM at h
    by_cases hlt : s < m.opens.length
    · rw [if_pos hlt] at h
      by_cases ht : tooMany m.opens.length rs.length = true
      · rw [if_pos ht] at h; cases h
      · rw [if_neg ht] at h
        obtain ⟨h1, h2, h3, h4⟩ := rowM_law hk (nx := nextM a m.opens s) hI (by omega) rs
        refine ih _ _ _ _ _ h h1 (by simp [hs]) (by omega) ?_
        intro r hr'
        rcases List.mem_append.1 hr' with e | e
        · exact hr r e
        · simp at e; subst e; exact h4
    · rw [if_neg hlt] at h
      injection h with h
      injection h with h5 h6
      subst h5 h6
      exact ⟨hI, by omega, hr⟩
def start0 : Mk := ⟨[[]], [-1]⟩
theorem start0_law : SubI start0 [] := by
  refine ⟨by simp [start0], rfl, by simp [start0], by simp, ?_⟩
  intro k h1 h2
  simp [start0] at h2
  omega
/-- the table of places, if there are not too many states -/
def tableM (a : Au) (rs : List Rg) : Option (Mk × List (List Int)) := loopM a rs 4098 0 start0 []
theorem tableM_law {a : Au} (hm : mayB a = true) {rs : List Rg} {m : Mk} {rows : List (List Int)} (h : tableM a rs = some (m, rows)) :
    SubI m rows ∧ rows.length = m.opens.length ∧ ∀ r ∈ rows, r.length = rs.length :=
  loopM_law (fun p hp => (mayB_place hm hp).1) rs 4098 0 start0 [] m rows h start0_law rfl (by simp [start0]) (by simp)
end Go.Proofs.YtoclbcfgfaialaaGreatDoor
