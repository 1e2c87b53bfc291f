/-
  Grammars: plain law: what may be empty is told when nothing changes any more. No program in sight.
-/
import Derived.Test.YtpbnfinmjnpkpaaGreatDoorGrLaw2
namespace Go.Proofs.YtpbnfinmjnpkpaaGreatDoor
namespace Gr
/-- how many are not known yet -/
def cntF (e : List Bool) : Nat := e.countP (fun b => !b)
theorem cntF_set : ∀ (e : List Bool) (i : Nat), i < e.length → e.getD i false = false → cntF (e.set i true) + 1 = cntF e
  | [], i, h, _ => absurd h (Nat.not_lt_zero _)
  | b :: e, 0, _, h => by
    have : b = false := by simpa using h
    subst this
    simp [cntF]
  | b :: e, i + 1, h, hf => by
    have ih := cntF_set e i (by simpa using h) (by simpa using hf)
    unfold cntF at ih ⊢
    rw [List.set_cons_succ, List.countP_cons, List.countP_cons]
    omega
theorem askE_cases (rs : List Ru) (e : List Bool) (i : Nat) : askE rs e i = e ∨ cntF (askE rs e i) + 1 = cntF e := by
  unfold askE
  split
  · rename_i h
    rcases Nat.lt_or_ge i e.length with hi | hi
    · exact .inr (cntF_set e i hi h.1)
    · exact .inl (List.set_eq_of_length_le hi)
  · exact .inl rfl
theorem askE_len (rs : List Ru) (e : List Bool) (i : Nat) : (askE rs e i).length = e.length := by
  unfold askE
  split
  · simp
  · rfl
/-- a pass, as far as rule i -/
def passI (rs : List Ru) (e : List Bool) (i : Nat) : List Bool := (List.range i).foldl (askE rs) e
theorem passI_zero (rs : List Ru) (e : List Bool) : passI rs e 0 = e := rfl
theorem passI_succ (rs : List Ru) (e : List Bool) (i : Nat) : passI rs e (i + 1) = askE rs (passI rs e i) i := by
  unfold passI
  rw [List.range_succ, List.foldl_append]
  rfl
theorem passE_eq (rs : List Ru) (e : List Bool) : passE rs e = passI rs e rs.length := rfl
theorem passI_len (rs : List Ru) (e : List Bool) (i : Nat) : (passI rs e i).length = e.length := by
  induction i with
  | zero => rfl
  | succ i ih => rw [passI_succ, askE_len, ih]
/-- has a pass changed anything? -/
def chB (rs : List Ru) (e : List Bool) (i : Nat) : Bool := decide (cntF (passI rs e i) < cntF e)
theorem passI_cases (rs : List Ru) (e : List Bool) (i : Nat) : passI rs e i = e ∨ cntF (passI rs e i) < cntF e := by
  induction i with
  | zero => exact .inl rfl
  | succ i ih =>
    rw [passI_succ]
    rcases askE_cases rs (passI rs e i) i with h | h
    · rw [h]; exact ih
    · rcases ih with ih | ih
      · rw [ih] at h ⊢
        exact .inr (by omega)
      · exact .inr (by omega)
theorem chB_zero (rs : List Ru) (e : List Bool) : chB rs e 0 = false := by
  unfold chB
  rw [passI_zero]
  exact decide_eq_false (Nat.lt_irrefl _)
theorem chB_keep (rs : List Ru) (e : List Bool) (i : Nat) (h : askE rs (passI rs e i) i = passI rs e i) : chB rs e (i + 1) = chB rs e i := by
  unfold chB
  rw [passI_succ, h]
theorem chB_set (rs : List Ru) (e : List Bool) (i : Nat) (hi : i < (passI rs e i).length) (hf : (passI rs e i).getD i false = false) (hm : mayN rs (passI rs e i) (isTok (ruAt rs i)) (ruAt rs i).body = true) : passI rs e (i + 1) = (passI rs e i).set i true ∧ chB rs e (i + 1) = true := by
  have h1 : passI rs e (i + 1) = (passI rs e i).set i true := by
    rw [passI_succ]
    unfold askE
    rw [if_pos ⟨hf, hm⟩]
  refine ⟨h1, ?_⟩
  unfold chB
  rw [h1]
  have := cntF_set _ i hi hf
  rcases passI_cases rs e i with h | h
  · rw [h] at this ⊢
    exact decide_eq_true (by omega)
  · exact decide_eq_true (by omega)
theorem askE_not (rs : List Ru) (e : List Bool) (i : Nat) (h : e.getD i false = true ∨ mayN rs e (isTok (ruAt rs i)) (ruAt rs i).body = false) : askE rs e i = e := by
  unfold askE
  rw [if_neg]
  rintro ⟨h1, h2⟩
  rcases h with h | h
  · rw [h] at h1; cases h1
  · rw [h] at h2; cases h2
theorem passI_not (rs : List Ru) (e : List Bool) (i : Nat) (h : (passI rs e i).getD i false = true ∨ mayN rs (passI rs e i) (isTok (ruAt rs i)) (ruAt rs i).body = false) : passI rs e (i + 1) = passI rs e i ∧ chB rs e (i + 1) = chB rs e i := by
  have h1 := askE_not rs _ i h
  exact ⟨by rw [passI_succ, h1], chB_keep rs e i h1⟩
theorem knownE_succ (rs : List Ru) (f : Nat) (e : List Bool) : knownE rs (f + 1) e = if passE rs e = e then e else knownE rs f (passE rs e) := rfl
/-- amid the passes: so much is known, and what comes of it is what is told -/
def EmpI (rs : List Ru) (e : List Bool) : Prop := e.length = rs.length ∧ ∃ f, emptyR rs = knownE rs f e ∧ cntF e < f
theorem cntF_rep (n : Nat) : cntF (List.replicate n false) = n := by
  unfold cntF
  simp [List.countP_replicate]
theorem EmpI.start (rs : List Ru) : EmpI rs (List.replicate rs.length false) := ⟨by simp, rs.length + 1, rfl, by rw [cntF_rep]; omega⟩
theorem EmpI.next {rs : List Ru} {e : List Bool} (h : EmpI rs e) (hc : chB rs e rs.length = true) : EmpI rs (passI rs e rs.length) ∧ cntF (passI rs e rs.length) < cntF e := by
  obtain ⟨hl, f, h1, h2⟩ := h
  have hc := of_decide_eq_true hc
  refine ⟨⟨by rw [passI_len, hl], ?_⟩, hc⟩
  cases f with
  | zero => omega
  | succ f =>
    refine ⟨f, ?_, by omega⟩
    rw [h1]
    rw [knownE_succ, passE_eq, if_neg (fun e' => by rw [e'] at hc; omega)]
theorem EmpI.done {rs : List Ru} {e : List Bool} (h : EmpI rs e) (hc : chB rs e rs.length = false) : emptyR rs = e ∧ passI rs e rs.length = e := by
  obtain ⟨_, f, h1, h2⟩ := h
  have hc := of_decide_eq_false hc
  have h3 : passI rs e rs.length = e := by
    rcases passI_cases rs e rs.length with h | h
    · exact h
    · exact absurd h hc
  refine ⟨?_, h3⟩
  cases f with
  | zero => omega
  | succ f =>
    rw [h1]
    rw [knownE_succ, passE_eq, if_pos h3]
theorem knownE_len (rs : List Ru) : ∀ (f : Nat) (e : List Bool), (knownE rs f e).length = e.length
  | 0, e => rfl
  | f + 1, e => by
    unfold knownE
    split
    · rfl
    · rw [knownE_len rs f, passE_eq, passI_len]
theorem emptyR_len (rs : List Ru) : (emptyR rs).length = rs.length := by
  unfold emptyR
  rw [knownE_len, List.length_replicate]
/-! ## may a node be empty? -/
theorem mayAll_eq (rs : List Ru) (e : List Bool) (tk : Bool) : ∀ l : List Nd, mayAll rs e tk l = l.all (mayN rs e tk)
  | [] => by simp [mayAll]
  | x :: l => by rw [List.all_cons, ← mayAll_eq rs e tk l]; simp [mayAll]
theorem mayAny_eq (rs : List Ru) (e : List Bool) (tk : Bool) : ∀ l : List Nd, mayAny rs e tk l = l.any (mayN rs e tk)
  | [] => by simp [mayAny]
  | x :: l => by rw [List.any_cons, ← mayAny_eq rs e tk l]; simp [mayAny]
theorem mayN_seq (rs : List Ru) (e : List Bool) (tk : Bool) (n t s l) : mayN rs e tk (.mk 1 n t s l) = l.all (mayN rs e tk) := by rw [← mayAll_eq]; simp [mayN]
theorem mayN_alts (rs : List Ru) (e : List Bool) (tk : Bool) (n t s l) : mayN rs e tk (.mk 0 n t s l) = l.any (mayN rs e tk) := by rw [← mayAny_eq]; simp [mayN]
theorem mayN_plus (rs : List Ru) (e : List Bool) (tk : Bool) (n t s l) : mayN rs e tk (.mk 4 n t s l) = l.any (mayN rs e tk) := by rw [← mayAny_eq]; simp [mayN]
theorem mayN_yes (rs : List Ru) (e : List Bool) (tk : Bool) (k n t s l) (h : k = 2 ∨ k = 3 ∨ k = 7) : mayN rs e tk (.mk k n t s l) = true := by rcases h with rfl | rfl | rfl <;> simp [mayN]
theorem mayN_lit (rs : List Ru) (e : List Bool) (tk : Bool) (n t s l) : mayN rs e tk (.mk 8 n t s l) = t.isEmpty := by simp [mayN]
def getO (e : List Bool) (o : Option Nat) : Bool := match o with
  | none => false
  | some i => e.getD i false
theorem mayN_name (rs : List Ru) (e : List Bool) (tk : Bool) (k n t s l) (h : k = 5 ∨ k = 6) : mayN rs e tk (.mk k n t s l) = getO e (namedR rs tk (.mk k n t s l)) := by
  rcases h with rfl | rfl
  · unfold mayN getO
    rfl
  · unfold mayN getO
    rfl
theorem mayN_no (rs : List Ru) (e : List Bool) (tk : Bool) (k n t s l) (h : 9 ≤ k) : mayN rs e tk (.mk k n t s l) = false := by
  match k, h with
  | 9, _ => simp [mayN]
  | k + 10, _ => simp [mayN]
theorem findR_lt {rs : List Ru} {s : List UInt8} {i : Nat} (h : findR rs s = some i) : i < rs.length := (List.findIdx?_eq_some_iff_getElem.1 h).1
theorem namedR_lt {rs : List Ru} {tk : Bool} {n : Nd} {i : Nat} (h : namedR rs tk n = some i) : i < rs.length := by
  unfold namedR at h
  split at h
  · cases h
  · rename_i j hj
    split at h
    · cases h
    · split at h
      · cases h
      · injection h with h
        subst h
        exact findR_lt hj
/-! ## what a node reaches -/
theorem toldAll_eq (rs : List Ru) (e : List Bool) (tk : Bool) : ∀ l : List Nd, toldAll rs e tk l = l.flatMap (toldN rs e tk)
  | [] => by simp [toldAll]
  | x :: l => by rw [List.flatMap_cons, ← toldAll_eq rs e tk l]; simp [toldAll]
theorem toldN_seq (rs : List Ru) (e : List Bool) (tk : Bool) (n t s l) : toldN rs e tk (.mk 1 n t s l) = toldSeq rs e tk l := by simp [toldN]
theorem toldN_all (rs : List Ru) (e : List Bool) (tk : Bool) (k n t s l) (h : k = 0 ∨ k = 2 ∨ k = 3 ∨ k = 4 ∨ k = 7) : toldN rs e tk (.mk k n t s l) = l.flatMap (toldN rs e tk) := by
  rw [← toldAll_eq]
  rcases h with rfl | rfl | rfl | rfl | rfl <;> simp [toldN]
theorem toldN_name (rs : List Ru) (e : List Bool) (tk : Bool) (k n t s l) (h : k = 5 ∨ k = 6) : toldN rs e tk (.mk k n t s l) = (namedR rs tk (.mk k n t s l)).toList := by
  rcases h with rfl | rfl
  · unfold toldN
    rfl
  · unfold toldN
    rfl
theorem toldN_no (rs : List Ru) (e : List Bool) (tk : Bool) (k n t s l) (h : 8 ≤ k) : toldN rs e tk (.mk k n t s l) = [] := by
  match k, h with
  | 8, _ => simp [toldN]
  | 9, _ => simp [toldN]
  | k + 10, _ => simp [toldN]
theorem toldSeq_take (rs : List Ru) (e : List Bool) (tk : Bool) : ∀ (l : List Nd) (i : Nat) (h : i < l.length), (∀ j (hj : j < i), mayN rs e tk (l[j]'(by omega)) = true) → toldSeq rs e tk l = (l.take i).flatMap (toldN rs e tk) ++ toldSeq rs e tk (l.drop i)
  | x :: l, 0, _, _ => by simp
  | x :: l, i + 1, h, hm => by
    have ih := toldSeq_take rs e tk l i (by simpa using h) (fun j hj => by have := hm (j + 1) (by omega); simpa using this)
    have h0 : mayN rs e tk x = true := hm 0 (by omega)
    rw [List.take_succ_cons, List.flatMap_cons, List.drop_succ_cons, List.append_assoc, ← ih]
    simp [toldSeq, h0]
theorem toldSeq_cons (rs : List Ru) (e : List Bool) (tk : Bool) (x : Nd) (l : List Nd) : toldSeq rs e tk (x :: l) = toldN rs e tk x ++ (if mayN rs e tk x = true then toldSeq rs e tk l else []) := by simp [toldSeq]
theorem toldSeq_nil (rs : List Ru) (e : List Bool) (tk : Bool) : toldSeq rs e tk [] = [] := by simp [toldSeq]
theorem toldSeq_all (rs : List Ru) (e : List Bool) (tk : Bool) : ∀ (l : List Nd), (∀ j (hj : j < l.length), mayN rs e tk l[j] = true) → toldSeq rs e tk l = l.flatMap (toldN rs e tk)
  | [], _ => by rw [toldSeq_nil]; rfl
  | x :: l, h => by
    have h0 : mayN rs e tk x = true := h 0 (by simp)
    rw [toldSeq_cons, if_pos h0, List.flatMap_cons, toldSeq_all rs e tk l fun j hj => h (j + 1) (by simpa using hj)]
theorem toldSeq_stop (rs : List Ru) (e : List Bool) (tk : Bool) (l : List Nd) (i : Nat) (h : i < l.length) (hm : ∀ j (hj : j < l.length), j < i → mayN rs e tk l[j] = true) (hs : mayN rs e tk l[i] = false) : toldSeq rs e tk l = (l.take i).flatMap (toldN rs e tk) ++ toldN rs e tk l[i] := by
  rw [toldSeq_take rs e tk l i h (fun j hj => hm j (by omega) hj), List.drop_eq_getElem_cons h, toldSeq_cons, if_neg (by rw [hs]; exact Bool.false_ne_true), List.append_nil]
/-! ## who goes on to whom -/
/-- amid the closing over one more: rows ahead of i are done, and so much of row i -/
def ovI (F : Nat → Nat → Bool) (b i k : Nat) : Nat → Nat → Bool := fun j c => if j < i ∨ (j = i ∧ c < k) then overF F b j c else F j c
theorem overF_col (F : Nat → Nat → Bool) (b i : Nat) : overF F b i b = F i b := by
  unfold overF
  cases F i b <;> rfl
theorem overF_row (F : Nat → Nat → Bool) (b k : Nat) : overF F b b k = F b k := by
  unfold overF
  cases F b k <;> cases F b b <;> rfl
theorem ovI_at (F : Nat → Nat → Bool) (b i k : Nat) : ovI F b i k i k = F i k := by
  unfold ovI
  rw [if_neg (by omega)]
theorem ovI_col (F : Nat → Nat → Bool) (b i k : Nat) : ovI F b i k i b = F i b := by
  unfold ovI
  split
  · exact overF_col F b i
  · rfl
theorem ovI_row (F : Nat → Nat → Bool) (b i k : Nat) : ovI F b i k b k = F b k := by
  unfold ovI
  split
  · exact overF_row F b k
  · rfl
theorem ovI_start (F : Nat → Nat → Bool) (b : Nat) : ovI F b 0 0 = F := by
  funext j c
  unfold ovI
  rw [if_neg (by omega)]
theorem ovI_set (F : Nat → Nat → Bool) (b i k : Nat) (j c : Nat) : ovI F b i (k + 1) j c = if j = i ∧ c = k then overF F b i k else ovI F b i k j c := by
  unfold ovI
  by_cases h : j = i ∧ c = k
  · obtain ⟨rfl, rfl⟩ := h
    rw [if_pos (by omega), if_pos ⟨rfl, rfl⟩]
  · rw [if_neg h]
    by_cases h2 : j < i ∨ j = i ∧ c < k
    · rw [if_pos h2, if_pos (by omega)]
    · rw [if_neg h2, if_neg (by omega)]
theorem ovI_line (F : Nat → Nat → Bool) (b i n : Nat) (j c : Nat) (hc : c < n) : ovI F b i n j c = ovI F b (i + 1) 0 j c := by
  unfold ovI
  by_cases h : j < i ∨ j = i ∧ c < n
  · rw [if_pos h, if_pos (by omega)]
  · rw [if_neg h, if_neg (by omega)]
theorem ovI_done (F : Nat → Nat → Bool) (b n : Nat) (j c : Nat) (hj : j < n) : ovI F b n 0 j c = overF F b j c := by
  unfold ovI
  rw [if_pos (.inl hj)]
/-- so many are gone over -/
def closeI (F : Nat → Nat → Bool) (b : Nat) : Nat → Nat → Bool := (List.range b).foldl overF F
theorem closeI_zero (F : Nat → Nat → Bool) : closeI F 0 = F := rfl
theorem closeI_succ (F : Nat → Nat → Bool) (b : Nat) : closeI F (b + 1) = overF (closeI F b) b := by
  unfold closeI
  rw [List.range_succ, List.foldl_append]
  rfl
theorem closeF_eq (n : Nat) (F : Nat → Nat → Bool) : closeF n F = closeI F n := rfl
end Gr
end Go.Proofs.YtpbnfinmjnpkpaaGreatDoor
