/-
  Texts of trees: plain: a tree that may be is told by its text.
-/
import Derived.Test.YtcbilcfieoibbaaGreatDoorRpTree
namespace Go.Proofs.YtcbilcfieoibbaaGreatDoor
namespace Rp
/-! ## what ends at the first mark -/
theorem cut_inj (M : UInt8 → Prop) : ∀ (a b : By) (c d : UInt8) (s t : By), (∀ x ∈ a, ¬ M x) → (∀ x ∈ b, ¬ M x) → M c → M d → a ++ c :: s = b ++ d :: t → a = b ∧ c = d ∧ s = t
  | [], [], _, _, _, _, _, _, _, _, h => by injection h with h1 h2; exact ⟨rfl, h1, h2⟩
  | [], y :: b, c, d, s, t, _, hb, hc, _, h => by injection h with h1 h2; exact absurd (h1 ▸ hc) (hb y (by simp))
  | x :: a, [], c, d, s, t, ha, _, _, hd, h => by injection h with h1 h2; exact absurd (h1 ▸ hd) (ha x (by simp))
  | x :: a, y :: b, c, d, s, t, ha, hb, hc, hd, h => by
    injection h with h1 h2
    obtain ⟨e1, e2, e3⟩ := cut_inj M a b c d s t (fun z hz => ha z (by simp [hz])) (fun z hz => hb z (by simp [hz])) hc hd h2
    exact ⟨by rw [h1, e1], e2, e3⟩
/-! ## digits -/
theorem dig_inj (a b : Nat) (ha : a < 16) (hb : b < 16) (h : dig a = dig b) : a = b := by
  have h1 := congrArg UInt8.toNat h
  unfold dig at h1
  split at h1 <;> split at h1 <;> simp [Nat.toUInt8, UInt8.toNat_ofNat'] at h1 <;> omega
theorem dig_ne (a : Nat) (ha : a < 16) : dig a ≠ 125 := by
  intro h
  have h1 := congrArg UInt8.toNat h
  unfold dig at h1
  split at h1 <;> simp [Nat.toUInt8, UInt8.toNat_ofNat'] at h1 <;> omega
theorem hexF_ne : ∀ (f n : Nat), ∀ x ∈ hexF f n, x ≠ 125
  | 0, _, x, h => by simp [hexF] at h
  | f + 1, n, x, h => by
    unfold hexF at h
    split at h
    · next e => simp at h; subst h; exact dig_ne n e
    · rcases List.mem_append.1 h with h | h
      · exact hexF_ne f _ x h
      · simp at h; subst h; exact dig_ne _ (Nat.mod_lt _ (by decide))
theorem hexF_pos : ∀ (f n : Nat), hexF (f + 1) n ≠ []
  | f, n => by
    unfold hexF
    split <;> simp
theorem hexF_inj : ∀ (f g a b : Nat), a < 16 ^ f → b < 16 ^ g → hexF f a = hexF g b → a = b
  | 0, 0, a, b, ha, hb, _ => by simp at ha hb; omega
  | 0, g + 1, a, b, ha, hb, h => absurd h.symm (hexF_pos g b)
  | f + 1, 0, a, b, ha, hb, h => absurd h (hexF_pos f a)
  | f + 1, g + 1, a, b, ha, hb, h => by
    rw [Nat.pow_succ] at ha hb
    unfold hexF at h
    split at h
    · next e1 =>
      split at h
      · next e2 => simp at h; exact dig_inj a b e1 e2 h
      · next e2 =>
        cases g with
        | zero => simp at hb; omega
        | succ g =>
          have h1 := congrArg List.length h
          have h2 : 0 < (hexF (g + 1) (b / 16)).length := List.length_pos_iff.2 (hexF_pos g _)
          rw [List.length_append] at h1
          simp only [List.length_cons, List.length_nil] at h1
          omega
    · next e1 =>
      split at h
      · next e2 =>
        cases f with
        | zero => simp at ha; omega
        | succ f =>
          have h1 := congrArg List.length h
          have h2 : 0 < (hexF (f + 1) (a / 16)).length := List.length_pos_iff.2 (hexF_pos f _)
          rw [List.length_append] at h1
          simp only [List.length_cons, List.length_nil] at h1
          omega
      · next e2 =>
        have h1 := List.append_inj' h rfl
        have h2 := hexF_inj f g (a / 16) (b / 16) (by omega) (by omega) h1.1
        have h3 : dig (a % 16) = dig (b % 16) := by simpa using h1.2
        have h4 := dig_inj _ _ (Nat.mod_lt _ (by decide)) (Nat.mod_lt _ (by decide)) h3
        omega
/-! ## runes -/
def escK (r : Nat) : Nat := if r = 10 then 110 else if r = 13 then 114 else if r = 9 then 116 else if r = 92 ∨ r = 39 ∨ r = 93 ∨ r = 91 ∨ r = 45 then r else 117
def esc1 (r : Nat) : By := (escK r).toUInt8 :: (if escK r = 117 then 123 :: (hexD r ++ [125]) else [])
def isEsc (r : Nat) : Prop := r = 10 ∨ r = 13 ∨ r = 9 ∨ r = 92 ∨ r = 39 ∨ r = 93 ∨ r = 91 ∨ r = 45 ∨ ¬ (32 ≤ r ∧ r ≤ 126)
instance (r : Nat) : Decidable (isEsc r) := by unfold isEsc; infer_instance
theorem escK_lt (r : Nat) : escK r < 256 := by
  unfold escK
  repeat' split
  all_goals omega
theorem escT_of_esc (r : Nat) (h : isEsc r) : escT r = 92 :: esc1 r := by
  unfold isEsc at h
  unfold escT esc1 escK
  by_cases h1 : r = 10
  · subst h1; rfl
  by_cases h2 : r = 13
  · subst h2; rfl
  by_cases h3 : r = 9
  · subst h3; rfl
  by_cases h4 : r = 92 ∨ r = 39 ∨ r = 93 ∨ r = 91 ∨ r = 45
  · rcases h4 with h4 | h4 | h4 | h4 | h4 <;> (subst h4; rfl)
  · rw [if_neg h1, if_neg h2, if_neg h3, if_neg h4, if_neg (by omega)]
    simp [h1, h2, h3, h4]
theorem escT_of_not (r : Nat) (h : ¬ isEsc r) : escT r = [r.toUInt8] ∧ 32 ≤ r ∧ r ≤ 126 ∧ r ≠ 92 ∧ r ≠ 39 := by
  unfold isEsc at h
  refine ⟨?_, by omega, by omega, by omega, by omega⟩
  unfold escT
  rw [if_neg (by omega), if_neg (by omega), if_neg (by omega), if_neg (by omega), if_pos (by omega)]
theorem u8_inj (a b : Nat) (ha : a < 256) (hb : b < 256) (h : a.toUInt8 = b.toUInt8) : a = b := by
  have h1 := congrArg UInt8.toNat h
  simp [Nat.toUInt8, UInt8.toNat_ofNat'] at h1; omega
theorem esc1_inj (a b : Nat) (ha : a < 4294967296) (hb : b < 4294967296) (s t : By) (ea : isEsc a) (_eb : isEsc b) (h : esc1 a ++ s = esc1 b ++ t) : a = b ∧ s = t := by
  unfold esc1 at h
  rw [List.cons_append, List.cons_append] at h
  injection h with h1 h2
  have hk := u8_inj _ _ (escK_lt a) (escK_lt b) h1
  by_cases e : escK a = 117
  · rw [if_pos e, if_pos (hk ▸ e), List.cons_append, List.cons_append] at h2
    injection h2 with _ h3
    rw [List.append_assoc, List.append_assoc] at h3
    obtain ⟨q1, _, q3⟩ := cut_inj (· = 125) _ _ _ _ _ _ (hexF_ne 8 a) (hexF_ne 8 b) rfl rfl h3
    exact ⟨hexF_inj 8 8 a b (by simpa using ha) (by simpa using hb) q1, q3⟩
  · rw [if_neg e, if_neg (hk ▸ e)] at h2
    refine ⟨?_, by simpa using h2⟩
    unfold isEsc at ea _eb
    unfold escK at hk e
    repeat' split at hk
    all_goals simp_all
    all_goals omega
theorem escT_inj (a b : Nat) (ha : a < 4294967296) (hb : b < 4294967296) (s t : By) (h : escT a ++ s = escT b ++ t) : a = b ∧ s = t := by
  by_cases ea : isEsc a
  · rw [escT_of_esc a ea] at h
    by_cases eb : isEsc b
    · rw [escT_of_esc b eb, List.cons_append, List.cons_append] at h
      injection h with _ h
      exact esc1_inj a b ha hb s t ea eb h
    · obtain ⟨e, h1, h2, h3, _⟩ := escT_of_not b eb
      rw [e, List.cons_append, List.cons_append] at h
      injection h with h _
      exact absurd (u8_inj 92 b (by decide) (by omega) h).symm h3
  · obtain ⟨e1, h1, h2, h3, _⟩ := escT_of_not a ea
    rw [e1] at h
    by_cases eb : isEsc b
    · rw [escT_of_esc b eb, List.cons_append, List.cons_append] at h
      injection h with h _
      exact absurd (u8_inj a 92 (by omega) (by decide) h) h3
    · obtain ⟨e, g1, g2, g3, _⟩ := escT_of_not b eb
      rw [e, List.cons_append, List.cons_append] at h
      injection h with h h'
      exact ⟨u8_inj a b (by omega) (by omega) h, by simpa using h'⟩
theorem escT_ne (a : Nat) (s t : By) : escT a ++ s ≠ 39 :: t := by
  intro h
  by_cases ea : isEsc a
  · rw [escT_of_esc a ea, List.cons_append] at h
    injection h with h _
    exact absurd h (by decide)
  · obtain ⟨e, h1, h2, _, h3⟩ := escT_of_not a ea
    rw [e, List.cons_append] at h
    injection h with h _
    exact h3 (u8_inj a 39 (by omega) (by decide) h)
/-! ## texts that are runes -/
def goodN : Nat → By → Bool
  | 0, _ => true
  | n + 1, l => if l = [] then true else if decR l = (65533, 1) then false else goodN n (l.drop (decR l).2)
/-- is a text made of runes? -/
def good (l : By) : Bool := goodN l.length l
theorem goodN_more : ∀ (n m : Nat) (l : By), l.length ≤ n → l.length ≤ m → goodN n l = goodN m l
  | 0, 0, _, _, _ => rfl
  | 0, m + 1, l, h, _ => by
    have : l = [] := List.length_eq_zero_iff.1 (by omega)
    subst this
    rfl
  | n + 1, 0, l, _, h => by
    have : l = [] := List.length_eq_zero_iff.1 (by omega)
    subst this
    rfl
  | n + 1, m + 1, l, h1, h2 => by
    unfold goodN
    split
    · rfl
    · next e =>
      have hb := dec_bounds l e
      rw [goodN_more n m _ (by rw [List.length_drop]; omega) (by rw [List.length_drop]; omega)]
theorem good_step {l : By} (h : l ≠ []) : good l = if decR l = (65533, 1) then false else good (l.drop (decR l).2) := by
  have hb := dec_bounds l h
  unfold good
  obtain ⟨n, hn⟩ : ∃ n, l.length = n + 1 := ⟨l.length - 1, by omega⟩
  rw [hn]
  show (if l = [] then true else if decR l = (65533, 1) then false else goodN n (l.drop (decR l).2)) = _
  rw [if_neg h, goodN_more n _ _ (by rw [List.length_drop]; omega) (Nat.le_refl _)]
theorem dec_take {l : By} (h : l ≠ []) (hg : decR l ≠ (65533, 1)) : l.take (decR l).2 = encB (decR l).1 := by
  have h1 := ref_dec l h
  rw [if_neg hg] at h1
  unfold refD at h1
  repeat' split at h1
  all_goals first | (injection h1 with h1; rw [← h1]; rename_i hh; exact hh.2.symm) | cases h1
theorem spell_inj : ∀ (n : Nat) (a b s t : By), a.length ≤ n → good a = true → good b = true → spell a ++ 39 :: s = spell b ++ 39 :: t → a = b ∧ s = t := by
  intro n
  induction n with
  | zero =>
    intro a b s t hn ga gb h
    obtain rfl : a = [] := List.length_eq_zero_iff.1 (by omega)
    by_cases e : b = []
    · subst e; simpa using h
    · rw [good_step e] at gb
      have hr : decR b ≠ (65533, 1) := fun q => by rw [if_pos q] at gb; cases gb
      rw [spell_step e, piece, if_neg hr, spell_nil, List.nil_append, List.append_assoc] at h
      exact absurd h.symm (escT_ne _ _ _)
  | succ n ih =>
    intro a b s t hn ga gb h
    by_cases ea : a = []
    · subst ea
      by_cases e : b = []
      · subst e; simpa using h
      · rw [good_step e] at gb
        have hr : decR b ≠ (65533, 1) := fun q => by rw [if_pos q] at gb; cases gb
        rw [spell_step e, piece, if_neg hr, spell_nil, List.nil_append, List.append_assoc] at h
        exact absurd h.symm (escT_ne _ _ _)
    · rw [good_step ea] at ga
      have ha : decR a ≠ (65533, 1) := fun q => by rw [if_pos q] at ga; cases ga
      rw [if_neg ha] at ga
      by_cases e : b = []
      · subst e
        rw [spell_step ea, piece, if_neg ha, spell_nil, List.nil_append, List.append_assoc] at h
        exact absurd h (escT_ne _ _ _)
      · rw [good_step e] at gb
        have hr : decR b ≠ (65533, 1) := fun q => by rw [if_pos q] at gb; cases gb
        rw [if_neg hr] at gb
        rw [spell_step e, spell_step ea, piece, piece, if_neg hr, if_neg ha, List.append_assoc, List.append_assoc] at h
        have ba := dec_bounds a ea
        have bb := dec_bounds b e
        obtain ⟨h1, h2⟩ := escT_inj _ _ (by omega) (by omega) _ _ h
        obtain ⟨h3, h4⟩ := ih _ _ s t (by rw [List.length_drop]; omega) ga gb h2
        have t1 := dec_take ea ha
        have t2 := dec_take e hr
        rw [h1, ← t2] at t1
        refine ⟨?_, h4⟩
        rw [← List.take_append_drop (decR a).2 a, ← List.take_append_drop (decR b).2 b, h3, t1]
/-! ## names -/
/-- marks of a tree's text -/
def mark (c : UInt8) : Bool := c == 40 || c == 41 || c == 91 || c == 93 || c == 39 || c == 63 || c == 33 || c == 32
def plainB (l : By) : Bool := l.all fun c => !mark c
theorem plain_not {l : By} (h : plainB l = true) : ∀ x ∈ l, ¬ mark x = true := by
  intro x hx
  have := List.all_eq_true.1 h x hx
  simpa using this
theorem name_at {l : List By} {i : Int} (h0 : 0 ≤ i) (h : i < l.length) : ∃ hi : i.toNat < l.length, name l i = l[i.toNat] := by
  have hi : i.toNat < l.length := by omega
  refine ⟨hi, ?_⟩
  unfold name
  rw [if_pos ⟨h0, h⟩, List.getD_eq_getElem?_getD, List.getElem?_eq_getElem hi]
  rfl
theorem nodup_inj {l : List By} (hl : l.Nodup) {i j : Nat} (hi : i < l.length) (hj : j < l.length) (h : l[i] = l[j]) : i = j := by
  have hp := List.pairwise_iff_getElem.1 hl
  rcases Nat.lt_trichotomy i j with g | g | g
  · exact absurd h (hp i j hi hj g)
  · exact g
  · exact absurd h.symm (hp j i hj hi g)
theorem name_inj {l : List By} (hl : l.Nodup) {i j : Int} (i0 : 0 ≤ i) (i1 : i < l.length) (j0 : 0 ≤ j) (j1 : j < l.length) (h : name l i = name l j) : i = j := by
  obtain ⟨hi, e1⟩ := name_at i0 i1
  obtain ⟨hj, e2⟩ := name_at j0 j1
  rw [e1, e2] at h
  have := nodup_inj hl hi hj h
  omega
theorem name_plain {l : List By} (hl : ∀ x ∈ l, plainB x = true) {i : Int} (i0 : 0 ≤ i) (i1 : i < l.length) : plainB (name l i) = true := by
  obtain ⟨hi, e1⟩ := name_at i0 i1
  rw [e1]
  exact hl _ (List.getElem_mem hi)
/-! ## trees that may be -/
mutual
def propT (n m w : Nat) : Tr → Bool
  | .node r t k _ subs => if r = -1 then decide (subs.length = 0) && decide (0 ≤ k) && decide (k < m) && decide (-1 ≤ t) && decide (t < w) else decide (-2 ≤ r) && decide (r < n) && decide (t = 0) && decide (k = 0) && propL n m w subs
def propL (n m w : Nat) : List Tr → Bool
  | [] => true
  | t :: l => propT n m w t && propL n m w l
end
/-- what the trees' names and texts are -/
structure Nms (n m w : List By) : Prop where
  np : ∀ x ∈ n, plainB x = true
  mp : ∀ x ∈ m, plainB x = true
  nu : n.Nodup
  mu : m.Nodup
  wg : ∀ x ∈ w, good x = true
  wu : w.Nodup
def bodyT (n m w : List By) (r t k : Int) (subs : List Tr) : By := if r = -1 then tokT m w k t else if r < -1 then [91] ++ sepT n m w true subs ++ [93] else [40] ++ name n r ++ sepT n m w false subs ++ [41]
theorem treeT_body (n m w : List By) (r t k : Int) (e : Bool) (subs : List Tr) : treeT n m w (.node r t k e subs) = (if e = true then [33] else []) ++ bodyT n m w r t k subs := by
  rw [treeT, bodyT]
theorem tokT_head {n m w : List By} (H : Nms n m w) {k t : Int} (k0 : 0 ≤ k) (k1 : k < m.length) : ∃ d u, tokT m w k t = d :: u ∧ d ≠ 33 ∧ d ≠ 32 ∧ d ≠ 41 ∧ d ≠ 93 ∧ d ≠ 91 ∧ d ≠ 40 := by
  have hp := plain_not (name_plain H.mp k0 k1)
  unfold tokT
  cases hn : name m k with
  | nil => by_cases e : t < 0
           · rw [if_pos e]; exact ⟨63, _, rfl, by decide⟩
           · rw [if_neg e]; exact ⟨39, _, rfl, by decide⟩
  | cons c u =>
    rw [hn] at hp
    have h1 := hp c (by simp)
    refine ⟨c, u ++ _, rfl, ?_⟩
    unfold mark at h1
    simp at h1
    simp [h1]
theorem body_head {n m w : List By} (H : Nms n m w) {r t k : Int} {e : Bool} {subs : List Tr} (h : propT n.length m.length w.length (.node r t k e subs) = true) :
    ∃ d u, bodyT n m w r t k subs = d :: u ∧ d ≠ 33 ∧ d ≠ 32 ∧ d ≠ 41 ∧ d ≠ 93 ∧ (r = -1 → d ≠ 91 ∧ d ≠ 40) ∧ (r < -1 → d = 91) ∧ (-1 < r → d = 40) := by
  unfold propT at h
  unfold bodyT
  by_cases e1 : r = -1
  · rw [if_pos e1] at h ⊢
    simp at h
    obtain ⟨d, u, q, q1, q2, q3, q4, q5, q6⟩ := tokT_head (t := t) H h.1.1.1.2 h.1.1.2
    exact ⟨d, u, q, q1, q2, q3, q4, fun _ => ⟨q5, q6⟩, fun h => by omega, fun h => by omega⟩
  · rw [if_neg e1]
    by_cases e2 : r < -1
    · rw [if_pos e2]
      exact ⟨91, _, rfl, by decide, by decide, by decide, by decide, fun h => absurd h e1, fun _ => rfl, fun h => by omega⟩
    · rw [if_neg e2]
      exact ⟨40, _, rfl, by decide, by decide, by decide, by decide, fun h => absurd h e1, fun h => absurd h e2, fun _ => rfl⟩
theorem tree_head {n m w : List By} (H : Nms n m w) {T : Tr} (h : propT n.length m.length w.length T = true) : ∃ d u, treeT n m w T = d :: u ∧ d ≠ 32 ∧ d ≠ 41 ∧ d ≠ 93 := by
  cases T with
  | node r t k e subs =>
    obtain ⟨d, u, q, q1, q2, q3, q4, _⟩ := body_head H h
    rw [treeT_body]
    cases e with
    | true => exact ⟨33, _, rfl, by decide⟩
    | false => exact ⟨d, u, by simpa using q, q2, q3, q4⟩
theorem tokT_inj {n m w : List By} (H : Nms n m w) {k t k' t' : Int} (k0 : 0 ≤ k) (k1 : k < m.length) (t0 : -1 ≤ t) (t1 : t < w.length) (k0' : 0 ≤ k') (k1' : k' < m.length) (t0' : -1 ≤ t') (t1' : t' < w.length) (s s' : By)
    (h : tokT m w k t ++ s = tokT m w k' t' ++ s') : k = k' ∧ t = t' ∧ s = s' := by
  have hp := plain_not (name_plain H.mp k0 k1)
  have hp' := plain_not (name_plain H.mp k0' k1')
  unfold tokT at h
  by_cases e : t < 0
  · rw [if_pos e] at h
    by_cases e' : t' < 0
    · rw [if_pos e', List.append_assoc, List.append_assoc] at h
      obtain ⟨q1, _, q3⟩ := cut_inj (fun c => mark c = true) _ _ _ _ _ _ hp hp' (by decide) (by decide) h
      exact ⟨name_inj H.mu k0 k1 k0' k1' q1, by omega, q3⟩
    · rw [if_neg e', List.append_assoc, List.append_assoc, List.append_assoc, List.append_assoc] at h
      obtain ⟨_, q2, _⟩ := cut_inj (fun c => mark c = true) _ _ _ _ _ _ hp hp' (by decide) (by decide) h
      exact absurd q2 (by decide)
  · rw [if_neg e] at h
    by_cases e' : t' < 0
    · rw [if_pos e', List.append_assoc, List.append_assoc, List.append_assoc, List.append_assoc] at h
      obtain ⟨_, q2, _⟩ := cut_inj (fun c => mark c = true) _ _ _ _ _ _ hp hp' (by decide) (by decide) h
      exact absurd q2 (by decide)
    · rw [if_neg e', if_pos t1, if_pos t1'] at h
      simp only [List.append_assoc] at h
      obtain ⟨q1, _, q3⟩ := cut_inj (fun c => mark c = true) _ _ _ _ _ _ hp hp' (by decide) (by decide) h
      have hi : t.toNat < w.length := by omega
      have hi' : t'.toNat < w.length := by omega
      change spell (w.getD t.toNat []) ++ 39 :: s = spell (w.getD t'.toNat []) ++ 39 :: s' at q3
      rw [List.getD_eq_getElem?_getD, List.getElem?_eq_getElem hi, List.getD_eq_getElem?_getD, List.getElem?_eq_getElem hi'] at q3
      obtain ⟨q4, q5⟩ := spell_inj _ _ _ _ _ (Nat.le_refl _) (H.wg _ (List.getElem_mem hi)) (H.wg _ (List.getElem_mem hi')) q3
      have q6 := nodup_inj H.wu hi hi' q4
      exact ⟨name_inj H.mu k0 k1 k0' k1' q1, by omega, q5⟩
theorem sep_inj {n m w : List By} (H : Nms n m w) (c : UInt8) (hc : c = 41 ∨ c = 93) : ∀ (l l' : List Tr) (b : Bool) (s s' : By),
    (∀ x ∈ l, ∀ (y : Tr) (s s' : By), propT n.length m.length w.length x = true → propT n.length m.length w.length y = true → treeT n m w x ++ s = treeT n m w y ++ s' → x = y ∧ s = s') →
    propL n.length m.length w.length l = true → propL n.length m.length w.length l' = true → sepT n m w b l ++ c :: s = sepT n m w b l' ++ c :: s' → l = l' ∧ s = s' := by
  have key : ∀ (b : Bool) (x : Tr) (r : By) (s : By), propT n.length m.length w.length x = true → (if b = true then [] else [32]) ++ treeT n m w x ++ r ≠ c :: s := by
    intro b x r s hx h
    cases b with
    | true =>
      obtain ⟨d, u, q, _, q2, q3⟩ := tree_head H hx
      rw [q] at h
      simp at h
      rcases hc with hc | hc
      · exact q2 (h.1.trans hc)
      · exact q3 (h.1.trans hc)
    | false =>
      simp at h
      rcases hc with hc | hc
      · rw [hc] at h; exact absurd h.1 (by decide)
      · rw [hc] at h; exact absurd h.1 (by decide)
  intro l
  induction l with
  | nil =>
    intro l' b s s' _ _ hl' h
    cases l' with
    | nil => simpa [sepT] using h
    | cons y l' =>
      unfold propL at hl'
      simp at hl'
      rw [sepT, sepT, List.nil_append, List.append_assoc] at h
      exact absurd h.symm (key b y _ _ hl'.1)
  | cons x l ih =>
    intro l' b s s' hx hl hl' h
    unfold propL at hl
    simp at hl
    cases l' with
    | nil =>
      rw [sepT, sepT, List.nil_append, List.append_assoc] at h
      exact absurd h (key b x _ _ hl.1)
    | cons y l' =>
      unfold propL at hl'
      simp at hl'
      rw [sepT, sepT] at h
      simp only [List.append_assoc] at h
      have h := List.append_cancel_left h
      obtain ⟨e1, h2⟩ := hx x (by simp) y _ _ hl.1 hl'.1 h
      obtain ⟨e2, h3⟩ := ih l' false s s' (fun z hz => hx z (by simp [hz])) hl.2 hl'.2 h2
      exact ⟨by rw [e1, e2], h3⟩
theorem szT_mem : ∀ (l : List Tr) (x : Tr), x ∈ l → szT x ≤ szL l
  | y :: l, x, h => by
    rw [szL]
    rcases List.mem_cons.1 h with rfl | h
    · omega
    · have := szT_mem l x h; omega
theorem tree_inj {n m w : List By} (H : Nms n m w) : ∀ (N : Nat) (x y : Tr) (s s' : By), szT x ≤ N → propT n.length m.length w.length x = true → propT n.length m.length w.length y = true → treeT n m w x ++ s = treeT n m w y ++ s' → x = y ∧ s = s' := by
  intro N
  induction N with
  | zero => intro x _ _ _ hz; have := szT_pos x; omega
  | succ N ih =>
    intro x y s s' hz hx hy h
    obtain ⟨r, t, k, e, subs⟩ := x
    obtain ⟨r', t', k', e', subs'⟩ := y
    obtain ⟨d, u, q, q1, _, _, _, a1, a2, a3⟩ := body_head H hx
    obtain ⟨d', u', q', q1', _, _, _, b1, b2, b3⟩ := body_head H hy
    have hsz : szL subs ≤ N := by rw [szT] at hz; omega
    rw [treeT_body, treeT_body] at h
    have hh : e = e' ∧ bodyT n m w r t k subs ++ s = bodyT n m w r' t' k' subs' ++ s' := by
      cases e <;> cases e'
      · exact ⟨rfl, by simpa using h⟩
      · rw [q] at h; simp at h; exact absurd h.1 q1
      · rw [q'] at h; simp at h; exact absurd h.1.symm q1'
      · exact ⟨rfl, by simpa using h⟩
    clear h
    obtain ⟨he, h⟩ := hh
    subst he
    have hd : d = d' := by rw [q, q'] at h; injection h
    subst hd
    clear q q' q1 q1'
    have IH : ∀ z ∈ subs, ∀ (y : Tr) (s s' : By), propT n.length m.length w.length z = true → propT n.length m.length w.length y = true → treeT n m w z ++ s = treeT n m w y ++ s' → z = y ∧ s = s' :=
      fun z hz y s s' h1 h2 h3 => ih z y s s' (Nat.le_trans (szT_mem subs z hz) hsz) h1 h2 h3
    unfold propT at hx hy
    unfold bodyT at h
    by_cases e1 : r = -1
    · have e1' : r' = -1 := by
        rcases Int.lt_trichotomy r' (-1) with g | g | g
        · exact absurd (b2 g) (a1 e1).1
        · exact g
        · exact absurd (b3 g) (a1 e1).2
      rw [if_pos e1] at hx h
      rw [if_pos e1'] at hy h
      simp at hx hy
      obtain ⟨c1, c2, c3⟩ := tokT_inj H hx.1.1.1.2 hx.1.1.2 hx.1.2 hx.2 hy.1.1.1.2 hy.1.1.2 hy.1.2 hy.2 s s' h
      exact ⟨by rw [e1, e1', c1, c2, hx.1.1.1.1, hy.1.1.1.1], c3⟩
    · by_cases e2 : r < -1
      · have e2' : r' < -1 := by
          rcases Int.lt_trichotomy r' (-1) with g | g | g
          · exact g
          · exact absurd (a2 e2) (b1 g).1
          · have g1 := a2 e2; have g2 := b3 g; rw [g1] at g2; exact absurd g2 (by decide)
        rw [if_neg e1] at hx h
        rw [if_neg (show ¬ r' = -1 by omega)] at hy h
        rw [if_pos e2, if_pos e2'] at h
        simp at hx hy
        simp only [List.append_assoc] at h
        obtain ⟨c1, c2⟩ := sep_inj H 93 (.inr rfl) subs subs' true s s' IH hx.2 hy.2 (List.append_cancel_left h)
        exact ⟨by rw [show r = r' by omega, c1, hx.1.1.2, hx.1.2, hy.1.1.2, hy.1.2], c2⟩
      · have e2' : -1 < r' := by
          rcases Int.lt_trichotomy r' (-1) with g | g | g
          · have g1 := a3 (by omega); have g2 := b2 g; rw [g1] at g2; exact absurd g2 (by decide)
          · exact absurd (a3 (by omega)) (b1 g).2
          · exact g
        rw [if_neg e1] at hx h
        rw [if_neg (show ¬ r' = -1 by omega)] at hy h
        rw [if_neg e2, if_neg (show ¬ r' < -1 by omega)] at h
        simp at hx hy
        simp only [List.append_assoc] at h
        have h := List.append_cancel_left h
        have hsep : ∀ (l : List Tr) (s : By), ∃ c v, sepT n m w false l ++ ([41] ++ s) = c :: v ∧ mark c = true := by
          intro l s
          cases l with
          | nil => exact ⟨41, s, rfl, by decide⟩
          | cons z l => exact ⟨32, _, rfl, by decide⟩
        obtain ⟨p1, v1, g1, m1⟩ := hsep subs s
        obtain ⟨p2, v2, g2, m2⟩ := hsep subs' s'
        have hN := h
        rw [g1, g2] at hN
        obtain ⟨c0, _, _⟩ := cut_inj (fun c => mark c = true) _ _ _ _ _ _ (plain_not (name_plain H.np (show 0 ≤ r by omega) hx.1.1.1.2)) (plain_not (name_plain H.np (show 0 ≤ r' by omega) hy.1.1.1.2)) m1 m2 hN
        have hr := name_inj H.nu (show 0 ≤ r by omega) hx.1.1.1.2 (show 0 ≤ r' by omega) hy.1.1.1.2 c0
        rw [c0] at h
        obtain ⟨c1, c2⟩ := sep_inj H 41 (.inl rfl) subs subs' false s s' IH hx.2 hy.2 (List.append_cancel_left h)
        exact ⟨by rw [hr, c1, hx.1.1.2, hx.1.2, hy.1.1.2, hy.1.2], c2⟩
/-- two trees that may be have one text just if they are one -/
theorem tree_told {n m w : List By} (H : Nms n m w) {x y : Tr} (hx : propT n.length m.length w.length x = true) (hy : propT n.length m.length w.length y = true) : treeT n m w x = treeT n m w y ↔ x = y := by
  constructor
  · intro h
    exact (tree_inj H (szT x) x y [] [] (Nat.le_refl _) hx hy (by rw [h])).1
  · intro h; rw [h]
end Rp
end Go.Proofs.YtcbilcfieoibbaaGreatDoor
