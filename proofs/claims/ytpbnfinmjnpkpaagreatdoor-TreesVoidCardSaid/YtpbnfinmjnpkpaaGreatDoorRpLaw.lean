/-
  Texts of trees: plain: the runes of bytes, what a rune is written as, a tree's text.
-/
import Derived.Lib.DecodeN
namespace Go.Proofs.YtpbnfinmjnpkpaaGreatDoor
namespace Rp
abbrev By := List UInt8
def nth (l : By) (i : Nat) : Nat := (l.getD i 0).toNat
theorem nth_lt (l : By) (i : Nat) : nth l i < 256 := UInt8.toNat_lt _
/-- the first rune of bytes, and its size -/
def decR (l : By) : Nat × Nat := Lib.decodeN l.length (nth l 0) (nth l 1) (nth l 2) (nth l 3)
/-- a rune's bytes; none, if it is no rune -/
def encN (n : Nat) : List Nat :=
  if n < 128 then [n] else if n < 2048 then [192 + n / 64, 128 + n % 64]
  else if n < 65536 then (if n < 55296 ∨ 57344 ≤ n then [224 + n / 4096, 128 + n / 64 % 64, 128 + n % 64] else [])
  else if n ≤ 1114111 then [240 + n / 262144, 128 + n / 4096 % 64, 128 + n / 64 % 64, 128 + n % 64] else []
theorem encN_lt (n : Nat) : ∀ x ∈ encN n, x < 256 := by
  intro x hx
  unfold encN at hx
  repeat' split at hx
  all_goals simp at hx
  all_goals omega
def encB (n : Nat) : By := (encN n).map Nat.toUInt8
def refN (l : By) : Nat → Nat
  | 1 => nth l 0
  | 2 => 64 * (nth l 0 % 32) + nth l 1 % 64
  | 3 => 64 * (64 * (nth l 0 % 16) + nth l 1 % 64) + nth l 2 % 64
  | _ => 64 * (64 * (64 * (nth l 0 % 8) + nth l 1 % 64) + nth l 2 % 64) + nth l 3 % 64
def hit (l : By) (k : Nat) : Prop := k ≤ l.length ∧ encB (refN l k) = l.take k
instance (l : By) (k : Nat) : Decidable (hit l k) := by unfold hit; infer_instance
theorem take_nums (l : By) (k : Nat) (h : k ≤ l.length) : (l.take k).map UInt8.toNat = (List.range k).map (nth l) := by
  apply List.ext_getElem
  · simp; omega
  · intro i h1 h2
    have hi : i < l.length := by simp at h1; omega
    simp [nth, List.getD_eq_getElem?_getD, List.getElem?_eq_getElem hi]
theorem hit_iff (l : By) (k : Nat) (h : k ≤ l.length) : hit l k ↔ encN (refN l k) = (List.range k).map (nth l) := by
  unfold hit encB
  rw [← take_nums l k h]
  constructor
  · rintro ⟨_, e⟩
    rw [← e, List.map_map]
    refine (List.map_id _).symm.trans (List.map_congr_left fun x hx => ?_)
    have := encN_lt _ x hx
    simp [Nat.toUInt8, UInt8.toNat_ofNat']; omega
  · intro e
    refine ⟨h, ?_⟩
    rw [e, List.map_map]
    refine (List.map_congr_left fun x _ => ?_).trans (List.map_id _)
    simp
theorem hit1 (l : By) (h : 1 ≤ l.length) : hit l 1 ↔ nth l 0 < 128 := by
  rw [hit_iff l 1 h]
  have := nth_lt l 0
  show encN (nth l 0) = [nth l 0] ↔ _
  unfold encN
  repeat' split
  all_goals simp
  all_goals omega
theorem hit2 (l : By) (h : 2 ≤ l.length) : hit l 2 ↔ nth l 0 / 32 = 6 ∧ nth l 1 / 64 = 2 ∧ 128 ≤ nth l 0 % 32 * 64 + nth l 1 % 64 := by
  rw [hit_iff l 2 h]
  have := nth_lt l 0
  have := nth_lt l 1
  show encN (64 * (nth l 0 % 32) + nth l 1 % 64) = [nth l 0, nth l 1] ↔ _
  generalize nth l 0 = b0 at *
  generalize nth l 1 = b1 at *
  unfold encN
  repeat' split
  all_goals simp
  all_goals omega
theorem hit3 (l : By) (h : 3 ≤ l.length) : hit l 3 ↔ nth l 0 / 16 = 14 ∧ nth l 1 / 64 = 2 ∧ nth l 2 / 64 = 2 ∧ 2048 ≤ nth l 0 % 16 * 4096 + nth l 1 % 64 * 64 + nth l 2 % 64 ∧ (nth l 0 % 16 * 4096 + nth l 1 % 64 * 64 + nth l 2 % 64 < 55296 ∨ 57344 ≤ nth l 0 % 16 * 4096 + nth l 1 % 64 * 64 + nth l 2 % 64) := by
  rw [hit_iff l 3 h]
  have := nth_lt l 0
  have := nth_lt l 1
  have := nth_lt l 2
  show encN (64 * (64 * (nth l 0 % 16) + nth l 1 % 64) + nth l 2 % 64) = [nth l 0, nth l 1, nth l 2] ↔ _
  generalize nth l 0 = b0 at *
  generalize nth l 1 = b1 at *
  generalize nth l 2 = b2 at *
  unfold encN
  repeat' split
  all_goals simp
  all_goals omega
theorem hit4 (l : By) (h : 4 ≤ l.length) : hit l 4 ↔ nth l 0 / 8 = 30 ∧ nth l 1 / 64 = 2 ∧ nth l 2 / 64 = 2 ∧ nth l 3 / 64 = 2 ∧ 65536 ≤ nth l 0 % 8 * 262144 + nth l 1 % 64 * 4096 + nth l 2 % 64 * 64 + nth l 3 % 64 ∧ nth l 0 % 8 * 262144 + nth l 1 % 64 * 4096 + nth l 2 % 64 * 64 + nth l 3 % 64 ≤ 1114111 := by
  rw [hit_iff l 4 h]
  have := nth_lt l 0
  have := nth_lt l 1
  have := nth_lt l 2
  have := nth_lt l 3
  show encN (64 * (64 * (64 * (nth l 0 % 8) + nth l 1 % 64) + nth l 2 % 64) + nth l 3 % 64) = [nth l 0, nth l 1, nth l 2, nth l 3] ↔ _
  generalize nth l 0 = b0 at *
  generalize nth l 1 = b1 at *
  generalize nth l 2 = b2 at *
  generalize nth l 3 = b3 at *
  unfold encN
  repeat' split
  all_goals simp
  all_goals omega
/-- the document's first rune of bytes -/
def refD (l : By) : Option (Nat × Nat) := if hit l 1 then some (refN l 1, 1) else if hit l 2 then some (refN l 2, 2) else if hit l 3 then some (refN l 3, 3) else if hit l 4 then some (refN l 4, 4) else none
theorem hit_len {l : By} {k : Nat} (h : ¬ k ≤ l.length) : ¬ hit l k := fun e => h e.1
set_option maxHeartbeats 4000000 in
theorem dec_bounds (l : By) (h : l ≠ []) : 1 ≤ (decR l).2 ∧ (decR l).2 ≤ l.length ∧ (decR l).2 ≤ 4 ∧ ((decR l).1 < 55296 ∨ 57344 ≤ (decR l).1 ∧ (decR l).1 ≤ 1114111) := by
  have hl : 1 ≤ l.length := by
    cases l with
    | nil => exact absurd rfl h
    | cons _ _ => simp
  have := nth_lt l 0
  unfold decR Lib.decodeN
  repeat' split
  all_goals simp only
  all_goals omega
set_option maxHeartbeats 4000000 in
theorem ref_dec (l : By) (h : l ≠ []) : refD l = if decR l = (65533, 1) then none else some (decR l) := by
  have hl : 1 ≤ l.length := by
    cases l with
    | nil => exact absurd rfl h
    | cons _ _ => simp
  have b0 := nth_lt l 0
  have b1 := nth_lt l 1
  have b2 := nth_lt l 2
  have b3 := nth_lt l 3
  have h1 := hit1 l hl
  have h2 : hit l 2 ↔ 1 < l.length ∧ nth l 0 / 32 = 6 ∧ nth l 1 / 64 = 2 ∧ 128 ≤ nth l 0 % 32 * 64 + nth l 1 % 64 := by
    by_cases e : 2 ≤ l.length
    · rw [hit2 l e]; exact ⟨fun q => ⟨e, q⟩, fun q => q.2⟩
    · exact ⟨fun q => absurd q (hit_len e), fun q => absurd q.1 e⟩
  have h3 : hit l 3 ↔ 2 < l.length ∧ nth l 0 / 16 = 14 ∧ nth l 1 / 64 = 2 ∧ nth l 2 / 64 = 2 ∧ 2048 ≤ nth l 0 % 16 * 4096 + nth l 1 % 64 * 64 + nth l 2 % 64 ∧ (nth l 0 % 16 * 4096 + nth l 1 % 64 * 64 + nth l 2 % 64 < 55296 ∨ 57344 ≤ nth l 0 % 16 * 4096 + nth l 1 % 64 * 64 + nth l 2 % 64) := by
    by_cases e : 3 ≤ l.length
    · rw [hit3 l e]; exact ⟨fun q => ⟨e, q⟩, fun q => q.2⟩
    · exact ⟨fun q => absurd q (hit_len e), fun q => absurd q.1 e⟩
  have h4 : hit l 4 ↔ 3 < l.length ∧ nth l 0 / 8 = 30 ∧ nth l 1 / 64 = 2 ∧ nth l 2 / 64 = 2 ∧ nth l 3 / 64 = 2 ∧ 65536 ≤ nth l 0 % 8 * 262144 + nth l 1 % 64 * 4096 + nth l 2 % 64 * 64 + nth l 3 % 64 ∧ nth l 0 % 8 * 262144 + nth l 1 % 64 * 4096 + nth l 2 % 64 * 64 + nth l 3 % 64 ≤ 1114111 := by
    by_cases e : 4 ≤ l.length
    · rw [hit4 l e]; exact ⟨fun q => ⟨e, q⟩, fun q => q.2⟩
    · exact ⟨fun q => absurd q (hit_len e), fun q => absurd q.1 e⟩
  have n2 : refN l 2 = 64 * (nth l 0 % 32) + nth l 1 % 64 := rfl
  have n3 : refN l 3 = 64 * (64 * (nth l 0 % 16) + nth l 1 % 64) + nth l 2 % 64 := rfl
  have n4 : refN l 4 = 64 * (64 * (64 * (nth l 0 % 8) + nth l 1 % 64) + nth l 2 % 64) + nth l 3 % 64 := rfl
  have n1 : refN l 1 = nth l 0 := rfl
  unfold refD decR Lib.decodeN
  rw [n1, n2, n3, n4]
  generalize nth l 0 = b0 at *
  generalize nth l 1 = b1 at *
  generalize nth l 2 = b2 at *
  generalize nth l 3 = b3 at *
  generalize l.length = n at *
  simp only [h1, h2, h3, h4]
  repeat' split
  all_goals simp only [Option.some.injEq, Prod.mk.injEq, reduceCtorEq, not_true_eq_false, and_true] at *
  all_goals omega
def dig (n : Nat) : UInt8 := if n < 10 then (48 + n).toUInt8 else (87 + n).toUInt8
/-- a number in digits of 16 -/
def hexF : Nat → Nat → By
  | 0, _ => []
  | f + 1, n => if n < 16 then [dig n] else hexF f (n / 16) ++ [dig (n % 16)]
def hexD (n : Nat) : By := hexF 8 n
/-- a rune as text -/
def escT (r : Nat) : By :=
  if r = 10 then [92, 110] else if r = 13 then [92, 114] else if r = 9 then [92, 116]
  else if r = 92 ∨ r = 39 ∨ r = 93 ∨ r = 91 ∨ r = 45 then [92, r.toUInt8]
  else if 32 ≤ r ∧ r ≤ 126 then [r.toUInt8] else [92, 117, 123] ++ hexD r ++ [125]
def piece (l : By) : By := if decR l = (65533, 1) then [63] else escT (decR l).1
def spellN : Nat → By → By
  | 0, _ => []
  | n + 1, l => if l = [] then [] else piece l ++ spellN n (l.drop (decR l).2)
/-- bytes, as their runes are written -/
def spell (l : By) : By := spellN l.length l
theorem spellN_more : ∀ (n m : Nat) (l : By), l.length ≤ n → l.length ≤ m → spellN n l = spellN m l
  | 0, 0, _, _, _ => rfl
  | 0, m + 1, l, h, _ => by
    have : l = [] := List.length_eq_zero_iff.1 (by omega)
    subst this
    rfl
  | n + 1, 0, l, _, h => by
    have : l = [] := List.length_eq_zero_iff.1 (by omega)
    subst this
    rfl
  | n + 1, m + 1, l, h1, h2 => by
    unfold spellN
    split
    · rfl
    · next e =>
      have hb := dec_bounds l e
      rw [spellN_more n m _ (by rw [List.length_drop]; omega) (by rw [List.length_drop]; omega)]
theorem spell_nil : spell [] = [] := rfl
theorem spell_step {l : By} (h : l ≠ []) : spell l = piece l ++ spell (l.drop (decR l).2) := by
  have hb := dec_bounds l h
  unfold spell
  obtain ⟨n, hn⟩ : ∃ n, l.length = n + 1 := ⟨l.length - 1, by omega⟩
  rw [hn]
  show (if l = [] then [] else piece l ++ spellN n (l.drop (decR l).2)) = _
  rw [if_neg h, spellN_more n _ _ (by rw [List.length_drop]; omega) (Nat.le_refl _)]
theorem hexF_len : ∀ (f n : Nat), (hexF f n).length ≤ f := by
  intro f
  induction f with
  | zero => intro n; simp [hexF]
  | succ f ih =>
    intro n
    unfold hexF
    split
    · simp
    · have := ih (n / 16)
      simp; omega
theorem hexD_len (n : Nat) : (hexD n).length ≤ 8 := hexF_len 8 n
theorem escT_len (n : Nat) : (escT n).length ≤ 12 := by
  have := hexD_len n
  unfold escT
  repeat' split
  all_goals simp
  all_goals omega
theorem piece_len (l : By) : (piece l).length ≤ 12 := by
  unfold piece
  split
  · simp
  · exact escT_len _
theorem spellN_len : ∀ (n : Nat) (l : By), (spellN n l).length ≤ 12 * n
  | 0, l => by simp [spellN]
  | n + 1, l => by
    unfold spellN
    split
    · simp
    · have := spellN_len n (l.drop (decR l).2)
      have := piece_len l
      rw [List.length_append]; omega
theorem spell_len (l : By) : (spell l).length ≤ 12 * l.length := spellN_len _ _
end Rp
end Go.Proofs.YtpbnfinmjnpkpaaGreatDoor
