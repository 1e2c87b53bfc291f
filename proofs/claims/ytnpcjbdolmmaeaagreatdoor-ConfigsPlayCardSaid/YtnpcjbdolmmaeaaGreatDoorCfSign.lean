/-
  Configs: plain law: signs tell configurations apart.
-/
import Derived.Test.YtnpcjbdolmmaeaaGreatDoorCfLaw
import Derived.Lib.ItoaMem
namespace Go.Proofs.YtnpcjbdolmmaeaaGreatDoor
namespace Cf
open Go.Lib (itoa decDigits)
abbrev Bys := List UInt8
def mk (c : UInt8) : Prop := c = 32 ∨ c = 33
def Cut (l : Bys) : Prop := ∀ c s, l = c :: s → mk c
theorem cut2 : ∀ (a b s t : Bys), (∀ x ∈ a, ¬ mk x) → (∀ x ∈ b, ¬ mk x) → Cut s → Cut t → a ++ s = b ++ t → a = b ∧ s = t
  | [], [], _, _, _, _, _, _, h => ⟨rfl, h⟩
  | [], y :: b, s, t, _, hb, hs, _, h => absurd (hs y (b ++ t) h) (hb y (by simp))
  | x :: a, [], s, t, ha, _, _, ht, h => absurd (ht x (a ++ s) h.symm) (ha x (by simp))
  | x :: a, y :: b, s, t, ha, hb, hs, ht, h => by
    rw [List.cons_append, List.cons_append] at h
    injection h with h1 h2
    obtain ⟨e1, e2⟩ := cut2 a b s t (fun z hz => ha z (by simp [hz])) (fun z hz => hb z (by simp [hz])) hs ht h2
    exact ⟨by rw [h1, e1], e2⟩
def dval (l : Bys) : Nat := l.foldl (fun a c => 10 * a + (c.toNat - 48)) 0
theorem dval_snoc (l : Bys) (c : UInt8) : dval (l ++ [c]) = 10 * dval l + (c.toNat - 48) := by unfold dval; rw [List.foldl_append]; rfl
theorem dig_nat {k : Nat} (h : k < 10) : (UInt8.ofNat (48 + k)).toNat = 48 + k := by simp [UInt8.toNat_ofNat']; omega
theorem dval_dig (u : Nat) : dval (decDigits u) = u := by
  induction u using Nat.strongRecOn with
  | ind u ih =>
    unfold decDigits
    split
    · next h => show 10 * 0 + ((UInt8.ofNat (48 + u)).toNat - 48) = u; rw [dig_nat h]; omega
    · next h =>
      rw [dval_snoc, ih (u / 10) (by omega), dig_nat (Nat.mod_lt _ (by decide))]; omega
theorem dig_range (u : Nat) : ∀ c ∈ decDigits u, 48 ≤ c.toNat ∧ c.toNat ≤ 57 := by
  induction u using Nat.strongRecOn with
  | ind u ih =>
    intro c hc
    unfold decDigits at hc
    split at hc
    · next h =>
      have : c = UInt8.ofNat (48 + u) := by simpa using hc
      rw [this, dig_nat h]; omega
    · next h =>
      rcases List.mem_append.1 hc with hc | hc
      · exact ih (u / 10) (by omega) c hc
      · have : c = UInt8.ofNat (48 + u % 10) := by simpa using hc
        have h10 : u % 10 < 10 := Nat.mod_lt _ (by decide)
        rw [this, dig_nat h10]; omega
theorem itoa_not (n : Int) : ∀ c ∈ itoa n, ¬ mk c := by
  intro c hc
  have key : ∀ d : UInt8, (48 ≤ d.toNat ∧ d.toNat ≤ 57) → ¬ mk d := by
    rintro d ⟨h1, h2⟩ (e | e)
    · subst e; exact absurd h1 (by decide)
    · subst e; exact absurd h1 (by decide)
  unfold itoa at hc
  split at hc
  · rcases List.mem_cons.1 hc with e | hc
    · subst e; unfold mk; decide
    · exact key c (dig_range _ c hc)
  · exact key c (dig_range _ c hc)
theorem itoa_inj {a b : Int} (h : itoa a = itoa b) : a = b := by
  have hne : ∀ u v : Nat, 45 :: decDigits u ≠ decDigits v := by
    intro u v e
    have := dig_range v 45 (by rw [← e]; simp)
    exact absurd this.1 (by decide)
  unfold itoa at h
  split at h
  · next ha =>
    split at h
    · next hb =>
      injection h with _ h
      have := congrArg dval h
      rw [dval_dig, dval_dig] at this; omega
    · exact absurd h (hne _ _)
  · next ha =>
    split at h
    · exact absurd h.symm (hne _ _)
    · next hb =>
      have := congrArg dval h
      rw [dval_dig, dval_dig] at this; omega
def tailT (l : List Int) (e : Bool) : Bys := l.flatMap (fun n => 32 :: itoa n) ++ (if e = true then [33] else [])
theorem tail_cut (l : List Int) (e : Bool) : Cut (tailT l e) := by
  intro c s h
  cases l with
  | nil =>
    cases e
    · cases h
    · injection h with h _; exact .inr h.symm
  | cons n l => injection h with h _; exact .inl h.symm
theorem tail_inj : ∀ (l m : List Int) (e f : Bool), tailT l e = tailT m f → l = m ∧ e = f
  | [], [], e, f, h => by cases e <;> cases f <;> simp [tailT] at h ⊢
  | [], n :: m, e, f, h => by cases e <;> simp [tailT] at h
  | n :: l, [], e, f, h => by cases f <;> simp [tailT] at h
  | n :: l, k :: m, e, f, h => by
    have h' : 32 :: (itoa n ++ tailT l e) = 32 :: (itoa k ++ tailT m f) := by simpa [tailT] using h
    injection h' with _ h'
    obtain ⟨h1, h2⟩ := cut2 _ _ _ _ (itoa_not n) (itoa_not k) (tail_cut l e) (tail_cut m f) h'
    obtain ⟨h3, h4⟩ := tail_inj l m e f h2
    exact ⟨by rw [itoa_inj h1, h3], h4⟩
/-- a configuration's sign, with Exact or without -/
def keyT (x : Cfg) (e : Bool) : Bys := (if x.ended = true then 1 else 0) :: (itoa x.alt ++ tailT (x.state :: x.stack) e)
def signT (x : Cfg) : Bys := keyT x false
theorem key_sign (x : Cfg) : keyT x true = signT x ++ [33] := by unfold signT keyT tailT; simp
theorem key_inj {x y : Cfg} {e f : Bool} (h : keyT x e = keyT y f) : Like x y ∧ e = f := by
  unfold keyT at h
  injection h with h1 h2
  obtain ⟨h3, h4⟩ := cut2 _ _ _ _ (itoa_not x.alt) (itoa_not y.alt) (tail_cut _ _) (tail_cut _ _) h2
  obtain ⟨h5, h6⟩ := tail_inj _ _ _ _ h4
  injection h5 with h7 h8
  refine ⟨⟨itoa_inj h3, h7, h8, ?_⟩, h6⟩
  cases hx : x.ended <;> cases hy : y.ended <;> rw [hx, hy] at h1 <;> first | rfl | (exact absurd h1 (by decide))
theorem key_of_like {x y : Cfg} (h : Like x y) (e : Bool) : keyT x e = keyT y e := by
  obtain ⟨h1, h2, h3, h4⟩ := h
  unfold keyT; rw [h1, h2, h3, h4]
/-- the sign amid the numbers -/
theorem sign_take (l : List Int) (i : Nat) (h : i < l.length) : (l.take (i + 1)).flatMap (fun n => 32 :: itoa n) = (l.take i).flatMap (fun n => 32 :: itoa n) ++ (32 :: itoa l[i]) := by
  rw [List.take_succ_eq_append_getElem h, List.flatMap_append]
  simp
end Cf
end Go.Proofs.YtnpcjbdolmmaeaaGreatDoor
