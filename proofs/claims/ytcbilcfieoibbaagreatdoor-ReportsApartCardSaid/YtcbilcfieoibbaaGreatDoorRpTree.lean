/-
  Texts of trees: plain: a tree's text, how long it is.
-/
import Derived.Test.YtcbilcfieoibbaaGreatDoorRpLaw
import Derived.Test.YtcbilcfieoibbaaGreatDoorTr
namespace Go.Proofs.YtcbilcfieoibbaaGreatDoor
namespace Rp
def name (l : List By) (i : Int) : By := if 0 ≤ i ∧ i < l.length then l.getD i.toNat [] else [63]
def tokT (m w : List By) (kind tok : Int) : By :=
  name m kind ++ (if tok < 0 then [63] else [39] ++ (if tok < w.length then spell (w.getD tok.toNat []) else []) ++ [39])
mutual
def treeT (n m w : List By) : Tr → By
  | .node r t k e subs => (if e = true then [33] else []) ++ (if r = -1 then tokT m w k t else if r < -1 then [91] ++ sepT n m w true subs ++ [93] else [40] ++ name n r ++ sepT n m w false subs ++ [41])
def sepT (n m w : List By) : Bool → List Tr → By
  | _, [] => []
  | b, t :: l => (if b = true then [] else [32]) ++ treeT n m w t ++ sepT n m w false l
end
theorem sepT_snoc (n m w : List By) (t : Tr) : ∀ (b : Bool) (l : List Tr), sepT n m w b (l ++ [t]) = sepT n m w b l ++ ((if b = true ∧ l = [] then [] else [32]) ++ treeT n m w t)
  | b, [] => by cases b <;> simp [sepT]
  | b, x :: l => by
    show (if b = true then [] else [32]) ++ treeT n m w x ++ sepT n m w false (l ++ [t]) = _
    rw [sepT_snoc n m w t false l]
    show _ = (if b = true then [] else [32]) ++ treeT n m w x ++ sepT n m w false l ++ _
    simp
theorem sepT_take (n m w : List By) (b : Bool) (l : List Tr) (i : Nat) (h : i < l.length) : sepT n m w b (l.take (i + 1)) = sepT n m w b (l.take i) ++ ((if b = true ∧ i = 0 then [] else [32]) ++ treeT n m w l[i]) := by
  rw [List.take_succ_eq_append_getElem h, sepT_snoc]
  have : (l.take i = []) ↔ i = 0 := by
    rw [List.take_eq_nil_iff]
    constructor
    · rintro (e | e)
      · exact e
      · subst e; simp at h
    · exact Or.inl
  simp only [this]
/-- names and texts are short -/
def Short (K : Nat) (l : List By) : Prop := ∀ x ∈ l, x.length ≤ K
theorem name_len {K : Nat} {l : List By} (h : Short K l) (hK : 1 ≤ K) (i : Int) : (name l i).length ≤ K := by
  unfold name
  split
  · next e =>
    have hi : i.toNat < l.length := by omega
    rw [List.getD_eq_getElem?_getD, List.getElem?_eq_getElem hi]
    exact h _ (List.getElem_mem hi)
  · simpa using hK
theorem tokT_len {K : Nat} {m w : List By} (hm : Short K m) (hw : Short K w) (hK : 1 ≤ K) (k t : Int) : (tokT m w k t).length ≤ 13 * K + 2 := by
  have h1 := name_len hm hK k
  unfold tokT
  split
  · simp; omega
  · split
    · next e0 e =>
      have hi : t.toNat < w.length := by omega
      have h2 := spell_len (w.getD t.toNat [])
      have h3 : (w.getD t.toNat []).length ≤ K := by
        rw [List.getD_eq_getElem?_getD, List.getElem?_eq_getElem hi]
        exact hw _ (List.getElem_mem hi)
      simp only [List.length_append, List.length_cons, List.length_nil]
      omega
    · simp; omega
mutual
theorem treeT_len {K : Nat} {n m w : List By} (hn : Short K n) (hm : Short K m) (hw : Short K w) (hK : 1 ≤ K) : ∀ t : Tr, (treeT n m w t).length + 1 ≤ szT t * (13 * K + 6)
  | .node r t k e subs => by
    have h1 := tokT_len hm hw hK k t
    have h2 := name_len hn hK r
    have h3 := sepT_len hn hm hw hK true subs
    have h4 := sepT_len hn hm hw hK false subs
    have h5 : szT (.node r t k e subs) = 1 + szL subs := by rw [szT]
    rw [h5, Nat.add_mul, Nat.one_mul]
    unfold treeT
    repeat' split
    all_goals simp only [List.length_append, List.length_cons, List.length_nil]
    all_goals omega
theorem sepT_len {K : Nat} {n m w : List By} (hn : Short K n) (hm : Short K m) (hw : Short K w) (hK : 1 ≤ K) (b : Bool) : ∀ l : List Tr, (sepT n m w b l).length ≤ szL l * (13 * K + 6)
  | [] => by simp [sepT]
  | t :: l => by
    have h1 := treeT_len hn hm hw hK t
    have h2 := sepT_len hn hm hw hK false l
    have h3 : szL (t :: l) = szT t + szL l := by rw [szL]
    rw [h3, Nat.add_mul]
    unfold sepT
    split
    all_goals simp only [List.length_append, List.length_cons, List.length_nil]
    all_goals omega
end
end Rp
end Go.Proofs.YtcbilcfieoibbaaGreatDoor
