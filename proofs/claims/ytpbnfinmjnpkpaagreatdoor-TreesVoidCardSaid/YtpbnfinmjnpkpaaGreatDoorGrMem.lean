/-
  Nodes of a grammar as they lie in memory; how they are opened where they came in. (Printed by gen_grmem.py.)
-/
import Derived.Test.YtpbnfinmjnpkpaaGreatDoorGrLaw
import Derived.Test.YtpbnfinmjnpkpaaGreatDoorLib
namespace Go.Proofs.YtpbnfinmjnpkpaaGreatDoor
open Go.RowKit
set_option maxRecDepth 100000
namespace Gr
def encR2 (r : Int × Int) : List Value := [.int .i32 r.1, .int .i32 r.2]
def strV (s : List UInt8) : Value := .string ⟨s.toArray⟩
def bytesMax : Nat := 140737488351232
mutual
/-- lengths and numbers are those of a machine -/
def okN : Nd → Prop
  | .mk k n t s l => k < 256 ∧ n.length ≤ bytesMax ∧ t.length ≤ bytesMax ∧ s.length ≤ 35184372088832 ∧ (∀ r ∈ s, (-2147483648 ≤ r.1 ∧ r.1 ≤ 2147483647) ∧ -2147483648 ≤ r.2 ∧ r.2 ≤ 2147483647) ∧ l.length ≤ 4398046511104 ∧ okNs l
def okNs : List Nd → Prop
  | [] => True
  | x :: l => okN x ∧ okNs l
end
theorem okNs_at : ∀ (l : List Nd), okNs l → ∀ (i : Nat) (h : i < l.length), okN l[i]
  | x :: l, hs, 0, _ => by unfold okNs at hs; exact hs.1
  | x :: l, hs, i + 1, h => by unfold okNs at hs; exact okNs_at l hs.2 i (by simpa using h)
theorem okNs_of : ∀ (l : List Nd), (∀ i (hi : i < l.length), okN l[i]) → okNs l
  | [], _ => by unfold okNs; trivial
  | t :: l, h => by
    unfold okNs
    exact ⟨h 0 (Nat.zero_lt_succ _), okNs_of l fun i hi => h (i + 1) (Nat.succ_lt_succ hi)⟩
end Gr
/-! ## in memory -/
mutual
def NdR (w : World) (B : Nat) : Gr.Nd → List Value → Prop
  | .mk k n t s l, vs => ∃ SA sc UA uc xs, vs = [.int .u8 (k : Int), Gr.strV n, Gr.strV t, .slice SA s.length sc, .slice UA l.length uc] ∧ Reads w B 2 SA s.length (flat Gr.encR2 s) ∧ Reads w B 5 UA l.length xs ∧ NdsR w B l xs ∧ l.length ≤ uc
def NdsR (w : World) (B : Nat) : List Gr.Nd → List Value → Prop
  | [], vs => vs = []
  | x :: l, vs => ∃ a b, vs = a ++ b ∧ NdR w B x a ∧ NdsR w B l b
end
mutual
theorem NdR.keep {w w' : World} {B B' : Nat} (hb : Below B w w') (hB : B ≤ B') : ∀ (t : Gr.Nd) (vs : List Value), NdR w B t vs → NdR w' B' t vs
  | .mk _ _ _ _ l, _, h => by
    unfold NdR at h ⊢
    obtain ⟨SA, sc, UA, uc, xs, h1, h2, h3, h4, h5⟩ := h
    exact ⟨SA, sc, UA, uc, xs, h1, (h2.below hb).more hB, (h3.below hb).more hB, NdsR.keep hb hB l xs h4, h5⟩
theorem NdsR.keep {w w' : World} {B B' : Nat} (hb : Below B w w') (hB : B ≤ B') : ∀ (l : List Gr.Nd) (vs : List Value), NdsR w B l vs → NdsR w' B' l vs
  | [], _, h => by unfold NdsR at h ⊢; exact h
  | t :: l, _, h => by
    unfold NdsR at h ⊢
    obtain ⟨a, b, h1, h2, h3⟩ := h
    exact ⟨a, b, h1, NdR.keep hb hB t a h2, NdsR.keep hb hB l b h3⟩
end
theorem NdR.len {w : World} {B : Nat} {t : Gr.Nd} {vs : List Value} (h : NdR w B t vs) : vs.length = 5 := by
  cases t with
  | mk k n t s l =>
    unfold NdR at h
    obtain ⟨SA, sc, UA, uc, xs, rfl, _⟩ := h
    rfl
theorem NdsR.at {w : World} {B : Nat} : ∀ {l : List Gr.Nd} {xs : List Value}, NdsR w B l xs → ∀ i (h : i < l.length), ∃ a b c, xs = a ++ b ++ c ∧ a.length = i * 5 ∧ NdR w B l[i] b
  | t :: l, _, h, 0, _ => by
    unfold NdsR at h
    obtain ⟨a, b, rfl, h2, h3⟩ := h
    exact ⟨[], a, b, by simp, by simp, h2⟩
  | t :: l, _, h, i + 1, hi => by
    unfold NdsR at h
    obtain ⟨a, b, rfl, h2, h3⟩ := h
    obtain ⟨p, q, r, rfl, e1, e2⟩ := NdsR.at h3 i (by simpa using hi)
    exact ⟨a ++ p, q, r, by simp, by rw [List.length_append, h2.len, e1]; omega, by simpa using e2⟩
/-- one node of a readable list -/
theorem readsNd {w : World} {B : Nat} {A : Option Addr} {l : List Gr.Nd} {xs : List Value} (hr : Reads w B 5 A l.length xs) (hv : NdsR w B l xs) (i : Nat) (hi : i < l.length) :
    ∃ (b off : Nat) (u0 u1 u2 u3 u4 : Value), A = some ⟨b, off, none⟩ ∧ b < B ∧ NdR w B l[i] [u0, u1, u2, u3, u4] ∧ w.cell? ⟨b, off + i * 5, none⟩ = some u0 ∧ w.cell? ⟨b, off + i * 5 + 1, none⟩ = some u1 ∧ w.cell? ⟨b, off + i * 5 + 2, none⟩ = some u2 ∧ w.cell? ⟨b, off + i * 5 + 3, none⟩ = some u3 ∧ w.cell? ⟨b, off + i * 5 + 4, none⟩ = some u4 := by
  obtain ⟨b, off, hA, hbl, hcell⟩ := hr.2 (by omega)
  obtain ⟨p, q, r, rfl, e1, e2⟩ := hv.at i hi
  have hq := e2.len
  match q, hq with
  | [u0, u1, u2, u3, u4], _ =>
    have hx : ∀ j u, [u0, u1, u2, u3, u4][j]? = some u → w.cell? ⟨b, off + (i * 5 + j), none⟩ = some u := by
      intro j u hu
      have hj : j < 5 := by
        rcases Nat.lt_or_ge j 5 with h | h
        · exact h
        · rw [List.getElem?_eq_none (by simpa using h)] at hu; cases hu
      refine hcell _ _ ?_
      rw [List.getElem?_append_left (by simp; omega), List.getElem?_append_right (by omega), e1, Nat.add_sub_cancel_left]
      exact hu
    refine ⟨b, off, u0, u1, u2, u3, u4, hA, hbl, e2, ?_⟩
    have h0 := hx 0 _ rfl
    have h1 := hx 1 _ rfl
    have h2 := hx 2 _ rfl
    have h3 := hx 3 _ rfl
    have h4 := hx 4 _ rfl
    simp only [← Nat.add_assoc, Nat.add_zero] at h0 h1 h2 h3 h4
    exact ⟨h0, h1, h2, h3, h4⟩
theorem ndsOf {W : World} {B : Nat} : ∀ (l : List Gr.Nd) (vs : List Value), vs.length = l.length * 5 → (∀ i (hi : i < l.length), NdR W B l[i] ((vs.drop (i * 5)).take 5)) → NdsR W B l vs
  | [], vs, hl, _ => by
    unfold NdsR
    exact List.length_eq_zero_iff.1 (by simpa using hl)
  | t :: l, vs, hl, h => by
    unfold NdsR
    have hl' : vs.length = l.length * 5 + 5 := by rw [hl, List.length_cons]; omega
    refine ⟨vs.take 5, vs.drop 5, (List.take_append_drop 5 vs).symm, h 0 (Nat.zero_lt_succ _), ndsOf l _ (by rw [List.length_drop]; omega) fun i hi => ?_⟩
    have := h (i + 1) (Nat.succ_lt_succ hi)
    rw [List.drop_drop]
    have e : 5 + i * 5 = (i + 1) * 5 := by omega
    rw [e]
    exact this
end Go.Proofs.YtpbnfinmjnpkpaaGreatDoor
