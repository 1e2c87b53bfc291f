/-
  Trees that came in: as plain trees, as they lie in memory; how many parts they have.
-/
import Derived.Test.YtcbilcfieoibbaaGreatDoorOpn0
namespace Go.Proofs.YtcbilcfieoibbaaGreatDoor
open Go.RowKit Go.Deep Go.ChangeShapes Go.WideShapes
set_option maxRecDepth 100000
namespace Rp
inductive Tr where
  | node (rule tok kind : Int) (err : Bool) (subs : List Tr)
mutual
/-- how many parts a tree has -/
def szT : Tr → Nat
  | .node _ _ _ _ subs => 1 + szL subs
def szL : List Tr → Nat
  | [] => 0
  | t :: l => szT t + szL l
end
theorem szL_append (a b : List Tr) : szL (a ++ b) = szL a + szL b := by
  induction a with
  | nil => simp [szL]
  | cons x r ih => simp [szL, ih]; omega
theorem szT_pos (t : Tr) : 1 ≤ szT t := by
  cases t with
  | node r t k e s => unfold szT; omega
theorem szL_at (l : List Tr) (i : Nat) (h : i < l.length) : szL (l.take (i + 1)) = szL (l.take i) + szT l[i] := by
  rw [List.take_succ_eq_append_getElem h, szL_append]
  simp [szL]
theorem szL_take_le (l : List Tr) (i : Nat) : szL (l.take i) ≤ szL l := by
  have h : szL (l.take i) + szL (l.drop i) = szL l := by rw [← szL_append, List.take_append_drop]
  omega
/-- every number is an int -/
def i64 (n : Int) : Prop := -9223372036854775808 ≤ n ∧ n ≤ 9223372036854775807
mutual
def okT : Tr → Prop
  | .node r t k _ subs => i64 r ∧ i64 t ∧ i64 k ∧ subs.length ≤ 4398046511104 ∧ okL subs
def okL : List Tr → Prop
  | [] => True
  | t :: l => okT t ∧ okL l
end
theorem okL_at : ∀ (l : List Tr), okL l → ∀ (i : Nat) (h : i < l.length), okT l[i]
  | x :: l, hs, 0, _ => by unfold okL at hs; exact hs.1
  | x :: l, hs, i + 1, h => by unfold okL at hs; exact okL_at l hs.2 i (by simpa using h)
end Rp
/-! ## in memory -/
mutual
def TrR (w : World) (B : Nat) : Rp.Tr → List Value → Prop
  | .node r t k e subs, vs => ∃ A c xs, vs = [.int .i64 r, .int .i64 t, .int .i64 k, .bool e, .slice A subs.length c] ∧ Reads w B 5 A subs.length xs ∧ TrsR w B subs xs
def TrsR (w : World) (B : Nat) : List Rp.Tr → List Value → Prop
  | [], vs => vs = []
  | t :: l, vs => ∃ a b, vs = a ++ b ∧ TrR w B t a ∧ TrsR w B l b
end
mutual
theorem TrR.keep {w w' : World} {B B' : Nat} (hb : Below B w w') (hB : B ≤ B') : ∀ (t : Rp.Tr) (vs : List Value), TrR w B t vs → TrR w' B' t vs
  | .node _ _ _ _ subs, _, h => by
    unfold TrR at h ⊢
    obtain ⟨A, c, xs, h1, h2, h3⟩ := h
    exact ⟨A, c, xs, h1, (h2.below hb).more hB, TrsR.keep hb hB subs xs h3⟩
theorem TrsR.keep {w w' : World} {B B' : Nat} (hb : Below B w w') (hB : B ≤ B') : ∀ (l : List Rp.Tr) (vs : List Value), TrsR w B l vs → TrsR w' B' l vs
  | [], _, h => by unfold TrsR at h ⊢; exact h
  | t :: l, _, h => by
    unfold TrsR at h ⊢
    obtain ⟨a, b, h1, h2, h3⟩ := h
    exact ⟨a, b, h1, TrR.keep hb hB t a h2, TrsR.keep hb hB l b h3⟩
end
theorem TrR.len {w : World} {B : Nat} {t : Rp.Tr} {vs : List Value} (h : TrR w B t vs) : vs.length = 5 := by
  cases t with
  | node r t k e subs =>
    unfold TrR at h
    obtain ⟨A, c, xs, rfl, _⟩ := h
    rfl
theorem TrsR.at {w : World} {B : Nat} : ∀ {l : List Rp.Tr} {xs : List Value}, TrsR w B l xs → ∀ i (h : i < l.length), ∃ a b c, xs = a ++ b ++ c ∧ a.length = i * 5 ∧ TrR w B l[i] b
  | t :: l, _, h, 0, _ => by
    unfold TrsR at h
    obtain ⟨a, b, rfl, h2, h3⟩ := h
    exact ⟨[], a, b, by simp, by simp, h2⟩
  | t :: l, _, h, i + 1, hi => by
    unfold TrsR at h
    obtain ⟨a, b, rfl, h2, h3⟩ := h
    obtain ⟨p, q, r, rfl, e1, e2⟩ := TrsR.at h3 i (by simpa using hi)
    exact ⟨a ++ p, q, r, by simp, by rw [List.length_append, h2.len, e1]; omega, by simpa using e2⟩
/-- one tree of a readable list -/
theorem readsTr {w : World} {B : Nat} {A : Option Addr} {l : List Rp.Tr} {xs : List Value} (hr : Reads w B 5 A l.length xs) (hv : TrsR w B l xs) (i : Nat) (hi : i < l.length) :
    ∃ (b off : Nat) (u0 u1 u2 u3 u4 : Value), A = some ⟨b, off, none⟩ ∧ b < B ∧ TrR w B l[i] [u0, u1, u2, u3, u4] ∧ w.cell? ⟨b, off + i * 5, none⟩ = some u0 ∧ w.cell? ⟨b, off + i * 5 + 1, none⟩ = some u1 ∧ w.cell? ⟨b, off + i * 5 + 2, none⟩ = some u2 ∧ w.cell? ⟨b, off + i * 5 + 3, none⟩ = some u3 ∧ w.cell? ⟨b, off + i * 5 + 4, none⟩ = some u4 := by
  obtain ⟨b, off, hA, hbl, hcell⟩ := hr.2 (by omega)
  obtain ⟨p, q, r, rfl, e1, e2⟩ := hv.at i hi
  have hq := e2.len
  match q, hq with
  | [u0, u1, u2, u3, u4], _ =>
    have hx : ∀ j u, [u0, u1, u2, u3, u4][j]? = some u → w.cell? ⟨b, off + (i * 5 + j), none⟩ = some u := by
      intro j u hu
      have hj : j < 5 := by
        rcases Nat.lt_or_ge j 5 with h | h
        · exact h
        · rw [List.getElem?_eq_none (by simpa using h)] at hu; cases hu
      refine hcell _ _ ?_
      rw [List.getElem?_append_left (by simp; omega), List.getElem?_append_right (by omega), e1, Nat.add_sub_cancel_left]
      exact hu
    refine ⟨b, off, u0, u1, u2, u3, u4, hA, hbl, e2, ?_⟩
    have h0 := hx 0 _ rfl
    have h1 := hx 1 _ rfl
    have h2 := hx 2 _ rfl
    have h3 := hx 3 _ rfl
    have h4 := hx 4 _ rfl
    simp only [← Nat.add_assoc, Nat.add_zero] at h0 h1 h2 h3 h4
    exact ⟨h0, h1, h2, h3, h4⟩
theorem trsOf {W : World} {B : Nat} : ∀ (l : List Rp.Tr) (vs : List Value), vs.length = l.length * 5 → (∀ i (hi : i < l.length), TrR W B l[i] ((vs.drop (i * 5)).take 5)) → TrsR W B l vs
  | [], vs, hl, _ => by
    unfold TrsR
    exact List.length_eq_zero_iff.1 (by simpa using hl)
  | t :: l, vs, hl, h => by
    unfold TrsR
    have hl' : vs.length = l.length * 5 + 5 := by rw [hl, List.length_cons]; omega
    refine ⟨vs.take 5, vs.drop 5, (List.take_append_drop 5 vs).symm, h 0 (Nat.zero_lt_succ _), trsOf l _ (by rw [List.length_drop]; omega) fun i hi => ?_⟩
    have := h (i + 1) (Nat.succ_lt_succ hi)
    rw [List.drop_drop]
    have e : 5 + i * 5 = (i + 1) * 5 := by omega
    rw [e]
    exact this
theorem okL_of : ∀ (l : List Rp.Tr), (∀ i (hi : i < l.length), Rp.okT l[i]) → Rp.okL l
  | [], _ => by unfold Rp.okL; trivial
  | t :: l, h => by
    unfold Rp.okL
    exact ⟨h 0 (Nat.zero_lt_succ _), okL_of l fun i hi => h (i + 1) (Nat.succ_lt_succ hi)⟩
theorem open_Tr_aux {H : Type} {enc : TypeId × Value → H} {W : World} {spare : Nat → Bool} {held : Bool} : ∀ (k : Nat) (fuel : Nat) (cs : List Value) (x : DataW H × List MemPlace), SizeOf.sizeOf x.1 < k → cs.length = 5 → DataW.trod enc Tryz.prog W 0 spare held fuel 45 cs = some x → Fits x.1 45 → ∃ t : Rp.Tr, Rp.okT t ∧ TrR W W.heap.size t cs
  | 0, _, _, _, h, _, _, _ => absurd h (Nat.not_lt_zero _)
  | k + 1, fuel, cs, x, hk, hcl, ht, hfit => by
    obtain ⟨ys, n, hn, hy, hlen, hyl, hf⟩ := DataW.trod_struct Tryz.underlying45 ht
    have ci : Tryz.prog.cellsOf 3 = 1 := by kernel_rfl
    have cb : Tryz.prog.cellsOf 4 = 1 := by kernel_rfl
    have cl : Tryz.prog.cellsOf 43 = 1 := by kernel_rfl
    match cs, hcl with
    | [c0, c1, c2, c3, c4], _ =>
      have h0 := hf 0 _ rfl
      have h1 := hf 1 _ rfl
      have h2 := hf 2 _ rfl
      have h3 := hf 3 _ rfl
      have h4 := hf 4 _ rfl
      change DataW.trod enc Tryz.prog W 0 spare held n 3 (([c0, c1, c2, c3, c4].drop 0).take (Tryz.prog.cellsOf 3)) = _ at h0
      change DataW.trod enc Tryz.prog W 0 spare held n 3 (([c0, c1, c2, c3, c4].drop 1).take (Tryz.prog.cellsOf 3)) = _ at h1
      change DataW.trod enc Tryz.prog W 0 spare held n 3 (([c0, c1, c2, c3, c4].drop 2).take (Tryz.prog.cellsOf 3)) = _ at h2
      change DataW.trod enc Tryz.prog W 0 spare held n 4 (([c0, c1, c2, c3, c4].drop 3).take (Tryz.prog.cellsOf 4)) = _ at h3
      change DataW.trod enc Tryz.prog W 0 spare held n 43 (([c0, c1, c2, c3, c4].drop 4).take (Tryz.prog.cellsOf 43)) = _ at h4
      rw [ci] at h0 h1 h2
      rw [cb] at h3
      rw [cl] at h4
      change DataW.trod enc Tryz.prog W 0 spare held n 3 [c0] = _ at h0
      change DataW.trod enc Tryz.prog W 0 spare held n 3 [c1] = _ at h1
      change DataW.trod enc Tryz.prog W 0 spare held n 3 [c2] = _ at h2
      change DataW.trod enc Tryz.prog W 0 spare held n 4 [c3] = _ at h3
      change DataW.trod enc Tryz.prog W 0 spare held n 43 [c4] = _ at h4
      have q0 : ys[0]? = some (ys[0]'(by rw [hyl]; decide)) := List.getElem?_eq_getElem _
      have q1 : ys[1]? = some (ys[1]'(by rw [hyl]; decide)) := List.getElem?_eq_getElem _
      have q2 : ys[2]? = some (ys[2]'(by rw [hyl]; decide)) := List.getElem?_eq_getElem _
      have q3 : ys[3]? = some (ys[3]'(by rw [hyl]; decide)) := List.getElem?_eq_getElem _
      have q4 : ys[4]? = some (ys[4]'(by rw [hyl]; decide)) := List.getElem?_eq_getElem _
      obtain ⟨r, e0, o0⟩ := open_i64 3 Tryz.underlying3 (h0.trans q0)
      obtain ⟨tk, e1, o1⟩ := open_i64 3 Tryz.underlying3 (h1.trans q1)
      obtain ⟨kd, e2, o2⟩ := open_i64 3 Tryz.underlying3 (h2.trans q2)
      obtain ⟨er, e3, _⟩ := DataW.trod_bool Tryz.underlying4 (h3.trans q3)
      have hm4 : (ys[4]'(by rw [hyl]; decide)).1 ∈ ys.map (·.1) := List.mem_map.2 ⟨_, List.getElem_mem _, rfl⟩
      have hs4 : SizeOf.sizeOf (ys[4]'(by rw [hyl]; decide)).1 < k := by
        have h5 := List.sizeOf_lt_of_mem hm4
        have h6 : SizeOf.sizeOf x.1 = 1 + SizeOf.sizeOf (ys.map (·.1)) := by rw [hy]; simp
        omega
      have hfit4 : Fits (ys[4]'(by rw [hyl]; decide)).1 43 := by
        have hx : Fits (.agg (ys.map (·.1))) 45 := by rw [hy] at hfit; exact hfit
        exact Fits.struct Tryz.underlying45 hx 4 _ _ rfl (by rw [List.getElem?_map, q4]; rfl)
      obtain ⟨l, A, cap, e4, hlm, hby, vs, hrd, hel⟩ := open_listM 43 45 5 Tryz.underlying43 (by kernel_rfl) (by decide) (fun cs t => Rp.okT t ∧ TrR W W.heap.size t cs)
        (fun fuel' cs' y ⟨els, sp, he, hm⟩ hcl' ht' hf' => open_Tr_aux k fuel' cs' y (by
          have h7 := List.sizeOf_lt_of_mem hm
          have h8 : SizeOf.sizeOf (ys[4]'(by rw [hyl]; decide)).1 = 1 + SizeOf.sizeOf els + SizeOf.sizeOf sp := by rw [he]; simp
          omega) hcl' ht' hf') (h4.trans q4) hfit4
      injection e0 with e0 _
      injection e1 with e1 _
      injection e2 with e2 _
      injection e3 with e3 _
      injection e4 with e4 _
      subst e0 e1 e2 e3 e4
      have hb : Tryz.prog.bytesOf 45 = 56 := by kernel_rfl
      rw [hb] at hby
      unfold reachBytes at hby
      refine ⟨.node r tk kd er l, ?_, ?_⟩
      · unfold Rp.okT
        exact ⟨o0, o1, o2, by omega, okL_of l fun i hi => (hel i hi).1⟩
      · unfold TrR
        exact ⟨A, cap, vs, rfl, hrd, trsOf l vs hrd.1 fun i hi => (hel i hi).2⟩
/-- a tree that came in -/
theorem open_Tr {H : Type} {enc : TypeId × Value → H} {W : World} {spare : Nat → Bool} {held : Bool} (fuel : Nat) (cs : List Value) (x : DataW H × List MemPlace) (hc : cs.length = 5) (h : DataW.trod enc Tryz.prog W 0 spare held fuel 45 cs = some x) (hf : Fits x.1 45) : ∃ t : Rp.Tr, Rp.okT t ∧ TrR W W.heap.size t cs :=
  open_Tr_aux _ fuel cs x (Nat.lt_succ_self _) hc h hf
end Go.Proofs.YtcbilcfieoibbaaGreatDoor
