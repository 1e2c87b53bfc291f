/-
  All nodes of a node, one by one (checks.all): the iterator's contract.
-/
import Derived.Test.YtpbnfinmjnpkpaaGreatDoorGrIx
import Derived.Test.YtpbnfinmjnpkpaaGreatDoorGrNuL
namespace Go.Proofs.YtpbnfinmjnpkpaaGreatDoor
open Go.RowKit Go.Shelf
set_option maxRecDepth 100000
attribute [local go_sem] Oper.semAt_some
namespace Gr
mutual
/-- all nodes of one, it first -/
def ndT : Nd → List Nd
  | .mk k n t s l => .mk k n t s l :: ndL l
def ndL : List Nd → List Nd
  | [] => []
  | x :: l => ndT x ++ ndL l
end
theorem ndT_eq (n : Nd) : ndT n = n :: ndL n.subs := by cases n; simp [ndT, Nd.subs]
theorem ndL_nil : ndL [] = [] := by simp [ndL]
theorem ndL_cons (x : Nd) (l : List Nd) : ndL (x :: l) = ndT x ++ ndL l := by simp [ndL]
mutual
theorem ndT_pre : ∀ (n : Nd) (d : Nat), (preT d n).map (·.2) = ndT n
  | .mk k nm t s l, d => by
    rw [preT_eq, ndT_eq, List.map_cons]
    exact congrArg _ (ndL_pre l (d + 1))
theorem ndL_pre : ∀ (l : List Nd) (d : Nat), (preL d l).map (·.2) = ndL l
  | [], d => by rw [preL_nil, ndL_nil]; rfl
  | x :: l, d => by rw [preL_cons, ndL_cons, List.map_append, ndT_pre x d, ndL_pre l d]
end
theorem ndL_take (L : List Nd) (i : Nat) (h : i < L.length) : ndL (L.take (i + 1)) = ndL (L.take i) ++ ndT L[i] := by
  rw [List.take_succ_eq_append_getElem h]
  generalize L.take i = A
  induction A with
  | nil => rw [List.nil_append, ndL_cons, ndL_nil, List.append_nil, List.nil_append]
  | cons x A ih => rw [List.cons_append, ndL_cons, ndL_cons, ih, List.append_assoc]
theorem ndL_prefix (L : List Nd) (i : Nat) : ndL (L.take i) <+: ndL L := by
  induction L generalizing i with
  | nil => simp [ndL_nil]
  | cons x L ih =>
    cases i with
    | zero => rw [List.take_zero, ndL_nil]; exact List.nil_prefix
    | succ i =>
      rw [List.take_succ_cons, ndL_cons, ndL_cons]
      obtain ⟨r, hr⟩ := ih i
      exact ⟨r, by rw [List.append_assoc, hr]⟩
end Gr
/-- what a round keeps: all below B, and all cells but some blocks, by number and type -/
def KpT (B : Nat) (C : Nat → TypeId → Prop) (W W' : World) : Prop := Below B W W' ∧ ∀ k cs T, W.heap[k]? = some (.cells cs T (0, 0)) → ¬ C k T → W'.heap[k]? = some (.cells cs T (0, 0))
theorem KpT.refl (B : Nat) (C : Nat → TypeId → Prop) (W : World) : KpT B C W W := ⟨Below.refl _ _, fun _ _ _ h _ => h⟩
theorem KpT.trans {B : Nat} {C : Nat → TypeId → Prop} {W1 W2 W3 : World} (h : KpT B C W1 W2) (k : KpT B C W2 W3) : KpT B C W1 W3 := ⟨h.1.trans k.1, fun i cs T e hc => k.2 i cs T (h.2 i cs T e hc) hc⟩
theorem KpT.of {B : Nat} {C : Nat → TypeId → Prop} {W W' : World} (h : Below W.heap.size W W') (hB : B ≤ W.heap.size) : KpT B C W W' := ⟨h.mono hB, fun k _ _ e _ => (h.block k (heap_lt e)).trans e⟩
/-- a node that is handed out -/
structure NdIt (w : World) (B : Nat) where
  n : Gr.Nd
  cs : List Value
  h : NdR w B n cs
  ok : Gr.okN n
def NdIt.enc {w : World} {B : Nat} (x : NdIt w B) : Array Value := #[.agg x.cs.toArray]
def projI {w : World} {B : Nat} (ys : List (NdIt w B)) : List Gr.Nd := ys.map fun x => x.n
theorem projI_append {w : World} {B : Nat} (a b : List (NdIt w B)) : projI (a ++ b) = projI a ++ projI b := by simp [projI]
section
variable (w0 : World) (B : Nat) (C : Nat → TypeId → Prop) (l B1 N : Nat) (J Jx : List (NdIt w0 B) → World → Prop)
def OutT (pre : List (NdIt w0 B)) (L : List Gr.Nd) (W : World) (e : Ending) (W' : World) : Prop :=
  (e = .returned (.bool true) ∧ ∃ ys, projI ys = L ∧ J (pre ++ ys) W' ∧ KpT B C W W') ∨ (e = .returned (.bool false) ∧ ∃ ys, projI ys <+: L ∧ Jx (pre ++ ys) W')
def WalkT (nd : Gr.Nd) : Prop := ∀ (cs : List Value) (pre : List (NdIt w0 B)) (W : World), NdR w0 B nd cs → Below B w0 W → B1 ≤ W.heap.size → J pre W → pre.length + (Gr.ndT nd).length ≤ N →
  Calls Tryz.prog 182 #[.agg cs.toArray, .func (.yield l) #[] #[]] W (OutT w0 B C J Jx pre (Gr.ndT nd) W)
/-- the box of yield -/
structure YbT (Yb : Nat) (W : World) : Prop where
  b : Below B w0 W
  y : W.heap[Yb]? = some (.cells #[.func (.yield l) #[] #[]] 185 (0, 0))
  s : B1 ≤ W.heap.size
  hB : B ≤ B1
  hY : B1 ≤ Yb
end
section
variable {w0 : World} {B : Nat} {C : Nat → TypeId → Prop} {l Yb B1 N : Nat} {J Jx : List (NdIt w0 B) → World → Prop}
theorem YbT.keep {W W' : World} (h : YbT w0 B l B1 Yb W) (hC : ∀ k T, C k T → k < B1 ∨ (T ≠ 74 ∧ T ≠ 185)) (k : KpT B C W W') : YbT w0 B l B1 Yb W' :=
  ⟨h.b.trans k.1, k.2 _ _ _ h.y (fun e => by
    rcases hC _ _ e with e | e
    · have := h.hY; omega
    · exact e.2 rfl), Nat.le_trans h.s k.1.size, h.hB, h.hY⟩
theorem YbT.below {W W' : World} (h : YbT w0 B l B1 Yb W) (k : Below W.heap.size W W') : YbT w0 B l B1 Yb W' :=
  ⟨h.b.trans (k.mono (Nat.le_trans h.hB h.s)), (k.block _ (heap_lt h.y)).trans h.y, Nat.le_trans h.s k.size, h.hB, h.hY⟩
/-- the closure that goes on with a Sub -/
theorem subT_any {nd : Gr.Nd} (hP : WalkT w0 B C l B1 N J Jx nd) (cs : List Value) (pre : List (NdIt w0 B)) (W : World) (hn : NdR w0 B nd cs) (hc : YbT w0 B l B1 Yb W) (hJ : J pre W)
    (hJg : ∀ s W W', J s W → W.grownBy W' none → J s W') (hN : pre.length + (Gr.ndT nd).length ≤ N) :
    Calls Tryz.prog 198 #[.agg cs.toArray, .pointer (some ⟨Yb, 0, none⟩)] W fun e W' =>
      (e = .returned (.bool false) ∧ ∃ ys, projI ys = Gr.ndT nd ∧ J (pre ++ ys) W' ∧ KpT B C W W') ∨ (e = .returned (.bool true) ∧ ∃ ys, projI ys <+: Gr.ndT nd ∧ Jx (pre ++ ys) W') := by
  obtain ⟨u0, u1, u2, u3, u4, rfl⟩ : ∃ u0 u1 u2 u3 u4, cs = [u0, u1, u2, u3, u4] := by
    have := hn.len
    match cs, this with
    | [u0, u1, u2, u3, u4], _ => exact ⟨_, _, _, _, _, rfl⟩
  have hb1 := below_new W (.cells #[u0, u1, u2, u3, u4] 74)
  have h1 := heap_alloc_new W (.cells #[u0, u1, u2, u3, u4] 74)
  obtain ⟨W1, hW1⟩ : ∃ W1, Hid (W.alloc (.cells #[u0, u1, u2, u3, u4] 74) = W1) := ⟨_, hid rfl⟩
  rw [hW1.out] at hb1 h1
  have hc1 := hc.below hb1
  have hp := hP [u0, u1, u2, u3, u4] pre W1 hn hc1.b hc1.s (hJg _ _ _ hJ (grown_of hb1)) hN
  have HP := hid hp
  have HB1 := hid hb1
  have HBs := hid (Nat.le_trans hc.hB hc.s)
  have c0 : W1.cell? ⟨Yb, 0, none⟩ = some (.func (.yield l) #[] #[]) := by rw [Lib.cell_of_heap hc1.y]; rfl
  have k0 : W1.cell? ⟨W.heap.size, 0, none⟩ = some u0 := by rw [Lib.cell_of_heap h1]; rfl
  have k1 : W1.cell? ⟨W.heap.size, 1, none⟩ = some u1 := by rw [Lib.cell_of_heap h1]; rfl
  have k2 : W1.cell? ⟨W.heap.size, 2, none⟩ = some u2 := by rw [Lib.cell_of_heap h1]; rfl
  have k3 : W1.cell? ⟨W.heap.size, 3, none⟩ = some u3 := by rw [Lib.cell_of_heap h1]; rfl
  have k4 : W1.cell? ⟨W.heap.size, 4, none⟩ = some u4 := by rw [Lib.cell_of_heap h1]; rfl
  clear hp hb1 h1 hP hn hc hc1 hJ hJg hN
  go_enter Tryz.func198, Tryz.ntmps198
  go_upto_region 1 with fail
  rw [hW1.out]
  clear hW1
  go_wp2_with fail
  refine HP.out.mono ?_
  rintro e W2 (⟨rfl, ys, hp, hJ2, hk⟩ | ⟨rfl, ys, hp, hx⟩)
  · have HF := hid (And.intro hp (And.intro hJ2 ((KpT.of HB1.out HBs.out).trans hk)))
    clear hp hJ2 hk c0 k0 k1 k2 k3 k4
    go_wp2_with fail
    go_ret
    exact .inl ⟨rfl, ys, HF.out⟩
  · have HF := hid (And.intro hp hx)
    clear hp hx c0 k0 k1 k2 k3 k4
    go_wp2_with fail
    go_ret
    exact .inr ⟨rfl, ys, HF.out⟩
def SubsT (w0 : World) (B : Nat) (C : Nat → TypeId → Prop) (J Jx : List (NdIt w0 B) → World → Prop) (pre : List (NdIt w0 B)) (L : List Gr.Nd) (W : World) (e : Ending) (W' : World) : Prop :=
  (e = .returned (.int .i64 (-1)) ∧ ∃ ys, projI ys = L ∧ J (pre ++ ys) W' ∧ KpT B C W W') ∨ ∃ i : Nat, e = .returned (.int .i64 (i : Int)) ∧ ∃ ys, projI ys <+: L ∧ Jx (pre ++ ys) W'
set_option maxHeartbeats 4000000 in
theorem subsT_idx {L : List Gr.Nd} (hP : ∀ i (hi : i < L.length), WalkT w0 B C l B1 N J Jx L[i]) (hC : ∀ k T, C k T → k < B1 ∨ (T ≠ 74 ∧ T ≠ 185)) (UA : Option Addr) (uc : Nat) (xs : List Value) (pre : List (NdIt w0 B)) (W : World) (hr : Reads w0 B 5 UA L.length xs) (hv : NdsR w0 B L xs)
    (hc : YbT w0 B l B1 Yb W) (hJ : J pre W) (hJg : ∀ s W W', J s W → W.grownBy W' none → J s W') (hN : pre.length + (Gr.ndL L).length ≤ N) (hLL : L.length ≤ 4398046511104) :
    Calls Tryz.prog 173 #[.slice UA L.length uc, .func (.func 198) #[] #[.pointer (some ⟨Yb, 0, none⟩)]] W (SubsT w0 B C J Jx pre (Gr.ndL L) W) := by
  have HP := hid hP
  have HR := hid hr
  have HV := hid hv
  have HC := hid hc
  have HJ0 := hid hJ
  have HJG := hid hJg
  have HN := hid hN
  have HCC := hid hC
  obtain ⟨n, hn⟩ : ∃ n, L.length = n := ⟨_, rfl⟩
  have HL := hid hn
  rw [hn] at hLL ⊢
  clear hP hr hv hc hJ hJg hN hC hn
  go_enter Tryz.func173, Tryz.ntmps173
  go_wp2_with fail
  go_loopw [5, 8] (fun _ iv wr => ∃ (i : Nat) (ys : List (NdIt w0 B)), i ≤ n ∧ iv = .int .i64 (i : Int) ∧ Hid (projI ys = Gr.ndL (L.take i) ∧ J (pre ++ ys) wr ∧ KpT B C W wr)) (fun _ iv _ => n - (intOf iv).toNat)
  case atStart => exact ⟨0, [], Nat.zero_le _, rfl, hid ⟨by simp [projI, Gr.ndL_nil], by simpa using HJ0.out, KpT.refl _ _ _⟩⟩
  case round =>
    obtain ⟨i, ys, hi, rfl, HI⟩ := hrel
    have hwi : IntKind.i64.wrap ((i : Int) + 1) = (i : Int) + 1 := w64 (by omega) (by omega)
    by_cases hlt : i < n
    · have hil : i < L.length := by have := HL.out; omega
      have hltI : (i : Int) < (n : Int) := by omega
      have hcw := HC.out.keep HCC.out HI.out.2.2
      obtain ⟨b, o, u0, u1, u2, u3, u4, hUA, hb, hnd, c0, c1, c2, c3, c4⟩ := readsNd HR.out HV.out i hil
      have e0 := (hcw.b.cell (p := ⟨b, o + i * 5, none⟩) hb).trans c0
      have e1 := (hcw.b.cell (p := ⟨b, o + i * 5 + 1, none⟩) hb).trans c1
      have e2 := (hcw.b.cell (p := ⟨b, o + i * 5 + 2, none⟩) hb).trans c2
      have e3 := (hcw.b.cell (p := ⟨b, o + i * 5 + 3, none⟩) hb).trans c3
      have e4 := (hcw.b.cell (p := ⟨b, o + i * 5 + 4, none⟩) hb).trans c4
      have hle : (pre ++ ys).length + (Gr.ndT L[i]).length ≤ N := by
        have h1 : ys.length = (Gr.ndL (L.take i)).length := by rw [← HI.out.1]; simp [projI]
        have h2 := (Gr.ndL_prefix L (i + 1)).length_le
        rw [Gr.ndL_take L i hil, List.length_append] at h2
        have := HN.out
        rw [List.length_append]
        omega
      have hsb := subT_any (HP.out i hil) [u0, u1, u2, u3, u4] (pre ++ ys) wr hnd hcw HI.out.2.1 HJG.out hle
      have HSB := hid hsb
      have HTK := hid (Gr.ndL_take L i hil)
      have HPR := hid (Gr.ndL_prefix L (i + 1))
      rw [hUA]
      clear hcw hUA hnd c0 c1 c2 c3 c4 hle hsb
      go_wp2_with fail
      refine HSB.out.mono ?_
      rintro e W2 (⟨rfl, zs, hp, hJ2, hk⟩ | ⟨rfl, zs, hp, hx⟩)
      · have HF := hid (show projI (ys ++ zs) = Gr.ndL (L.take (i + 1)) ∧ J (pre ++ (ys ++ zs)) W2 ∧ KpT B C W W2 from ⟨by rw [projI_append, HI.out.1, hp, HTK.out], by rw [← List.append_assoc]; exact hJ2, HI.out.2.2.trans hk⟩)
        clear hp hJ2 hk e0 e1 e2 e3 e4
        go_wp2_with fail
        go_roundw
        case rel => exact ⟨i + 1, ys ++ zs, hlt, by go_num, HF⟩
        case measure => simp only [intOf]; omega
      · have HF := hid (show projI (ys ++ zs) <+: Gr.ndL L ∧ Jx (pre ++ (ys ++ zs)) W2 from ⟨by
          refine List.IsPrefix.trans ?_ HPR.out
          rw [projI_append, HI.out.1, HTK.out]
          obtain ⟨r, hr⟩ := hp
          exact ⟨r, by rw [List.append_assoc, hr]⟩, by rw [← List.append_assoc]; exact hx⟩)
        clear hp hx e0 e1 e2 e3 e4
        go_wp2_with fail
        go_ret
        exact .inr ⟨i, rfl, ys ++ zs, HF.out⟩
    · have hie : i = n := by omega
      subst hie
      have HF := hid (show projI ys = Gr.ndL L ∧ J (pre ++ ys) wr ∧ KpT B C W wr from ⟨by rw [HI.out.1, ← HL.out, List.take_length], HI.out.2⟩)
      clear hlt
      go_wp2_with fail
      go_ret
      exact .inl ⟨rfl, ys, HF.out⟩
theorem subsT_has {L : List Gr.Nd} (UA : Option Addr) (uc : Nat) (pre : List (NdIt w0 B)) (W : World)
    (h : Calls Tryz.prog 173 #[.slice UA L.length uc, .func (.func 198) #[] #[.pointer (some ⟨Yb, 0, none⟩)]] W (SubsT w0 B C J Jx pre (Gr.ndL L) W)) :
    Calls Tryz.prog 147 #[.slice UA L.length uc, .func (.func 198) #[] #[.pointer (some ⟨Yb, 0, none⟩)]] W fun e W' =>
      (e = .returned (.bool false) ∧ ∃ ys, projI ys = Gr.ndL L ∧ J (pre ++ ys) W' ∧ KpT B C W W') ∨ (e = .returned (.bool true) ∧ ∃ ys, projI ys <+: Gr.ndL L ∧ Jx (pre ++ ys) W') := by
  have H := hid h
  clear h
  generalize L.length = n at *
  go_enter Tryz.func147, Tryz.ntmps147
  go_wp2_with fail
  go_at_call 173
  refine H.out.mono ?_
  rintro e W2 (⟨rfl, ys, hp⟩ | ⟨i, rfl, ys, hp⟩)
  · have HF := hid hp
    clear hp
    go_wp2_with fail
    go_ret
    exact .inl ⟨rfl, ys, HF.out⟩
  · have HF := hid hp
    have hi : decide ((0 : Int) ≤ (i : Int)) = true := decide_eq_true (by omega)
    clear hp
    go_wp2_with fail
    go_ret
    exact .inr ⟨rfl, ys, HF.out⟩
set_option maxHeartbeats 4000000 in
/-- one node, and all below it -/
theorem walkT_any (hC : ∀ k T, C k T → k < B1 ∨ (T ≠ 74 ∧ T ≠ 185)) (hB1 : B ≤ B1) (hJg : ∀ s W W', J s W → W.grownBy W' none → J s W')
    (hYd : ∀ pre x W, J pre W → pre.length < N → YieldAt Fence.wide 0 Tryz.prog l (NdIt.enc x) W fun e W' => (e = .returned (.bool true) ∧ J (pre ++ [x]) W' ∧ KpT B C W W') ∨ (e = .returned (.bool false) ∧ Jx (pre ++ [x]) W'))
    (k nm t st L) (hL : ∀ i (hi : i < List.length L), WalkT w0 B C l B1 N J Jx L[i]) (hLL : List.length L ≤ 4398046511104) (hokn : Gr.okN (.mk k nm t st L)) : WalkT w0 B C l B1 N J Jx (.mk k nm t st L) := by
  intro cs pre W hn hbW hsW hJ hN
  have hn' := hn
  unfold NdR at hn'
  obtain ⟨SA, sc, UA, uc, xs, rfl, hset, hr, hv, _⟩ := hn'
  have z1 : (W.alloc (.cells #[.int .u8 (k : Int), Gr.strV nm, Gr.strV t, .slice SA st.length sc, .slice UA L.length uc] 74)).heap.size = W.heap.size + 1 := by simp
  obtain ⟨W1, hW1⟩ : ∃ W1, Hid ((W.alloc (.cells #[.int .u8 (k : Int), Gr.strV nm, Gr.strV t, .slice SA st.length sc, .slice UA L.length uc] 74)).alloc (.cells #[.func (.yield l) #[] #[]] 185) = W1) := ⟨_, hid rfl⟩
  have hb1 : Below W.heap.size W W1 := by rw [← hW1.out]; exact (below_new _ _).alloc (by omega) _
  have hNb : W1.heap[W.heap.size]? = some (.cells #[.int .u8 (k : Int), Gr.strV nm, Gr.strV t, .slice SA st.length sc, .slice UA L.length uc] 74 (0, 0)) := by rw [← hW1.out, Below.heap_alloc _ _ _ (by omega)]; exact heap_alloc_new _ _
  have hYb : W1.heap[W.heap.size + 1]? = some (.cells #[.func (.yield l) #[] #[]] 185 (0, 0)) := by rw [← hW1.out, ← z1]; exact heap_alloc_new _ _
  have hc1 : YbT w0 B l B1 (W.heap.size + 1) W1 := ⟨hbW.trans (hb1.mono (by omega)), hYb, Nat.le_trans hsW hb1.size, hB1, by omega⟩
  have hpl : (Gr.ndT (.mk k nm t st L)).length = 1 + (Gr.ndL L).length := by rw [Gr.ndT_eq, List.length_cons, Nat.add_comm]; rfl
  obtain ⟨x, hxe, hxp⟩ : ∃ x : NdIt w0 B, NdIt.enc x = #[.agg #[.int .u8 (k : Int), Gr.strV nm, Gr.strV t, .slice SA st.length sc, .slice UA L.length uc]] ∧ projI [x] = [.mk k nm t st L] := ⟨⟨.mk k nm t st L, _, hn, hokn⟩, rfl, rfl⟩
  obtain ⟨fn, tmps, assign, body, hy, hR⟩ := YieldAt.anyD rfl 2 (hYd pre x W1 (hJg _ _ _ hJ (grown_of hb1)) (by omega))
  have c0 : W1.cell? ⟨W.heap.size + 1, 0, none⟩ = some (.func (.yield l) #[] #[]) := by rw [Lib.cell_of_heap hYb]; rfl
  have k0 : W1.cell? ⟨W.heap.size, 0, none⟩ = some (.int .u8 (k : Int)) := by rw [Lib.cell_of_heap hNb]; rfl
  have k1 : W1.cell? ⟨W.heap.size, 1, none⟩ = some (Gr.strV nm) := by rw [Lib.cell_of_heap hNb]; rfl
  have k2 : W1.cell? ⟨W.heap.size, 2, none⟩ = some (Gr.strV t) := by rw [Lib.cell_of_heap hNb]; rfl
  have k3 : W1.cell? ⟨W.heap.size, 3, none⟩ = some (.slice SA st.length sc) := by rw [Lib.cell_of_heap hNb]; rfl
  have k4 : W1.cell? ⟨W.heap.size, 4, none⟩ = some (.slice UA L.length uc) := by rw [Lib.cell_of_heap hNb]; rfl
  have HNB := hid hNb
  have HC1 := hid hc1
  have HR2 := hid hr
  have HV := hid hv
  have HB1 := hid hb1
  have HLH := hid hL
  have HN := hid hN
  have HPL := hid hpl
  have HJG := hid hJg
  have HCC := hid hC
  have HBs := hid (Nat.le_trans hB1 hsW)
  have HS1 := hid hsW
  rw [hxe] at hy
  have HXP := hid hxp
  rw [← hW1.out] at hy c0 k0 k1 k2 k3 k4 hR
  clear hNb hYb hc1 hr hv hb1 hL hN hpl hJg hC hYd hn hset z1 hxe hxp hbW hsW hB1
  refine (callsIn_wide (n := 3)).1 ?_
  refine callsIn_of_wp Tryz.func182 rfl trivial ?_ rfl
  simp only [Tryz.ntmps182, List.size_toArray, List.length_cons, List.length_nil, Nat.reduceAdd, Nat.reduceSub, Array.replicate_succ, Array.replicate_zero, List.push_toArray, List.append_toArray, List.nil_append, List.cons_append]
  gi_wp2
  refine hR.mono ?_
  clear hR hy c0 k0 k1 k2 k3 k4
  rw [hW1.out]
  rintro e W2 (⟨rfl, hJ2, hk⟩ | ⟨rfl, hx⟩)
  · have hc2 := HC1.out.keep HCC.out hk
    have hN2 := hk.2 _ _ _ HNB.out (fun e => by
      rcases HCC.out _ _ e with e | e
      · have := HS1.out; omega
      · exact e.1 rfl)
    have k4 : W2.cell? ⟨W.heap.size, 4, none⟩ = some (.slice UA L.length uc) := by rw [Lib.cell_of_heap hN2]; rfl
    have HS := hid (subsT_has (C := C) (J := J) (Jx := Jx) UA uc (pre ++ [x]) W2 (subsT_idx HLH.out HCC.out UA uc xs (pre ++ [x]) W2 HR2.out HV.out hc2 hJ2 HJG.out (by have := HN.out; have := HPL.out; rw [List.length_append, List.length_singleton]; omega) hLL))
    have HK := hid ((KpT.of (C := C) HB1.out HBs.out).trans hk)
    clear hc2 hN2 hJ2 hk
    gi_wp2
    refine ⟨trivial, (callsIn_wide.2 HS.out).mono ?_⟩
    clear k4
    rintro e W3 (⟨rfl, ys, hp, hJ3, hk3⟩ | ⟨rfl, ys, hp, hx⟩)
    · have HF := hid (show projI ([x] ++ ys) = Gr.ndT (.mk k nm t st L) ∧ J (pre ++ ([x] ++ ys)) W3 ∧ KpT B C W W3 from ⟨by rw [projI_append, HXP.out, hp, Gr.ndT_eq]; rfl, by rw [← List.append_assoc]; exact hJ3, HK.out.trans hk3⟩)
      clear hp hJ3 hk3
      gi_wp2
      go_ret
      exact .inl ⟨rfl, [x] ++ ys, HF.out⟩
    · have HF := hid (show projI ([x] ++ ys) <+: Gr.ndT (.mk k nm t st L) ∧ Jx (pre ++ ([x] ++ ys)) W3 from ⟨by
        rw [projI_append, HXP.out, Gr.ndT_eq]
        obtain ⟨r, hr⟩ := hp
        exact ⟨r, by rw [List.append_assoc, hr]; rfl⟩, by rw [← List.append_assoc]; exact hx⟩)
      clear hp hx
      gi_wp2
      go_ret
      exact .inr ⟨rfl, [x] ++ ys, HF.out⟩
  · have HF := hid hx
    clear hx
    gi_wp2
    refine ⟨trivial, ?_⟩
    gi_wp2
    go_ret
    exact .inr ⟨rfl, [x], by rw [HXP.out, Gr.ndT_eq]; exact ⟨_, rfl⟩, HF.out⟩
mutual
theorem walkT_all (hC : ∀ k T, C k T → k < B1 ∨ (T ≠ 74 ∧ T ≠ 185)) (hB1 : B ≤ B1) (hJg : ∀ s W W', J s W → W.grownBy W' none → J s W')
    (hYd : ∀ pre x W, J pre W → pre.length < N → YieldAt Fence.wide 0 Tryz.prog l (NdIt.enc x) W fun e W' => (e = .returned (.bool true) ∧ J (pre ++ [x]) W' ∧ KpT B C W W') ∨ (e = .returned (.bool false) ∧ Jx (pre ++ [x]) W')) :
    ∀ nd : Gr.Nd, Gr.okN nd → WalkT w0 B C l B1 N J Jx nd
  | .mk k nm t st L, h => by
    have hokn := h
    unfold Gr.okN at h
    exact walkT_any hC hB1 hJg hYd k nm t st L (walkT_subs hC hB1 hJg hYd L h.2.2.2.2.2.2) h.2.2.2.2.2.1 hokn
theorem walkT_subs (hC : ∀ k T, C k T → k < B1 ∨ (T ≠ 74 ∧ T ≠ 185)) (hB1 : B ≤ B1) (hJg : ∀ s W W', J s W → W.grownBy W' none → J s W')
    (hYd : ∀ pre x W, J pre W → pre.length < N → YieldAt Fence.wide 0 Tryz.prog l (NdIt.enc x) W fun e W' => (e = .returned (.bool true) ∧ J (pre ++ [x]) W' ∧ KpT B C W W') ∨ (e = .returned (.bool false) ∧ Jx (pre ++ [x]) W')) :
    ∀ L : List Gr.Nd, Gr.okNs L → ∀ i (hi : i < L.length), WalkT w0 B C l B1 N J Jx L[i]
  | [], _, i, hi => absurd hi (Nat.not_lt_zero _)
  | x :: L, h, i, hi => by
    unfold Gr.okNs at h
    cases i with
    | zero => exact walkT_all hC hB1 hJg hYd x h.1
    | succ i => exact walkT_subs hC hB1 hJg hYd L h.2 i (by simpa using hi)
end
end
/-- the iterator's value: all nodes, one by one -/
theorem checks_all (cs : List Value) (u0 u1 u2 u3 u4 : Value) (hcs : cs = [u0, u1, u2, u3, u4]) (w : World) : Calls Tryz.prog 159 #[.agg cs.toArray] w fun e w' => e = .returned (.func (.func 181) #[] #[.pointer (some ⟨w.heap.size, 0, none⟩)]) ∧ w' = w.alloc (.cells cs.toArray 74) := by
  subst hcs
  go_enter Tryz.func159, Tryz.ntmps159
  go_wp2
  go_ret
  exact ⟨rfl, rfl⟩
set_option maxHeartbeats 4000000 in
theorem allT_stops {w0 : World} {B : Nat} (C : Nat → TypeId → Prop) (nd : Gr.Nd) (cs : List Value) (w : World) (bx : Nat) (hn : NdR w0 B nd cs) (hok : Gr.okN nd) (hb : Below B w0 w) (hB : B ≤ w.heap.size) (hx : w.heap[bx]? = some (.cells cs.toArray 74 (0, 0)))
    (hC : ∀ k T, C k T → k < w.heap.size ∨ (T ≠ 74 ∧ T ≠ 185)) :
    SeqStopsK Fence.wide 4 Tryz.prog 181 #[.pointer (some ⟨bx, 0, none⟩)] (NdIt.enc (w := w0) (B := B)) (KpT B C) (fun ys => projI ys = Gr.ndT nd) (fun pre => projI pre <+: Gr.ndT nd) (Gr.ndT nd).length w := by
  intro l J Jx W hW hJ _ hY h0
  obtain ⟨u0, u1, u2, u3, u4, rfl⟩ : ∃ u0 u1 u2 u3 u4, cs = [u0, u1, u2, u3, u4] := by
    have := hn.len
    match cs, this with
    | [u0, u1, u2, u3, u4], _ => exact ⟨_, _, _, _, _, rfl⟩
  have hsW := hW.size
  have hwa := walkT_all (w0 := w0) (B := B) (C := C) (l := l) (B1 := W.heap.size) (N := (Gr.ndT nd).length) (J := J) (Jx := Jx) (fun k T e => by
      rcases hC _ _ e with e | e
      · exact .inl (by omega)
      · exact .inr e) (by omega)
    (fun s A D hs hg => hJ s A D none hs hg (fun r e => by cases e)) (fun pre x A hj hl => YieldAt.anyD rfl 0 (hY pre x A hj hl)) nd hok [u0, u1, u2, u3, u4] [] W hn (hb.trans (hW.mono hB)) (Nat.le_refl _) h0 (by simp)
  have HWA := hid hwa
  have hxl := heap_lt hx
  have hx3 := (hW.block bx hxl).trans hx
  have k0 : W.cell? ⟨bx, 0, none⟩ = some u0 := by rw [Lib.cell_of_heap hx3]; rfl
  have k1 : W.cell? ⟨bx, 1, none⟩ = some u1 := by rw [Lib.cell_of_heap hx3]; rfl
  have k2 : W.cell? ⟨bx, 2, none⟩ = some u2 := by rw [Lib.cell_of_heap hx3]; rfl
  have k3 : W.cell? ⟨bx, 3, none⟩ = some u3 := by rw [Lib.cell_of_heap hx3]; rfl
  have k4 : W.cell? ⟨bx, 4, none⟩ = some u4 := by rw [Lib.cell_of_heap hx3]; rfl
  clear hW hJ hY h0 hwa hx3 hn hok hb hx hC hxl
  refine callsIn_wide.2 ?_
  show Calls Tryz.prog 181 #[.func (.yield l) #[] #[], .pointer (some ⟨bx, 0, none⟩)] W _
  go_enter Tryz.func181, Tryz.ntmps181
  go_wp2_with fail
  refine HWA.out.mono ?_
  rintro e W4 (⟨rfl, ys, hp, hJ4, _⟩ | ⟨rfl, ys, hp, hx4⟩)
  · have HF := hid (And.intro hp hJ4)
    clear hp hJ4 k0 k1 k2 k3 k4
    go_wp2_with fail
    go_end0
    exact ⟨⟨_, rfl⟩, .inl ⟨ys, HF.out.1, by simpa using HF.out.2⟩⟩
  · have HF := hid (And.intro hp hx4)
    clear hp hx4 k0 k1 k2 k3 k4
    go_wp2_with fail
    go_end0
    exact ⟨⟨_, rfl⟩, .inr ⟨ys, HF.out.1, by simpa using HF.out.2⟩⟩
end Go.Proofs.YtpbnfinmjnpkpaaGreatDoor
