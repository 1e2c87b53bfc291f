/-
  All nodes of a node, one by one (nodes.all): the iterator's contract.
-/
import Derived.Test.YtpbnfinmjnpkpaaGreatDoorGrMem
import Derived.Test.YtpbnfinmjnpkpaaGreatDoorDBase
import Derived.Test.YtpbnfinmjnpkpaaGreatDoorChecked
import Derived.Deep.QuietTactic
import Derived.BigQuiet
import Derived.Laws.Rows
import Derived.Deep.Cut
import Derived.Laws.EntriesVeiled
import Derived.RangeFuncNested
import Derived.RangeFuncBound
import Derived.RangeFuncCalls
import Derived.RangeFuncLeaves
import Derived.Shelf.Abstract
import Derived.Shelf.RegionOpen
import Derived.WalkKit
import Derived.OwnWalkIn
import Derived.TacticsInMore
import Derived.LoopNIn
import Derived.LoopIn
import Derived.Deep.RegionHeld3
namespace Go.Proofs.YtpbnfinmjnpkpaaGreatDoor
open Go.RowKit Go.Shelf
set_option maxRecDepth 100000
attribute [local go_sem] Oper.semAt_some
def inc64 (d : Int) : Int := wrap64 (d + 1)
/-- a node that is handed out, and how deep it lies -/
structure NdAt (w : World) (B : Nat) where
  d : Int
  n : Gr.Nd
  cs : List Value
  h : NdR w B n cs
  ok : Gr.okN n
def NdAt.enc {w : World} {B : Nat} (x : NdAt w B) : Array Value := #[.int .i64 x.d, .agg x.cs.toArray]
def projN {w : World} {B : Nat} (ys : List (NdAt w B)) : List (Int × Gr.Nd) := ys.map fun x => (x.d, x.n)
theorem projN_append {w : World} {B : Nat} (a b : List (NdAt w B)) : projN (a ++ b) = projN a ++ projN b := by simp [projN]
/-- what a round keeps: all below B, and all cells but those of the caller's own blocks -/
def KpC (B : Nat) (C : Nat → Prop) (W W' : World) : Prop := Below B W W' ∧ ∀ k cs T, W.heap[k]? = some (.cells cs T (0, 0)) → ¬ C k → W'.heap[k]? = some (.cells cs T (0, 0))
theorem KpC.refl (B : Nat) (C : Nat → Prop) (W : World) : KpC B C W W := ⟨Below.refl _ _, fun _ _ _ h _ => h⟩
theorem KpC.trans {B : Nat} {C : Nat → Prop} {W1 W2 W3 : World} (h : KpC B C W1 W2) (k : KpC B C W2 W3) : KpC B C W1 W3 := ⟨h.1.trans k.1, fun i cs T e hc => k.2 i cs T (h.2 i cs T e hc) hc⟩
theorem KpC.of {B : Nat} {C : Nat → Prop} {W W' : World} (h : Below W.heap.size W W') (hB : B ≤ W.heap.size) : KpC B C W W' := ⟨h.mono hB, fun k cs T e _ => (h.block k (by
  rcases Nat.lt_or_ge k W.heap.size with h' | h'
  · exact h'
  · rw [Array.getElem?_eq_none h'] at e; cases e)).trans e⟩
theorem grown_of {W W' : World} (h : Below W.heap.size W W') : W.grownBy W' none := ⟨h.os, h.tape, h.output, h.size, fun k hk _ => h.block k hk⟩
theorem RoundIn.anyD {F : Fence} (hd : F.depth = none) {m m' : Nat} {P : Program} {l : Nat} {f : FuncId} {tmps : Array Value} {assign body : Code} {w : World} {R : Ending → World → Prop}
    (h : RoundIn F m P l f tmps assign body w R) : RoundIn F m' P l f tmps assign body w R := ⟨h.1, fun c cs _ => h.2 c cs (fun d h => by rw [hd] at h; cases h)⟩
theorem YieldAt.anyD {F : Fence} (hd : F.depth = none) {m : Nat} (m' : Nat) {P : Program} {l : Nat} {args : Array Value} {W : World} {R : Ending → World → Prop} (h : YieldAt F m P l args W R) : YieldAt F m' P l args W R := by
  obtain ⟨fn, tmps, assign, body, hy, hR⟩ := h
  exact ⟨fn, tmps, assign, body, hy, RoundIn.anyD hd hR⟩
section
variable (w0 : World) (B : Nat) (C : Nat → Prop) (l Y Wb B1 N : Nat) (J Jx : List (NdAt w0 B) → World → Prop)
/-- where the walk's own boxes lie -/
structure WkC (W : World) : Prop where
  b : Below B w0 W
  y : W.heap[Y]? = some (.cells #[.func (.yield l) #[] #[]] 225 (0, 0))
  wk : W.heap[Wb]? = some (.cells #[.func (.func 146) #[] #[.pointer (some ⟨Y, 0, none⟩), .pointer (some ⟨Wb, 0, none⟩)]] 225 (0, 0))
  s : B1 ≤ W.heap.size
  hB : B ≤ B1
/-- what a walk over some nodes comes to -/
def WkOut (pre : List (NdAt w0 B)) (L : List (Int × Gr.Nd)) (W : World) (e : Ending) (W' : World) : Prop :=
  (e = .returned (.bool true) ∧ ∃ ys, projN ys = L ∧ J (pre ++ ys) W' ∧ KpC B C W W') ∨ (e = .returned (.bool false) ∧ ∃ ys, projN ys <+: L ∧ Jx (pre ++ ys) W')
def WalkP (nd : Gr.Nd) : Prop := ∀ (d : Int) (cs : List Value) (pre : List (NdAt w0 B)) (W : World), NdR w0 B nd cs → WkC w0 B l Y Wb B1 W → J pre W → pre.length + (Gr.preI inc64 d nd).length ≤ N →
  Calls Tryz.prog 146 #[.int .i64 d, .agg cs.toArray, .pointer (some ⟨Y, 0, none⟩), .pointer (some ⟨Wb, 0, none⟩)] W (WkOut w0 B C J Jx pre (Gr.preI inc64 d nd) W)
end
section
variable {w0 : World} {B : Nat} {C : Nat → Prop} {l Y Wb B1 N : Nat} {J Jx : List (NdAt w0 B) → World → Prop}
theorem WkC.keep {W W' : World} (h : WkC w0 B l Y Wb B1 W) (hY : ¬ C Y) (hW : ¬ C Wb) (k : KpC B C W W') : WkC w0 B l Y Wb B1 W' := ⟨h.b.trans k.1, k.2 _ _ _ h.y hY, k.2 _ _ _ h.wk hW, Nat.le_trans h.s k.1.size, h.hB⟩
theorem WkC.below {W W' : World} (h : WkC w0 B l Y Wb B1 W) (k : Below W.heap.size W W') : WkC w0 B l Y Wb B1 W' := h.keep (C := fun _ => False) (fun e => e) (fun e => e) (KpC.of k (Nat.le_trans h.hB h.s))
/-- the closure that goes on with a Sub -/
theorem sub_any {nd : Gr.Nd} (hP : WalkP w0 B C l Y Wb B1 N J Jx nd) (d : Int) (Db : Nat) (cs : List Value) (pre : List (NdAt w0 B)) (W : World) (hn : NdR w0 B nd cs) (hc : WkC w0 B l Y Wb B1 W) (hJ : J pre W)
    (hJg : ∀ s W W', J s W → W.grownBy W' none → J s W') (hN : pre.length + (Gr.preI inc64 (inc64 d) nd).length ≤ N) (hD : W.heap[Db]? = some (.cells #[.int .i64 d] 3 (0, 0))) :
    Calls Tryz.prog 148 #[.agg cs.toArray, .pointer (some ⟨Wb, 0, none⟩), .pointer (some ⟨Db, 0, none⟩)] W fun e W' =>
      (e = .returned (.bool false) ∧ ∃ ys, projN ys = Gr.preI inc64 (inc64 d) nd ∧ J (pre ++ ys) W' ∧ KpC B C W W') ∨ (e = .returned (.bool true) ∧ ∃ ys, projN ys <+: Gr.preI inc64 (inc64 d) nd ∧ Jx (pre ++ ys) W') := by
  obtain ⟨u0, u1, u2, u3, u4, rfl⟩ : ∃ u0 u1 u2 u3 u4, cs = [u0, u1, u2, u3, u4] := by
    have := hn.len
    match cs, this with
    | [u0, u1, u2, u3, u4], _ => exact ⟨_, _, _, _, _, rfl⟩
  have hb1 := below_new W (.cells #[u0, u1, u2, u3, u4] 74)
  have h1 := heap_alloc_new W (.cells #[u0, u1, u2, u3, u4] 74)
  obtain ⟨W1, hW1⟩ : ∃ W1, Hid (W.alloc (.cells #[u0, u1, u2, u3, u4] 74) = W1) := ⟨_, hid rfl⟩
  rw [hW1.out] at hb1 h1
  have hp := hP (inc64 d) [u0, u1, u2, u3, u4] pre W1 hn (hc.below hb1) (hJg _ _ _ hJ (grown_of hb1)) hN
  have HP := hid hp
  have HB1 := hid hb1
  have HBs := hid (Nat.le_trans hc.hB hc.s)
  have lt : ∀ {k : Nat} {o : Obj}, W.heap[k]? = some o → k < W.heap.size := fun {k o} h => by
    rcases Nat.lt_or_ge k W.heap.size with h' | h'
    · exact h'
    · rw [Array.getElem?_eq_none h'] at h; cases h
  have c0 : W1.cell? ⟨Wb, 0, none⟩ = some (.func (.func 146) #[] #[.pointer (some ⟨Y, 0, none⟩), .pointer (some ⟨Wb, 0, none⟩)]) := by rw [Lib.cell_of_heap ((hb1.block _ (lt hc.wk)).trans hc.wk)]; rfl
  have c1 : W1.cell? ⟨Db, 0, none⟩ = some (.int .i64 d) := by rw [Lib.cell_of_heap ((hb1.block _ (lt hD)).trans hD)]; rfl
  have k0 : W1.cell? ⟨W.heap.size, 0, none⟩ = some u0 := by rw [Lib.cell_of_heap h1]; rfl
  have k1 : W1.cell? ⟨W.heap.size, 1, none⟩ = some u1 := by rw [Lib.cell_of_heap h1]; rfl
  have k2 : W1.cell? ⟨W.heap.size, 2, none⟩ = some u2 := by rw [Lib.cell_of_heap h1]; rfl
  have k3 : W1.cell? ⟨W.heap.size, 3, none⟩ = some u3 := by rw [Lib.cell_of_heap h1]; rfl
  have k4 : W1.cell? ⟨W.heap.size, 4, none⟩ = some u4 := by rw [Lib.cell_of_heap h1]; rfl
  unfold inc64 at HP
  clear hp hb1 h1 hP hn hc hJ hJg hN hD lt
  go_enter Tryz.func148, Tryz.ntmps148
  go_upto_region 1 with fail
  rw [hW1.out]
  clear hW1
  go_wp2_with fail
  refine HP.out.mono ?_
  rintro e W2 (⟨rfl, ys, hp, hJ2, hk⟩ | ⟨rfl, ys, hp, hx⟩)
  · have HF := hid (And.intro hp (And.intro hJ2 ((KpC.of HB1.out HBs.out).trans hk)))
    clear hp hJ2 hk c0 c1 k0 k1 k2 k3 k4
    go_wp2_with fail
    go_ret
    exact .inl ⟨rfl, ys, HF.out⟩
  · have HF := hid (And.intro hp hx)
    clear hp hx c0 c1 k0 k1 k2 k3 k4
    go_wp2_with fail
    go_ret
    exact .inr ⟨rfl, ys, HF.out⟩
/-- all Subs, one behind the other -/
def SubsOut (w0 : World) (B : Nat) (C : Nat → Prop) (J Jx : List (NdAt w0 B) → World → Prop) (pre : List (NdAt w0 B)) (L : List (Int × Gr.Nd)) (W : World) (e : Ending) (W' : World) : Prop :=
  (e = .returned (.int .i64 (-1)) ∧ ∃ ys, projN ys = L ∧ J (pre ++ ys) W' ∧ KpC B C W W') ∨ ∃ i : Nat, e = .returned (.int .i64 (i : Int)) ∧ ∃ ys, projN ys <+: L ∧ Jx (pre ++ ys) W'
theorem preIL_take (inc : Int → Int) (d : Int) (L : List Gr.Nd) (i : Nat) (h : i < L.length) : Gr.preIL inc d (L.take (i + 1)) = Gr.preIL inc d (L.take i) ++ Gr.preI inc d L[i] := by
  rw [List.take_succ_eq_append_getElem h]
  generalize L.take i = A
  induction A with
  | nil => rw [List.nil_append, Gr.preIL_cons, Gr.preIL_nil, List.append_nil, List.nil_append]
  | cons x A ih => rw [List.cons_append, Gr.preIL_cons, Gr.preIL_cons, ih, List.append_assoc]
theorem preIL_pre (inc : Int → Int) (d : Int) (L : List Gr.Nd) (i : Nat) : Gr.preIL inc d (L.take i) <+: Gr.preIL inc d L := by
  induction L generalizing i with
  | nil => simp [Gr.preIL_nil]
  | cons x L ih =>
    cases i with
    | zero => rw [List.take_zero, Gr.preIL_nil]; exact List.nil_prefix
    | succ i =>
      rw [List.take_succ_cons, Gr.preIL_cons, Gr.preIL_cons]
      obtain ⟨r, hr⟩ := ih i
      exact ⟨r, by rw [List.append_assoc, hr]⟩
set_option maxHeartbeats 4000000 in
theorem subs_idx {L : List Gr.Nd} (hP : ∀ i (hi : i < L.length), WalkP w0 B C l Y Wb B1 N J Jx L[i]) (hY : ¬ C Y) (hW : ¬ C Wb) (d : Int) (Db : Nat) (UA : Option Addr) (uc : Nat) (xs : List Value) (pre : List (NdAt w0 B)) (W : World) (hr : Reads w0 B 5 UA L.length xs) (hv : NdsR w0 B L xs)
    (hc : WkC w0 B l Y Wb B1 W) (hJ : J pre W) (hJg : ∀ s W W', J s W → W.grownBy W' none → J s W') (hN : pre.length + (Gr.preIL inc64 (inc64 d) L).length ≤ N) (hD : W.heap[Db]? = some (.cells #[.int .i64 d] 3 (0, 0))) (hDC : ¬ C Db) (hLL : L.length ≤ 4398046511104) :
    Calls Tryz.prog 173 #[.slice UA L.length uc, .func (.func 148) #[] #[.pointer (some ⟨Wb, 0, none⟩), .pointer (some ⟨Db, 0, none⟩)]] W (SubsOut w0 B C J Jx pre (Gr.preIL inc64 (inc64 d) L) W) := by
  have HP := hid hP
  have HR := hid hr
  have HV := hid hv
  have HC := hid hc
  have HJ0 := hid hJ
  have HJG := hid hJg
  have HN := hid hN
  have HD := hid hD
  have HDC := hid hDC
  have HY := hid hY
  have HWb := hid hW
  obtain ⟨n, hn⟩ : ∃ n, L.length = n := ⟨_, rfl⟩
  have HL := hid hn
  rw [hn] at hLL ⊢
  clear hP hr hv hc hJ hJg hN hD hDC hY hW hn
  go_enter Tryz.func173, Tryz.ntmps173
  go_wp2_with fail
  go_loopw [5, 8] (fun _ iv wr => ∃ (i : Nat) (ys : List (NdAt w0 B)), i ≤ n ∧ iv = .int .i64 (i : Int) ∧ Hid (projN ys = Gr.preIL inc64 (inc64 d) (L.take i) ∧ J (pre ++ ys) wr ∧ KpC B C W wr)) (fun _ iv _ => n - (intOf iv).toNat)
  case atStart => exact ⟨0, [], Nat.zero_le _, rfl, hid ⟨by simp [projN, Gr.preIL_nil], by simpa using HJ0.out, KpC.refl _ _ _⟩⟩
  case round =>
    obtain ⟨i, ys, hi, rfl, HI⟩ := hrel
    have hwi : IntKind.i64.wrap ((i : Int) + 1) = (i : Int) + 1 := w64 (by omega) (by omega)
    by_cases hlt : i < n
    · have hil : i < L.length := by have := HL.out; omega
      have hltI : (i : Int) < (n : Int) := by omega
      have hcw := HC.out.keep HY.out HWb.out HI.out.2.2
      obtain ⟨b, o, u0, u1, u2, u3, u4, hUA, hb, hnd, c0, c1, c2, c3, c4⟩ := readsNd HR.out HV.out i hil
      have e0 := (hcw.b.cell (p := ⟨b, o + i * 5, none⟩) hb).trans c0
      have e1 := (hcw.b.cell (p := ⟨b, o + i * 5 + 1, none⟩) hb).trans c1
      have e2 := (hcw.b.cell (p := ⟨b, o + i * 5 + 2, none⟩) hb).trans c2
      have e3 := (hcw.b.cell (p := ⟨b, o + i * 5 + 3, none⟩) hb).trans c3
      have e4 := (hcw.b.cell (p := ⟨b, o + i * 5 + 4, none⟩) hb).trans c4
      have hle : (pre ++ ys).length + (Gr.preI inc64 (inc64 d) L[i]).length ≤ N := by
        have h1 : ys.length = (Gr.preIL inc64 (inc64 d) (L.take i)).length := by rw [← HI.out.1]; simp [projN]
        have h2 := (preIL_pre inc64 (inc64 d) L (i + 1)).length_le
        rw [preIL_take inc64 (inc64 d) L i hil, List.length_append] at h2
        have := HN.out
        rw [List.length_append]
        omega
      have hsb := sub_any (HP.out i hil) d Db [u0, u1, u2, u3, u4] (pre ++ ys) wr hnd hcw HI.out.2.1 HJG.out hle (HI.out.2.2.2 _ _ _ HD.out HDC.out)
      have HSB := hid hsb
      have HTK := hid (preIL_take inc64 (inc64 d) L i hil)
      have HPR := hid (preIL_pre inc64 (inc64 d) L (i + 1))
      rw [hUA]
      clear hcw hUA hnd c0 c1 c2 c3 c4 hle hsb
      go_wp2_with fail
      refine HSB.out.mono ?_
      rintro e W2 (⟨rfl, zs, hp, hJ2, hk⟩ | ⟨rfl, zs, hp, hx⟩)
      · have HF := hid (show projN (ys ++ zs) = Gr.preIL inc64 (inc64 d) (L.take (i + 1)) ∧ J (pre ++ (ys ++ zs)) W2 ∧ KpC B C W W2 from ⟨by rw [projN_append, HI.out.1, hp, HTK.out], by rw [← List.append_assoc]; exact hJ2, HI.out.2.2.trans hk⟩)
        clear hp hJ2 hk e0 e1 e2 e3 e4
        go_wp2_with fail
        go_roundw
        case rel => exact ⟨i + 1, ys ++ zs, hlt, by go_num, HF⟩
        case measure => simp only [intOf]; omega
      · have HF := hid (show projN (ys ++ zs) <+: Gr.preIL inc64 (inc64 d) L ∧ Jx (pre ++ (ys ++ zs)) W2 from ⟨by
          refine List.IsPrefix.trans ?_ HPR.out
          rw [projN_append, HI.out.1, HTK.out]
          obtain ⟨r, hr⟩ := hp
          exact ⟨r, by rw [List.append_assoc, hr]⟩, by rw [← List.append_assoc]; exact hx⟩)
        clear hp hx e0 e1 e2 e3 e4
        go_wp2_with fail
        go_ret
        exact .inr ⟨i, rfl, ys ++ zs, HF.out⟩
    · have hie : i = n := by omega
      subst hie
      have HF := hid (show projN ys = Gr.preIL inc64 (inc64 d) L ∧ J (pre ++ ys) wr ∧ KpC B C W wr from ⟨by rw [HI.out.1, ← HL.out, List.take_length], HI.out.2⟩)
      clear hlt
      go_wp2_with fail
      go_ret
      exact .inl ⟨rfl, ys, HF.out⟩
theorem subs_has {L : List Gr.Nd} (d : Int) (Db : Nat) (UA : Option Addr) (uc : Nat) (pre : List (NdAt w0 B)) (W : World)
    (h : Calls Tryz.prog 173 #[.slice UA L.length uc, .func (.func 148) #[] #[.pointer (some ⟨Wb, 0, none⟩), .pointer (some ⟨Db, 0, none⟩)]] W (SubsOut w0 B C J Jx pre (Gr.preIL inc64 (inc64 d) L) W)) :
    Calls Tryz.prog 147 #[.slice UA L.length uc, .func (.func 148) #[] #[.pointer (some ⟨Wb, 0, none⟩), .pointer (some ⟨Db, 0, none⟩)]] W fun e W' =>
      (e = .returned (.bool false) ∧ ∃ ys, projN ys = Gr.preIL inc64 (inc64 d) L ∧ J (pre ++ ys) W' ∧ KpC B C W W') ∨ (e = .returned (.bool true) ∧ ∃ ys, projN ys <+: Gr.preIL inc64 (inc64 d) L ∧ Jx (pre ++ ys) W') := by
  have H := hid h
  clear h
  go_enter Tryz.func147, Tryz.ntmps147
  go_wp2_with fail
  go_at_call 173
  refine H.out.mono ?_
  rintro e W2 (⟨rfl, ys, hp⟩ | ⟨i, rfl, ys, hp⟩)
  · have HF := hid hp
    clear hp
    go_wp2_with fail
    go_ret
    exact .inl ⟨rfl, ys, HF.out⟩
  · have HF := hid hp
    have hi : decide ((0 : Int) ≤ (i : Int)) = true := decide_eq_true (by omega)
    clear hp
    go_wp2_with fail
    go_ret
    exact .inr ⟨rfl, ys, HF.out⟩
set_option maxHeartbeats 4000000 in
/-- one node, and all below it -/
theorem walk_any (hY : ¬ C Y) (hW : ¬ C Wb) (hC : ∀ k, C k → k < B1) (hJg : ∀ s W W', J s W → W.grownBy W' none → J s W')
    (hYd : ∀ pre x W, J pre W → pre.length < N → YieldAt Fence.wide 0 Tryz.prog l (NdAt.enc x) W fun e W' => (e = .returned (.bool true) ∧ J (pre ++ [x]) W' ∧ KpC B C W W') ∨ (e = .returned (.bool false) ∧ Jx (pre ++ [x]) W'))
    (k nm t st L) (hL : ∀ i (hi : i < List.length L), WalkP w0 B C l Y Wb B1 N J Jx L[i]) (hLL : List.length L ≤ 4398046511104) (hokn : Gr.okN (.mk k nm t st L)) : WalkP w0 B C l Y Wb B1 N J Jx (.mk k nm t st L) := by
  intro d cs pre W hn hc hJ hN
  have hn' := hn
  unfold NdR at hn'
  obtain ⟨SA, sc, UA, uc, xs, rfl, hset, hr, hv, _⟩ := hn'
  have z1 : (W.alloc (.cells #[.int .i64 d] 3)).heap.size = W.heap.size + 1 := by simp
  obtain ⟨W1, hW1⟩ : ∃ W1, Hid ((W.alloc (.cells #[.int .i64 d] 3)).alloc (.cells #[.int .u8 (k : Int), Gr.strV nm, Gr.strV t, .slice SA st.length sc, .slice UA L.length uc] 74) = W1) := ⟨_, hid rfl⟩
  have hb1 : Below W.heap.size W W1 := by rw [← hW1.out]; exact (below_new _ _).alloc (by omega) _
  have hD : W1.heap[W.heap.size]? = some (.cells #[.int .i64 d] 3 (0, 0)) := by rw [← hW1.out, Below.heap_alloc _ _ _ (by omega)]; exact heap_alloc_new _ _
  have hNb : W1.heap[W.heap.size + 1]? = some (.cells #[.int .u8 (k : Int), Gr.strV nm, Gr.strV t, .slice SA st.length sc, .slice UA L.length uc] 74 (0, 0)) := by rw [← hW1.out, ← z1]; exact heap_alloc_new _ _
  have hc1 := hc.below hb1
  have hpl : (Gr.preI inc64 d (.mk k nm t st L)).length = 1 + (Gr.preIL inc64 (inc64 d) L).length := by rw [Gr.preI_eq, List.length_cons, Nat.add_comm]; rfl
  obtain ⟨x, hxe, hxp⟩ : ∃ x : NdAt w0 B, NdAt.enc x = #[.int .i64 d, .agg #[.int .u8 (k : Int), Gr.strV nm, Gr.strV t, .slice SA st.length sc, .slice UA L.length uc]] ∧ projN [x] = [(d, .mk k nm t st L)] := ⟨⟨d, .mk k nm t st L, _, hn, hokn⟩, rfl, rfl⟩
  obtain ⟨fn, tmps, assign, body, hy, hR⟩ := YieldAt.anyD rfl 2 (hYd pre x W1 (hJg _ _ _ hJ (grown_of hb1)) (by omega))
  have c0 : W1.cell? ⟨Y, 0, none⟩ = some (.func (.yield l) #[] #[]) := by rw [Lib.cell_of_heap hc1.y]; rfl
  have cd : W1.cell? ⟨W.heap.size, 0, none⟩ = some (.int .i64 d) := by rw [Lib.cell_of_heap hD]; rfl
  have k0 : W1.cell? ⟨W.heap.size + 1, 0, none⟩ = some (.int .u8 (k : Int)) := by rw [Lib.cell_of_heap hNb]; rfl
  have k1 : W1.cell? ⟨W.heap.size + 1, 1, none⟩ = some (Gr.strV nm) := by rw [Lib.cell_of_heap hNb]; rfl
  have k2 : W1.cell? ⟨W.heap.size + 1, 2, none⟩ = some (Gr.strV t) := by rw [Lib.cell_of_heap hNb]; rfl
  have k3 : W1.cell? ⟨W.heap.size + 1, 3, none⟩ = some (.slice SA st.length sc) := by rw [Lib.cell_of_heap hNb]; rfl
  have k4 : W1.cell? ⟨W.heap.size + 1, 4, none⟩ = some (.slice UA L.length uc) := by rw [Lib.cell_of_heap hNb]; rfl
  have hs0 := hc.s
  have HD := hid hD
  have HNB := hid hNb
  have HC1 := hid hc1
  have HR2 := hid hr
  have HV := hid hv
  have HB1 := hid hb1
  have HLH := hid hL
  have HN := hid hN
  have HPL := hid hpl
  have HJG := hid hJg
  have HYC := hid hY
  have HWC := hid hW
  have HCL := hid hC
  have HBs := hid (Nat.le_trans hc.hB hc.s)
  rw [hxe] at hy
  have HXP := hid hxp
  rw [← hW1.out] at hy c0 cd k0 k1 k2 k3 k4 hR
  clear hD hNb hc1 hr hv hb1 hL hN hpl hJg hY hW hC hYd hn hset hc z1 hxe hxp
  refine (callsIn_wide (n := 3)).1 ?_
  refine callsIn_of_wp Tryz.func146 rfl trivial ?_ rfl
  simp only [Tryz.ntmps146, List.size_toArray, List.length_cons, List.length_nil, Nat.reduceAdd, Nat.reduceSub, Array.replicate_succ, Array.replicate_zero, List.push_toArray, List.append_toArray, List.nil_append, List.cons_append]
  gi_wp2
  refine hR.mono ?_
  clear hR hy c0 cd k0 k1 k2 k3 k4
  rw [hW1.out]
  rintro e W2 (⟨rfl, hJ2, hk⟩ | ⟨rfl, hx⟩)
  · have hc2 := HC1.out.keep HYC.out HWC.out hk
    have hD2 := hk.2 _ _ _ HD.out (fun e => by have := HCL.out _ e; omega)
    have hN2 := hk.2 _ _ _ HNB.out (fun e => by have := HCL.out _ e; omega)
    have k4 : W2.cell? ⟨W.heap.size + 1, 4, none⟩ = some (.slice UA L.length uc) := by rw [Lib.cell_of_heap hN2]; rfl
    have HS := hid (subs_has (C := C) (J := J) (Jx := Jx) d W.heap.size UA uc (pre ++ [x]) W2 (subs_idx HLH.out HYC.out HWC.out d W.heap.size UA uc xs (pre ++ [x]) W2 HR2.out HV.out hc2 hJ2 HJG.out (by have := HN.out; have := HPL.out; rw [List.length_append, List.length_singleton]; omega) hD2 (fun e => by have := HCL.out _ e; omega) hLL))
    have HK := hid ((KpC.of (C := C) HB1.out HBs.out).trans hk)
    clear hc2 hD2 hN2 hJ2 hk
    gi_wp2
    refine ⟨trivial, (callsIn_wide.2 HS.out).mono ?_⟩
    clear k4
    rintro e W3 (⟨rfl, ys, hp, hJ3, hk3⟩ | ⟨rfl, ys, hp, hx⟩)
    · have HF := hid (show projN ([x] ++ ys) = Gr.preI inc64 d (.mk k nm t st L) ∧ J (pre ++ ([x] ++ ys)) W3 ∧ KpC B C W W3 from ⟨by rw [projN_append, HXP.out, hp, Gr.preI_eq]; rfl, by rw [← List.append_assoc]; exact hJ3, HK.out.trans hk3⟩)
      clear hp hJ3 hk3
      gi_wp2
      go_ret
      exact .inl ⟨rfl, [x] ++ ys, HF.out⟩
    · have HF := hid (show projN ([x] ++ ys) <+: Gr.preI inc64 d (.mk k nm t st L) ∧ Jx (pre ++ ([x] ++ ys)) W3 from ⟨by
        rw [projN_append, HXP.out, Gr.preI_eq]
        obtain ⟨r, hr⟩ := hp
        exact ⟨r, by rw [List.append_assoc, hr]; rfl⟩, by rw [← List.append_assoc]; exact hx⟩)
      clear hp hx
      gi_wp2
      go_ret
      exact .inr ⟨rfl, [x] ++ ys, HF.out⟩
  · have HF := hid hx
    clear hx
    gi_wp2
    go_ret
    exact .inr ⟨rfl, [x], by rw [HXP.out, Gr.preI_eq]; exact ⟨_, rfl⟩, HF.out⟩
mutual
theorem walk_all (hY : ¬ C Y) (hW : ¬ C Wb) (hC : ∀ k, C k → k < B1) (hJg : ∀ s W W', J s W → W.grownBy W' none → J s W')
    (hYd : ∀ pre x W, J pre W → pre.length < N → YieldAt Fence.wide 0 Tryz.prog l (NdAt.enc x) W fun e W' => (e = .returned (.bool true) ∧ J (pre ++ [x]) W' ∧ KpC B C W W') ∨ (e = .returned (.bool false) ∧ Jx (pre ++ [x]) W')) :
    ∀ nd : Gr.Nd, Gr.okN nd → WalkP w0 B C l Y Wb B1 N J Jx nd
  | .mk k nm t st L, h => by
    have hokn := h
    unfold Gr.okN at h
    exact walk_any hY hW hC hJg hYd k nm t st L (walk_subs hY hW hC hJg hYd L h.2.2.2.2.2.2) h.2.2.2.2.2.1 hokn
theorem walk_subs (hY : ¬ C Y) (hW : ¬ C Wb) (hC : ∀ k, C k → k < B1) (hJg : ∀ s W W', J s W → W.grownBy W' none → J s W')
    (hYd : ∀ pre x W, J pre W → pre.length < N → YieldAt Fence.wide 0 Tryz.prog l (NdAt.enc x) W fun e W' => (e = .returned (.bool true) ∧ J (pre ++ [x]) W' ∧ KpC B C W W') ∨ (e = .returned (.bool false) ∧ Jx (pre ++ [x]) W')) :
    ∀ L : List Gr.Nd, Gr.okNs L → ∀ i (hi : i < L.length), WalkP w0 B C l Y Wb B1 N J Jx L[i]
  | [], _, i, hi => absurd hi (Nat.not_lt_zero _)
  | x :: L, h, i, hi => by
    unfold Gr.okNs at h
    cases i with
    | zero => exact walk_all hY hW hC hJg hYd x h.1
    | succ i => exact walk_subs hY hW hC hJg hYd L h.2 i (by simpa using hi)
end
end
/-- the iterator's value: all nodes, one by one -/
theorem nodes_all (cs : List Value) (u0 u1 u2 u3 u4 : Value) (hcs : cs = [u0, u1, u2, u3, u4]) (w : World) : Calls Tryz.prog 124 #[.agg cs.toArray] w fun e w' => e = .returned (.func (.func 145) #[] #[.pointer (some ⟨w.heap.size, 0, none⟩)]) ∧ w' = w.alloc (.cells cs.toArray 74) := by
  subst hcs
  go_enter Tryz.func124, Tryz.ntmps124
  go_wp2
  go_ret
  exact ⟨rfl, rfl⟩
set_option maxHeartbeats 4000000 in
theorem all_stops {w0 : World} {B : Nat} (C : Nat → Prop) (nd : Gr.Nd) (cs : List Value) (w : World) (bx : Nat) (hn : NdR w0 B nd cs) (hok : Gr.okN nd) (hb : Below B w0 w) (hB : B ≤ w.heap.size) (hx : w.heap[bx]? = some (.cells cs.toArray 74 (0, 0))) (hC : ∀ k, C k → k < w.heap.size) :
    SeqStopsK Fence.wide 4 Tryz.prog 145 #[.pointer (some ⟨bx, 0, none⟩)] (NdAt.enc (w := w0) (B := B)) (KpC B C) (fun ys => projN ys = Gr.preI inc64 1 nd) (fun pre => projN pre <+: Gr.preI inc64 1 nd) (Gr.preI inc64 1 nd).length w := by
  intro l J Jx W hW hJ _ hY h0
  obtain ⟨u0, u1, u2, u3, u4, rfl⟩ : ∃ u0 u1 u2 u3 u4, cs = [u0, u1, u2, u3, u4] := by
    have := hn.len
    match cs, this with
    | [u0, u1, u2, u3, u4], _ => exact ⟨_, _, _, _, _, rfl⟩
  have hsW := hW.size
  have z1 : (W.alloc (.cells #[.func (.yield l) #[] #[]] 225)).heap.size = W.heap.size + 1 := by simp
  obtain ⟨W2, hW2⟩ : ∃ W2, Hid ((W.alloc (.cells #[.func (.yield l) #[] #[]] 225)).alloc (.cells #[.nilFunc] 225) = W2) := ⟨_, hid rfl⟩
  have hb2 : Below W.heap.size W W2 := by rw [← hW2.out]; exact (below_new _ _).alloc (by omega) _
  have h2 : W2.heap[W.heap.size]? = some (.cells #[.func (.yield l) #[] #[]] 225 (0, 0)) := by rw [← hW2.out, Below.heap_alloc _ _ _ (by omega)]; exact heap_alloc_new _ _
  have h3 : W2.heap[W.heap.size + 1]? = some (.cells #[.nilFunc] 225 (0, 0)) := by rw [← hW2.out, ← z1]; exact heap_alloc_new _ _
  obtain ⟨W3, hW3⟩ : ∃ W3, Hid (W2.setCell ⟨W.heap.size + 1, 0, none⟩ (.func (.func 146) #[] #[.pointer (some ⟨W.heap.size, 0, none⟩), .pointer (some ⟨W.heap.size + 1, 0, none⟩)]) = W3) := ⟨_, hid rfl⟩
  have ho3 := Only.of_set W2 (W.heap.size + 1) 0 (.func (.func 146) #[] #[.pointer (some ⟨W.heap.size, 0, none⟩), .pointer (some ⟨W.heap.size + 1, 0, none⟩)])
  have h33 := heap_setCell_same W2 (W.heap.size + 1) 0 _ _ (.func (.func 146) #[] #[.pointer (some ⟨W.heap.size, 0, none⟩), .pointer (some ⟨W.heap.size + 1, 0, none⟩)]) h3
  rw [hW3.out] at ho3 h33
  have h23 := (ho3.block _ (heap_lt h2) (by omega)).trans h2
  have hb3 : Below W.heap.size W W3 := hb2.trans (ho3.below' (fun k e => by omega) hb2.size)
  have hxl := heap_lt hx
  have hx3 := (hb3.block bx (by omega)).trans ((hW.block bx hxl).trans hx)
  have hwc : WkC w0 B l W.heap.size (W.heap.size + 1) W.heap.size W3 := ⟨hb.trans ((hW.mono hB).trans (hb3.mono (by omega))), h23, h33, hb3.size, by omega⟩
  have hwa := walk_all (w0 := w0) (B := B) (C := C) (l := l) (Y := W.heap.size) (Wb := W.heap.size + 1) (B1 := W.heap.size) (N := (Gr.preI inc64 1 nd).length) (J := J) (Jx := Jx) (fun e => by have := hC _ e; omega) (fun e => by have := hC _ e; omega) (fun k e => by have := hC _ e; omega)
    (fun s A D hs hg => hJ s A D none hs hg (fun r e => by cases e)) (fun pre x A hj hl => YieldAt.anyD rfl 0 (hY pre x A hj hl)) nd hok 1 [u0, u1, u2, u3, u4] [] W3 hn hwc (hJ _ _ _ none h0 (grown_of hb3) (fun r e => by cases e)) (by simp)
  have HWA := hid hwa
  have z0 : W2.cell? ⟨W.heap.size + 1, 0, none⟩ = some .nilFunc := by rw [Lib.cell_of_heap h3]; rfl
  have zz : W2.frozen? ⟨W.heap.size + 1, 0, none⟩ = false := Lib.frozen_of_heap h3 0
  have c0 : W3.cell? ⟨W.heap.size + 1, 0, none⟩ = some (.func (.func 146) #[] #[.pointer (some ⟨W.heap.size, 0, none⟩), .pointer (some ⟨W.heap.size + 1, 0, none⟩)]) := by rw [Lib.cell_of_heap h33]; rfl
  have k0 : W3.cell? ⟨bx, 0, none⟩ = some u0 := by rw [Lib.cell_of_heap hx3]; rfl
  have k1 : W3.cell? ⟨bx, 1, none⟩ = some u1 := by rw [Lib.cell_of_heap hx3]; rfl
  have k2 : W3.cell? ⟨bx, 2, none⟩ = some u2 := by rw [Lib.cell_of_heap hx3]; rfl
  have k3 : W3.cell? ⟨bx, 3, none⟩ = some u3 := by rw [Lib.cell_of_heap hx3]; rfl
  have k4 : W3.cell? ⟨bx, 4, none⟩ = some u4 := by rw [Lib.cell_of_heap hx3]; rfl
  clear hW hJ hY h0 hwa hwc hx3 hb3 h23 h33 ho3 h3 h2 hb2 z1 hn hok hb hx hC hxl
  refine callsIn_wide.2 ?_
  show Calls Tryz.prog 145 #[.func (.yield l) #[] #[], .pointer (some ⟨bx, 0, none⟩)] W _
  go_enter Tryz.func145, Tryz.ntmps145
  go_upto_region 2 with fail
  rw [hW2.out]
  go_upto_region 3 with fail
  rw [hW3.out]
  clear hW2 hW3 z0 zz
  go_wp2_with fail
  refine HWA.out.mono ?_
  rintro e W4 (⟨rfl, ys, hp, hJ4, _⟩ | ⟨rfl, ys, hp, hx4⟩)
  · have HF := hid (And.intro hp hJ4)
    clear hp hJ4 c0 k0 k1 k2 k3 k4
    go_wp2_with fail
    go_end0
    exact ⟨⟨_, rfl⟩, .inl ⟨ys, HF.out.1, by simpa using HF.out.2⟩⟩
  · have HF := hid (And.intro hp hx4)
    clear hp hx4 c0 k0 k1 k2 k3 k4
    go_wp2_with fail
    go_end0
    exact ⟨⟨_, rfl⟩, .inr ⟨ys, HF.out.1, by simpa using HF.out.2⟩⟩
end Go.Proofs.YtpbnfinmjnpkpaaGreatDoor
