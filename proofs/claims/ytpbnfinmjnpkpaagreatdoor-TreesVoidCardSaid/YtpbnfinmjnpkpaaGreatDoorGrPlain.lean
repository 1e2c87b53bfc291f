/-
  Is a node a plain one, all of it (nodes.Plain): the range over nodes.all, and the walk.
-/
import Derived.Test.YtpbnfinmjnpkpaaGreatDoorGrPl3
import Derived.RangeFuncNested
import Derived.RangeFuncLeaves
import Derived.Shelf.Abstract
import Derived.WalkKit
import Derived.OwnWalkIn
import Derived.TacticsInMore
import Derived.LoopNIn
import Derived.LoopIn
namespace Go.Proofs.YtpbnfinmjnpkpaaGreatDoor
open Go.RowKit
set_option maxRecDepth 100000
attribute [local go_sem] Oper.semAt_some
theorem inc64_small (d : Nat) (h : d ≤ 64) : inc64 (d : Int) = ((d + 1 : Nat) : Int) := by
  unfold inc64 wrap64
  omega
theorem plainAll_eq (nd : Gr.Nd) (token : Bool) : Gr.plainAll Rp.good nd token = (decide ((Gr.preI inc64 1 nd).length ≤ 2048) && (Gr.preI inc64 1 nd).all (Gr.deepOkI fun x => Gr.plain Rp.good x token)) := by
  have h := Gr.all_preI inc64_small (fun x => Gr.plain Rp.good x token) nd 1 (by omega)
  have h2 := Gr.len_preI (inc := inc64) nd 1 1
  rw [show ((1 : Nat) : Int) = 1 from rfl] at h
  rw [h, h2]
  rfl
theorem kpC_b {B : Nat} {C : Nat → Prop} {w : World} (hB : B ≤ w.heap.size) (W : World) (l : Nat) (o o' : Obj) (hl : w.heap.size ≤ l) (h : W.heap[l]? = some o) (ho : o.isCells = false) : KpC B C W (W.putObj l o') :=
  ⟨(Below.refl B W).grown (grownBy_putObj' W l o') (by have := (Array.getElem?_eq_some_iff.1 h).1; omega) (fun k e => by cases e; omega), fun k cs T e _ => by
    refine ((grownBy_putObj' W l o').block k (Array.getElem?_eq_some_iff.1 e).1 (fun e' => ?_)).trans e
    cases e'
    rw [e] at h
    cases h
    cases ho⟩
theorem cells_own {β : Type} (k : Nat) (f : β → Array Value) (T : TypeId) : Own (fun s W => W.heap[k]? = some (.cells (f s) T (0, 0))) := fun s X Y row hs hg hrow =>
  (hg.block k (Array.getElem?_eq_some_iff.1 hs).1 (fun e' => by obtain ⟨o, ho, hc⟩ := hrow k e'.symm; rw [hs] at ho; cases ho; cases hc)).trans hs
def plOk (token : Bool) (ys : List (Int × Gr.Nd)) : Prop := ys.length ≤ 2048 ∧ ys.all (Gr.deepOkI fun x => Gr.plain Rp.good x token) = true
theorem plOk_add {token : Bool} {ys : List (Int × Gr.Nd)} {d : Int} {x : Gr.Nd} (h : plOk token ys) (h1 : ys.length + 1 ≤ 2048) (h2 : d ≤ 64) (h3 : Gr.plain Rp.good x token = true) : plOk token (ys ++ [(d, x)]) := by
  refine ⟨by simpa using h1, ?_⟩
  rw [List.all_append, h.2, Bool.true_and]
  simp [Gr.deepOkI, h2, h3]
theorem plOk_not {token : Bool} {ys : List (Int × Gr.Nd)} {d : Int} {x : Gr.Nd} (h : ¬ (ys.length + 1 ≤ 2048 ∧ d ≤ 64 ∧ Gr.plain Rp.good x token = true)) : ¬ plOk token (ys ++ [(d, x)]) := by
  intro h'
  refine h ⟨by simpa using h'.1, ?_⟩
  have := h'.2
  rw [List.all_append] at this
  simpa [Gr.deepOkI] using (Bool.and_eq_true_iff.1 this).2
theorem plainAll_yes {nd : Gr.Nd} {token : Bool} (h : plOk token (Gr.preI inc64 1 nd)) : Gr.plainAll Rp.good nd token = true := by
  rw [plainAll_eq, decide_eq_true h.1, h.2]; rfl
theorem plainAll_no {nd : Gr.Nd} {token : Bool} {ys : List (Int × Gr.Nd)} (hp : ys <+: Gr.preI inc64 1 nd) (h : ¬ plOk token ys) : Gr.plainAll Rp.good nd token = false := by
  rw [plainAll_eq]
  rw [Bool.eq_false_iff]
  intro h'
  rw [Bool.and_eq_true, decide_eq_true_eq] at h'
  refine h ⟨Nat.le_trans hp.length_le h'.1, ?_⟩
  rw [List.all_eq_true]
  intro x hx
  exact List.all_eq_true.1 h'.2 x (hp.subset hx)
theorem NdR.form {w : World} {B : Nat} {nd : Gr.Nd} {cs : List Value} (h : NdR w B nd cs) : ∃ (k : Int) (nm t : ByteArray) (SA : Option Addr) (a sc : Nat) (UA : Option Addr) (b uc : Nat), cs = [.int .u8 k, .string nm, .string t, .slice SA a sc, .slice UA b uc] := by
  cases nd with
  | mk k nm t st L =>
    unfold NdR at h
    obtain ⟨SA, sc, UA, uc, xs, rfl, _⟩ := h
    exact ⟨_, _, _, _, _, _, _, _, _, rfl⟩
section
variable {w0 : World} {B : Nat}
set_option maxHeartbeats 16000000 in
theorem Plain_any (nd : Gr.Nd) (token : Bool) (cs : List Value) (w : World) (hn : NdR w0 B nd cs) (hok : Gr.okN nd) (hb : Below B w0 w) (hB : B ≤ w.heap.size) (hT : UT w.heap.size w) :
    Calls Tryz.prog 94 #[.agg cs.toArray, .bool token] w fun e w' => e = .returned (.bool (Gr.plainAll Rp.good nd token)) ∧ Below w.heap.size w w' := by
  obtain ⟨u0, u1, u2, u3, u4, rfl⟩ : ∃ u0 u1 u2 u3 u4, cs = [u0, u1, u2, u3, u4] := by
    have := hn.len
    match cs, this with
    | [u0, u1, u2, u3, u4], _ => exact ⟨_, _, _, _, _, rfl⟩
  refine (callsIn_wide (n := 5)).1 ?_
  refine callsIn_of_wp_marks Tryz.func94 rfl trivial ?_ rfl
  simp only [Tryz.ntmps94, List.size_toArray, List.length_cons, List.length_nil, Nat.reduceAdd, Nat.reduceSub, Array.replicate_succ, Array.replicate_zero, List.push_toArray, List.append_toArray, List.nil_append, List.cons_append]
  gi_wp2_with fail
  refine ⟨trivial, (callsIn_wide.2 (nodes_all _ u0 u1 u2 u3 u4 rfl _)).mono ?_⟩
  rintro _ w' ⟨rfl, rfl⟩
  gi_wp2_with fail
  have bT := (((Boxed.new (w.alloc (.cells #[u0, u1, u2, u3, u4] 74)) 4 (.bool token)).alloc (.cells #[.bool false] 4)).alloc (.cells #[.int .i64 0] 3)).alloc (.cells #[u0, u1, u2, u3, u4] 74)
  have bR := ((Boxed.new ((w.alloc (.cells #[u0, u1, u2, u3, u4] 74)).alloc (.cells #[.bool token] 4)) 4 (.bool false)).alloc (.cells #[.int .i64 0] 3)).alloc (.cells #[u0, u1, u2, u3, u4] 74)
  have bM := (Boxed.new (((w.alloc (.cells #[u0, u1, u2, u3, u4] 74)).alloc (.cells #[.bool token] 4)).alloc (.cells #[.bool false] 4)) 3 (.int .i64 0)).alloc (.cells #[u0, u1, u2, u3, u4] 74)
  have bX := heap_alloc_new ((((w.alloc (.cells #[u0, u1, u2, u3, u4] 74)).alloc (.cells #[.bool token] 4)).alloc (.cells #[.bool false] 4)).alloc (.cells #[.int .i64 0] 3)) (.cells #[u0, u1, u2, u3, u4] 74)
  simp only [World.size_alloc] at bT bR bM bX
  have hB0 : Below w.heap.size w (((((w.alloc (.cells #[u0, u1, u2, u3, u4] 74)).alloc (.cells #[.bool token] 4)).alloc (.cells #[.bool false] 4)).alloc (.cells #[.int .i64 0] 3)).alloc (.cells #[u0, u1, u2, u3, u4] 74)) :=
    (((((Below.refl _ w).alloc (Nat.le_refl _) _).alloc (by simp) _).alloc (by simp; omega) _).alloc (by simp; omega) _).alloc (by simp; omega) _
  have hsz : (((((w.alloc (.cells #[u0, u1, u2, u3, u4] 74)).alloc (.cells #[.bool token] 4)).alloc (.cells #[.bool false] 4)).alloc (.cells #[.int .i64 0] 3)).alloc (.cells #[u0, u1, u2, u3, u4] 74)).heap.size = w.heap.size + 5 := by simp
  obtain ⟨W0, hW0⟩ : ∃ W0, ((((w.alloc (.cells #[u0, u1, u2, u3, u4] 74)).alloc (.cells #[.bool token] 4)).alloc (.cells #[.bool false] 4)).alloc (.cells #[.int .i64 0] 3)).alloc (.cells #[u0, u1, u2, u3, u4] 74) = W0 := ⟨_, rfl⟩
  rw [hW0] at bT bR bM bX hB0 hsz ⊢
  clear hW0
  have HPL := hid (fun (x : NdAt w0 B) (u : World) (h : Below w.heap.size w u) => plain_any x.n token x.cs u x.h x.ok (hb.trans (h.mono hB)) (Nat.le_trans hB h.size) (hT.next h))
  refine wpIn_rangeFunc_ownH rfl (by omega) (gf := 145) (lb := #[.pointer (some ⟨w.heap.size + 1 + 1 + 1 + 1, 0, none⟩)]) rfl trivial (enters_of Tryz.func145 (by kernel_rfl) rfl)
    (all_stops (w0 := w0) (B := B) (fun k => k = w.heap.size + 1 + 1 + 1) nd _ W0 (w.heap.size + 1 + 1 + 1 + 1) hn hok (hb.trans (hB0.mono hB)) (by omega) bX (fun k e => by omega)) KpC.trans (fun W l o o' hl h ho _ => kpC_b (w := W0) (by omega) W l o o' hl h ho) (Below.refl _ _) (fun _ => rfl)
    (fun pre W => (((plOk token (projN pre) ∧ Boxed W (w.heap.size + 1) 4 (.bool token)) ∧ Boxed W (w.heap.size + 1 + 1) 4 (.bool false)) ∧ Boxed W (w.heap.size + 1 + 1 + 1) 3 (.int .i64 ((projN pre).length : Int))) ∧ Below w.heap.size w W)
    (fun c pre W => ((c = .ret ∧ ¬ plOk token (projN pre)) ∧ Boxed W (w.heap.size + 1 + 1) 4 (.bool false)) ∧ Below w.heap.size w W)
    (OwnFrom.and (OwnFrom.and (OwnFrom.and (OwnFrom.and (ownFrom_pure _ _) (Own.from (boxed_own _ _ _) _)) (Own.from (boxed_own _ _ _) _)) (Own.from (boxed_own _ _ _) _)) (ownFrom_below (Nat.le_refl _) (by omega)))
    (fun c => OwnFrom.and (OwnFrom.and (ownFrom_pure _ _) (Own.from (boxed_own _ _ _) _)) (ownFrom_below (Nat.le_refl _) (by omega)))
    ⟨⟨⟨⟨⟨by simp [projN], by simp [projN]⟩, bT⟩, bR⟩, bM⟩, hB0⟩
    (fun x a' W => ∃ Bx, w.heap.size + 3 < Bx ∧ W.heap[Bx]? = some (.cells x.cs.toArray 74 (0, 0)) ∧ a' = { tmps := #[.agg #[u0, u1, u2, u3, u4], .bool token, .pointer (some ⟨w.heap.size, 0, none⟩), .pointer (some ⟨w.heap.size + 1, 0, none⟩), .pointer (some ⟨w.heap.size + 1 + 1, 0, none⟩), .pointer (some ⟨w.heap.size + 1 + 1 + 1, 0, none⟩), .int .i64 x.d, .pointer (some ⟨Bx, 0, none⟩), .agg #[u0, u1, u2, u3, u4], .func (.func 145) #[] #[.pointer (some ⟨w.heap.size + 1 + 1 + 1 + 1, 0, none⟩)], .int .i64 x.d, .agg x.cs.toArray, undef, undef, undef, undef, undef, undef, undef, undef, undef, undef, undef, undef, undef, undef], defers := [] })
    (fun x a' _ X Y row hs hg hr => by obtain ⟨Bx, e1, e2, e3⟩ := hs; exact ⟨Bx, e1, cells_own Bx (fun (_ : Unit) => x.cs.toArray) _ () X Y row e2 hg (fun r e => (hr r e).2), e3⟩)
    ?assign ?body ?done ?stop
  case assign =>
    rintro l pre ⟨xd, xn, xcs, xh, xok⟩ W K ⟨⟨⟨⟨hp, bT1⟩, bR1⟩, bM1⟩, hB1⟩ hK
    obtain ⟨xk, xm, xt, xSA, xa, xsc, xUA, xb, xuc, rfl⟩ := xh.form
    have HK := hid hK
    clear hK
    simp only [NdAt.enc]
    gi_wp2_with fail
    exact HK.out _ _ ((KeepsOthers.alloc _ _).from _) (KpC.of (below_new W _) (Nat.le_trans hB hB1.size)) ⟨⟨⟨⟨hp, bT1.alloc _⟩, bR1.alloc _⟩, bM1.alloc _⟩, hB1.alloc hB1.size _⟩ ⟨W.heap.size, by have := hB1.size; have := bM1.lt; omega, heap_alloc_new W _, rfl⟩
  case body =>
    rintro l pre ⟨xd, xn, xcs, xh, xok⟩ a' W hl ⟨r, hr⟩ ⟨⟨⟨⟨hp, bT1⟩, bR1⟩, bM1⟩, hB1⟩ ⟨Bx, hBx, bX1, rfl⟩ hlt
    have HP := hid (fun u h => HPL.out ⟨xd, xn, xcs, xh, xok⟩ u h)
    obtain ⟨xk, xm, xt, xSA, xa, xsc, xUA, xb, xuc, rfl⟩ := xh.form
    have cT := bT1.cell
    have cR := bR1.cell
    have fR := bR1.frozen
    have cM := bM1.cell
    have fM := bM1.frozen
    have k0 : W.cell? ⟨Bx, 0, none⟩ = some (.int .u8 xk) := by rw [Lib.cell_of_heap bX1]; rfl
    have k1 : W.cell? ⟨Bx, 1, none⟩ = some (.string xm) := by rw [Lib.cell_of_heap bX1]; rfl
    have k2 : W.cell? ⟨Bx, 2, none⟩ = some (.string xt) := by rw [Lib.cell_of_heap bX1]; rfl
    have k3 : W.cell? ⟨Bx, 3, none⟩ = some (.slice xSA xa xsc) := by rw [Lib.cell_of_heap bX1]; rfl
    have k4 : W.cell? ⟨Bx, 4, none⟩ = some (.slice xUA xb xuc) := by rw [Lib.cell_of_heap bX1]; rfl
    dsimp only
    obtain ⟨m, hm⟩ : ∃ m, (projN pre).length = m := ⟨_, rfl⟩
    have hm1 : m ≤ 2048 := hm ▸ hp.1
    rw [hm] at cM bM1
    have HI := hid (And.intro hp (And.intro bT1 (And.intro bR1 (And.intro bM1 (And.intro hB1 (And.intro hm (And.intro bX1 hr)))))))
    clear hp bT1 bR1 bM1 hB1 hm bX1 hr
    rcases (by omega : 2048 < m + 1 ∨ (m + 1 ≤ 2048 ∧ 64 < xd) ∨ (m + 1 ≤ 2048 ∧ xd ≤ 64)) with hc | ⟨hc, hd⟩ | ⟨hc, hd⟩
    · have f1 : (2048 : Int) < (m : Int) + 1 := by omega
      gi_wp2_with fail
      refine ⟨trivial, ?_⟩
      gi_wp2_with fail
      obtain ⟨hp, bT1, bR1, bM1, hB1, hm, bX1, hr⟩ := HI.out
      refine ⟨((KeepsOthers.setCell _ _ _).from _).trans ((KeepsOthers.setCell _ _ _).from _), ⟨⟨rfl, ?_⟩, (bR1.other (by omega) _).set _⟩, (hB1.setCell (p := ⟨w.heap.size + 1 + 1 + 1, 0, none⟩) (by simp; omega) _).setCell (p := ⟨w.heap.size + 1 + 1, 0, none⟩) (by simp; omega) _⟩
      rw [projN_append]
      exact plOk_not (d := xd) (x := xn) (fun h => by have h1 := h.1; have h2 := h.2.1; rw [hm] at h1; omega)
    · have f1 : ¬ (2048 : Int) < (m : Int) + 1 := by omega
      gi_wp2_with fail
      refine ⟨trivial, ?_⟩
      gi_wp2_with fail
      obtain ⟨hp, bT1, bR1, bM1, hB1, hm, bX1, hr⟩ := HI.out
      refine ⟨((KeepsOthers.setCell _ _ _).from _).trans ((KeepsOthers.setCell _ _ _).from _), ⟨⟨rfl, ?_⟩, (bR1.other (by omega) _).set _⟩, (hB1.setCell (p := ⟨w.heap.size + 1 + 1 + 1, 0, none⟩) (by simp; omega) _).setCell (p := ⟨w.heap.size + 1 + 1, 0, none⟩) (by simp; omega) _⟩
      rw [projN_append]
      exact plOk_not (d := xd) (x := xn) (fun h => by have h1 := h.1; have h2 := h.2.1; rw [hm] at h1; omega)
    · have f1 : ¬ (2048 : Int) < (m : Int) + 1 := by omega
      have f2 : ¬ (64 : Int) < xd := by omega
      obtain ⟨q, hq⟩ : ∃ q, Gr.plain Rp.good xn token = q := ⟨_, rfl⟩
      rw [hq] at HP
      have HQ := hid hq
      clear hq
      have hb1 : Below w.heap.size w (W.setCell ⟨w.heap.size + 1 + 1 + 1, 0, none⟩ (.int .i64 ((m : Int) + 1))) := HI.out.2.2.2.2.1.setCell (p := ⟨w.heap.size + 1 + 1 + 1, 0, none⟩) (by simp; omega) _
      have HC := hid (CallsIn.inRound l (callsIn_wide (n := 2) |>.2 (HP.out _ hb1)))
      have HB1 := hid hb1
      clear hb1
      gi_wp2_with fail
      refine ⟨trivial, HC.out.mono ?_⟩
      rintro _ W2 ⟨rfl, hb2⟩
      have z2 : W2.cell? ⟨w.heap.size + 1 + 1, 0, none⟩ = some (.bool false) := (((HI.out.2.2.1.other (by omega) _).kept (grown_of hb2) (by simp))).cell
      have zf2 : W2.frozen? ⟨w.heap.size + 1 + 1, 0, none⟩ = false := (((HI.out.2.2.1.other (by omega) _).kept (grown_of hb2) (by simp))).frozen
      have HB2 := hid hb2
      clear hb2 cT cR fR cM fM k0 k1 k2 k3 k4
      cases q
      · gi_wp2_with fail
        obtain ⟨hp, bT1, bR1, bM1, hB1, hm, bX1, hr⟩ := HI.out
        have hg := grown_of HB2.out
        refine ⟨((KeepsOthers.setCell _ _ _).from _).trans ((KeepsFrom.of_grownBy hg (fun j e => by cases e)).trans ((KeepsOthers.setCell _ _ _).from _)), ⟨⟨rfl, ?_⟩, ((bR1.other (by omega) _).kept hg (by simp)).set _⟩, ((HB1.out.trans (HB2.out.mono HB1.out.size))).setCell (p := ⟨w.heap.size + 1 + 1, 0, none⟩) (by simp; omega) _⟩
        rw [projN_append]
        exact plOk_not (d := xd) (x := xn) (fun h => by have h1 := h.2.2; rw [HQ.out] at h1; cases h1)
      · gi_wp2_with fail
        obtain ⟨hp, bT1, bR1, bM1, hB1, hm, bX1, hr⟩ := HI.out
        have hg := grown_of HB2.out
        have e1 : (projN (pre ++ [(⟨xd, xn, _, xh, xok⟩ : NdAt w0 B)])).length = m + 1 := by rw [projN_append, List.length_append, hm]; rfl
        have e2 : ((m + 1 : Nat) : Int) = (m : Int) + 1 := by omega
        refine ⟨((KeepsOthers.setCell _ _ _).from _).trans (KeepsFrom.of_grownBy hg (fun j e => by cases e)), KpC.trans ⟨(Below.refl B W).setCell (p := ⟨w.heap.size + 1 + 1 + 1, 0, none⟩) (by simp; omega) (.int .i64 ((m : Int) + 1)), fun k cs T e hk => ((grownBy_setCell' W (w.heap.size + 1 + 1 + 1) _).block k (Array.getElem?_eq_some_iff.1 e).1 (fun e' => hk (by cases e'; rfl))).trans e⟩ (KpC.of HB2.out (Nat.le_trans hB HB1.out.size)), ⟨⟨⟨?_, (bT1.other (by omega) _).kept hg (by simp)⟩, (bR1.other (by omega) _).kept hg (by simp)⟩, ?_⟩, HB1.out.trans (HB2.out.mono HB1.out.size)⟩
        · rw [projN_append]
          exact plOk_add (d := xd) (x := xn) hp (by rw [hm]; omega) hd HQ.out
        · rw [e1, e2]
          exact (bM1.set _).kept hg (by simp)
  case done =>
    rintro D ys W hD hys ⟨⟨⟨⟨hp, bT1⟩, bR1⟩, bM1⟩, hB1⟩ hK
    have cR := bR1.cell
    have fR := bR1.frozen
    have HI := hid (And.intro hp (And.intro bT1 (And.intro bM1 (And.intro hB1 hys))))
    clear hp bT1 bM1 hB1 hys
    gi_wp2_with fail
    obtain ⟨hp, bT1, bM1, hB1, hys⟩ := HI.out
    have hK' := (KeepsOthers.setCell W ⟨w.heap.size + 1 + 1, 0, none⟩ (.bool true)).same D _ hK rfl
    refine ⟨by simp, .inl ⟨_, _, rfl, run_takeDeferred hK', ?_⟩⟩
    have hc5 := cell_kept (bR1.set (.bool true)).cell (grownBy_putObj' _ D (.deferred none)) (fun r e => by cases e; exact ⟨_, hK', rfl⟩)
    refine ⟨.bool true, ?_, by rw [plainAll_yes (hys ▸ hp)], (hB1.setCell (p := ⟨w.heap.size + 1 + 1, 0, none⟩) (by simp; omega) _).trans (belowK_b (w := w) (Nat.le_refl _) _ D _ _ (by omega) hK' rfl rfl)⟩
    simp [results, Tryz.f94, go_sem, hc5]
  case stop =>
    rintro D c pre W hD hpre ⟨⟨⟨rfl, hp⟩, bR1⟩, hB1⟩ hK
    gi_wp2_with fail
    refine ⟨by simp, .inl ⟨_, _, rfl, run_takeDeferred hK, ?_⟩⟩
    have hc5 := cell_kept bR1.cell (grownBy_putObj' _ D (.deferred none)) (fun r e => by cases e; exact ⟨_, hK, rfl⟩)
    refine ⟨.bool false, ?_, by rw [plainAll_no hpre hp], hB1.trans (belowK_b (w := w) (Nat.le_refl _) W D _ _ (by omega) hK rfl rfl)⟩
    simp [results, Tryz.f94, go_sem, hc5]
end
end Go.Proofs.YtpbnfinmjnpkpaaGreatDoor
