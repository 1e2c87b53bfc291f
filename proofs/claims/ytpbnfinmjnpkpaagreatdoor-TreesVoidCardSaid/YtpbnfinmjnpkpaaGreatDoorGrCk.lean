/-
  Checks: what a node is, a rule is, may it name one of a sort; a problem more: the walks.
-/
import Derived.Test.YtpbnfinmjnpkpaaGreatDoorGrRh
namespace Go.Proofs.YtpbnfinmjnpkpaaGreatDoor
open Go.RowKit
set_option maxRecDepth 100000
section
variable {w0 : World} {B : Nat}
theorem parser_any (r : Gr.Ru) (vs : List Value) (W : World) (hr : RuR w0 B r vs) : Calls Tryz.prog 79 #[.agg vs.toArray] W fun e W' => e = .returned (.bool (!Gr.isTok r)) ∧ Below W.heap.size W W' := by
  obtain ⟨xk, xm, xt, xSA, xa, xsc, xUA, xb, xuc, z0, z1, z2, rfl, _⟩ := hr.form
  obtain ⟨nm, k, nd⟩ := r
  dsimp only
  have hb1 := below_new W (.cells #[Gr.strV nm, .int .u8 (k : Int), .int .u8 xk, .string xm, .string xt, .slice xSA xa xsc, .slice xUA xb xuc, .int .i64 z0, .int .i64 z1, .int .i64 z2] 80)
  have h1 := heap_alloc_new W (.cells #[Gr.strV nm, .int .u8 (k : Int), .int .u8 xk, .string xm, .string xt, .slice xSA xa xsc, .slice xUA xb xuc, .int .i64 z0, .int .i64 z1, .int .i64 z2] 80)
  obtain ⟨W1, hW1⟩ : ∃ W1, Hid (W.alloc (.cells #[Gr.strV nm, .int .u8 (k : Int), .int .u8 xk, .string xm, .string xt, .slice xSA xa xsc, .slice xUA xb xuc, .int .i64 z0, .int .i64 z1, .int .i64 z2] 80) = W1) := ⟨_, hid rfl⟩
  rw [hW1.out] at hb1 h1
  have c1 : W1.cell? ⟨W.heap.size, 1, none⟩ = some (.int .u8 (k : Int)) := by rw [Lib.cell_of_heap h1]; rfl
  have HB1 := hid hb1
  obtain ⟨kz, hkz⟩ : ∃ kz : Int, (k : Int) = kz := ⟨_, rfl⟩
  have HQ := hid (show (!Gr.isTok ⟨nm, k, nd⟩) = (kz == 0) by unfold Gr.isTok; rw [← hkz]; exact Bool.eq_iff_iff.2 (by simp))
  rw [hkz] at c1 hW1 ⊢
  unfold Gr.strV at *
  clear hr h1 hb1 hkz
  go_enter Tryz.func79, Tryz.ntmps79
  go_upto_region 1 with fail
  rw [hW1.out]
  clear hW1
  go_wp2_with fail
  go_ret
  exact ⟨by rw [HQ.out]; rfl, HB1.out⟩
theorem names_any (nd : Gr.Nd) (cs : List Value) (W : World) (hn : NdR w0 B nd cs) : Calls Tryz.prog 161 #[.agg cs.toArray] W fun e W' => e = .returned (.bool (Gr.names nd)) ∧ Below W.heap.size W W' := by
  obtain ⟨k, nm, t, st, L⟩ := nd
  unfold NdR at hn
  obtain ⟨SA, sc, UA, uc, xs, rfl, _⟩ := hn
  have hb1 := below_new W (.cells #[.int .u8 (k : Int), Gr.strV nm, Gr.strV t, .slice SA st.length sc, .slice UA L.length uc] 74)
  have h1 := heap_alloc_new W (.cells #[.int .u8 (k : Int), Gr.strV nm, Gr.strV t, .slice SA st.length sc, .slice UA L.length uc] 74)
  obtain ⟨W1, hW1⟩ : ∃ W1, Hid (W.alloc (.cells #[.int .u8 (k : Int), Gr.strV nm, Gr.strV t, .slice SA st.length sc, .slice UA L.length uc] 74) = W1) := ⟨_, hid rfl⟩
  rw [hW1.out] at hb1 h1
  have c1 : W1.cell? ⟨W.heap.size, 0, none⟩ = some (.int .u8 (k : Int)) := by rw [Lib.cell_of_heap h1]; rfl
  have HB1 := hid hb1
  obtain ⟨kz, hkz⟩ : ∃ kz : Int, (k : Int) = kz := ⟨_, rfl⟩
  obtain ⟨z5, h5⟩ : ∃ z, (kz == 5) = z := ⟨_, rfl⟩
  obtain ⟨z6, h6⟩ : ∃ z, (kz == 6) = z := ⟨_, rfl⟩
  have HQ := hid (show Gr.names (.mk k nm t st L) = (z5 || z6) by
    rw [← h5, ← h6, ← hkz]
    show (k == 5 || k == 6) = _
    exact Bool.eq_iff_iff.2 (by simp <;> omega))
  rw [hkz] at c1 hW1 ⊢
  unfold Gr.strV at *
  clear h1 hb1 hkz
  cases z5 <;> cases z6 <;>
  · go_enter Tryz.func161, Tryz.ntmps161
    go_upto_region 1 with fail
    rw [hW1.out]
    clear hW1
    go_wp2_with fail
    go_ret
    exact ⟨by rw [HQ.out]; rfl, HB1.out⟩
theorem sorted_any (r : Gr.Ru) (nd : Gr.Nd) (vs cs : List Value) (so : Nat) (W : World) (hr : RuR w0 B r vs) (hn : NdR w0 B nd cs) :
    Calls Tryz.prog 165 #[.agg vs.toArray, .agg cs.toArray, .int .u8 (so : Int)] W fun e W' => e = .returned (.bool (Gr.sortedR r nd so)) ∧ Below W.heap.size W W' := by
  have HP := hid (fun u => parser_any r vs u hr)
  obtain ⟨xk, xm, xt, xSA, xa, xsc, xUA, xb, xuc, z0, z1, z2, rfl, _⟩ := hr.form
  obtain ⟨rnm, rk, rnd⟩ := r
  obtain ⟨k, nm, t, st, L⟩ := nd
  unfold NdR at hn
  obtain ⟨SA, sc, UA, uc, xs, rfl, _⟩ := hn
  dsimp only at *
  have z9 : (W.alloc (.cells #[Gr.strV rnm, .int .u8 (rk : Int), .int .u8 xk, .string xm, .string xt, .slice xSA xa xsc, .slice xUA xb xuc, .int .i64 z0, .int .i64 z1, .int .i64 z2] 80)).heap.size = W.heap.size + 1 := by simp
  obtain ⟨W1, hW1⟩ : ∃ W1, Hid ((W.alloc (.cells #[Gr.strV rnm, .int .u8 (rk : Int), .int .u8 xk, .string xm, .string xt, .slice xSA xa xsc, .slice xUA xb xuc, .int .i64 z0, .int .i64 z1, .int .i64 z2] 80)).alloc (.cells #[.int .u8 (k : Int), Gr.strV nm, Gr.strV t, .slice SA st.length sc, .slice UA L.length uc] 74) = W1) := ⟨_, hid rfl⟩
  have hb1 : Below W.heap.size W W1 := by rw [← hW1.out]; exact (below_new _ _).alloc (by omega) _
  have h0 : W1.heap[W.heap.size]? = some (.cells #[Gr.strV rnm, .int .u8 (rk : Int), .int .u8 xk, .string xm, .string xt, .slice xSA xa xsc, .slice xUA xb xuc, .int .i64 z0, .int .i64 z1, .int .i64 z2] 80 (0, 0)) := by rw [← hW1.out, Below.heap_alloc _ _ _ (by omega)]; exact heap_alloc_new _ _
  have h1 : W1.heap[W.heap.size + 1]? = some (.cells #[.int .u8 (k : Int), Gr.strV nm, Gr.strV t, .slice SA st.length sc, .slice UA L.length uc] 74 (0, 0)) := by rw [← hW1.out, ← z9]; exact heap_alloc_new _ _
  have k0 : W1.cell? ⟨W.heap.size + 1, 0, none⟩ = some (.int .u8 (k : Int)) := by rw [Lib.cell_of_heap h1]; rfl
  have r0 : W1.cell? ⟨W.heap.size, 0, none⟩ = some (Gr.strV rnm) := by rw [Lib.cell_of_heap h0]; rfl
  have r1 : W1.cell? ⟨W.heap.size, 1, none⟩ = some (.int .u8 (rk : Int)) := by rw [Lib.cell_of_heap h0]; rfl
  have r2 : W1.cell? ⟨W.heap.size, 2, none⟩ = some (.int .u8 xk) := by rw [Lib.cell_of_heap h0]; rfl
  have r3 : W1.cell? ⟨W.heap.size, 3, none⟩ = some (.string xm) := by rw [Lib.cell_of_heap h0]; rfl
  have r4 : W1.cell? ⟨W.heap.size, 4, none⟩ = some (.string xt) := by rw [Lib.cell_of_heap h0]; rfl
  have r5 : W1.cell? ⟨W.heap.size, 5, none⟩ = some (.slice xSA xa xsc) := by rw [Lib.cell_of_heap h0]; rfl
  have r6 : W1.cell? ⟨W.heap.size, 6, none⟩ = some (.slice xUA xb xuc) := by rw [Lib.cell_of_heap h0]; rfl
  have r7 : W1.cell? ⟨W.heap.size, 7, none⟩ = some (.int .i64 z0) := by rw [Lib.cell_of_heap h0]; rfl
  have r8 : W1.cell? ⟨W.heap.size, 8, none⟩ = some (.int .i64 z1) := by rw [Lib.cell_of_heap h0]; rfl
  have r9 : W1.cell? ⟨W.heap.size, 9, none⟩ = some (.int .i64 z2) := by rw [Lib.cell_of_heap h0]; rfl
  have HB1 := hid hb1
  obtain ⟨pb, hpb⟩ : ∃ z, (rk == 0) = z := ⟨_, rfl⟩
  have hpt : (!Gr.isTok ⟨rnm, rk, rnd⟩) = pb := by rw [← hpb]; unfold Gr.isTok; exact Bool.eq_iff_iff.2 (by simp)
  rw [hpt] at HP
  obtain ⟨kz, hkz⟩ : ∃ kz : Int, (k : Int) = kz := ⟨_, rfl⟩
  obtain ⟨z5, h5⟩ : ∃ z, (kz == 5) = z := ⟨_, rfl⟩
  have HK5 := hid (show (k == 5) = z5 by rw [← h5, ← hkz]; exact Bool.eq_iff_iff.2 (by simp <;> omega))
  obtain ⟨sz, hsz⟩ : ∃ sz : Int, (so : Int) = sz := ⟨_, rfl⟩
  obtain ⟨y0, g0⟩ : ∃ z, (sz == 0) = z := ⟨_, rfl⟩
  obtain ⟨y1, g1⟩ : ∃ z, (sz == 1) = z := ⟨_, rfl⟩
  obtain ⟨y2, g2⟩ : ∃ z, (sz == 2) = z := ⟨_, rfl⟩
  have HQ := hid (show Gr.sortedR ⟨rnm, rk, rnd⟩ (.mk k nm t st L) so = (if z5 = true then pb && y0 else if pb = true then y1 else y2) by
    have e0 : (so == 0) = y0 := by rw [← g0, ← hsz]; exact Bool.eq_iff_iff.2 (by simp <;> omega)
    have e1 : (so == 1) = y1 := by rw [← g1, ← hsz]; exact Bool.eq_iff_iff.2 (by simp <;> omega)
    have e2 : (so == 2) = y2 := by rw [← g2, ← hsz]; exact Bool.eq_iff_iff.2 (by simp <;> omega)
    unfold Gr.sortedR
    rw [e0, e1, e2, show (⟨rnm, rk, rnd⟩ : Gr.Ru).sort = rk from rfl, show (Gr.Nd.mk k nm t st L).kind = k from rfl, hpb]
    have a5 := HK5.out
    cases z5 with
    | true =>
      have hk : k = 5 := by simpa using a5
      simp [hk]
    | false =>
      have hk : ¬ k = 5 := by simpa using a5
      cases pb with
      | true =>
        have hr : rk = 0 := by simpa using hpb
        simp [hk, hr]
      | false =>
        have hr : ¬ rk = 0 := by simpa using hpb
        simp [hk, hr])
  have hkz5 : (kz == 5) = z5 := h5
  rw [hkz] at k0 hW1 ⊢
  rw [hsz]
  unfold Gr.strV at *
  clear h0 h1 hb1 hkz hsz h5 hpb hpt z9
  cases z5 with
  | true =>
    go_enter Tryz.func165, Tryz.ntmps165
    go_upto_region 1 with fail
    rw [hW1.out]
    clear hW1
    go_wp2_with fail
    refine (HP.out _).mono ?_
    rintro _ w2 ⟨rfl, hb2⟩
    have HF := hid (HB1.out.trans (hb2.mono HB1.out.size))
    clear hb2 k0 r0 r1 r2 r3 r4 r5 r6 r7 r8 r9 HP
    cases pb <;> cases y0 <;>
    · go_wp2_with fail
      go_ret
      exact ⟨by rw [HQ.out]; rfl, HF.out⟩
  | false =>
    go_enter Tryz.func165, Tryz.ntmps165
    go_upto_region 1 with fail
    rw [hW1.out]
    clear hW1
    go_wp2_with fail
    refine (HP.out _).mono ?_
    rintro _ w2 ⟨rfl, hb2⟩
    have HF := hid (HB1.out.trans (hb2.mono HB1.out.size))
    clear hb2 k0 r0 r1 r2 r3 r4 r5 r6 r7 r8 r9 HP
    cases pb <;>
    · go_wp2_with fail
      go_ret
      exact ⟨by rw [HQ.out]; rfl, HF.out⟩
end
end Go.Proofs.YtpbnfinmjnpkpaaGreatDoor
