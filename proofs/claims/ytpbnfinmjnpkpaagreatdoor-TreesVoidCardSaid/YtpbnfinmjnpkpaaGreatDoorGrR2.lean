/-
  Checks: may a rule's nodes name what they do, may a loop's Sub be empty (closures of check.rule): the walks.
-/
import Derived.Test.YtpbnfinmjnpkpaaGreatDoorGrR1
namespace Go.Proofs.YtpbnfinmjnpkpaaGreatDoor
open Go.RowKit
set_option maxRecDepth 100000
section
variable {w0 : World} {B : Nat} {rs : List Gr.Ru} {gn : List UInt8} {bd sta : Int} {RA : Option Addr} {rc cb cbx : Nat}
def sortB (rs : List Gr.Ru) (r : Gr.Ru) (nd : Gr.Nd) : Bool := Gr.names nd && (match Gr.findR rs nd.name with
    | none => false
    | some k => !Gr.sortedR r nd (Gr.ruAt rs k).sort)
set_option maxHeartbeats 8000000 in
theorem rule2_any (r : Gr.Ru) (nd : Gr.Nd) (cs vs : List Value) (rbx : Nat) (W : World) (hn : NdR w0 B nd cs) (hr : RuR w0 B r vs) (hc : ChkR w0 B rs gn bd sta RA rc cb cbx W) (hrx : W.heap[rbx]? = some (.cells vs.toArray 80 (0, 0))) :
    Calls Tryz.prog 164 #[.agg cs.toArray, .pointer (some ⟨cbx, 0, none⟩), .pointer (some ⟨rbx, 0, none⟩)] W fun e W' => e = .returned (.bool (sortB rs r nd)) ∧ Below W.heap.size W W' := by
  have HNM := hid (fun u => names_any nd cs u hn)
  have HSO := hid (fun (so : Nat) u => sorted_any r nd vs cs so u hr hn)
  obtain ⟨xk, xm, xt, xSA, xa, xsc, xUA, xb, xuc, z0, z1, z2, rfl, _⟩ := hr.form
  obtain ⟨rnm, rk, rbd⟩ := r
  obtain ⟨k, nm, t, st, L⟩ := nd
  unfold NdR at hn
  obtain ⟨SA, sc, UA, uc, xs, rfl, _⟩ := hn
  unfold Gr.strV at *
  dsimp only at *
  have hb1 := below_new W (.cells #[.int .u8 (k : Int), .string ⟨nm.toArray⟩, .string ⟨t.toArray⟩, .slice SA st.length sc, .slice UA L.length uc] 74)
  have h1 := heap_alloc_new W (.cells #[.int .u8 (k : Int), .string ⟨nm.toArray⟩, .string ⟨t.toArray⟩, .slice SA st.length sc, .slice UA L.length uc] 74)
  obtain ⟨W1, hW1⟩ : ∃ W1, Hid (W.alloc (.cells #[.int .u8 (k : Int), .string ⟨nm.toArray⟩, .string ⟨t.toArray⟩, .slice SA st.length sc, .slice UA L.length uc] 74) = W1) := ⟨_, hid rfl⟩
  rw [hW1.out] at hb1 h1
  have hc1 := hc.next hb1
  obtain ⟨hbw, hBw, hrs, hX, x4, x5, x6, ov, hC⟩ := hc1
  have hrx1 := (hb1.block _ (heap_lt hrx)).trans hrx
  unfold Gr.strV at hC
  have s0 : W1.cell? ⟨cbx, 0, none⟩ = some (.pointer (some ⟨cb, 0, none⟩)) := by rw [Lib.cell_of_heap hX]; rfl
  have a0 : W1.cell? ⟨cb, 0, none⟩ = some (.string ⟨gn.toArray⟩) := by rw [Lib.cell_of_heap hC]; rfl
  have a1 : W1.cell? ⟨cb, 1, none⟩ = some (.int .i64 bd) := by rw [Lib.cell_of_heap hC]; rfl
  have a2 : W1.cell? ⟨cb, 2, none⟩ = some (.int .i64 sta) := by rw [Lib.cell_of_heap hC]; rfl
  have a3 : W1.cell? ⟨cb, 3, none⟩ = some (.slice RA rs.length rc) := by rw [Lib.cell_of_heap hC]; rfl
  obtain ⟨k0, k1, k2, k3, k4⟩ := (show _ from cells5' h1)
  obtain ⟨q1, hq1⟩ : ∃ q, Gr.names (.mk k nm t st L) = q := ⟨_, rfl⟩
  obtain ⟨fr, hfr⟩ : ∃ fr, Gr.findR rs nm = fr := ⟨_, rfl⟩
  obtain ⟨iz, hiz⟩ : ∃ iz, idxAns fr = iz := ⟨_, rfl⟩
  have HQ := hid (show sortB rs ⟨rnm, rk, rbd⟩ (.mk k nm t st L) = (q1 && (match Gr.findR rs nm with
    | none => false
    | some k' => !Gr.sortedR ⟨rnm, rk, rbd⟩ (.mk k nm t st L) (Gr.ruAt rs k').sort)) by rw [← hq1]; rfl)
  have HIZ := hid hiz
  have HFR := hid hfr
  rw [hq1] at HNM
  have HF := hid (fun (d : Nat) (os : Array Obj) => Calls.regrown_of (find_any rs gn nm bd sta RA rc (Sort.grow (redrawn W1 d) os) hrs (hbw.trans ((below_regrown W1 d os).mono hBw)) (Nat.le_trans hBw (below_regrown W1 d os).size)))
  unfold Gr.strV at HF
  rw [hfr, hiz] at HF
  have S0 := fun d os => cell_regrown s0 d os
  have A0 := fun d os => cell_regrown a0 d os
  have A1 := fun d os => cell_regrown a1 d os
  have A2 := fun d os => cell_regrown a2 d os
  have A3 := fun d os => cell_regrown a3 d os
  have K1 := fun d os => cell_regrown k1 d os
  have HB1 := hid hb1
  have HH := hid (And.intro h1 (And.intro hX (And.intro hC hrx1)))
  have HRS := hid hrs
  have HBW := hid (And.intro hbw hBw)
  obtain ⟨ri, hri⟩ : ∃ ri, rs.length = ri := ⟨_, rfl⟩
  have HRI := hid hri
  rw [hri] at HF A3 HH
  obtain ⟨ln, hln⟩ : ∃ ln, L.length = ln := ⟨_, rfl⟩
  obtain ⟨sn, hsn⟩ : ∃ sn, st.length = sn := ⟨_, rfl⟩
  rw [hln] at HNM HSO HH hW1 ⊢
  rw [hsn] at HNM HSO HH hW1 ⊢
  clear s0 a0 a1 a2 a3 k0 k1 k2 k3 k4 hX hC hrs hbw hBw hb1 h1 hc hq1 hfr hiz hri hln hsn hrx1 hrx hr
  go_enter Tryz.func164, Tryz.ntmps164
  go_upto_region 1 with fail
  rw [hW1.out]
  clear hW1
  refine wp_region_quiet_below (by kernel_rfl) (by kernel_rfl) ?_
  refine Boxd.out ?_
  repeat (refine wpQuiet_step4 (fun K hK => ?_); go_simp; (first | (refine hK _ ?_; clear hK K) | (apply Exists.intro; refine ⟨fun _ => ?_, hK _ ?_⟩; (with_reducible exact HF.out _ _); clear hK K)))
  refine ⟨wpQuiet_nil ?_⟩
  rintro _ ⟨⟨dq, osq⟩, rfl⟩
  have hb2 := below_regrown W1 dq osq
  clear S0 A0 A1 A2 A3 K1 HF
  generalize Sort.grow (redrawn W1 dq) osq = W2 at hb2 ⊢
  have hh0 := (hb2.block _ (heap_lt HH.out.1)).trans HH.out.1
  have hh1 := (hb2.block _ (heap_lt HH.out.2.1)).trans HH.out.2.1
  have hh2 := (hb2.block _ (heap_lt HH.out.2.2.1)).trans HH.out.2.2.1
  have hh3 := (hb2.block _ (heap_lt HH.out.2.2.2)).trans HH.out.2.2.2
  have hbw2 := HBW.out.1.trans (hb2.mono HBW.out.2)
  have HB2 := hid (HB1.out.trans (hb2.mono HB1.out.size))
  have HBW2 := hid hbw2
  have HN := hid (fun (d : Nat) (os : Array Obj) => Calls.regrown_of (HNM.out (Sort.grow (redrawn W2 d) os)))
  have HSG := hid (fun (so : Nat) (d : Nat) (os : Array Obj) => Calls.regrown_of (HSO.out so (Sort.grow (redrawn W2 d) os)))
  obtain ⟨k0, k1, k2, k3, k4⟩ := (show _ from cells5' hh0)
  have s0 : W2.cell? ⟨cbx, 0, none⟩ = some (.pointer (some ⟨cb, 0, none⟩)) := by rw [Lib.cell_of_heap hh1]; rfl
  have a3 : W2.cell? ⟨cb, 3, none⟩ = some (.slice RA ri rc) := by rw [Lib.cell_of_heap hh2]; rfl
  have r0 : W2.cell? ⟨rbx, 0, none⟩ = some (.string ⟨rnm.toArray⟩) := by rw [Lib.cell_of_heap hh3]; rfl
  have r1 : W2.cell? ⟨rbx, 1, none⟩ = some (.int .u8 (rk : Int)) := by rw [Lib.cell_of_heap hh3]; rfl
  have r2 : W2.cell? ⟨rbx, 2, none⟩ = some (.int .u8 xk) := by rw [Lib.cell_of_heap hh3]; rfl
  have r3 : W2.cell? ⟨rbx, 3, none⟩ = some (.string xm) := by rw [Lib.cell_of_heap hh3]; rfl
  have r4 : W2.cell? ⟨rbx, 4, none⟩ = some (.string xt) := by rw [Lib.cell_of_heap hh3]; rfl
  have r5 : W2.cell? ⟨rbx, 5, none⟩ = some (.slice xSA xa xsc) := by rw [Lib.cell_of_heap hh3]; rfl
  have r6 : W2.cell? ⟨rbx, 6, none⟩ = some (.slice xUA xb xuc) := by rw [Lib.cell_of_heap hh3]; rfl
  have r7 : W2.cell? ⟨rbx, 7, none⟩ = some (.int .i64 z0) := by rw [Lib.cell_of_heap hh3]; rfl
  have r8 : W2.cell? ⟨rbx, 8, none⟩ = some (.int .i64 z1) := by rw [Lib.cell_of_heap hh3]; rfl
  have r9 : W2.cell? ⟨rbx, 9, none⟩ = some (.int .i64 z2) := by rw [Lib.cell_of_heap hh3]; rfl
  have S0 := fun d os => cell_regrown s0 d os
  have A3 := fun d os => cell_regrown a3 d os
  have K0 := fun d os => cell_regrown k0 d os
  have K1 := fun d os => cell_regrown k1 d os
  have K2 := fun d os => cell_regrown k2 d os
  have K3 := fun d os => cell_regrown k3 d os
  have K4 := fun d os => cell_regrown k4 d os
  have R0 := fun d os => cell_regrown r0 d os
  have R1 := fun d os => cell_regrown r1 d os
  have R2 := fun d os => cell_regrown r2 d os
  have R3 := fun d os => cell_regrown r3 d os
  have R4 := fun d os => cell_regrown r4 d os
  have R5 := fun d os => cell_regrown r5 d os
  have R6 := fun d os => cell_regrown r6 d os
  have R7 := fun d os => cell_regrown r7 d os
  have R8 := fun d os => cell_regrown r8 d os
  have R9 := fun d os => cell_regrown r9 d os
  clear k0 k1 k2 k3 k4 s0 a3 hh0 hh1 hh2 hh3 hb2 hbw2 r0 r1 r2 r3 r4 r5 r6 r7 r8 r9 HNM HSO
  go_upto_region 2 with fail
  cases q1 with
  | false =>
    refine wp_region_quiet_below (by kernel_rfl) (by kernel_rfl) ?_
    refine Boxd.out ?_
    repeat (refine wpQuiet_step4 (fun K hK => ?_); go_simp; (first | (refine hK _ ?_; clear hK K) | (apply Exists.intro; refine ⟨fun _ => ?_, hK _ ?_⟩; (with_reducible exact HN.out _ _); clear hK K)))
    refine ⟨wpQuiet_nil ?_⟩
    rintro _ ⟨⟨dq, osq⟩, rfl⟩
    have hb3 := below_regrown W2 dq osq
    clear S0 A3 K0 K1 K2 K3 K4 R0 R1 R2 R3 R4 R5 R6 R7 R8 R9 HN HSG
    generalize Sort.grow (redrawn W2 dq) osq = W3 at hb3 ⊢
    have HB3 := hid (HB2.out.trans (hb3.mono HB2.out.size))
    clear hb3
    go_wp2_with fail
    go_ret
    exact ⟨by rw [HQ.out]; rfl, HB3.out⟩
  | true =>
    cases fr with
    | none =>
      obtain rfl : -1 = iz := HIZ.out
      refine wp_region_quiet_below (by kernel_rfl) (by kernel_rfl) ?_
      refine Boxd.out ?_
      repeat (refine wpQuiet_step4 (fun K hK => ?_); go_simp; (first | (refine hK _ ?_; clear hK K) | (apply Exists.intro; refine ⟨fun _ => ?_, hK _ ?_⟩; (with_reducible exact HN.out _ _); clear hK K)))
      refine ⟨wpQuiet_nil ?_⟩
      rintro _ ⟨⟨dq, osq⟩, rfl⟩
      have hb3 := below_regrown W2 dq osq
      clear S0 A3 K0 K1 K2 K3 K4 R0 R1 R2 R3 R4 R5 R6 R7 R8 R9 HN HSG
      generalize Sort.grow (redrawn W2 dq) osq = W3 at hb3 ⊢
      have HB3 := hid (HB2.out.trans (hb3.mono HB2.out.size))
      clear hb3
      go_wp2_with fail
      go_ret
      exact ⟨by rw [HQ.out, HFR.out]; rfl, HB3.out⟩
    | some i =>
      obtain rfl : (i : Int) = iz := HIZ.out
      have hir : i < ri := by have := Gr.findR_lt HFR.out; have := HRI.out; omega
      have hiI : (i : Int) < (ri : Int) := by omega
      have hi0 : (0 : Int) ≤ (i : Int) := by omega
      obtain ⟨b, o, hRA, hbB, c1⟩ := HRS.out.sort i (by have := HRI.out; omega)
      have d1 := (HBW2.out.cell (p := ⟨b, o + i * 10 + 1, none⟩) hbB).trans c1
      have D1 := fun d os => cell_regrown d1 d os
      subst hRA
      have HQ2 := hid (show sortB rs ⟨rnm, rk, rbd⟩ (.mk k nm t st L) = !Gr.sortedR ⟨rnm, rk, rbd⟩ (.mk k nm t st L) (Gr.ruAt rs i).sort by rw [HQ.out, HFR.out]; rfl)
      generalize (Gr.ruAt rs i).sort = so at *
      have HSZ := hid (HSG.out so)
      obtain ⟨sq, hsq⟩ : ∃ q, Gr.sortedR ⟨rnm, rk, rbd⟩ (.mk k nm t st L) so = q := ⟨_, rfl⟩
      rw [hsq] at HSZ HQ2
      clear c1 d1 HQ HSG hsq
      refine wp_region_quiet_below (by kernel_rfl) (by kernel_rfl) ?_
      refine Boxd.out ?_
      repeat (refine wpQuiet_step4 (fun K hK => ?_); go_simp; (first | (refine hK _ ?_; clear hK K) | (apply Exists.intro; refine ⟨fun _ => ?_, hK _ ?_⟩; (first | (with_reducible exact HN.out _ _) | (with_reducible exact HSZ.out _ _)); clear hK K)))
      refine ⟨wpQuiet_nil ?_⟩
      rintro _ ⟨⟨dq, osq⟩, rfl⟩
      have hb3 := below_regrown W2 dq osq
      clear S0 A3 K0 K1 K2 K3 K4 R0 R1 R2 R3 R4 R5 R6 R7 R8 R9 HN HSZ D1
      generalize Sort.grow (redrawn W2 dq) osq = W3 at hb3 ⊢
      have HB3 := hid (HB2.out.trans (hb3.mono HB2.out.size))
      clear hb3
      go_wp2_with fail
      go_ret
      exact ⟨by rw [HQ2.out]; rfl, HB3.out⟩
end
end Go.Proofs.YtpbnfinmjnpkpaaGreatDoor
