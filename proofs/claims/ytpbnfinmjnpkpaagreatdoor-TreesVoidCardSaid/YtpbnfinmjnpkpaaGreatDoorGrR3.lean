/-
  Checks: may a loop's Sub be empty (a closure of check.rule): the walk.
-/
import Derived.Test.YtpbnfinmjnpkpaaGreatDoorGrR2
namespace Go.Proofs.YtpbnfinmjnpkpaaGreatDoor
open Go.RowKit
set_option maxRecDepth 100000
section
variable {w0 : World} {B : Nat} {rs : List Gr.Ru} {gn : List UInt8} {bd sta : Int} {RA : Option Addr} {rc cb cbx : Nat}
def headB (f : Gr.Nd → Bool) : List Gr.Nd → Bool
  | [] => false
  | x :: _ => f x
def loopB (rs : List Gr.Ru) (i : Nat) (nd : Gr.Nd) : Bool := (nd.kind == 3 || nd.kind == 4) && headB (Gr.mayN rs (Gr.emptyR rs) (Gr.isTok (Gr.ruAt rs i))) nd.subs
set_option maxHeartbeats 8000000 in
theorem rule3_any (i ibx : Nat) (nd : Gr.Nd) (cs : List Value) (W : World) (hi : i < rs.length) (hn : NdR w0 B nd cs) (hok : Gr.okN nd) (hc : ChkR w0 B rs gn bd sta RA rc cb cbx W) (hix : W.heap[ibx]? = some (.cells #[.int .i64 (i : Int)] 3 (0, 0))) :
    Calls Tryz.prog 166 #[.agg cs.toArray, .pointer (some ⟨cbx, 0, none⟩), .pointer (some ⟨ibx, 0, none⟩)] W fun e W' => e = .returned (.bool (loopB rs i nd)) ∧ Below W.heap.size W W' := by
  obtain ⟨k, nm, t, st, L⟩ := nd
  unfold NdR at hn
  unfold Gr.okN at hok
  obtain ⟨SA, sc, UA, uc, xs, rfl, _, hR, hV, _⟩ := hn
  unfold Gr.strV at *
  have hb1 := below_new W (.cells #[.int .u8 (k : Int), .string ⟨nm.toArray⟩, .string ⟨t.toArray⟩, .slice SA st.length sc, .slice UA L.length uc] 74)
  have h1 := heap_alloc_new W (.cells #[.int .u8 (k : Int), .string ⟨nm.toArray⟩, .string ⟨t.toArray⟩, .slice SA st.length sc, .slice UA L.length uc] 74)
  obtain ⟨W1, hW1⟩ : ∃ W1, Hid (W.alloc (.cells #[.int .u8 (k : Int), .string ⟨nm.toArray⟩, .string ⟨t.toArray⟩, .slice SA st.length sc, .slice UA L.length uc] 74) = W1) := ⟨_, hid rfl⟩
  rw [hW1.out] at hb1 h1
  obtain ⟨hbw, hBw, hrs, hX, x4, x5, x6, ov, hC⟩ := hc.next hb1
  have hix1 := (hb1.block _ (heap_lt hix)).trans hix
  unfold Gr.strV at hC
  have s0 : W1.cell? ⟨cbx, 0, none⟩ = some (.pointer (some ⟨cb, 0, none⟩)) := by rw [Lib.cell_of_heap hX]; rfl
  have s1 : W1.cell? ⟨ibx, 0, none⟩ = some (.int .i64 (i : Int)) := by rw [Lib.cell_of_heap hix1]; rfl
  have a0 : W1.cell? ⟨cb, 0, none⟩ = some (.string ⟨gn.toArray⟩) := by rw [Lib.cell_of_heap hC]; rfl
  have a1 : W1.cell? ⟨cb, 1, none⟩ = some (.int .i64 bd) := by rw [Lib.cell_of_heap hC]; rfl
  have a2 : W1.cell? ⟨cb, 2, none⟩ = some (.int .i64 sta) := by rw [Lib.cell_of_heap hC]; rfl
  have a3 : W1.cell? ⟨cb, 3, none⟩ = some (.slice RA rs.length rc) := by rw [Lib.cell_of_heap hC]; rfl
  obtain ⟨k0, _, _, _, k4⟩ := (show _ from cells5' h1)
  obtain ⟨kz, hkz⟩ : ∃ kz : Int, (k : Int) = kz := ⟨_, rfl⟩
  obtain ⟨z3, h3⟩ : ∃ z, (kz == 3) = z := ⟨_, rfl⟩
  obtain ⟨z4, h4⟩ : ∃ z, (kz == 4) = z := ⟨_, rfl⟩
  have HQ := hid (show loopB rs i (.mk k nm t st L) = ((z3 || z4) && headB (Gr.mayN rs (Gr.emptyR rs) (Gr.isTok (Gr.ruAt rs i))) L) by
    have e3 : (k == 3) = z3 := by rw [← h3, ← hkz]; exact Bool.eq_iff_iff.2 (by simp <;> omega)
    have e4 : (k == 4) = z4 := by rw [← h4, ← hkz]; exact Bool.eq_iff_iff.2 (by simp <;> omega)
    rw [← e3, ← e4]
    rfl)
  rw [hkz] at k0 hW1 ⊢
  have HB1 := hid hb1
  have hkz3 : (kz == 3) = z3 := h3
  have hkz4 : (kz == 4) = z4 := h4
  obtain ⟨sn, hsn⟩ : ∃ sn, st.length = sn := ⟨_, rfl⟩
  rw [hsn] at hW1 ⊢
  clear hb1 h1 hix1 hix hC hX hc hkz h3 h4 hsn
  cases L with
  | nil =>
    have K0 := fun d os => cell_regrown k0 d os
    have K4 := fun d os => cell_regrown k4 d os
    have hl0 : ((([] : List Gr.Nd).length : Nat) : Int) = 0 := rfl
    clear k0 k4 s0 s1 a0 a1 a2 a3 hR hV hok hrs
    rw [show ([] : List Gr.Nd).length = 0 from rfl] at *
    cases z3 <;> cases z4 <;>
    · go_enter Tryz.func166, Tryz.ntmps166
      go_upto_region 1 with fail
      rw [hW1.out]
      clear hW1
      refine wp_region_quiet_below (by kernel_rfl) (by kernel_rfl) ?_
      refine Boxd.out ?_
      repeat (refine wpQuiet_step4 (fun K hK => ?_); go_simp; (first | (refine hK _ ?_; clear hK K) | (apply Exists.intro; refine ⟨fun _ => ?_, hK _ ?_⟩; (fail); clear hK K)))
      refine ⟨wpQuiet_nil ?_⟩
      rintro _ ⟨⟨dq, osq⟩, rfl⟩
      have hb2 := below_regrown W1 dq osq
      clear K0 K4
      generalize Sort.grow (redrawn W1 dq) osq = W2 at hb2 ⊢
      have HB2 := hid (HB1.out.trans (hb2.mono HB1.out.size))
      clear hb2
      go_wp2_with fail
      go_ret
      exact ⟨by rw [HQ.out]; rfl, HB2.out⟩
  | cons x L =>
    obtain ⟨b, o, u0, u1, u2, u3, u4, hUA, hbB, hnd, d0, d1, d2, d3, d4⟩ := readsNd hR hV 0 (Nat.zero_lt_succ _)
    rw [Nat.zero_mul, Nat.add_zero] at d0 d1 d2 d3 d4
    have hokx : Gr.okN x := by
      have := hok.2.2.2.2.2.2
      unfold Gr.okNs at this
      exact this.1
    have HMY := hid (fun (d : Nat) (os : Array Obj) => Calls.regrown_of (nmay_any gn bd sta RA rc i x _ (Sort.grow (redrawn W1 d) os) hrs hnd hokx (hbw.trans ((below_regrown W1 d os).mono hBw)) (Nat.le_trans hBw (below_regrown W1 d os).size) hi))
    obtain ⟨q, hq⟩ : ∃ q, Gr.mayN rs (Gr.emptyR rs) (Gr.isTok (Gr.ruAt rs i)) x = q := ⟨_, rfl⟩
    rw [hq] at HMY
    have HQ : Hid (loopB rs i (.mk k nm t st (x :: L)) = ((z3 || z4) && q)) := by rw [← hq]; exact HQ
    obtain ⟨vk, vm, vt, vSA, va, vsc, vUA, vb, vuc, hv⟩ := hnd.form
    injection hv with hv0 hv
    injection hv with hv1 hv
    injection hv with hv2 hv
    injection hv with hv3 hv
    injection hv with hv4 hv
    subst hv0 hv1 hv2 hv3 hv4 hUA
    have v0 := (hbw.cell (p := ⟨b, o, none⟩) hbB).trans d0
    have v1 := (hbw.cell (p := ⟨b, o + 1, none⟩) hbB).trans d1
    have v2 := (hbw.cell (p := ⟨b, o + 2, none⟩) hbB).trans d2
    have v3 := (hbw.cell (p := ⟨b, o + 3, none⟩) hbB).trans d3
    have v4 := (hbw.cell (p := ⟨b, o + 4, none⟩) hbB).trans d4
    have K0 := fun d os => cell_regrown k0 d os
    have K4 := fun d os => cell_regrown k4 d os
    have S0 := fun d os => cell_regrown s0 d os
    have S1 := fun d os => cell_regrown s1 d os
    have A0 := fun d os => cell_regrown a0 d os
    have A1 := fun d os => cell_regrown a1 d os
    have A2 := fun d os => cell_regrown a2 d os
    have A3 := fun d os => cell_regrown a3 d os
    have V0 := fun d os => cell_regrown v0 d os
    have V1 := fun d os => cell_regrown v1 d os
    have V2 := fun d os => cell_regrown v2 d os
    have V3 := fun d os => cell_regrown v3 d os
    have V4 := fun d os => cell_regrown v4 d os
    obtain ⟨ln, hln⟩ : ∃ ln, (x :: L).length = ln := ⟨_, rfl⟩
    have hl0 : (0 : Int) < (ln : Int) := by rw [← hln, List.length_cons]; omega
    have hl1 : 0 < ln := by omega
    rw [hln] at K4 hW1 ⊢
    clear k0 k4 s0 s1 a0 a1 a2 a3 v0 v1 v2 v3 v4 d0 d1 d2 d3 d4 hR hV hok hokx hq hln hnd hrs hv
    unfold Gr.strV at *
    cases z3 <;> cases z4 <;>
    · go_enter Tryz.func166, Tryz.ntmps166
      go_upto_region 1 with fail
      rw [hW1.out]
      clear hW1
      refine wp_region_quiet_below (by kernel_rfl) (by kernel_rfl) ?_
      refine Boxd.out ?_
      repeat (refine wpQuiet_step4 (fun K hK => ?_); go_simp; (first | (refine hK _ ?_; clear hK K) | (apply Exists.intro; refine ⟨fun _ => ?_, hK _ ?_⟩; (with_reducible exact HMY.out _ _); clear hK K)))
      refine ⟨wpQuiet_nil ?_⟩
      rintro _ ⟨⟨dq, osq⟩, rfl⟩
      have hb2 := below_regrown W1 dq osq
      clear K0 K4 S0 S1 A0 A1 A2 A3 V0 V1 V2 V3 V4 HMY
      generalize Sort.grow (redrawn W1 dq) osq = W2 at hb2 ⊢
      have HB2 := hid (HB1.out.trans (hb2.mono HB1.out.size))
      clear hb2
      go_wp2_with fail
      go_ret
      exact ⟨by rw [HQ.out]; rfl, HB2.out⟩
end
end Go.Proofs.YtpbnfinmjnpkpaaGreatDoor
