/-
  Checks: what is asked of a rule's nodes (the closures of check.rule): the walks.
-/
import Derived.Test.YtpbnfinmjnpkpaaGreatDoorGrNs
namespace Go.Proofs.YtpbnfinmjnpkpaaGreatDoor
open Go.RowKit
set_option maxRecDepth 100000
/-- one operation of a quiet region: what follows is not looked into meanwhile -/
theorem wpQuiet_step4 {P : Program} {ops : Array Oper} {C : World → Prop} {Q : Act → Prop} {a : Act} {o : Oper} {rest : List Oper}
    (h : ∀ K : Act → Prop, (∀ a, Boxd (wpQuiet P ops C Q rest a) → K a) → if Region.wanted o (yielded ops a.tmps) then o.quiet P a C K else K (a.put o.dst undef)) : Boxd (wpQuiet P ops C Q (o :: rest) a) := ⟨h _ fun _ h => h.out⟩
/-- a check's box, as its closures read it -/
structure ChkR (w0 : World) (B : Nat) (rs : List Gr.Ru) (gn : List UInt8) (bd sta : Int) (RA : Option Addr) (rc cb cbx : Nat) (u : World) : Prop where
  b : Below B w0 u
  hB : B ≤ u.heap.size
  r : RsAt w0 B RA rs
  x : u.heap[cbx]? = some (.cells #[.pointer (some ⟨cb, 0, none⟩)] 208 (0, 0))
  c : ∃ x4 x5 x6 ov, u.heap[cb]? = some (.cells #[Gr.strV gn, .int .i64 bd, .int .i64 sta, .slice RA rs.length rc, x4, x5, x6, ov] 210 (0, 0))
theorem ChkR.next {w0 : World} {B : Nat} {rs : List Gr.Ru} {gn : List UInt8} {bd sta : Int} {RA : Option Addr} {rc cb cbx : Nat} {u u' : World} (h : ChkR w0 B rs gn bd sta RA rc cb cbx u) (hb : Below u.heap.size u u') : ChkR w0 B rs gn bd sta RA rc cb cbx u' := by
  obtain ⟨h1, h2, h3, h4, x4, x5, x6, ov, h5⟩ := h
  exact ⟨h1.trans (hb.mono h2), Nat.le_trans h2 hb.size, h3, (hb.block _ (heap_lt h4)).trans h4, x4, x5, x6, ov, (hb.block _ (heap_lt h5)).trans h5⟩
section
variable {w0 : World} {B : Nat} {rs : List Gr.Ru} {gn : List UInt8} {bd sta : Int} {RA : Option Addr} {rc cb cbx : Nat}
def noneB (rs : List Gr.Ru) (nd : Gr.Nd) : Bool := Gr.names nd && (Gr.findR rs nd.name).isNone
set_option maxHeartbeats 4000000 in
theorem rule1_any (nd : Gr.Nd) (cs : List Value) (W : World) (hn : NdR w0 B nd cs) (hc : ChkR w0 B rs gn bd sta RA rc cb cbx W) :
    Calls Tryz.prog 163 #[.agg cs.toArray, .pointer (some ⟨cbx, 0, none⟩)] W fun e W' => e = .returned (.bool (noneB rs nd)) ∧ Below W.heap.size W W' := by
  have HNM := hid (fun u => names_any nd cs u hn)
  obtain ⟨k, nm, t, st, L⟩ := nd
  unfold NdR at hn
  obtain ⟨SA, sc, UA, uc, xs, rfl, _⟩ := hn
  unfold Gr.strV at *
  have hb1 := below_new W (.cells #[.int .u8 (k : Int), .string ⟨nm.toArray⟩, .string ⟨t.toArray⟩, .slice SA st.length sc, .slice UA L.length uc] 74)
  have h1 := heap_alloc_new W (.cells #[.int .u8 (k : Int), .string ⟨nm.toArray⟩, .string ⟨t.toArray⟩, .slice SA st.length sc, .slice UA L.length uc] 74)
  obtain ⟨W1, hW1⟩ : ∃ W1, Hid (W.alloc (.cells #[.int .u8 (k : Int), .string ⟨nm.toArray⟩, .string ⟨t.toArray⟩, .slice SA st.length sc, .slice UA L.length uc] 74) = W1) := ⟨_, hid rfl⟩
  rw [hW1.out] at hb1 h1
  have hc1 := hc.next hb1
  obtain ⟨hbw, hBw, hrs, hX, x4, x5, x6, ov, hC⟩ := hc1
  unfold Gr.strV at hC
  have s0 : W1.cell? ⟨cbx, 0, none⟩ = some (.pointer (some ⟨cb, 0, none⟩)) := by rw [Lib.cell_of_heap hX]; rfl
  have a0 : W1.cell? ⟨cb, 0, none⟩ = some (.string ⟨gn.toArray⟩) := by rw [Lib.cell_of_heap hC]; rfl
  have a1 : W1.cell? ⟨cb, 1, none⟩ = some (.int .i64 bd) := by rw [Lib.cell_of_heap hC]; rfl
  have a2 : W1.cell? ⟨cb, 2, none⟩ = some (.int .i64 sta) := by rw [Lib.cell_of_heap hC]; rfl
  have a3 : W1.cell? ⟨cb, 3, none⟩ = some (.slice RA rs.length rc) := by rw [Lib.cell_of_heap hC]; rfl
  obtain ⟨k0, k1, k2, k3, k4⟩ := (show _ from cells5' h1)
  obtain ⟨q1, hq1⟩ : ∃ q, Gr.names (.mk k nm t st L) = q := ⟨_, rfl⟩
  obtain ⟨fr, hfr⟩ : ∃ fr, Gr.findR rs nm = fr := ⟨_, rfl⟩
  obtain ⟨iz, hiz⟩ : ∃ iz, idxAns fr = iz := ⟨_, rfl⟩
  have HQ := hid (show noneB rs (.mk k nm t st L) = (q1 && fr.isNone) by unfold noneB; rw [hq1]; show (q1 && (Gr.findR rs nm).isNone) = _; rw [hfr])
  have HIZ := hid hiz
  rw [hq1] at HNM
  have HF := hid (fun (d : Nat) (os : Array Obj) => Calls.regrown_of (find_any rs gn nm bd sta RA rc (Sort.grow (redrawn W1 d) os) hrs (hbw.trans ((below_regrown W1 d os).mono hBw)) (Nat.le_trans hBw (below_regrown W1 d os).size)))
  unfold Gr.strV at HF
  rw [hfr, hiz] at HF
  have HN := hid (fun (d : Nat) (os : Array Obj) => Calls.regrown_of (HNM.out (Sort.grow (redrawn W1 d) os)))
  have S0 := fun d os => cell_regrown s0 d os
  have A0 := fun d os => cell_regrown a0 d os
  have A1 := fun d os => cell_regrown a1 d os
  have A2 := fun d os => cell_regrown a2 d os
  have A3 := fun d os => cell_regrown a3 d os
  have K0 := fun d os => cell_regrown k0 d os
  have K1 := fun d os => cell_regrown k1 d os
  have K2 := fun d os => cell_regrown k2 d os
  have K3 := fun d os => cell_regrown k3 d os
  have K4 := fun d os => cell_regrown k4 d os
  have HB1 := hid hb1
  obtain ⟨ri, hri⟩ : ∃ ri, rs.length = ri := ⟨_, rfl⟩
  rw [hri] at HF A3
  obtain ⟨ln, hln⟩ : ∃ ln, L.length = ln := ⟨_, rfl⟩
  obtain ⟨sn, hsn⟩ : ∃ sn, st.length = sn := ⟨_, rfl⟩
  rw [hln] at HN K4 hW1 ⊢
  rw [hsn] at HN K3 hW1 ⊢
  clear s0 a0 a1 a2 a3 k0 k1 k2 k3 k4 hX hC hrs hbw hBw hb1 h1 hc hq1 hfr hiz hri hln hsn HNM
  cases q1 with
  | false =>
    go_enter Tryz.func163, Tryz.ntmps163
    go_upto_region 1 with fail
    rw [hW1.out]
    clear hW1
    refine wp_region_quiet_below (by kernel_rfl) (by kernel_rfl) ?_
    refine Boxd.out ?_
    repeat (refine wpQuiet_step4 (fun K hK => ?_); go_simp; (first | (refine hK _ ?_; clear hK K) | (apply Exists.intro; refine ⟨fun _ => ?_, hK _ ?_⟩; (with_reducible exact HN.out _ _); clear hK K)))
    refine ⟨wpQuiet_nil ?_⟩
    rintro _ ⟨⟨dq, osq⟩, rfl⟩
    have hb2 := below_regrown W1 dq osq
    clear S0 A0 A1 A2 A3 K0 K1 K2 K3 K4 HF HN
    generalize Sort.grow (redrawn W1 dq) osq = W2 at hb2 ⊢
    have HB2 := hid (HB1.out.trans (hb2.mono HB1.out.size))
    clear hb2
    go_wp2_with fail
    go_ret
    exact ⟨by rw [HQ.out]; rfl, HB2.out⟩
  | true =>
    cases fr with
    | none =>
      obtain rfl : -1 = iz := HIZ.out
      go_enter Tryz.func163, Tryz.ntmps163
      go_upto_region 1 with fail
      rw [hW1.out]
      clear hW1
      refine wp_region_quiet_below (by kernel_rfl) (by kernel_rfl) ?_
      refine Boxd.out ?_
      repeat (refine wpQuiet_step4 (fun K hK => ?_); go_simp; (first | (refine hK _ ?_; clear hK K) | (apply Exists.intro; refine ⟨fun _ => ?_, hK _ ?_⟩; (first | (with_reducible exact HN.out _ _) | (with_reducible exact HF.out _ _)); clear hK K)))
      refine ⟨wpQuiet_nil ?_⟩
      rintro _ ⟨⟨dq, osq⟩, rfl⟩
      have hb2 := below_regrown W1 dq osq
      clear S0 A0 A1 A2 A3 K0 K1 K2 K3 K4 HF HN
      generalize Sort.grow (redrawn W1 dq) osq = W2 at hb2 ⊢
      have HB2 := hid (HB1.out.trans (hb2.mono HB1.out.size))
      clear hb2
      go_wp2_with fail
      go_ret
      exact ⟨by rw [HQ.out]; rfl, HB2.out⟩
    | some i =>
      obtain rfl : (i : Int) = iz := HIZ.out
      have hi0 : ¬ (i : Int) < 0 := by omega
      go_enter Tryz.func163, Tryz.ntmps163
      go_upto_region 1 with fail
      rw [hW1.out]
      clear hW1
      refine wp_region_quiet_below (by kernel_rfl) (by kernel_rfl) ?_
      refine Boxd.out ?_
      repeat (refine wpQuiet_step4 (fun K hK => ?_); go_simp; (first | (refine hK _ ?_; clear hK K) | (apply Exists.intro; refine ⟨fun _ => ?_, hK _ ?_⟩; (first | (with_reducible exact HN.out _ _) | (with_reducible exact HF.out _ _)); clear hK K)))
      refine ⟨wpQuiet_nil ?_⟩
      rintro _ ⟨⟨dq, osq⟩, rfl⟩
      have hb2 := below_regrown W1 dq osq
      clear S0 A0 A1 A2 A3 K0 K1 K2 K3 K4 HF HN
      generalize Sort.grow (redrawn W1 dq) osq = W2 at hb2 ⊢
      have HB2 := hid (HB1.out.trans (hb2.mono HB1.out.size))
      clear hb2
      go_wp2_with fail
      go_ret
      exact ⟨by rw [HQ.out]; rfl, HB2.out⟩
end
end Go.Proofs.YtpbnfinmjnpkpaaGreatDoor
