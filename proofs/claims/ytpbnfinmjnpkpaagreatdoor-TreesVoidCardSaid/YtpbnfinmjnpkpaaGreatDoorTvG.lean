/-
  Joined texts: TtNd, TtPt, TtFt, TtCh, TtVo.
-/
import Derived.Test.YtpbnfinmjnpkpaaGreatDoorTvE
import Derived.Test.YtpbnfinmjnpkpaaGreatDoorTvB
/-
  Where a node may end among a list of trees ((*trees.Checker).node), of nodes without '?', '*', '+': the walk.
-/
namespace Go.Proofs.YtpbnfinmjnpkpaaGreatDoor
open Go.RowKit Go.Maps
set_option maxRecDepth 100000
section
variable {w0 : World}
def NodeP (w0 : World) (cb : Nat) (tok rul : List UInt8 → Option Int) (TA : Option Addr) (tc : Nat) (L : List Rp.Tr) (nd : Gr.Nd) : Prop :=
  ∀ (cs : List Value) (fr : List Bool) (A : Option Addr) (c : Nat) (W : World), NdR w0 w0.heap.size nd cs → Below w0.heap.size w0 W → EnR W A fr → fr.length = L.length + 1 →
    Calls Tryz.prog 85 #[.pointer (some ⟨cb, 0, none⟩), .agg cs.toArray, .slice TA L.length tc, .slice A fr.length c] W (EnP (Tt.nodeE tok rul L nd fr) W)
set_option maxHeartbeats 8000000 in
theorem node_step {cb br bt : Nat} {BA : Option Addr} {bc : Nat} {tok rul : List UInt8 → Option Int} {bodies : List Gr.Nd} {xsb : List Value} (hck : ChkAt w0 cb br bt BA bc tok rul bodies xsb) (TA : Option Addr) (tc : Nat) (L : List Rp.Tr) (xs : List Value) (hr : Reads w0 w0.heap.size 5 TA L.length xs) (hv : TrsR w0 w0.heap.size L xs) (hLn : L.length < 1000000000)
    (k : Nat) (nm t : List UInt8) (s : List (Int × Int)) (subs : List Gr.Nd) (hst : Tt.starless tok rul (.mk k nm t s subs)) (ih : ∀ i (hi : i < subs.length), NodeP w0 cb tok rul TA tc L subs[i]) : NodeP w0 cb tok rul TA tc L (.mk k nm t s subs) := by
  intro cs fr A c W hn hb hA hfl
  unfold NdR at hn
  obtain ⟨SA, sc, UA, uc, ys, rfl, _, hU, hnx, huc⟩ := hn
  unfold Tt.starless at hst
  obtain ⟨hk, hsl, hst2⟩ := hst
  unfold Gr.strV
  have HCK := hid hck
  have HR := hid hr
  have HV := hid hv
  have HB := hid hb
  have HA := hid hA
  have HU := hid hU
  have HX := hid hnx
  have IH := hid ih
  obtain ⟨sl, hsl2⟩ : ∃ q, s.length = q := ⟨_, rfl⟩
  obtain ⟨n, hnn⟩ : ∃ q, subs.length = q := ⟨_, rfl⟩
  obtain ⟨ln, hln⟩ : ∃ q, L.length = q := ⟨_, rfl⟩
  have HN := hid hnn
  have HLN := hid hln
  have HFL := hid hfl
  rw [hnn] at huc hsl
  rw [hfl, hsl2, hnn, hln]
  have hln9 : ln < 1000000000 := by omega
  obtain ⟨kz, hkz⟩ : ∃ z : Int, (k : Int) = z := ⟨_, rfl⟩
  have HKZ := hid hkz
  rw [hkz]
  have h1 := heap_alloc_new W (.cells #[.int .u8 kz, .string ⟨nm.toArray⟩, .string ⟨t.toArray⟩, .slice SA sl sc, .slice UA n uc] 74)
  have hb1 := below_new W (.cells #[.int .u8 kz, .string ⟨nm.toArray⟩, .string ⟨t.toArray⟩, .slice SA sl sc, .slice UA n uc] 74)
  obtain ⟨W1, hW1⟩ : ∃ W1, Hid (W.alloc (.cells #[.int .u8 kz, .string ⟨nm.toArray⟩, .string ⟨t.toArray⟩, .slice SA sl sc, .slice UA n uc] 74) = W1) := ⟨_, hid rfl⟩
  rw [hW1.out] at h1 hb1
  have c0 : W1.cell? ⟨W.heap.size, 0, none⟩ = some (.int .u8 kz) := by rw [Lib.cell_of_heap h1]; rfl
  have c1 : W1.cell? ⟨W.heap.size, 1, none⟩ = some (.string ⟨nm.toArray⟩) := by rw [Lib.cell_of_heap h1]; rfl
  have c4 : W1.cell? ⟨W.heap.size, 4, none⟩ = some (.slice UA n uc) := by rw [Lib.cell_of_heap h1]; rfl
  have hw1 := HB.out.trans (hb1.mono HB.out.size)
  have hck1 : ChkAt W1 cb br bt BA bc tok rul bodies xsb := hck.next hw1
  have cb0 : W1.cell? ⟨cb, 0, none⟩ = some (.map (some br)) := by rw [Lib.cell_of_heap hck1.box]; rfl
  have cb1 : W1.cell? ⟨cb, 1, none⟩ = some (.map (some bt)) := by rw [Lib.cell_of_heap hck1.box]; rfl
  have HH1 := hid h1
  have HB1 := hid hb1
  have HW1B := hid hw1
  have HCK1 := hid hck1
  clear hck hr hv hb hA hU hnx ih hsl2 hnn hln hfl hkz h1 hb1 hw1 hck1
  go_enter Tryz.func85, Tryz.ntmps85
  go_upto_region 1 with fail
  rw [hW1.out]
  clear hW1
  rcases hk with ⟨rfl, hnl, hnt⟩ | ⟨rfl, hnl, hnt⟩ | rfl | rfl
  · -- a token
    obtain ⟨kt, hkt⟩ : ∃ kt, tok nm = some kt := Option.isSome_iff_exists.1 hnt
    obtain rfl : kz = 6 := HKZ.out.symm
    have HQ := hid (show Tt.nodeE tok rul L (.mk 6 nm t s subs) fr = Tt.stepE (Tt.fitTok kt) fr L by rw [Tt.nodeE]; simp [hkt])
    obtain ⟨nmt, hmt⟩ := HCK1.out.mt
    have HST := hid (fun (u : World) (hb : Below W1.heap.size W1 u) => (show u.cell? ⟨cb, 1, none⟩ = some (.map (some bt)) ∧ u.cell? ⟨W.heap.size, 1, none⟩ = some (.string ⟨nm.toArray⟩) ∧ (Instr.lookup 30 (.map (some bt)) (.string ⟨nm.toArray⟩) false).run Tryz.prog u = .ok (.int .i64 kt) u from
      ⟨(hb.cell (p := ⟨cb, 1, none⟩) (heap_lt HCK1.out.box)).trans cb1, (hb.cell (p := ⟨W.heap.size, 1, none⟩) (heap_lt HH1.out)).trans c1, (hmt.next hb).look nm kt hnl hkt⟩))
    clear c4 hmt hnt hkt
    go_upto_region 3 with fail
    have hs1 := HST.out W1 (Below.refl _ _)
    clear c1 cb0 cb1
    go_region_held3 (fun w' => w'.cell? ⟨cb, 1, none⟩ = some (.map (some bt)) ∧ w'.cell? ⟨W.heap.size, 1, none⟩ = some (.string ⟨nm.toArray⟩) ∧ (Instr.lookup 30 (.map (some bt)) (.string ⟨nm.toArray⟩) false).run Tryz.prog w' = .ok (.int .i64 kt) w') (first | assumption | exact hs1 | exact HST.out _ (Below.refl _ _).drew | exact HST.out _ (below_new _ _).drew | exact HST.out _ (below_new _ _) | exact HST.out _ ((below_new _ _).drew.setCell (p := ⟨W1.heap.size, 0, none⟩) (Nat.le_refl _) _) | exact HST.out _ ((below_new _ _).setCell (p := ⟨W1.heap.size, 0, none⟩) (Nat.le_refl _) _)) (fail)
    all_goals
      have hb2 := (below_new W1 (.cells #[.int .i64 kt] 3)).drew
      have h2 : (W1.alloc (.cells #[.int .i64 kt] 3)).drew.heap[W1.heap.size]? = some (.cells #[.int .i64 kt] 3 (0, 0)) := heap_alloc_new W1 (.cells #[.int .i64 kt] 3)
      obtain ⟨W2, hW2⟩ : ∃ W2, Hid ((W1.alloc (.cells #[.int .i64 kt] 3)).drew = W2) := ⟨_, hid rfl⟩
      rw [hW2.out] at hb2 h2
      rw [hW2.out]
      have hw12 := HB1.out.trans (hb2.mono HB1.out.size)
      have hstep := step_any (w0 := w0) (B := w0.heap.size) (Tt.fitTok kt) 117 #[.pointer (some ⟨W1.heap.size, 0, none⟩)] (enters_of Tryz.func117 (by kernel_rfl) rfl) A c fr L TA tc xs W2 HFL.out (by rw [HFL.out, HLN.out]; omega) (HA.out.next hw12) HR.out HV.out (HB.out.trans (hw12.mono HB.out.size)) (Nat.le_trans HB.out.size hw12.size)
        (fun i hi cs W3 hti hb3 => fitTok_any kt W1.heap.size L[i] cs W3 hti ((hb3.block _ (heap_lt h2)).trans h2))
      rw [HFL.out, HLN.out] at hstep
      have HSTEP := hid hstep
      have HW12 := hid hw12
      clear hstep hw12 hb2 h2 hs1 HST
      go_wp2_with (go_at_call 116; refine HSTEP.out.mono ?_; rintro _ W3 ⟨A3, c3, rfl, hr3, hb3⟩; have HF3 := hid (And.intro hr3 hb3); clear hr3 hb3)
      go_ret
      have hfin := And.intro HF3.out.1 (HW12.out.trans (HF3.out.2.mono HW12.out.size))
      rw [← HQ.out] at hfin
      refine ⟨A3, c3, ?_, hfin⟩
      rw [HQ.out]
      rfl
  · -- a rule
    obtain ⟨kt, hkt⟩ : ∃ kt, rul nm = some kt := Option.isSome_iff_exists.1 hnt
    obtain rfl : kz = 5 := HKZ.out.symm
    have HQ := hid (show Tt.nodeE tok rul L (.mk 5 nm t s subs) fr = Tt.stepE (Tt.fitRul kt) fr L by rw [Tt.nodeE]; simp [hkt])
    obtain ⟨nmt, hmt⟩ := HCK1.out.mr
    have HST := hid (fun (u : World) (hb : Below W1.heap.size W1 u) => (show u.cell? ⟨cb, 0, none⟩ = some (.map (some br)) ∧ u.cell? ⟨W.heap.size, 1, none⟩ = some (.string ⟨nm.toArray⟩) ∧ (Instr.lookup 30 (.map (some br)) (.string ⟨nm.toArray⟩) false).run Tryz.prog u = .ok (.int .i64 kt) u from
      ⟨(hb.cell (p := ⟨cb, 0, none⟩) (heap_lt HCK1.out.box)).trans cb0, (hb.cell (p := ⟨W.heap.size, 1, none⟩) (heap_lt HH1.out)).trans c1, (hmt.next hb).look nm kt hnl hkt⟩))
    clear c4 hmt hnt hkt
    go_upto_region 6 with fail
    have hs1 := HST.out W1 (Below.refl _ _)
    clear c1 cb0 cb1
    go_region_held3 (fun w' => w'.cell? ⟨cb, 0, none⟩ = some (.map (some br)) ∧ w'.cell? ⟨W.heap.size, 1, none⟩ = some (.string ⟨nm.toArray⟩) ∧ (Instr.lookup 30 (.map (some br)) (.string ⟨nm.toArray⟩) false).run Tryz.prog w' = .ok (.int .i64 kt) w') (first | assumption | exact hs1 | exact HST.out _ (Below.refl _ _).drew | exact HST.out _ (below_new _ _).drew | exact HST.out _ (below_new _ _) | exact HST.out _ ((below_new _ _).drew.setCell (p := ⟨W1.heap.size, 0, none⟩) (Nat.le_refl _) _) | exact HST.out _ ((below_new _ _).setCell (p := ⟨W1.heap.size, 0, none⟩) (Nat.le_refl _) _)) (fail)
    all_goals
      have hb2 := (below_new W1 (.cells #[.int .i64 kt] 3)).drew
      have h2 : (W1.alloc (.cells #[.int .i64 kt] 3)).drew.heap[W1.heap.size]? = some (.cells #[.int .i64 kt] 3 (0, 0)) := heap_alloc_new W1 (.cells #[.int .i64 kt] 3)
      obtain ⟨W2, hW2⟩ : ∃ W2, Hid ((W1.alloc (.cells #[.int .i64 kt] 3)).drew = W2) := ⟨_, hid rfl⟩
      rw [hW2.out] at hb2 h2
      rw [hW2.out]
      have hw12 := HB1.out.trans (hb2.mono HB1.out.size)
      have hstep := step_any (w0 := w0) (B := w0.heap.size) (Tt.fitRul kt) 118 #[.pointer (some ⟨W1.heap.size, 0, none⟩)] (enters_of Tryz.func118 (by kernel_rfl) rfl) A c fr L TA tc xs W2 HFL.out (by rw [HFL.out, HLN.out]; omega) (HA.out.next hw12) HR.out HV.out (HB.out.trans (hw12.mono HB.out.size)) (Nat.le_trans HB.out.size hw12.size)
        (fun i hi cs W3 hti hb3 => fitRul_any kt W1.heap.size L[i] cs W3 hti ((hb3.block _ (heap_lt h2)).trans h2))
      rw [HFL.out, HLN.out] at hstep
      have HSTEP := hid hstep
      have HW12 := hid hw12
      clear hstep hw12 hb2 h2 hs1 HST
      go_wp2_with (go_at_call 116; refine HSTEP.out.mono ?_; rintro _ W3 ⟨A3, c3, rfl, hr3, hb3⟩; have HF3 := hid (And.intro hr3 hb3); clear hr3 hb3)
      go_ret
      have hfin := And.intro HF3.out.1 (HW12.out.trans (HF3.out.2.mono HW12.out.size))
      rw [← HQ.out] at hfin
      refine ⟨A3, c3, ?_, hfin⟩
      rw [HQ.out]
      rfl
  · -- one behind the other
    obtain rfl : kz = 1 := HKZ.out.symm
    have HQ := hid (show Tt.nodeE tok rul L (.mk 1 nm t s subs) fr = Tt.seqE tok rul L subs fr by rw [Tt.nodeE]; simp)
    clear c1 cb0 cb1
    go_wp2_with fail
    go_loopw [3, 12, 49] (fun v _ iv wr => ∃ (i : Nat) (A5 : Option Addr) (c5 : Nat), i ≤ n ∧ iv = .int .i64 (i : Int) ∧ v = .slice A5 (ln + 1) c5 ∧ Hid (EnR wr A5 (Tt.seqE tok rul L (subs.take i) fr) ∧ Below W.heap.size W wr)) (fun _ _ iv _ => n - (intOf iv).toNat)
    case atStart => exact ⟨0, A, c, Nat.zero_le _, rfl, rfl, hid ⟨by rw [List.take_zero, Tt.seqE]; exact HA.out.next HB1.out, HB1.out⟩⟩
    case round =>
      obtain ⟨i, A5, c5, hi, rfl, rfl, HI⟩ := hrel
      have hwi : IntKind.i64.wrap ((i : Int) + 1) = (i : Int) + 1 := w64 (by omega) (by omega)
      by_cases hlt : i < n
      · have hil : i < subs.length := by have := HN.out; omega
        have hltI : (i : Int) < (n : Int) := by omega
        have hbr := HB.out.trans (HI.out.2.mono HB.out.size)
        obtain ⟨b, o, u0, u1, u2, u3, u4, hUA, hbB, hnd, e0, e1, e2, e3, e4⟩ := readsNd HU.out HX.out i hil
        have HND := hid hnd
        obtain ⟨xk, xm, xt, xSA, xa, xsc, xUA, xb, xuc, hv⟩ := hnd.form
        cases hv
        have e0 := (hbr.cell (p := ⟨b, o + i * 5, none⟩) hbB).trans e0
        have e1 := (hbr.cell (p := ⟨b, o + i * 5 + 1, none⟩) hbB).trans e1
        have e2 := (hbr.cell (p := ⟨b, o + i * 5 + 2, none⟩) hbB).trans e2
        have e3 := (hbr.cell (p := ⟨b, o + i * 5 + 3, none⟩) hbB).trans e3
        have e4 := (hbr.cell (p := ⟨b, o + i * 5 + 4, none⟩) hbB).trans e4
        subst hUA
        clear hnd hbr
        go_upto_region 12 with fail
        have h5 := heap_alloc_new wr (.cells #[.int .u8 xk, .string xm, .string xt, .slice xSA xa xsc, .slice xUA xb xuc] 74)
        have hb5 := below_new wr (.cells #[.int .u8 xk, .string xm, .string xt, .slice xSA xa xsc, .slice xUA xb xuc] 74)
        generalize wr.alloc (.cells #[.int .u8 xk, .string xm, .string xt, .slice xSA xa xsc, .slice xUA xb xuc] 74) = W5 at h5 hb5 ⊢
        have k0 : W5.cell? ⟨wr.heap.size, 0, none⟩ = some (.int .u8 xk) := by rw [Lib.cell_of_heap h5]; rfl
        have k1 : W5.cell? ⟨wr.heap.size, 1, none⟩ = some (.string xm) := by rw [Lib.cell_of_heap h5]; rfl
        have k2 : W5.cell? ⟨wr.heap.size, 2, none⟩ = some (.string xt) := by rw [Lib.cell_of_heap h5]; rfl
        have k3 : W5.cell? ⟨wr.heap.size, 3, none⟩ = some (.slice xSA xa xsc) := by rw [Lib.cell_of_heap h5]; rfl
        have k4 : W5.cell? ⟨wr.heap.size, 4, none⟩ = some (.slice xUA xb xuc) := by rw [Lib.cell_of_heap h5]; rfl
        have hbw5 := HI.out.2.trans (hb5.mono HI.out.2.size)
        have hl5 := Tt.seqE_len tok rul L (subs.take i) fr HFL.out
        have hcall := IH.out i hil _ (Tt.seqE tok rul L (subs.take i) fr) A5 c5 W5 HND.out (HB.out.trans (hbw5.mono HB.out.size)) (HI.out.1.next hb5) (by rw [hl5, HFL.out])
        rw [hl5, HFL.out, HLN.out] at hcall
        have HCALL := hid hcall
        have HBW5 := hid hbw5
        have HSN : Hid (Tt.nodeE tok rul L subs[i] (Tt.seqE tok rul L (subs.take i) fr) = Tt.seqE tok rul L (subs.take (i + 1)) fr) := hid (by rw [List.take_succ_eq_append_getElem hil, Tt.seqE_snoc])
        have HNL := hid (Tt.nodeE_len tok rul L subs[i] (Tt.seqE tok rul L (subs.take i) fr) (by rw [hl5, HFL.out]))
        have HL5 := hid hl5
        clear hcall hbw5 hl5 h5 hb5 e0 e1 e2 e3 e4
        go_wp2_with (go_at_call 85; refine HCALL.out.mono ?_; rintro _ W6 ⟨A6, c6, rfl, hr6, hb6⟩; have HF6 := hid (And.intro hr6 hb6); rw [HNL.out, HL5.out, HFL.out, HLN.out]; clear hr6 hb6)
        go_roundw
        case rel => exact ⟨i + 1, A6, c6, hlt, by go_num, rfl, hid ⟨by rw [← HSN.out]; exact HF6.out.1, HBW5.out.trans (HF6.out.2.mono HBW5.out.size)⟩⟩
        case measure => simp only [intOf]; omega
      · have hie : i = n := by omega
        subst hie
        clear hlt
        go_wp2_with fail
        go_ret
        have hfin := HI.out
        rw [← HN.out, List.take_length, ← HQ.out] at hfin
        refine ⟨A5, c5, ?_, hfin⟩
        rw [HQ.out, Tt.seqE_len tok rul L subs fr HFL.out, HFL.out, HLN.out]
        rfl
  · -- one of them
    obtain rfl : kz = 0 := HKZ.out.symm
    obtain ⟨Z, hZ⟩ : ∃ Z, Z = List.replicate fr.length false := ⟨_, rfl⟩
    have HQ := hid (show Tt.nodeE tok rul L (.mk 0 nm t s subs) fr = Tt.altsE tok rul L subs fr Z by rw [hZ, Tt.nodeE]; simp)
    have HZL := hid (show Z.length = fr.length by rw [hZ, List.length_replicate])
    clear c1 cb0 cb1
    have hmk : ∀ u : World, (Instr.makeSlice 156 (.int .i64 ((ln : Int) + 1)) (.int .i64 ((ln : Int) + 1))).run Tryz.prog u = .ok (.slice (some ⟨u.heap.size, 0, none⟩) (ln + 1) (ln + 1)) (u.alloc (.cells (Array.replicate (ln + 1) (Value.bool false)) 4)) := fun u => by
      have h := mkEnds (ln + 1) (by omega) u
      rw [show ((ln + 1 : Nat) : Int) = (ln : Int) + 1 by omega] at h
      exact h
    go_upto_region 16 with fail
    have hb2 := below_new W1 (.cells (Array.replicate (ln + 1) (Value.bool false)) 4)
    have h2 := heap_alloc_new W1 (.cells (Array.replicate (ln + 1) (Value.bool false)) 4)
    generalize W1.alloc (.cells (Array.replicate (ln + 1) (Value.bool false)) 4) = W2 at hb2 h2 ⊢
    have hw2 : EnW W2 W1.heap.size Z [] := by
      unfold EnW
      rw [h2, hZ, HFL.out, HLN.out, List.append_nil, List.map_replicate]
      simp
    have HW2 := hid hw2.reads
    have HB2 := hid (HB1.out.trans (hb2.mono HB1.out.size))
    have c4 := (hb2.cell (p := ⟨W.heap.size, 4, none⟩) (heap_lt HH1.out)).trans c4
    clear hmk h2 hw2 hb2 hZ
    go_wp2_with fail
    go_loopw [13, 15, 67] (fun v _ iv wr => ∃ (i : Nat) (A5 : Option Addr) (c5 : Nat), i ≤ n ∧ iv = .int .i64 (i : Int) ∧ v = .slice A5 (ln + 1) c5 ∧ Hid (EnR wr A5 (Tt.altsE tok rul L (subs.take i) fr Z) ∧ Below W.heap.size W wr)) (fun _ _ iv _ => n - (intOf iv).toNat)
    case atStart => exact ⟨0, _, _, Nat.zero_le _, rfl, rfl, hid ⟨by rw [List.take_zero, Tt.altsE]; exact HW2.out, HB2.out⟩⟩
    case round =>
      obtain ⟨i, A5, c5, hi, rfl, rfl, HI⟩ := hrel
      have hwi : IntKind.i64.wrap ((i : Int) + 1) = (i : Int) + 1 := w64 (by omega) (by omega)
      by_cases hlt : i < n
      · have hil : i < subs.length := by have := HN.out; omega
        have hltI : (i : Int) < (n : Int) := by omega
        have hbr := HB.out.trans (HI.out.2.mono HB.out.size)
        obtain ⟨b, o, u0, u1, u2, u3, u4, hUA, hbB, hnd, e0, e1, e2, e3, e4⟩ := readsNd HU.out HX.out i hil
        have HND := hid hnd
        obtain ⟨xk, xm, xt, xSA, xa, xsc, xUA, xb, xuc, hv⟩ := hnd.form
        cases hv
        have e0 := (hbr.cell (p := ⟨b, o + i * 5, none⟩) hbB).trans e0
        have e1 := (hbr.cell (p := ⟨b, o + i * 5 + 1, none⟩) hbB).trans e1
        have e2 := (hbr.cell (p := ⟨b, o + i * 5 + 2, none⟩) hbB).trans e2
        have e3 := (hbr.cell (p := ⟨b, o + i * 5 + 3, none⟩) hbB).trans e3
        have e4 := (hbr.cell (p := ⟨b, o + i * 5 + 4, none⟩) hbB).trans e4
        subst hUA
        clear hnd hbr
        go_upto_region 19 with fail
        have h5 := heap_alloc_new wr (.cells #[.int .u8 xk, .string xm, .string xt, .slice xSA xa xsc, .slice xUA xb xuc] 74)
        have hb5 := below_new wr (.cells #[.int .u8 xk, .string xm, .string xt, .slice xSA xa xsc, .slice xUA xb xuc] 74)
        generalize wr.alloc (.cells #[.int .u8 xk, .string xm, .string xt, .slice xSA xa xsc, .slice xUA xb xuc] 74) = W5 at h5 hb5 ⊢
        have k0 : W5.cell? ⟨wr.heap.size, 0, none⟩ = some (.int .u8 xk) := by rw [Lib.cell_of_heap h5]; rfl
        have k1 : W5.cell? ⟨wr.heap.size, 1, none⟩ = some (.string xm) := by rw [Lib.cell_of_heap h5]; rfl
        have k2 : W5.cell? ⟨wr.heap.size, 2, none⟩ = some (.string xt) := by rw [Lib.cell_of_heap h5]; rfl
        have k3 : W5.cell? ⟨wr.heap.size, 3, none⟩ = some (.slice xSA xa xsc) := by rw [Lib.cell_of_heap h5]; rfl
        have k4 : W5.cell? ⟨wr.heap.size, 4, none⟩ = some (.slice xUA xb xuc) := by rw [Lib.cell_of_heap h5]; rfl
        have hbw5 := HI.out.2.trans (hb5.mono HI.out.2.size)
        have hl5 := Tt.altsE_len tok rul L (subs.take i) fr Z HFL.out HZL.out
        rw [HZL.out] at hl5
        have hcall := IH.out i hil _ fr A c W5 HND.out (HB.out.trans (hbw5.mono HB.out.size)) (HA.out.next hbw5) HFL.out
        rw [HFL.out, HLN.out] at hcall
        have HCALL := hid hcall
        have HBW5 := hid hbw5
        have HR5 := hid (HI.out.1.next hb5)
        have HSN : Hid (Tt.withE (Tt.altsE tok rul L (subs.take i) fr Z) (Tt.nodeE tok rul L subs[i] fr) = Tt.altsE tok rul L (subs.take (i + 1)) fr Z) := hid (by rw [List.take_succ_eq_append_getElem hil, Tt.altsE_snoc])
        have HNL := hid (Tt.nodeE_len tok rul L subs[i] fr HFL.out)
        have HL5 := hid hl5
        clear hcall hbw5 hl5 h5 hb5 e0 e1 e2 e3 e4
        go_wp2_with (first
          | (go_at_call 85; refine HCALL.out.mono ?_; rintro _ W6 ⟨A6, c6, rfl, hr6, hb6⟩; have hwith := with_any A5 A6 c5 c6 (Tt.altsE tok rul L (subs.take i) fr Z) (Tt.nodeE tok rul L subs[i] fr) W6 (by rw [HNL.out, HL5.out]) (by rw [HL5.out, HFL.out]; omega) (by rw [HL5.out, HFL.out, HLN.out]; omega) (HR5.out.next hb6) hr6; rw [HL5.out, HNL.out, HFL.out, HLN.out] at hwith; have HWI := hid hwith; have HB6 := hid hb6; rw [HNL.out, HFL.out, HLN.out]; clear hwith hr6 hb6)
          | (go_at_call 119; refine HWI.out.mono ?_; rintro _ W7 ⟨A7, c7, rfl, hr7, hb7⟩; have HF7 := hid (And.intro hr7 hb7); rw [Tt.withE_len _ _ (by rw [HNL.out, HL5.out]), HL5.out, HFL.out, HLN.out]; clear hr7 hb7))
        go_roundw
        case rel => exact ⟨i + 1, A7, c7, hlt, by go_num, rfl, hid ⟨by rw [← HSN.out]; exact HF7.out.1, HBW5.out.trans ((HB6.out.mono HBW5.out.size).trans (HF7.out.2.mono (Nat.le_trans HBW5.out.size HB6.out.size)))⟩⟩
        case measure => simp only [intOf]; omega
      · have hie : i = n := by omega
        subst hie
        clear hlt
        go_wp2_with fail
        go_ret
        have hfin := HI.out
        rw [← HN.out, List.take_length, ← HQ.out] at hfin
        refine ⟨A5, c5, ?_, hfin⟩
        rw [HQ.out, Tt.altsE_len tok rul L subs fr Z HFL.out HZL.out, HZL.out, HFL.out, HLN.out]
        rfl
mutual
theorem node_any {cb br bt : Nat} {BA : Option Addr} {bc : Nat} {tok rul : List UInt8 → Option Int} {bodies : List Gr.Nd} {xsb : List Value} (hck : ChkAt w0 cb br bt BA bc tok rul bodies xsb) (TA : Option Addr) (tc : Nat) (L : List Rp.Tr) (xs : List Value) (hr : Reads w0 w0.heap.size 5 TA L.length xs) (hv : TrsR w0 w0.heap.size L xs) (hLn : L.length < 1000000000) :
    ∀ nd : Gr.Nd, Tt.starless tok rul nd → NodeP w0 cb tok rul TA tc L nd
  | .mk k nm t s subs, hst => by
    have h := hst
    unfold Tt.starless at h
    exact node_step hck TA tc L xs hr hv hLn k nm t s subs hst (node_all hck TA tc L xs hr hv hLn subs h.2.2)
theorem node_all {cb br bt : Nat} {BA : Option Addr} {bc : Nat} {tok rul : List UInt8 → Option Int} {bodies : List Gr.Nd} {xsb : List Value} (hck : ChkAt w0 cb br bt BA bc tok rul bodies xsb) (TA : Option Addr) (tc : Nat) (L : List Rp.Tr) (xs : List Value) (hr : Reads w0 w0.heap.size 5 TA L.length xs) (hv : TrsR w0 w0.heap.size L xs) (hLn : L.length < 1000000000) :
    ∀ subs : List Gr.Nd, Tt.starlessL tok rul subs → ∀ i (hi : i < subs.length), NodeP w0 cb tok rul TA tc L subs[i]
  | [], _, i, hi => absurd hi (Nat.not_lt_zero _)
  | x :: r, h, i, hi => by
    unfold Tt.starlessL at h
    cases i with
    | zero => exact node_any hck TA tc L xs hr hv hLn x h.1
    | succ i => exact node_all hck TA tc L xs hr hv hLn r h.2 i (by simpa using hi)
end
end
end Go.Proofs.YtpbnfinmjnpkpaaGreatDoor
/-
  What is wrong with one part of a tree ((*trees.Checker).part): the walk.
-/
namespace Go.Proofs.YtpbnfinmjnpkpaaGreatDoor
open Go.RowKit Go.Maps
set_option maxRecDepth 100000
namespace Tt
/-- what is wrong with a part by itself: 1 its kind, 2 its token -/
def partF (nb : Nat) (w : List Int) : Rp.Tr → Nat
  | .node r tk k er l =>
    if r < -1 ∨ (nb : Int) ≤ r ∨ er = true then 1
    else if r = -1 ∧ (l ≠ [] ∨ tk < 0 ∨ (w.length : Int) ≤ tk ∨ w[tk.toNat]? ≠ some k) then 2
    else 0
end Tt
section
variable {w0 : World}
set_option maxHeartbeats 8000000 in
theorem part_any {cb br bt : Nat} {BA : Option Addr} {bc : Nat} {tok rul : List UInt8 → Option Int} {bodies : List Gr.Nd} {xsb : List Value} (hck : ChkAt w0 cb br bt BA bc tok rul bodies xsb) (t : Rp.Tr) (cs : List Value) (ws : List Int) (WA : Option Addr) (wc : Nat) (W : World) (hn : TrR w0 w0.heap.size t cs) (hw : Reads w0 w0.heap.size 1 WA ws.length (ws.map (Value.int .i64))) (hb : Below w0.heap.size w0 W) :
    Calls Tryz.prog 46 #[.pointer (some ⟨cb, 0, none⟩), .agg cs.toArray, .slice WA ws.length wc] W fun e W' => e = .returned (.int .u8 (Tt.partF bodies.length ws t : Nat)) ∧ Below W.heap.size W W' := by
  obtain ⟨r, tk, kd, er, L⟩ := t
  unfold TrR at hn
  obtain ⟨A, c, xs, rfl, _⟩ := hn
  obtain ⟨ln, hln⟩ : ∃ n, L.length = n := ⟨_, rfl⟩
  obtain ⟨wl, hwl⟩ : ∃ n, ws.length = n := ⟨_, rfl⟩
  obtain ⟨nb, hnb⟩ : ∃ n, bodies.length = n := ⟨_, rfl⟩
  obtain ⟨pf, hpf⟩ : ∃ n, Tt.partF bodies.length ws (.node r tk kd er L) = n := ⟨_, rfl⟩
  have h1 := heap_alloc_new W (.cells #[.int .i64 r, .int .i64 tk, .int .i64 kd, .bool er, .slice A L.length c] 24)
  have hb1 := below_new W (.cells #[.int .i64 r, .int .i64 tk, .int .i64 kd, .bool er, .slice A L.length c] 24)
  obtain ⟨W1, hW1⟩ : ∃ W1, Hid (W.alloc (.cells #[.int .i64 r, .int .i64 tk, .int .i64 kd, .bool er, .slice A L.length c] 24) = W1) := ⟨_, hid rfl⟩
  rw [hW1.out] at h1 hb1
  have hck1 := hck.next (hb.trans (hb1.mono hb.size))
  have HPF := hid hpf
  rw [hpf]
  rw [hln] at h1 hW1 ⊢
  rw [hwl]
  have c0 : W1.cell? ⟨W.heap.size, 0, none⟩ = some (.int .i64 r) := by rw [Lib.cell_of_heap h1]; rfl
  have c1 : W1.cell? ⟨W.heap.size, 1, none⟩ = some (.int .i64 tk) := by rw [Lib.cell_of_heap h1]; rfl
  have c2 : W1.cell? ⟨W.heap.size, 2, none⟩ = some (.int .i64 kd) := by rw [Lib.cell_of_heap h1]; rfl
  have c3 : W1.cell? ⟨W.heap.size, 3, none⟩ = some (.bool er) := by rw [Lib.cell_of_heap h1]; rfl
  have c4 : W1.cell? ⟨W.heap.size, 4, none⟩ = some (.slice A ln c) := by rw [Lib.cell_of_heap h1]; rfl
  have c5 : W1.cell? ⟨cb, 2, none⟩ = some (.slice BA nb bc) := by rw [Lib.cell_of_heap hck1.box, ← hnb]; rfl
  have HH1 := hid h1
  have HB1 := hid hb1
  have HWR := hid ((hw.below (hb.trans (hb1.mono hb.size))).more (hb.trans (hb1.mono hb.size)).size)
  have HLN := hid hln
  have HWL := hid hwl
  have HNB := hid hnb
  have hpf1 := fun h => hid (show pf = 1 by rw [← hpf, Tt.partF, if_pos h])
  have hpf2 := fun h h' => hid (show pf = 2 by rw [← hpf, Tt.partF, if_neg h, if_pos h'])
  have hpf0 := fun h h' => hid (show pf = 0 by rw [← hpf, Tt.partF, if_neg h, if_neg h'])
  rw [hnb] at hpf1 hpf2 hpf0
  rw [hwl] at hpf2 hpf0
  have HP1 := hid hpf1
  have HP2 := hid hpf2
  have HP0 := hid hpf0
  clear hpf1 hpf2 hpf0 hpf hln hwl hnb h1 hb1 hck1 hck hw hb
  go_enter Tryz.func46, Tryz.ntmps46
  go_upto_region 1 with fail
  rw [hW1.out]
  clear hW1
  by_cases g1 : r < -1
  · have f1 : decide (r < -1) = true := decide_eq_true g1
    have HPZ := HP1.out (.inl g1)
    have c0' := fun d os => cell_regrown c0 d os
    have c3' := fun d os => cell_regrown c3 d os
    have c5' := fun d os => cell_regrown c5 d os
    refine wp_region_quiet_below (by kernel_rfl) (by kernel_rfl) ?_
    refine Boxd.out ?_
    repeat (refine wpQuiet_step4 (fun K hK => ?_); go_simp; (refine hK _ ?_; clear hK K))
    refine ⟨wpQuiet_nil ?_⟩
    rintro _ ⟨⟨dq, osq⟩, rfl⟩
    have hb := below_regrown W1 dq osq
    generalize Sort.grow (redrawn W1 dq) osq = W2 at hb ⊢
    have HBZ := hid (HB1.out.trans (hb.mono HB1.out.size))
    clear hb
    clear c0 c1 c2 c3 c4 c5 c0' c3' c5'
    go_wp2_with fail
    go_ret
    exact ⟨by rw [HPZ.out]; rfl, HBZ.out⟩
  · have f1 : decide (r < -1) = false := decide_eq_false g1
    by_cases g2 : (nb : Int) ≤ r
    · have f2 : decide ((nb : Int) ≤ r) = true := decide_eq_true g2
      have HPZ := HP1.out (.inr (.inl g2))
      have c0' := fun d os => cell_regrown c0 d os
      have c3' := fun d os => cell_regrown c3 d os
      have c5' := fun d os => cell_regrown c5 d os
      refine wp_region_quiet_below (by kernel_rfl) (by kernel_rfl) ?_
      refine Boxd.out ?_
      repeat (refine wpQuiet_step4 (fun K hK => ?_); go_simp; (refine hK _ ?_; clear hK K))
      refine ⟨wpQuiet_nil ?_⟩
      rintro _ ⟨⟨dq, osq⟩, rfl⟩
      have hb := below_regrown W1 dq osq
      generalize Sort.grow (redrawn W1 dq) osq = W2 at hb ⊢
      have HBZ := hid (HB1.out.trans (hb.mono HB1.out.size))
      clear hb
      clear c0 c1 c2 c3 c4 c5 c0' c3' c5'
      go_wp2_with fail
      go_ret
      exact ⟨by rw [HPZ.out]; rfl, HBZ.out⟩
    · have f2 : decide ((nb : Int) ≤ r) = false := decide_eq_false g2
      cases er
      · have hno : ¬ (r < -1 ∨ (nb : Int) ≤ r ∨ false = true) := by rintro (h | h | h); exact g1 h; exact g2 h; cases h
        have HNO := hid hno
        clear hno
        have c0' := fun d os => cell_regrown c0 d os
        have c3' := fun d os => cell_regrown c3 d os
        have c5' := fun d os => cell_regrown c5 d os
        refine wp_region_quiet_below (by kernel_rfl) (by kernel_rfl) ?_
        refine Boxd.out ?_
        repeat (refine wpQuiet_step4 (fun K hK => ?_); go_simp; (refine hK _ ?_; clear hK K))
        refine ⟨wpQuiet_nil ?_⟩
        rintro _ ⟨⟨dq, osq⟩, rfl⟩
        have hb := below_regrown W1 dq osq
        generalize Sort.grow (redrawn W1 dq) osq = W2 at hb ⊢
        have HB2 := hid (HB1.out.trans (hb.mono HB1.out.size))
        have c0 := (hb.cell (p := ⟨W.heap.size, 0, none⟩) (heap_lt HH1.out)).trans c0
        have c1 := (hb.cell (p := ⟨W.heap.size, 1, none⟩) (heap_lt HH1.out)).trans c1
        have c2 := (hb.cell (p := ⟨W.heap.size, 2, none⟩) (heap_lt HH1.out)).trans c2
        have c4 := (hb.cell (p := ⟨W.heap.size, 4, none⟩) (heap_lt HH1.out)).trans c4
        have HWR2 := hid (HWR.out.below hb)
        clear hb c3 c5 c0' c3' c5'
        go_upto_region 3 with fail
        by_cases g3 : r = -1
        · have f3 : (r == -1) = true := by simp [g3]
          by_cases g4 : 0 < ln
          · have f4 : decide ((0 : Int) < (ln : Int)) = true := decide_eq_true (by omega)
            have f4' : decide (0 < ln) = true := decide_eq_true g4
            have HPZ := HP2.out HNO.out ⟨g3, .inl (fun e => by have := HLN.out; rw [e] at this; simp at this; omega)⟩
            clear g3
            have c0' := fun d os => cell_regrown c0 d os
            have c1' := fun d os => cell_regrown c1 d os
            have c2' := fun d os => cell_regrown c2 d os
            have c4' := fun d os => cell_regrown c4 d os
            refine wp_region_quiet_below (by kernel_rfl) (by kernel_rfl) ?_
            refine Boxd.out ?_
            repeat (refine wpQuiet_step4 (fun K hK => ?_); go_simp; (refine hK _ ?_; clear hK K))
            refine ⟨wpQuiet_nil ?_⟩
            rintro _ ⟨⟨dq, osq⟩, rfl⟩
            have hb := below_regrown W2 dq osq
            generalize Sort.grow (redrawn W2 dq) osq = W3 at hb ⊢
            have HBZ := hid (HB2.out.trans (hb.mono HB2.out.size))
            clear hb
            clear c0 c1 c2 c4 c0' c1' c2' c4'
            go_wp2_with fail
            go_ret
            exact ⟨by rw [HPZ.out]; rfl, HBZ.out⟩
          · have hl0 : ln = 0 := by omega
            have hLe : L = [] := List.length_eq_zero_iff.1 (HLN.out.trans hl0)
            have HLE := hid hLe
            clear hLe
            subst hl0
            by_cases g5 : tk < 0
            · have f5 : decide (tk < 0) = true := decide_eq_true g5
              have HPZ := HP2.out HNO.out ⟨g3, .inr (.inl g5)⟩
              clear g3
              have c0' := fun d os => cell_regrown c0 d os
              have c1' := fun d os => cell_regrown c1 d os
              have c2' := fun d os => cell_regrown c2 d os
              have c4' := fun d os => cell_regrown c4 d os
              refine wp_region_quiet_below (by kernel_rfl) (by kernel_rfl) ?_
              refine Boxd.out ?_
              repeat (refine wpQuiet_step4 (fun K hK => ?_); go_simp; (refine hK _ ?_; clear hK K))
              refine ⟨wpQuiet_nil ?_⟩
              rintro _ ⟨⟨dq, osq⟩, rfl⟩
              have hb := below_regrown W2 dq osq
              generalize Sort.grow (redrawn W2 dq) osq = W3 at hb ⊢
              have HBZ := hid (HB2.out.trans (hb.mono HB2.out.size))
              clear hb
              clear c0 c1 c2 c4 c0' c1' c2' c4'
              go_wp2_with fail
              go_ret
              exact ⟨by rw [HPZ.out]; rfl, HBZ.out⟩
            · have f5 : decide (tk < 0) = false := decide_eq_false g5
              by_cases g6 : (wl : Int) ≤ tk
              · have f6 : decide ((wl : Int) ≤ tk) = true := decide_eq_true g6
                have HPZ := HP2.out HNO.out ⟨g3, .inr (.inr (.inl g6))⟩
                clear g3
                have c0' := fun d os => cell_regrown c0 d os
                have c1' := fun d os => cell_regrown c1 d os
                have c2' := fun d os => cell_regrown c2 d os
                have c4' := fun d os => cell_regrown c4 d os
                refine wp_region_quiet_below (by kernel_rfl) (by kernel_rfl) ?_
                refine Boxd.out ?_
                repeat (refine wpQuiet_step4 (fun K hK => ?_); go_simp; (refine hK _ ?_; clear hK K))
                refine ⟨wpQuiet_nil ?_⟩
                rintro _ ⟨⟨dq, osq⟩, rfl⟩
                have hb := below_regrown W2 dq osq
                generalize Sort.grow (redrawn W2 dq) osq = W3 at hb ⊢
                have HBZ := hid (HB2.out.trans (hb.mono HB2.out.size))
                clear hb
                clear c0 c1 c2 c4 c0' c1' c2' c4'
                go_wp2_with fail
                go_ret
                exact ⟨by rw [HPZ.out]; rfl, HBZ.out⟩
              · have f6 : decide ((wl : Int) ≤ tk) = false := decide_eq_false g6
                obtain ⟨tn, rfl⟩ : ∃ n : Nat, tk = (n : Int) := ⟨tk.toNat, by omega⟩
                have htl : tn < ws.length := by have := HWL.out; omega
                obtain ⟨wb, wo, hWA, hwb, hwc⟩ := HWR2.out.2 (by omega)
                have cw := hwc tn (.int .i64 ws[tn]) (by rw [List.getElem?_map, List.getElem?_eq_getElem htl]; rfl)
                obtain ⟨y, hy⟩ : ∃ y, ws[tn] = y := ⟨_, rfl⟩
                rw [hy] at cw
                have hgy : ws[((tn : Nat) : Int).toNat]? = some y := by rw [Int.toNat_natCast, List.getElem?_eq_getElem htl, hy]
                have HGY := hid hgy
                have g6I : (tn : Int) < (wl : Int) := by omega
                have g6N : tn < wl := by omega
                subst hWA
                by_cases g7 : y = kd
                · have f7 : (y != kd) = false := by simp [g7]
                  have HPZ := HP0.out HNO.out (by rintro ⟨_, h | h | h | h⟩; exact h HLE.out; omega; omega; exact h (by rw [HGY.out, g7]))
                  clear g3 hgy hwc hwb hy htl g7
                  have c0' := fun d os => cell_regrown c0 d os
                  have c1' := fun d os => cell_regrown c1 d os
                  have c2' := fun d os => cell_regrown c2 d os
                  have c4' := fun d os => cell_regrown c4 d os
                  have cw' := fun d os => cell_regrown cw d os
                  refine wp_region_quiet_below (by kernel_rfl) (by kernel_rfl) ?_
                  refine Boxd.out ?_
                  repeat (refine wpQuiet_step4 (fun K hK => ?_); go_simp; (refine hK _ ?_; clear hK K))
                  refine ⟨wpQuiet_nil ?_⟩
                  rintro _ ⟨⟨dq, osq⟩, rfl⟩
                  have hb := below_regrown W2 dq osq
                  generalize Sort.grow (redrawn W2 dq) osq = W3 at hb ⊢
                  have HBZ := hid (HB2.out.trans (hb.mono HB2.out.size))
                  clear hb
                  clear c0 c1 c2 c4 c0' c1' c2' c4' cw cw'
                  go_wp2_with fail
                  go_ret
                  exact ⟨by rw [HPZ.out]; rfl, HBZ.out⟩
                · have f7 : (y != kd) = true := by simp [g7]
                  have HPZ := HP2.out HNO.out ⟨g3, .inr (.inr (.inr (by rw [HGY.out]; intro h; injection h with h; exact g7 h)))⟩
                  clear g3 hgy hwc hwb hy htl g7
                  have c0' := fun d os => cell_regrown c0 d os
                  have c1' := fun d os => cell_regrown c1 d os
                  have c2' := fun d os => cell_regrown c2 d os
                  have c4' := fun d os => cell_regrown c4 d os
                  have cw' := fun d os => cell_regrown cw d os
                  refine wp_region_quiet_below (by kernel_rfl) (by kernel_rfl) ?_
                  refine Boxd.out ?_
                  repeat (refine wpQuiet_step4 (fun K hK => ?_); go_simp; (refine hK _ ?_; clear hK K))
                  refine ⟨wpQuiet_nil ?_⟩
                  rintro _ ⟨⟨dq, osq⟩, rfl⟩
                  have hb := below_regrown W2 dq osq
                  generalize Sort.grow (redrawn W2 dq) osq = W3 at hb ⊢
                  have HBZ := hid (HB2.out.trans (hb.mono HB2.out.size))
                  clear hb
                  clear c0 c1 c2 c4 c0' c1' c2' c4' cw cw'
                  go_wp2_with fail
                  go_ret
                  exact ⟨by rw [HPZ.out]; rfl, HBZ.out⟩
        · have f3 : (r == -1) = false := by simp [g3]
          have HPZ := HP0.out HNO.out (fun h => g3 h.1)
          clear g3
          have c0' := fun d os => cell_regrown c0 d os
          have c1' := fun d os => cell_regrown c1 d os
          have c2' := fun d os => cell_regrown c2 d os
          have c4' := fun d os => cell_regrown c4 d os
          refine wp_region_quiet_below (by kernel_rfl) (by kernel_rfl) ?_
          refine Boxd.out ?_
          repeat (refine wpQuiet_step4 (fun K hK => ?_); go_simp; (refine hK _ ?_; clear hK K))
          refine ⟨wpQuiet_nil ?_⟩
          rintro _ ⟨⟨dq, osq⟩, rfl⟩
          have hb := below_regrown W2 dq osq
          generalize Sort.grow (redrawn W2 dq) osq = W3 at hb ⊢
          have HBZ := hid (HB2.out.trans (hb.mono HB2.out.size))
          clear hb
          clear c0 c1 c2 c4 c0' c1' c2' c4'
          go_wp2_with fail
          go_ret
          exact ⟨by rw [HPZ.out]; rfl, HBZ.out⟩
      · have HPZ := HP1.out (.inr (.inr rfl))
        have c0' := fun d os => cell_regrown c0 d os
        have c3' := fun d os => cell_regrown c3 d os
        have c5' := fun d os => cell_regrown c5 d os
        refine wp_region_quiet_below (by kernel_rfl) (by kernel_rfl) ?_
        refine Boxd.out ?_
        repeat (refine wpQuiet_step4 (fun K hK => ?_); go_simp; (refine hK _ ?_; clear hK K))
        refine ⟨wpQuiet_nil ?_⟩
        rintro _ ⟨⟨dq, osq⟩, rfl⟩
        have hb := below_regrown W1 dq osq
        generalize Sort.grow (redrawn W1 dq) osq = W2 at hb ⊢
        have HBZ := hid (HB1.out.trans (hb.mono HB1.out.size))
        clear hb
        clear c0 c1 c2 c3 c4 c5 c0' c3' c5'
        go_wp2_with fail
        go_ret
        exact ⟨by rw [HPZ.out]; rfl, HBZ.out⟩
end
end Go.Proofs.YtpbnfinmjnpkpaaGreatDoor
/-
  Does a rule's body fit its trees ((*trees.Checker).fits): the walk, for bodies without '?', '*', '+'.
-/
namespace Go.Proofs.YtpbnfinmjnpkpaaGreatDoor
open Go.RowKit Go.Maps
set_option maxRecDepth 100000
namespace Tt
/-- does the body of a tree's rule fit its Subs? -/
def fitsB (tok rul : List UInt8 → Option Int) (bodies : List Gr.Nd) : Rp.Tr → Bool
  | .node r _ _ _ l => match bodies[r.toNat]? with
    | none => false
    | some nd => (nodeE tok rul l nd (true :: List.replicate l.length false))[l.length]?.getD false
end Tt
theorem EnR.last {W : World} {A : Option Addr} {bs : List Bool} {n : Nat} (h : EnR W A bs) (hn : bs.length = n + 1) : ∃ b o res, A = some ⟨b, o, none⟩ ∧ W.cell? ⟨b, o + n, none⟩ = some (.bool res) ∧ bs[n]? = some res := by
  obtain ⟨b, o, hA, _, hc⟩ := h.cell (by omega)
  exact ⟨b, o, bs[n]'(by omega), hA, hc n (by omega), List.getElem?_eq_getElem _⟩
theorem below_undrew {W W' : World} (h : Below W.drew.heap.size W.drew W') : Below W.heap.size W W' := ⟨h.os, h.tape, h.output, h.size, h.block⟩
section
variable {w0 : World}
set_option maxHeartbeats 8000000 in
theorem fits_any {cb br bt : Nat} {BA : Option Addr} {bc : Nat} {tok rul : List UInt8 → Option Int} {bodies : List Gr.Nd} {xsb : List Value} (hck : ChkAt w0 cb br bt BA bc tok rul bodies xsb) (hst : ∀ i (hi : i < bodies.length), Tt.starless tok rul bodies[i]) (rn : Nat) (tk kd : Int) (er : Bool) (L : List Rp.Tr) (cs : List Value) (W : World)
    (hn : TrR w0 w0.heap.size (.node (rn : Int) tk kd er L) cs) (hrn : rn < bodies.length) (hLn : L.length < 1000000000) (hb : Below w0.heap.size w0 W) :
    Calls Tryz.prog 47 #[.pointer (some ⟨cb, 0, none⟩), .agg cs.toArray] W fun e W' => e = .returned (.bool (Tt.fitsB tok rul bodies (.node (rn : Int) tk kd er L))) ∧ Below W.heap.size W W' := by
  unfold TrR at hn
  obtain ⟨A, c, xs, rfl, hr, hv⟩ := hn
  obtain ⟨ln, hln⟩ : ∃ n, L.length = n := ⟨_, rfl⟩
  obtain ⟨FR, hFR⟩ : ∃ FR, FR = true :: List.replicate L.length false := ⟨_, rfl⟩
  have hQ : Tt.fitsB tok rul bodies (.node (rn : Int) tk kd er L) = (Tt.nodeE tok rul L bodies[rn] FR)[L.length]?.getD false := by
    simp only [Tt.fitsB, Int.toNat_natCast, List.getElem?_eq_getElem hrn, hFR]
  have hfl : FR.length = L.length + 1 := by rw [hFR]; simp
  have hnl := Tt.nodeE_len tok rul L bodies[rn] _ hfl
  have h1 := heap_alloc_new W (.cells #[.int .i64 (rn : Int), .int .i64 tk, .int .i64 kd, .bool er, .slice A L.length c] 24)
  have hb1 := below_new W (.cells #[.int .i64 (rn : Int), .int .i64 tk, .int .i64 kd, .bool er, .slice A L.length c] 24)
  obtain ⟨W1, hW1⟩ : ∃ W1, Hid (W.alloc (.cells #[.int .i64 (rn : Int), .int .i64 tk, .int .i64 kd, .bool er, .slice A L.length c] 24) = W1) := ⟨_, hid rfl⟩
  rw [hW1.out] at h1 hb1
  rw [hln] at h1 hW1 ⊢
  have hln6 : ln < 1000000000 := by omega
  have c4 : W1.cell? ⟨W.heap.size, 4, none⟩ = some (.slice A ln c) := by rw [Lib.cell_of_heap h1]; rfl
  have hmk : ∀ u : World, (Instr.makeSlice 156 (.int .i64 ((ln : Int) + 1)) (.int .i64 ((ln : Int) + 1))).run Tryz.prog u = .ok (.slice (some ⟨u.heap.size, 0, none⟩) (ln + 1) (ln + 1)) (u.alloc (.cells (Array.replicate (ln + 1) (Value.bool false)) 4)) := fun u => by
    have h := mkEnds (ln + 1) (by omega) u
    rw [show ((ln + 1 : Nat) : Int) = (ln : Int) + 1 by omega] at h
    exact h
  have hw1 : IntKind.i64.wrap ((ln : Int) + 1) = (ln : Int) + 1 := w64 (by omega) (by omega)
  have HQ := hid hQ
  have HFR := hid hFR
  have HFL := hid hfl
  have HNL := hid hnl
  have HLN := hid hln
  have HH1 := hid h1
  have HB1 := hid hb1
  have HB := hid hb
  have HCK := hid hck
  have HR := hid hr
  have HV := hid hv
  have HST := hid hst
  clear hQ hFR hfl hnl hln h1 hb1 hb hck hr hv hst hLn
  go_enter Tryz.func47, Tryz.ntmps47
  go_upto_region 1 with fail
  rw [hW1.out]
  clear hW1
  go_upto_region 2 with fail
  have h2 := heap_alloc_new W1 (.cells (Array.replicate (ln + 1) (Value.bool false)) 4)
  have hb2 := below_new W1 (.cells (Array.replicate (ln + 1) (Value.bool false)) 4)
  generalize W1.alloc (.cells (Array.replicate (ln + 1) (Value.bool false)) 4) = W2 at h2 hb2 ⊢
  have hw2 : EnW W2 W1.heap.size (List.replicate (ln + 1) false) [] := by
    unfold EnW
    rw [h2, List.append_nil, List.map_replicate]
    simp
  have e0 := hw2.cell 0 (by simp)
  simp only [List.getElem_replicate] at e0
  have f0 := Lib.frozen_of_heap hw2 0
  have i0 : (0 : Int) < (ln : Int) + 1 := by omega
  have hw3 := hw2.set 0 (by simp) true
  rw [List.replicate_succ, List.set_cons_zero] at hw3
  have ho3 := Only.of_set W2 W1.heap.size 0 (.bool true)
  have HB2 := hid hb2
  clear hw2 hb2 h2 hmk
  go_upto_region 3 with fail
  generalize W2.setCell ⟨W1.heap.size, 0, none⟩ (.bool true) = W3 at hw3 ho3 ⊢
  have hb3 : Below W.heap.size W W3 := ho3.below (fun k e => by have := HB1.out.size; omega) (HB1.out.trans (HB2.out.mono HB1.out.size)) (Nat.le_trans HB1.out.size HB2.out.size)
  have h03 := HB.out.trans (hb3.mono HB.out.size)
  have hx3 : W3.heap[W.heap.size]? = some (.cells #[.int .i64 (rn : Int), .int .i64 tk, .int .i64 kd, .bool er, .slice A ln c] 24 (0, 0)) := (ho3.block _ (by have := heap_lt HH1.out; have := HB2.out.size; omega) (by have := heap_lt HH1.out; omega)).trans ((HB2.out.block _ (heap_lt HH1.out)).trans HH1.out)
  obtain ⟨bb, bo, v0, v1, v2, v3, v4, hBA, hbb, hnd, q0, q1, q2, q3, q4⟩ := readsNd HCK.out.rows HCK.out.nds rn hrn
  have HND := hid hnd
  obtain ⟨xk, xm, xt, xSA, xa, xsc, xUA, xb, xuc, hv⟩ := hnd.form
  cases hv
  obtain ⟨nb, hnb⟩ : ∃ n, bodies.length = n := ⟨_, rfl⟩
  have hcn := node_any HCK.out A c L xs HR.out HV.out (by have := HLN.out; omega) bodies[rn] (HST.out rn hrn) _ FR (some ⟨W1.heap.size, 0, none⟩) (ln + 1) W3.drew HND.out h03.drew (by rw [HFR.out, HLN.out]; exact hw3.reads) HFL.out
  rw [HFL.out, HLN.out] at hcn
  have hck3 := HCK.out.next h03
  have HST3 := hid (fun (u : World) (hb : Below W3.heap.size W3 u) => (show u.cell? ⟨cb, 2, none⟩ = some (.slice (some ⟨bb, bo, none⟩) nb bc) ∧ u.cell? ⟨W.heap.size, 0, none⟩ = some (.int .i64 (rn : Int)) ∧ u.cell? ⟨W.heap.size, 4, none⟩ = some (.slice A ln c) ∧ u.cell? ⟨bb, bo + rn * 5, none⟩ = some (.int .u8 xk) ∧ u.cell? ⟨bb, bo + rn * 5 + 1, none⟩ = some (.string xm) ∧ u.cell? ⟨bb, bo + rn * 5 + 2, none⟩ = some (.string xt) ∧ u.cell? ⟨bb, bo + rn * 5 + 3, none⟩ = some (.slice xSA xa xsc) ∧ u.cell? ⟨bb, bo + rn * 5 + 4, none⟩ = some (.slice xUA xb xuc) from by
    have h0u := h03.trans (hb.mono h03.size)
    refine ⟨?_, ?_, ?_, (h0u.cell (p := ⟨bb, bo + rn * 5, none⟩) hbb).trans q0, (h0u.cell (p := ⟨bb, bo + rn * 5 + 1, none⟩) hbb).trans q1, (h0u.cell (p := ⟨bb, bo + rn * 5 + 2, none⟩) hbb).trans q2, (h0u.cell (p := ⟨bb, bo + rn * 5 + 3, none⟩) hbb).trans q3, (h0u.cell (p := ⟨bb, bo + rn * 5 + 4, none⟩) hbb).trans q4⟩
    · rw [Lib.cell_of_heap ((hb.block _ (heap_lt hck3.box)).trans hck3.box), ← hnb, ← hBA]; rfl
    · rw [Lib.cell_of_heap ((hb.block _ (heap_lt hx3)).trans hx3)]; rfl
    · rw [Lib.cell_of_heap ((hb.block _ (heap_lt hx3)).trans hx3)]; rfl))
  have hs3 := HST3.out W3 (Below.refl _ _)
  have hr0 : (0 : Int) ≤ (rn : Int) := by omega
  have hrl : (rn : Int) < (nb : Int) := by omega
  have hrlN : rn < nb := by omega
  have hl0 : (0 : Int) ≤ (ln : Int) := by omega
  have hll : (ln : Int) < (ln : Int) + 1 := by omega
  have HCN := hid hcn
  have HNX := hid (show (Tt.nodeE tok rul L bodies[rn] FR).length = ln + 1 by rw [HNL.out, HFL.out, HLN.out])
  have HB3 := hid hb3
  clear hw3 ho3 hb3 h03 hx3 hnd q0 q1 q2 q3 q4 hcn hck3 hnb hBA c4 e0 f0 hbb
  refine wp_region_late (l := 19) (S := fun u => u.cell? ⟨cb, 2, none⟩ = some (.slice (some ⟨bb, bo, none⟩) nb bc) ∧ u.cell? ⟨W.heap.size, 0, none⟩ = some (.int .i64 (rn : Int)) ∧ u.cell? ⟨W.heap.size, 4, none⟩ = some (.slice A ln c) ∧ u.cell? ⟨bb, bo + rn * 5, none⟩ = some (.int .u8 xk) ∧ u.cell? ⟨bb, bo + rn * 5 + 1, none⟩ = some (.string xm) ∧ u.cell? ⟨bb, bo + rn * 5 + 2, none⟩ = some (.string xt) ∧ u.cell? ⟨bb, bo + rn * 5 + 3, none⟩ = some (.slice xSA xa xsc) ∧ u.cell? ⟨bb, bo + rn * 5 + 4, none⟩ = some (.slice xUA xb xuc)) (by kernel_rfl) (HST3.out _ (Below.refl _ _).drew) (fun hHeld => ?_)
  refine wpAnyF_take (i := 0) (.pointer (some ⟨cb, 0, none⟩)) rfl (by kernel_rfl) (by kernel_rfl) (by kernel_rfl) (by kernel_rfl) (fun _ _ _ h => h) hHeld (by rfl) (fun w' hSw => ?_) ?_
  · obtain ⟨s0, s1, s2, s3, s4, s5, s6, s7⟩ := hSw; go_simp
  try simp only [Act.put, List.getElem_toArray, List.getElem_cons_zero, List.setIfInBounds_toArray, List.set_cons_zero, List.set_cons_succ]
  refine wpAnyF_take (i := 1) (.pointer (some ⟨cb, 0, none⟩)) rfl (by kernel_rfl) (by kernel_rfl) (by kernel_rfl) (by kernel_rfl) (fun _ _ _ h => h) hHeld (by rfl) (fun w' hSw => ?_) ?_
  · obtain ⟨s0, s1, s2, s3, s4, s5, s6, s7⟩ := hSw; go_simp
  try simp only [Act.put, List.getElem_toArray, List.getElem_cons_zero, List.getElem_cons_succ, List.setIfInBounds_toArray, List.set_cons_zero, List.set_cons_succ]
  refine wpAnyF_take (i := 2) (.pointer (some ⟨cb, 0, none⟩)) rfl (by kernel_rfl) (by kernel_rfl) (by kernel_rfl) (by kernel_rfl) (fun _ _ _ h => h) hHeld (by rfl) (fun w' hSw => ?_) ?_
  · obtain ⟨s0, s1, s2, s3, s4, s5, s6, s7⟩ := hSw; go_simp
  try simp only [Act.put, List.getElem_toArray, List.getElem_cons_zero, List.getElem_cons_succ, List.setIfInBounds_toArray, List.set_cons_zero, List.set_cons_succ]
  refine wpAnyF_take (i := 3) (.pointer (some ⟨cb, 2, none⟩)) rfl (by kernel_rfl) (by kernel_rfl) (by kernel_rfl) (by kernel_rfl) (fun _ _ _ h => h) hHeld (by rfl) (fun w' hSw => ?_) ?_
  · obtain ⟨s0, s1, s2, s3, s4, s5, s6, s7⟩ := hSw; go_simp
  try simp only [Act.put, List.getElem_toArray, List.getElem_cons_zero, List.getElem_cons_succ, List.setIfInBounds_toArray, List.set_cons_zero, List.set_cons_succ]
  refine wpAnyF_take (i := 4) (.slice (some ⟨bb, bo, none⟩) nb bc) rfl (by kernel_rfl) (by kernel_rfl) (by kernel_rfl) (by kernel_rfl) (fun _ _ _ h => h) hHeld (by rfl) (fun w' hSw => ?_) ?_
  · obtain ⟨s0, s1, s2, s3, s4, s5, s6, s7⟩ := hSw; go_simp
  try simp only [Act.put, List.getElem_toArray, List.getElem_cons_zero, List.getElem_cons_succ, List.setIfInBounds_toArray, List.set_cons_zero, List.set_cons_succ]
  refine wpAnyF_take (i := 5) (.pointer (some ⟨W.heap.size, 0, none⟩)) rfl (by kernel_rfl) (by kernel_rfl) (by kernel_rfl) (by kernel_rfl) (fun _ _ _ h => h) hHeld (by rfl) (fun w' hSw => ?_) ?_
  · obtain ⟨s0, s1, s2, s3, s4, s5, s6, s7⟩ := hSw; go_simp
  try simp only [Act.put, List.getElem_toArray, List.getElem_cons_zero, List.getElem_cons_succ, List.setIfInBounds_toArray, List.set_cons_zero, List.set_cons_succ]
  refine wpAnyF_take (i := 6) (.int .i64 (rn : Int)) rfl (by kernel_rfl) (by kernel_rfl) (by kernel_rfl) (by kernel_rfl) (fun _ _ _ h => h) hHeld (by rfl) (fun w' hSw => ?_) ?_
  · obtain ⟨s0, s1, s2, s3, s4, s5, s6, s7⟩ := hSw; go_simp
  try simp only [Act.put, List.getElem_toArray, List.getElem_cons_zero, List.getElem_cons_succ, List.setIfInBounds_toArray, List.set_cons_zero, List.set_cons_succ]
  refine wpAnyF_take (i := 7) (.pointer (some ⟨bb, bo + rn * 5, none⟩)) rfl (by kernel_rfl) (by kernel_rfl) (by kernel_rfl) (by kernel_rfl) (fun _ _ _ h => h) hHeld (by rfl) (fun w' hSw => ?_) ?_
  · obtain ⟨s0, s1, s2, s3, s4, s5, s6, s7⟩ := hSw; go_simp
  try simp only [Act.put, List.getElem_toArray, List.getElem_cons_zero, List.getElem_cons_succ, List.setIfInBounds_toArray, List.set_cons_zero, List.set_cons_succ]
  refine wpAnyF_take (i := 8) (.agg #[.int .u8 xk, .string xm, .string xt, .slice xSA xa xsc, .slice xUA xb xuc]) rfl (by kernel_rfl) (by kernel_rfl) (by kernel_rfl) (by kernel_rfl) (fun _ _ _ h => h) hHeld (by rfl) (fun w' hSw => ?_) ?_
  · obtain ⟨s0, s1, s2, s3, s4, s5, s6, s7⟩ := hSw; go_simp
  try simp only [Act.put, List.getElem_toArray, List.getElem_cons_zero, List.getElem_cons_succ, List.setIfInBounds_toArray, List.set_cons_zero, List.set_cons_succ]
  refine wpAnyF_take (i := 9) (.pointer (some ⟨W.heap.size, 4, none⟩)) rfl (by kernel_rfl) (by kernel_rfl) (by kernel_rfl) (by kernel_rfl) (fun _ _ _ h => h) hHeld (by rfl) (fun w' hSw => ?_) ?_
  · obtain ⟨s0, s1, s2, s3, s4, s5, s6, s7⟩ := hSw; go_simp
  try simp only [Act.put, List.getElem_toArray, List.getElem_cons_zero, List.getElem_cons_succ, List.setIfInBounds_toArray, List.set_cons_zero, List.set_cons_succ]
  refine wpAnyF_take (i := 10) (.slice A ln c) rfl (by kernel_rfl) (by kernel_rfl) (by kernel_rfl) (by kernel_rfl) (fun _ _ _ h => h) hHeld (by rfl) (fun w' hSw => ?_) ?_
  · obtain ⟨s0, s1, s2, s3, s4, s5, s6, s7⟩ := hSw; go_simp
  try simp only [Act.put, List.getElem_toArray, List.getElem_cons_zero, List.getElem_cons_succ, List.setIfInBounds_toArray, List.set_cons_zero, List.set_cons_succ]
  refine wpAnyF_take (i := 11) (.slice (some ⟨W1.heap.size, 0, none⟩) (ln + 1) (ln + 1)) rfl (by kernel_rfl) (by kernel_rfl) (by kernel_rfl) (by kernel_rfl) (fun _ _ _ h => h) hHeld (by rfl) (fun w' hSw => ?_) ?_
  · obtain ⟨s0, s1, s2, s3, s4, s5, s6, s7⟩ := hSw; go_simp
  try simp only [Act.put, List.getElem_toArray, List.getElem_cons_zero, List.getElem_cons_succ, List.setIfInBounds_toArray, List.set_cons_zero, List.set_cons_succ]
  refine wpAnyF_take (i := 13) (.pointer (some ⟨W.heap.size, 4, none⟩)) rfl (by kernel_rfl) (by kernel_rfl) (by kernel_rfl) (by kernel_rfl) (fun _ _ _ h => h) hHeld (by rfl) (fun w' hSw => ?_) ?_
  · obtain ⟨s0, s1, s2, s3, s4, s5, s6, s7⟩ := hSw; go_simp
  try simp only [Act.put, List.getElem_toArray, List.getElem_cons_zero, List.getElem_cons_succ, List.setIfInBounds_toArray, List.set_cons_zero, List.set_cons_succ]
  refine wpAnyF_take (i := 14) (.slice A ln c) rfl (by kernel_rfl) (by kernel_rfl) (by kernel_rfl) (by kernel_rfl) (fun _ _ _ h => h) hHeld (by rfl) (fun w' hSw => ?_) ?_
  · obtain ⟨s0, s1, s2, s3, s4, s5, s6, s7⟩ := hSw; go_simp
  try simp only [Act.put, List.getElem_toArray, List.getElem_cons_zero, List.getElem_cons_succ, List.setIfInBounds_toArray, List.set_cons_zero, List.set_cons_succ]
  refine wpAnyF_take (i := 15) (.int .i64 (ln : Int)) rfl (by kernel_rfl) (by kernel_rfl) (by kernel_rfl) (by kernel_rfl) (fun _ _ _ h => h) hHeld (by rfl) (fun w' hSw => ?_) ?_
  · obtain ⟨s0, s1, s2, s3, s4, s5, s6, s7⟩ := hSw; go_simp
  try simp only [Act.put, List.getElem_toArray, List.getElem_cons_zero, List.getElem_cons_succ, List.setIfInBounds_toArray, List.set_cons_zero, List.set_cons_succ]
  clear hHeld
  refine wpAnyF_step 12 (by kernel_rfl) rfl (fun K hK => ?_)
  go_simp
  go_at_call 85
  refine HCN.out.mono ?_
  rintro _ W4 ⟨A4, c4, rfl, hr4, hb4⟩
  have hb4' := below_undrew hb4
  obtain ⟨b4, o4, res, rfl, cx, hres⟩ := hr4.last HNX.out
  have HB4 := hid hb4'
  have HRES := hid hres
  clear hres hb4 hb4'
  rw [HNX.out]
  go_simp
  refine hK.out _ _ (HST3.out _ HB4.out) (fun hHeld => ?_)
  clear hK K
  try simp only [Act.put, List.getElem_toArray, List.getElem_cons_zero, List.getElem_cons_succ, List.setIfInBounds_toArray, List.set_cons_zero, List.set_cons_succ]
  refine wpAnyF_step 16 (by kernel_rfl) rfl (fun K hK => ?_)
  go_simp
  refine hK.out _ _ (HST3.out _ HB4.out) (fun hHeld => ?_)
  clear hK K
  try simp only [Act.put, List.getElem_toArray, List.getElem_cons_zero, List.getElem_cons_succ, List.setIfInBounds_toArray, List.set_cons_zero, List.set_cons_succ]
  refine wpAnyF_step 17 (by kernel_rfl) rfl (fun K hK => ?_)
  go_simp
  refine hK.out _ _ (HST3.out _ HB4.out) (fun hHeld => ?_)
  clear hK K
  try simp only [Act.put, List.getElem_toArray, List.getElem_cons_zero, List.getElem_cons_succ, List.setIfInBounds_toArray, List.set_cons_zero, List.set_cons_succ]
  refine wpAnyF_step 18 (by kernel_rfl) rfl (fun K hK => ?_)
  go_simp
  refine hK.out _ _ (HST3.out _ HB4.out) (fun hHeld => ?_)
  clear hK K
  try simp only [Act.put, List.getElem_toArray, List.getElem_cons_zero, List.getElem_cons_succ, List.setIfInBounds_toArray, List.set_cons_zero, List.set_cons_succ]
  refine ⟨by kernel_rfl, ?_⟩
  go_wp2_with fail
  go_ret
  refine ⟨?_, HB3.out.trans (HB4.out.mono HB3.out.size)⟩
  rw [HQ.out, HLN.out, HRES.out]
  rfl
end
end Go.Proofs.YtpbnfinmjnpkpaaGreatDoor
/-
  What is wrong with a tree ((*trees.Checker).Check): the walk, for bodies without '?', '*', '+'.
-/
namespace Go.Proofs.YtpbnfinmjnpkpaaGreatDoor
open Go.RowKit Go.Maps Go.Shelf
set_option maxRecDepth 100000
attribute [local go_sem] Oper.semAt_some
namespace Tt
/-- what is wrong with a part, the way to it known: 3 another rule, 4 its body -/
def findF (tok rul : List UInt8 → Option Int) (bodies : List Gr.Nd) (ws : List Int) (rule : Int) (x : List Int × Rp.Tr) : Nat :=
  let f := partF bodies.length ws x.2
  if f = 0 then (if x.1 = [] ∧ ruleT x.2 ≠ rule then 3 else if 0 ≤ ruleT x.2 ∧ fitsB tok rul bodies x.2 = false then 4 else 0) else f
def badF (tok rul : List UInt8 → Option Int) (bodies : List Gr.Nd) (ws : List Int) (rule : Int) (x : List Int × Rp.Tr) : Bool := findF tok rul bodies ws rule x != 0
/-- are leaves the tokens, one by one? -/
def leftB (n : Nat) (l : List Int) : Bool := decide (∀ i, i < l.length → l[i]? = some (i : Int)) && decide (l.length = n)
def wayB (tok rul : List UInt8 → Option Int) (bodies : List Gr.Nd) (ws : List Int) (rule : Int) (l : List (List Int × Rp.Tr)) : List Int := ((l.find? (badF tok rul bodies ws rule)).map (·.1)).getD []
def badZ (tok rul : List UInt8 → Option Int) (bodies : List Gr.Nd) (ws : List Int) (rule : Int) (l : List (List Int × Rp.Tr)) : Int := ((l.find? (badF tok rul bodies ws rule)).map fun x => (findF tok rul bodies ws rule x : Int)).getD 0
def checkF (tok rul : List UInt8 → Option Int) (bodies : List Gr.Nd) (t : Rp.Tr) (rule : Int) (ws : List Int) : Nat :=
  match (partsT [] t).find? (badF tok rul bodies ws rule) with
  | some x => findF tok rul bodies ws rule x
  | none => if leftB ws.length (leavesT t) then 0 else 5
def checkW (tok rul : List UInt8 → Option Int) (bodies : List Gr.Nd) (t : Rp.Tr) (rule : Int) (ws : List Int) : List Int := (((partsT [] t).find? (badF tok rul bodies ws rule)).map (·.1)).getD []
end Tt
def ChkP (f : Nat) (way : List Int) (w : World) (e : Ending) (W' : World) : Prop := (∃ A, e = .returned (.tuple #[.int .u8 (f : Int), .slice A way.length way.length]) ∧ RO W' (fun b => b < w.heap.size) 1 A way.length (way.map (Value.int .i64))) ∧ Below w.heap.size w W'
theorem szL_len (l : List Rp.Tr) : l.length ≤ Rp.szL l := by
  induction l with
  | nil => exact Nat.zero_le _
  | cons x r ih => rw [List.length_cons, Rp.szL]; have := Rp.szT_pos x; omega
theorem partF_zero {nb : Nat} {ws : List Int} {r tk k : Int} {er : Bool} {l : List Rp.Tr} (h : Tt.partF nb ws (.node r tk k er l) = 0) : ¬ r < -1 ∧ ¬ (nb : Int) ≤ r := by
  rw [Tt.partF] at h
  by_cases hc : r < -1 ∨ (nb : Int) ≤ r ∨ er = true
  · rw [if_pos hc] at h; cases h
  · exact ⟨fun e => hc (.inl e), fun e => hc (.inr (.inl e))⟩
theorem check_stop {B n0 m : Nat} {w W0 W u W3 : World} {A5 : Option Addr} {c5 : Nat} {way : List Int} (hn0 : n0 = w.heap.size) (hz : n0 + 7 ≤ W0.heap.size) (bF : W0.heap[n0 + 1 + 1 + 1 + 1]? = some (.cells #[.int .u8 0] 36 (0, 0))) (bY : W0.heap[n0 + 1 + 1 + 1 + 1 + 1]? = some (.cells #[.slice none 0 0] 25 (0, 0)))
    (hw0 : Below w.heap.size w W0) (hB : B ≤ w.heap.size) (h0 : Below W0.heap.size W0 W) (h1 : Below W.heap.size W u) (h2 : Below u.heap.size u W3) (hown : W3.ownsRow u.heap.size 3 1 (.slice A5 m c5) m (way.map (Value.int .i64))) (Z : Int) :
    KeepsFrom W0.heap.size W ((W3.setCell ⟨n0 + 1 + 1 + 1 + 1, 0, none⟩ (.int .u8 Z)).setCell ⟨n0 + 1 + 1 + 1 + 1 + 1, 0, none⟩ (.slice A5 m m)) ∧
    KpW B (fun k => k = n0 + 1 + 1 + 1 + 1 ∨ k = n0 + 1 + 1 + 1 + 1 + 1) (n0 + 1 + 1 + 1 + 1) W ((W3.setCell ⟨n0 + 1 + 1 + 1 + 1, 0, none⟩ (.int .u8 Z)).setCell ⟨n0 + 1 + 1 + 1 + 1 + 1, 0, none⟩ (.slice A5 m m)) ∧
    Boxed ((W3.setCell ⟨n0 + 1 + 1 + 1 + 1, 0, none⟩ (.int .u8 Z)).setCell ⟨n0 + 1 + 1 + 1 + 1 + 1, 0, none⟩ (.slice A5 m m)) (n0 + 1 + 1 + 1 + 1 + 1) 25 (.slice A5 m m) ∧
    ((W3.setCell ⟨n0 + 1 + 1 + 1 + 1, 0, none⟩ (.int .u8 Z)).setCell ⟨n0 + 1 + 1 + 1 + 1 + 1, 0, none⟩ (.slice A5 m m)).ownsRow w.heap.size 3 1 (.slice A5 m c5) m (way.map (Value.int .i64)) ∧
    Boxed ((W3.setCell ⟨n0 + 1 + 1 + 1 + 1, 0, none⟩ (.int .u8 Z)).setCell ⟨n0 + 1 + 1 + 1 + 1 + 1, 0, none⟩ (.slice A5 m m)) (n0 + 1 + 1 + 1 + 1) 36 (.int .u8 Z) ∧
    Below w.heap.size w ((W3.setCell ⟨n0 + 1 + 1 + 1 + 1, 0, none⟩ (.int .u8 Z)).setCell ⟨n0 + 1 + 1 + 1 + 1 + 1, 0, none⟩ (.slice A5 m m)) := by
  have h3 : Below W.heap.size W W3 := h1.trans (h2.mono h1.size)
  have h03 : Below W0.heap.size W0 W3 := h0.trans (h3.mono h0.size)
  have hw3 : Below w.heap.size w W3 := hw0.trans (h03.mono hw0.size)
  have f3 : Boxed W3 (n0 + 1 + 1 + 1 + 1) 36 (.int .u8 0) := (h03.block _ (heap_lt bF)).trans bF
  have y3 : Boxed W3 (n0 + 1 + 1 + 1 + 1 + 1) 25 (.slice none 0 0) := (h03.block _ (heap_lt bY)).trans bY
  have g3 := grown_of h3
  have hb4 := (f3.set (.int .u8 Z)).other (B' := n0 + 1 + 1 + 1 + 1 + 1) (by omega) (.slice A5 m m)
  have hb5 := (y3.other (B' := n0 + 1 + 1 + 1 + 1) (by omega) (.int .u8 Z)).set (.slice A5 m m)
  have hn4 := f3.not_row (by decide) hown
  have hn5 := y3.not_row (by decide) hown
  refine ⟨(KeepsFrom.of_grownBy g3 (fun j e => by cases e)).trans (((KeepsOthers.setCell _ _ _).trans (KeepsOthers.setCell _ _ _)).from _), ?_, hb5, ?_, hb4, ?_⟩
  · refine (KpW.of h3 (Nat.le_trans hB (Nat.le_trans hw0.size h0.size)) (by have := h0.size; omega)).trans (kpW_only ((Only.of_set W3 (n0 + 1 + 1 + 1 + 1) 0 (.int .u8 Z)).more (fun b _ e => Or.inl e) |>.trans ((Only.of_set _ (n0 + 1 + 1 + 1 + 1 + 1) 0 (.slice A5 m m)).more fun b _ e => Or.inr e) fun _ _ e => e) (fun k e => by rcases e with e | e <;> omega) (Nat.le_trans hB hw3.size) (fun v T e => ?_))
    rw [show _ = _ from hb4] at e
    injection e with e
    injection e with e
    have e : #[Value.int .u8 Z] = #[v] := e
    injection e with e
    injection e with e
    subst e
    rfl
  · refine own_lower ((hown.kept (grownBy_setCell' W3 (n0 + 1 + 1 + 1 + 1) (.int .u8 Z)) (.inr hn4.symm)).kept (grownBy_setCell' _ (n0 + 1 + 1 + 1 + 1 + 1) (.slice A5 m m)) (.inr hn5.symm)) ?_
    have := hw0.size; have := h0.size; have := h1.size; omega
  · exact (hw3.setCell (p := ⟨n0 + 1 + 1 + 1 + 1, 0, none⟩) (by simp; omega) _).setCell (p := ⟨n0 + 1 + 1 + 1 + 1 + 1, 0, none⟩) (by simp; omega) _
section
variable {w0 : World}
set_option maxHeartbeats 32000000 in
theorem check_any_tree {cb br bt : Nat} {BA : Option Addr} {bc : Nat} {tok rul : List UInt8 → Option Int} {bodies : List Gr.Nd} {xsb : List Value} (hck : ChkAt w0 cb br bt BA bc tok rul bodies xsb) (hst : ∀ i (hi : i < bodies.length), Tt.starless tok rul bodies[i]) (t : Rp.Tr) (cs : List Value) (rule : Int) (ws : List Int) (WA : Option Addr) (wc : Nat) (w : World)
    (hn : TrR w0 w0.heap.size t cs) (hok : Rp.okT t) (hsz : Rp.szT t ≤ 1000000000) (hw : Reads w0 w0.heap.size 1 WA ws.length (ws.map (Value.int .i64))) (hb : Below w0.heap.size w0 w) :
    Calls Tryz.prog 11 #[.pointer (some ⟨cb, 0, none⟩), .agg cs.toArray, .int .i64 rule, .slice WA ws.length wc] w (ChkP (Tt.checkF tok rul bodies t rule ws) (Tt.checkW tok rul bodies t rule ws) w) := by
  obtain ⟨u0, u1, u2, u3, u4, rfl⟩ : ∃ u0 u1 u2 u3 u4, cs = [u0, u1, u2, u3, u4] := by
    have := hn.len
    match cs, this with
    | [u0, u1, u2, u3, u4], _ => exact ⟨_, _, _, _, _, rfl⟩
  obtain ⟨wl, hwl⟩ : ∃ n, ws.length = n := ⟨_, rfl⟩
  have hnq : ∀ u : World, (binOp BinOp.eql 30 (.map (some br)) (.map none)).run Tryz.prog u = .ok (.bool false) u := fun u => by kernel_rfl
  have hck6 : ChkAt ((((((w.alloc (.cells #[.pointer (some ⟨cb, 0, none⟩)] 34)).alloc (.cells #[u0, u1, u2, u3, u4] 24)).alloc (.cells #[.int .i64 rule] 3)).alloc (.cells #[.slice WA ws.length wc] 25)).alloc (.cells #[.int .u8 0] 36)).alloc (.cells #[.slice none 0 0] 25)) cb br bt BA bc tok rul bodies xsb := hck.next (hb.trans ((((((((Below.refl _ w).alloc (Nat.le_refl _) _).alloc (by simp) _).alloc (by simp; omega) _).alloc (by simp; omega) _).alloc (by simp; omega) _).alloc (by simp; omega) _).mono hb.size))
  have cb0 : (((((((w.alloc (.cells #[.pointer (some ⟨cb, 0, none⟩)] 34)).alloc (.cells #[u0, u1, u2, u3, u4] 24)).alloc (.cells #[.int .i64 rule] 3)).alloc (.cells #[.slice WA ws.length wc] 25)).alloc (.cells #[.int .u8 0] 36)).alloc (.cells #[.slice none 0 0] 25))).cell? ⟨cb, 0, none⟩ = some (.map (some br)) := by rw [Lib.cell_of_heap hck6.box]; rfl
  rw [hwl] at cb0 ⊢
  have HCK := hid hck
  clear hck hck6
  refine (callsIn_wide (n := 5)).1 ?_
  refine callsIn_of_wp_marks Tryz.func11 rfl trivial ?_ rfl
  simp only [Tryz.ntmps11, List.size_toArray, List.length_cons, List.length_nil, Nat.reduceAdd, Nat.reduceSub, Array.replicate_succ, Array.replicate_zero, List.push_toArray, List.append_toArray, List.nil_append, List.cons_append]
  gi_wp2_with fail
  refine ⟨trivial, (callsIn_wide.2 (trees_parts _ u0 u1 u2 u3 u4 rfl _)).mono ?_⟩
  rintro _ w' ⟨rfl, rfl⟩
  gi_wp2_with fail
  have bX := heap_alloc_new ((((((w.alloc (.cells #[.pointer (some ⟨cb, 0, none⟩)] 34)).alloc (.cells #[u0, u1, u2, u3, u4] 24)).alloc (.cells #[.int .i64 rule] 3)).alloc (.cells #[.slice WA ws.length wc] 25)).alloc (.cells #[.int .u8 0] 36)).alloc (.cells #[.slice none 0 0] 25)) (.cells #[u0, u1, u2, u3, u4] 24)
  have bC := heap_alloc_new w (.cells #[.pointer (some ⟨cb, 0, none⟩)] 34)
  have bT := heap_alloc_new (w.alloc (.cells #[.pointer (some ⟨cb, 0, none⟩)] 34)) (.cells #[u0, u1, u2, u3, u4] 24)
  have bR := heap_alloc_new ((w.alloc (.cells #[.pointer (some ⟨cb, 0, none⟩)] 34)).alloc (.cells #[u0, u1, u2, u3, u4] 24)) (.cells #[.int .i64 rule] 3)
  have bW := heap_alloc_new (((w.alloc (.cells #[.pointer (some ⟨cb, 0, none⟩)] 34)).alloc (.cells #[u0, u1, u2, u3, u4] 24)).alloc (.cells #[.int .i64 rule] 3)) (.cells #[.slice WA ws.length wc] 25)
  have bF := heap_alloc_new ((((w.alloc (.cells #[.pointer (some ⟨cb, 0, none⟩)] 34)).alloc (.cells #[u0, u1, u2, u3, u4] 24)).alloc (.cells #[.int .i64 rule] 3)).alloc (.cells #[.slice WA ws.length wc] 25)) (.cells #[.int .u8 0] 36)
  have bY := heap_alloc_new (((((w.alloc (.cells #[.pointer (some ⟨cb, 0, none⟩)] 34)).alloc (.cells #[u0, u1, u2, u3, u4] 24)).alloc (.cells #[.int .i64 rule] 3)).alloc (.cells #[.slice WA ws.length wc] 25)).alloc (.cells #[.int .u8 0] 36)) (.cells #[.slice none 0 0] 25)
  have hz7 : ((((((((w.alloc (.cells #[.pointer (some ⟨cb, 0, none⟩)] 34)).alloc (.cells #[u0, u1, u2, u3, u4] 24)).alloc (.cells #[.int .i64 rule] 3)).alloc (.cells #[.slice WA ws.length wc] 25)).alloc (.cells #[.int .u8 0] 36)).alloc (.cells #[.slice none 0 0] 25)).alloc (.cells #[u0, u1, u2, u3, u4] 24))).heap.size = w.heap.size + 7 := by simp
  have hB0 : Below w.heap.size w ((((((((w.alloc (.cells #[.pointer (some ⟨cb, 0, none⟩)] 34)).alloc (.cells #[u0, u1, u2, u3, u4] 24)).alloc (.cells #[.int .i64 rule] 3)).alloc (.cells #[.slice WA ws.length wc] 25)).alloc (.cells #[.int .u8 0] 36)).alloc (.cells #[.slice none 0 0] 25)).alloc (.cells #[u0, u1, u2, u3, u4] 24))) :=
    (((((((Below.refl _ w).alloc (Nat.le_refl _) _).alloc (by simp) _).alloc (by simp; omega) _).alloc (by simp; omega) _).alloc (by simp; omega) _).alloc (by simp; omega) _).alloc (by simp; omega) _
  simp only [World.size_alloc] at bX bC bT bR bW bF bY
  have hup : ∀ (u : World) (ob : Obj) (k : Nat) (o : Obj), u.heap[k]? = some o → (u.alloc ob).heap[k]? = some o := fun u ob k o h => (Below.heap_alloc u ob k (heap_lt h)).trans h
  have bC := hup _ (.cells #[u0, u1, u2, u3, u4] 24) _ _ (hup _ (.cells #[.slice none 0 0] 25) _ _ (hup _ (.cells #[.int .u8 0] 36) _ _ (hup _ (.cells #[.slice WA ws.length wc] 25) _ _ (hup _ (.cells #[.int .i64 rule] 3) _ _ (hup _ (.cells #[u0, u1, u2, u3, u4] 24) _ _ bC)))))
  have bT := hup _ (.cells #[u0, u1, u2, u3, u4] 24) _ _ (hup _ (.cells #[.slice none 0 0] 25) _ _ (hup _ (.cells #[.int .u8 0] 36) _ _ (hup _ (.cells #[.slice WA ws.length wc] 25) _ _ (hup _ (.cells #[.int .i64 rule] 3) _ _ bT))))
  have bR := hup _ (.cells #[u0, u1, u2, u3, u4] 24) _ _ (hup _ (.cells #[.slice none 0 0] 25) _ _ (hup _ (.cells #[.int .u8 0] 36) _ _ (hup _ (.cells #[.slice WA ws.length wc] 25) _ _ bR)))
  have bW := hup _ (.cells #[u0, u1, u2, u3, u4] 24) _ _ (hup _ (.cells #[.slice none 0 0] 25) _ _ (hup _ (.cells #[.int .u8 0] 36) _ _ bW))
  have bF := hup _ (.cells #[u0, u1, u2, u3, u4] 24) _ _ (hup _ (.cells #[.slice none 0 0] 25) _ _ bF)
  have bY := hup _ (.cells #[u0, u1, u2, u3, u4] 24) _ _ bY
  rw [hwl] at bC bT bR bW bF bY bX hB0 hz7
  clear cb0 hup
  obtain ⟨W0, hW0⟩ : ∃ W0, (((((((w.alloc (.cells #[.pointer (some ⟨cb, 0, none⟩)] 34)).alloc (.cells #[u0, u1, u2, u3, u4] 24)).alloc (.cells #[.int .i64 rule] 3)).alloc (.cells #[.slice WA wl wc] 25)).alloc (.cells #[.int .u8 0] 36)).alloc (.cells #[.slice none 0 0] 25)).alloc (.cells #[u0, u1, u2, u3, u4] 24)) = W0 := ⟨_, rfl⟩
  rw [hW0] at bC bT bR bW bF bY bX hB0 hz7 ⊢
  clear hW0
  have h00 := hb.trans (hB0.mono hb.size)
  have HB00 := hid h00
  have HST := hid hst
  have HWS := hid hw
  have HWL := hid hwl
  clear hst hw hwl hnq
  refine range_rd (by omega) (gf := 83) (lb := #[.pointer (some ⟨w.heap.size + 1 + 1 + 1 + 1 + 1 + 1, 0, none⟩)]) rfl (enters_of Tryz.func83 (by kernel_rfl) rfl) (B := w0.heap.size) (S := fun k => k = w.heap.size + 1 + 1 + 1 + 1 ∨ k = w.heap.size + 1 + 1 + 1 + 1 + 1) (ob := w.heap.size + 1 + 1 + 1 + 1) (by have := hb.size; omega) (by omega)
    (parts_stops (w0 := w0) (B := w0.heap.size) (fun k => k = w.heap.size + 1 + 1 + 1 + 1 ∨ k = w.heap.size + 1 + 1 + 1 + 1 + 1) (w.heap.size + 1 + 1 + 1 + 1) t _ W0 (w.heap.size + 1 + 1 + 1 + 1 + 1 + 1) hn hok hsz h00 (by have := hb.size; omega) bX (by omega)) (Below.refl _ _) (fun _ => rfl)
    (fun pre W => (projT pre).find? (Tt.badF tok rul bodies ws rule) = none ∧ Below W0.heap.size W0 W)
    (fun pre W => ((((projT pre).find? (Tt.badF tok rul bodies ws rule)).isSome = true ∧ ∃ A c, Boxed W (w.heap.size + 1 + 1 + 1 + 1 + 1) 25 (.slice A (Tt.wayB tok rul bodies ws rule (projT pre)).length (Tt.wayB tok rul bodies ws rule (projT pre)).length) ∧ W.ownsRow w.heap.size 3 1 (.slice A (Tt.wayB tok rul bodies ws rule (projT pre)).length c) (Tt.wayB tok rul bodies ws rule (projT pre)).length ((Tt.wayB tok rul bodies ws rule (projT pre)).map (Value.int .i64))) ∧ Boxed W (w.heap.size + 1 + 1 + 1 + 1) 36 (.int .u8 (Tt.badZ tok rul bodies ws rule (projT pre)))) ∧ Below w.heap.size w W)
    (OwnFrom.and (ownFrom_pure _ _) (ownFrom_below (Nat.le_refl _) (Nat.le_refl _)))
    (OwnFrom.and (OwnFrom.and (OwnFrom.and (ownFrom_pure _ _) (Own.from (holdsCut_own w.heap.size (w.heap.size + 1 + 1 + 1 + 1 + 1) 25 3 1 (fun pre => (Tt.wayB tok rul bodies ws rule (projT pre)).length) (fun pre => (Tt.wayB tok rul bodies ws rule (projT pre)).map (Value.int .i64))) _)) (Own.from (boxed_own _ _ _) _)) (ownFrom_below (Nat.le_refl _) (by omega)))
    (fun pre W h k hk => by
      have hf : Boxed W (w.heap.size + 1 + 1 + 1 + 1) 36 (.int .u8 0) := (h.2.block _ (heap_lt bF)).trans bF
      have hy : Boxed W (w.heap.size + 1 + 1 + 1 + 1 + 1) 25 (.slice none 0 0) := (h.2.block _ (heap_lt bY)).trans bY
      exact cw_lt0 hf rfl (fun j e => by rcases e with e | e <;> subst e <;> first | exact hf.lt | exact hy.lt) hk)
    ⟨rfl, Below.refl _ _⟩
    (fun x a' W => ∃ Bx, (W.heap[Bx]? = some (.cells x.cs.toArray 24 (0, 0)) ∧ Reads W W.heap.size 1 x.A x.way.length (x.way.map (Value.int .i64))) ∧ (x.way.length ≤ x.c ∧ x.way.length ≤ 1000000000 ∧ Rp.szT x.t ≤ 1000000000) ∧ a' = { tmps := #[.pointer (some ⟨cb, 0, none⟩), .agg #[u0, u1, u2, u3, u4], .int .i64 rule, .slice WA wl wc, .pointer (some ⟨w.heap.size, 0, none⟩), .pointer (some ⟨w.heap.size + 1, 0, none⟩), .pointer (some ⟨w.heap.size + 1 + 1, 0, none⟩), .pointer (some ⟨w.heap.size + 1 + 1 + 1, 0, none⟩), .pointer (some ⟨w.heap.size + 1 + 1 + 1 + 1, 0, none⟩), .pointer (some ⟨w.heap.size + 1 + 1 + 1 + 1 + 1, 0, none⟩), .slice x.A x.way.length x.c, .pointer (some ⟨Bx, 0, none⟩), undef, undef, undef, undef, .pointer (some ⟨cb, 0, none⟩), .bool false, .bool false, .pointer (some ⟨cb, 0, none⟩), .pointer (some ⟨cb, 0, none⟩), .pointer (some ⟨cb, 0, none⟩), .map (some br), .bool false, .bool false, .agg #[u0, u1, u2, u3, u4], .func (.func 83) #[] #[.pointer (some ⟨w.heap.size + 1 + 1 + 1 + 1 + 1 + 1, 0, none⟩)], .slice x.A x.way.length x.c, .agg x.cs.toArray, undef, undef, undef, undef, undef, undef, undef, undef, undef, undef, undef, undef, undef, undef, undef, undef, undef, undef, undef, undef, undef, undef, undef, undef, undef, undef, undef, undef, undef, undef, undef, undef, undef, undef, undef, undef, undef, undef, undef, undef, undef, undef, undef, undef, undef, undef, undef, undef, undef, undef, undef, undef, undef, undef], defers := [] })
    (fun x a' _ X Y row hs hg hr => by obtain ⟨Bx, ⟨e2, e3⟩, e4⟩ := hs; exact ⟨Bx, ⟨cells_own Bx (fun (_ : Unit) => x.cs.toArray) _ () X Y row e2 hg (fun r e => (hr r e).2), reads_own _ () X Y row e3 hg hr⟩, e4⟩)
    ?assign ?body ?done ?stop
  case assign =>
    rintro l pre ⟨way, A, c, xt, xcs, xh, xok⟩ W K ⟨hf, hB1⟩ hrd hK
    obtain ⟨xr, xk, xd, xe, xA, xn, xc, rfl⟩ := xh.form
    have HK := hid hK
    clear hK
    simp only [TrAt.enc]
    gi_wp2_with fail
    refine HK.out _ _ ((KeepsOthers.alloc _ _).from _) (KpW.of (below_new W _) (by have := hB1.size; have := hb.size; omega) (by have := hB1.size; omega)) ⟨hf, hB1.trans ((below_new W _).mono hB1.size)⟩ ⟨W.heap.size, ⟨heap_alloc_new W _, reads_next hrd.1.reads (below_new W _)⟩, ⟨hrd.1.1, by have := hrd.2; dsimp only at this ⊢; omega, by have := hrd.2; dsimp only at this ⊢; omega⟩, ?_⟩
    rfl
  case body =>
    rintro l pre x a' W hl ⟨r, hr⟩ ⟨hf, hB1⟩ ⟨Bx, ⟨bX1, hrd⟩, ⟨hcap, hwl, hszx⟩, rfl⟩ hlt
    have hpart := CallsIn.inRound l (callsIn_wide (n := 2) |>.2 (part_any HCK.out x.t x.cs ws WA wc W x.h HWS.out (HB00.out.trans (hB1.mono HB00.out.size))))
    obtain ⟨xr, xk, xd, xe, xL, xA, xc, hxt, hxc⟩ := x.open
    obtain ⟨xn, hxn⟩ : ∃ n, xL.length = n := ⟨_, rfl⟩
    obtain ⟨m, hm⟩ : ∃ m, x.way.length = m := ⟨_, rfl⟩
    obtain ⟨pf, hpf⟩ : ∃ pf, Tt.partF bodies.length ws x.t = pf := ⟨_, rfl⟩
    have hfd0 : Tt.findF tok rul bodies ws rule (x.way, x.t) = if pf = 0 then (if x.way = [] ∧ xr ≠ rule then 3 else if 0 ≤ xr ∧ Tt.fitsB tok rul bodies x.t = false then 4 else 0) else pf := by
      unfold Tt.findF
      dsimp only
      rw [hpf, hxt]
      rfl
    have hme0 : x.way = [] ↔ m = 0 := by rw [← hm]; exact List.length_eq_zero_iff.symm
    have HF3 := hid (fun (h : pf = 0) (h1 : m = 0) (h2 : xr ≠ rule) => (show Tt.findF tok rul bodies ws rule (x.way, x.t) = 3 by rw [hfd0, if_pos h, if_pos ⟨hme0.2 h1, h2⟩]))
    have HF4 := hid (fun (h : pf = 0) (h1 : ¬ (m = 0 ∧ xr ≠ rule)) (h2 : 0 ≤ xr) (h3 : Tt.fitsB tok rul bodies x.t = false) => (show Tt.findF tok rul bodies ws rule (x.way, x.t) = 4 by rw [hfd0, if_pos h, if_neg (fun e => h1 ⟨hme0.1 e.1, e.2⟩), if_pos ⟨h2, h3⟩]))
    have HF0 := hid (fun (h : pf = 0) (h1 : ¬ (m = 0 ∧ xr ≠ rule)) (h2 : 0 ≤ xr → Tt.fitsB tok rul bodies x.t = true) => (show Tt.findF tok rul bodies ws rule (x.way, x.t) = 0 by rw [hfd0, if_pos h, if_neg (fun e => h1 ⟨hme0.1 e.1, e.2⟩), if_neg (fun e => by rw [h2 e.1] at e; cases e.2)]))
    have HFP := hid (fun (h : ¬ pf = 0) => (show Tt.findF tok rul bodies ws rule (x.way, x.t) = pf by rw [hfd0, if_neg h]))
    clear hfd0 hme0
    have HPZ0 := hid (fun (h : pf = 0) => partF_zero (nb := bodies.length) (ws := ws) (r := xr) (tk := xk) (k := xd) (er := xe) (l := xL) (by rw [← hxt, hpf, h]))
    have HXC := hid hxc
    rw [hpf] at hpart
    rw [hxc, hxn, HWL.out] at hpart
    rw [hxc, hxn] at bX1
    rw [hm] at hrd hcap hwl
    simp only [hxc, hxn, hm]
    have bC1 := (hB1.block _ (heap_lt bC)).trans bC
    have bR1 := (hB1.block _ (heap_lt bR)).trans bR
    have bW1 := (hB1.block _ (heap_lt bW)).trans bW
    have cC : W.cell? ⟨w.heap.size, 0, none⟩ = some (.pointer (some ⟨cb, 0, none⟩)) := by rw [Lib.cell_of_heap bC1]; rfl
    have cW : W.cell? ⟨w.heap.size + 1 + 1 + 1, 0, none⟩ = some (.slice WA wl wc) := by rw [Lib.cell_of_heap bW1]; rfl
    have k0 : W.cell? ⟨Bx, 0, none⟩ = some (.int .i64 xr) := by rw [Lib.cell_of_heap bX1]; rfl
    have k1 : W.cell? ⟨Bx, 1, none⟩ = some (.int .i64 xk) := by rw [Lib.cell_of_heap bX1]; rfl
    have k2 : W.cell? ⟨Bx, 2, none⟩ = some (.int .i64 xd) := by rw [Lib.cell_of_heap bX1]; rfl
    have k3 : W.cell? ⟨Bx, 3, none⟩ = some (.bool xe) := by rw [Lib.cell_of_heap bX1]; rfl
    have k4 : W.cell? ⟨Bx, 4, none⟩ = some (.slice xA xn xc) := by rw [Lib.cell_of_heap bX1]; rfl
    have HPA := hid hpart
    have HF := hid hf
    have HB1 := hid hB1
    have HM := hid hm
    have HXT := hid hxt
    have HXN := hid hxn
    have HSX := hid hszx
    have HBF := hid (And.intro bF bY)
    have HWB := hid hB0
    have HCLN := hid (fun (u : World) (hu : Below W.heap.size W u) => CallsIn.inRound l (callsIn_wide (n := 2) |>.2 (cloneZ_any x.A m x.c u.heap.size _ u hwl (reads_next hrd hu) (by intro v hv; obtain ⟨y, _, rfl⟩ := List.mem_map.1 hv; rfl))))
    have HBX := hid (And.intro bC1 (And.intro bR1 bX1))
    clear hpart hf hm hxt hxn hxc hpf hB1 bX1 bC1 bR1 bW1 hrd hr hwl hszx bF bY bC bT bR bW bX hB0 h00 hn hok hsz hlt
    gi_wp2_with fail
    refine ⟨trivial, HPA.out.mono ?_⟩
    rintro _ W2 ⟨rfl, hb2⟩
    have bC2 := (hb2.block _ (heap_lt HBX.out.1)).trans HBX.out.1
    have bR2 := (hb2.block _ (heap_lt HBX.out.2.1)).trans HBX.out.2.1
    have bX2 := (hb2.block _ (heap_lt HBX.out.2.2)).trans HBX.out.2.2
    have cC : W2.cell? ⟨w.heap.size, 0, none⟩ = some (.pointer (some ⟨cb, 0, none⟩)) := by rw [Lib.cell_of_heap bC2]; rfl
    have cR : W2.cell? ⟨w.heap.size + 1 + 1, 0, none⟩ = some (.int .i64 rule) := by rw [Lib.cell_of_heap bR2]; rfl
    have l0 : W2.cell? ⟨Bx, 0, none⟩ = some (.int .i64 xr) := by rw [Lib.cell_of_heap bX2]; rfl
    have l1 : W2.cell? ⟨Bx, 1, none⟩ = some (.int .i64 xk) := by rw [Lib.cell_of_heap bX2]; rfl
    have l2 : W2.cell? ⟨Bx, 2, none⟩ = some (.int .i64 xd) := by rw [Lib.cell_of_heap bX2]; rfl
    have l3 : W2.cell? ⟨Bx, 3, none⟩ = some (.bool xe) := by rw [Lib.cell_of_heap bX2]; rfl
    have l4 : W2.cell? ⟨Bx, 4, none⟩ = some (.slice xA xn xc) := by rw [Lib.cell_of_heap bX2]; rfl
    have HB2 := hid hb2
    clear hb2 bC2 bR2 bX2 cW k0 k1 k2 k3 k4 HPA
    by_cases hp0 : pf = 0
    · subst hp0
      have HPZ := hid (HPZ0.out rfl)
      by_cases hm0 : m = 0
      · subst hm0
        by_cases hxr : xr = rule
        · have hxe : (xr != rule) = false := by simp [hxr]
          have HXR := hid hxr
          clear hxr
          by_cases hx0 : (0 : Int) ≤ xr
          · have hx0d : decide ((0 : Int) ≤ xr) = true := decide_eq_true hx0
            obtain ⟨rn, rfl⟩ : ∃ n : Nat, xr = (n : Int) := ⟨xr.toNat, by omega⟩
            obtain ⟨q, hq⟩ : ∃ q, Tt.fitsB tok rul bodies x.t = q := ⟨_, rfl⟩
            have hxh := x.h
            rw [HXT.out, HXC.out] at hxh
            have hfit := CallsIn.inRound l (callsIn_wide (n := 2) |>.2 (fits_any HCK.out HST.out rn xk xd xe xL _ W2 hxh (by have := HPZ.out.2; omega) (by have h1 := szL_len xL; have h2 := HSX.out; rw [HXT.out, Rp.szT] at h2; omega) (HB00.out.trans ((HB1.out.trans (HB2.out.mono HB1.out.size)).mono HB00.out.size))))
            rw [← HXT.out, hq] at hfit
            rw [HXN.out] at hfit
            have HFIT := hid hfit
            have HQ := hid hq
            clear hfit hq hxh
            gi_wp2_with fail
            refine ⟨trivial, HFIT.out.mono ?_⟩
            rintro _ W4 ⟨rfl, hb4⟩
            have HB4 := hid (HB2.out.trans (hb4.mono HB2.out.size))
            clear hb4 HFIT
            cases q
            · have HZ4 : Hid (Tt.findF tok rul bodies ws rule (x.way, x.t) = 4) := hid (HF4.out (by simp) (fun h => h.2 HXR.out) hx0 HQ.out)
              have HFZ := hid (HZ4.out : Tt.findF tok rul bodies ws rule (x.way, x.t) = 4)
              gi_wp2_with fail
              refine ⟨trivial, (HCLN.out W4 HB4.out).mono ?_⟩
              rintro _ W3 ⟨A5, c5, rfl, hown5, hb3⟩
              have HCP := hid (CallsIn.inRound l (callsIn_wide (n := 2) |>.2 (clipZ_any A5 0 c5 W3 (own_cap hown5))))
              have HO5 := hid hown5
              have HB3 := hid hb3
              clear hown5 hb3 cC cR l0 l1 l2 l3 l4
              gi_wp2_with fail
              refine ⟨trivial, HCP.out.mono ?_⟩
              rintro _ _ ⟨rfl, rfl⟩
              have h3u := (HB4.out).trans (HB3.out.mono (HB4.out).size)
              have h03 := HB1.out.trans (h3u.mono HB1.out.size)
              have f3 : Boxed W3 (w.heap.size + 1 + 1 + 1 + 1) 36 (.int .u8 0) := (h03.block _ (heap_lt HBF.out.1)).trans HBF.out.1
              have y3 : Boxed W3 (w.heap.size + 1 + 1 + 1 + 1 + 1) 25 (.slice none 0 0) := (h03.block _ (heap_lt HBF.out.2)).trans HBF.out.2
              have cF := f3.cell
              have fF := f3.frozen
              have y4 := y3.other (B' := w.heap.size + 1 + 1 + 1 + 1) (by omega) (.int .u8 4)
              have cY := y4.cell
              have fY := y4.frozen
              have HSTP := hid (check_stop (B := w0.heap.size) rfl (by omega) HBF.out.1 HBF.out.2 HWB.out hb.size HB1.out (HB4.out) HB3.out HO5.out 4)
              clear HCP h3u h03 f3 y3 y4
              gi_wp2_with fail
              obtain ⟨p1, p2, p3, p4, p5, p6⟩ := HSTP.out
              have hfd : (projT (pre ++ [x])).find? (Tt.badF tok rul bodies ws rule) = some (x.way, x.t) := by
                rw [projT_append, projT_one, List.find?_append, HF.out, Option.none_or, List.find?_cons_of_pos (by unfold Tt.badF; rw [HFZ.out]; decide)]
              have hwo : Tt.wayB tok rul bodies ws rule (projT (pre ++ [x])) = x.way := by unfold Tt.wayB; rw [hfd]; rfl
              have hbz : Tt.badZ tok rul bodies ws rule (projT (pre ++ [x])) = 4 := by unfold Tt.badZ; rw [hfd]; show ((Tt.findF tok rul bodies ws rule (x.way, x.t) : Nat) : Int) = _; rw [HFZ.out]; all_goals rfl
              refine ⟨p1, p2, ⟨⟨⟨by rw [hfd]; rfl, A5, c5, ?_⟩, by rw [hbz]; exact p5⟩, p6⟩⟩
              rw [hwo, HM.out]
              exact ⟨p3, p4⟩
            · have HZ0 : Hid (Tt.findF tok rul bodies ws rule (x.way, x.t) = 0) := hid (HF0.out (by simp) (fun h => h.2 HXR.out) (fun _ => HQ.out))
              have HFZ := hid (HZ0.out : Tt.findF tok rul bodies ws rule (x.way, x.t) = 0)
              clear cC cR l0 l1 l2 l3 l4
              gi_wp2_with fail
              refine ⟨KeepsFrom.of_grownBy (grown_of HB4.out) (fun j e => by cases e), KpW.of HB4.out (by have := HB1.out.size; have := hb.size; omega) (by have := HB1.out.size; omega), ?_, HB1.out.trans ((HB4.out).mono HB1.out.size)⟩
              rw [projT_append, projT_one, List.find?_append, HF.out, Option.none_or, List.find?_cons_of_neg (by unfold Tt.badF; rw [HFZ.out]; decide), List.find?_nil]
          · have hx0d : decide ((0 : Int) ≤ xr) = false := decide_eq_false hx0
            have HZ0 : Hid (Tt.findF tok rul bodies ws rule (x.way, x.t) = 0) := hid (HF0.out (by simp) (fun h => h.2 HXR.out) (fun h => absurd h hx0))
            have HFZ := hid (HZ0.out : Tt.findF tok rul bodies ws rule (x.way, x.t) = 0)
            clear HPZ
            gi_wp2_with fail
            refine ⟨trivial, ?_⟩
            gi_wp2_with fail
            refine ⟨KeepsFrom.of_grownBy (grown_of HB2.out) (fun j e => by cases e), KpW.of HB2.out (by have := HB1.out.size; have := hb.size; omega) (by have := HB1.out.size; omega), ?_, HB1.out.trans ((HB2.out).mono HB1.out.size)⟩
            rw [projT_append, projT_one, List.find?_append, HF.out, Option.none_or, List.find?_cons_of_neg (by unfold Tt.badF; rw [HFZ.out]; decide), List.find?_nil]
        · have hxe : (xr != rule) = true := by simp [hxr]
          have HZ3 : Hid (Tt.findF tok rul bodies ws rule (x.way, x.t) = 3) := hid (HF3.out (by simp) (by simp) hxr)
          clear hxr
          have HFZ := hid (HZ3.out : Tt.findF tok rul bodies ws rule (x.way, x.t) = 3)
          gi_wp2_with fail
          refine ⟨trivial, ?_⟩
          gi_wp2_with fail
          refine ⟨trivial, (HCLN.out W2 HB2.out).mono ?_⟩
          rintro _ W3 ⟨A5, c5, rfl, hown5, hb3⟩
          have HCP := hid (CallsIn.inRound l (callsIn_wide (n := 2) |>.2 (clipZ_any A5 0 c5 W3 (own_cap hown5))))
          have HO5 := hid hown5
          have HB3 := hid hb3
          clear hown5 hb3 cC cR l0 l1 l2 l3 l4
          gi_wp2_with fail
          refine ⟨trivial, HCP.out.mono ?_⟩
          rintro _ _ ⟨rfl, rfl⟩
          have h3u := (HB2.out).trans (HB3.out.mono (HB2.out).size)
          have h03 := HB1.out.trans (h3u.mono HB1.out.size)
          have f3 : Boxed W3 (w.heap.size + 1 + 1 + 1 + 1) 36 (.int .u8 0) := (h03.block _ (heap_lt HBF.out.1)).trans HBF.out.1
          have y3 : Boxed W3 (w.heap.size + 1 + 1 + 1 + 1 + 1) 25 (.slice none 0 0) := (h03.block _ (heap_lt HBF.out.2)).trans HBF.out.2
          have cF := f3.cell
          have fF := f3.frozen
          have y4 := y3.other (B' := w.heap.size + 1 + 1 + 1 + 1) (by omega) (.int .u8 3)
          have cY := y4.cell
          have fY := y4.frozen
          have HSTP := hid (check_stop (B := w0.heap.size) rfl (by omega) HBF.out.1 HBF.out.2 HWB.out hb.size HB1.out (HB2.out) HB3.out HO5.out 3)
          clear HCP h3u h03 f3 y3 y4
          gi_wp2_with fail
          obtain ⟨p1, p2, p3, p4, p5, p6⟩ := HSTP.out
          have hfd : (projT (pre ++ [x])).find? (Tt.badF tok rul bodies ws rule) = some (x.way, x.t) := by
            rw [projT_append, projT_one, List.find?_append, HF.out, Option.none_or, List.find?_cons_of_pos (by unfold Tt.badF; rw [HFZ.out]; decide)]
          have hwo : Tt.wayB tok rul bodies ws rule (projT (pre ++ [x])) = x.way := by unfold Tt.wayB; rw [hfd]; rfl
          have hbz : Tt.badZ tok rul bodies ws rule (projT (pre ++ [x])) = 3 := by unfold Tt.badZ; rw [hfd]; show ((Tt.findF tok rul bodies ws rule (x.way, x.t) : Nat) : Int) = _; rw [HFZ.out]; all_goals rfl
          refine ⟨p1, p2, ⟨⟨⟨by rw [hfd]; rfl, A5, c5, ?_⟩, by rw [hbz]; exact p5⟩, p6⟩⟩
          rw [hwo, HM.out]
          exact ⟨p3, p4⟩
      · have hme : ((m : Int) == 0) = false := by simp; omega
        have HM0 := hid hm0
        clear hm0
        by_cases hx0 : (0 : Int) ≤ xr
        · have hx0d : decide ((0 : Int) ≤ xr) = true := decide_eq_true hx0
          obtain ⟨rn, rfl⟩ : ∃ n : Nat, xr = (n : Int) := ⟨xr.toNat, by omega⟩
          obtain ⟨q, hq⟩ : ∃ q, Tt.fitsB tok rul bodies x.t = q := ⟨_, rfl⟩
          have hxh := x.h
          rw [HXT.out, HXC.out] at hxh
          have hfit := CallsIn.inRound l (callsIn_wide (n := 2) |>.2 (fits_any HCK.out HST.out rn xk xd xe xL _ W2 hxh (by have := HPZ.out.2; omega) (by have h1 := szL_len xL; have h2 := HSX.out; rw [HXT.out, Rp.szT] at h2; omega) (HB00.out.trans ((HB1.out.trans (HB2.out.mono HB1.out.size)).mono HB00.out.size))))
          rw [← HXT.out, hq] at hfit
          rw [HXN.out] at hfit
          have HFIT := hid hfit
          have HQ := hid hq
          clear hfit hq hxh
          gi_wp2_with fail
          refine ⟨trivial, HFIT.out.mono ?_⟩
          rintro _ W4 ⟨rfl, hb4⟩
          have HB4 := hid (HB2.out.trans (hb4.mono HB2.out.size))
          clear hb4 HFIT
          cases q
          · have HZ4 : Hid (Tt.findF tok rul bodies ws rule (x.way, x.t) = 4) := hid (HF4.out (by simp) (fun h => HM0.out h.1) hx0 HQ.out)
            have HFZ := hid (HZ4.out : Tt.findF tok rul bodies ws rule (x.way, x.t) = 4)
            gi_wp2_with fail
            refine ⟨trivial, (HCLN.out W4 HB4.out).mono ?_⟩
            rintro _ W3 ⟨A5, c5, rfl, hown5, hb3⟩
            have HCP := hid (CallsIn.inRound l (callsIn_wide (n := 2) |>.2 (clipZ_any A5 m c5 W3 (own_cap hown5))))
            have HO5 := hid hown5
            have HB3 := hid hb3
            clear hown5 hb3 cC cR l0 l1 l2 l3 l4
            gi_wp2_with fail
            refine ⟨trivial, HCP.out.mono ?_⟩
            rintro _ _ ⟨rfl, rfl⟩
            have h3u := (HB4.out).trans (HB3.out.mono (HB4.out).size)
            have h03 := HB1.out.trans (h3u.mono HB1.out.size)
            have f3 : Boxed W3 (w.heap.size + 1 + 1 + 1 + 1) 36 (.int .u8 0) := (h03.block _ (heap_lt HBF.out.1)).trans HBF.out.1
            have y3 : Boxed W3 (w.heap.size + 1 + 1 + 1 + 1 + 1) 25 (.slice none 0 0) := (h03.block _ (heap_lt HBF.out.2)).trans HBF.out.2
            have cF := f3.cell
            have fF := f3.frozen
            have y4 := y3.other (B' := w.heap.size + 1 + 1 + 1 + 1) (by omega) (.int .u8 4)
            have cY := y4.cell
            have fY := y4.frozen
            have HSTP := hid (check_stop (B := w0.heap.size) rfl (by omega) HBF.out.1 HBF.out.2 HWB.out hb.size HB1.out (HB4.out) HB3.out HO5.out 4)
            clear HCP h3u h03 f3 y3 y4
            gi_wp2_with fail
            obtain ⟨p1, p2, p3, p4, p5, p6⟩ := HSTP.out
            have hfd : (projT (pre ++ [x])).find? (Tt.badF tok rul bodies ws rule) = some (x.way, x.t) := by
              rw [projT_append, projT_one, List.find?_append, HF.out, Option.none_or, List.find?_cons_of_pos (by unfold Tt.badF; rw [HFZ.out]; decide)]
            have hwo : Tt.wayB tok rul bodies ws rule (projT (pre ++ [x])) = x.way := by unfold Tt.wayB; rw [hfd]; rfl
            have hbz : Tt.badZ tok rul bodies ws rule (projT (pre ++ [x])) = 4 := by unfold Tt.badZ; rw [hfd]; show ((Tt.findF tok rul bodies ws rule (x.way, x.t) : Nat) : Int) = _; rw [HFZ.out]; all_goals rfl
            refine ⟨p1, p2, ⟨⟨⟨by rw [hfd]; rfl, A5, c5, ?_⟩, by rw [hbz]; exact p5⟩, p6⟩⟩
            rw [hwo, HM.out]
            exact ⟨p3, p4⟩
          · have HZ0 : Hid (Tt.findF tok rul bodies ws rule (x.way, x.t) = 0) := hid (HF0.out (by simp) (fun h => HM0.out h.1) (fun _ => HQ.out))
            have HFZ := hid (HZ0.out : Tt.findF tok rul bodies ws rule (x.way, x.t) = 0)
            clear cC cR l0 l1 l2 l3 l4
            gi_wp2_with fail
            refine ⟨KeepsFrom.of_grownBy (grown_of HB4.out) (fun j e => by cases e), KpW.of HB4.out (by have := HB1.out.size; have := hb.size; omega) (by have := HB1.out.size; omega), ?_, HB1.out.trans ((HB4.out).mono HB1.out.size)⟩
            rw [projT_append, projT_one, List.find?_append, HF.out, Option.none_or, List.find?_cons_of_neg (by unfold Tt.badF; rw [HFZ.out]; decide), List.find?_nil]
        · have hx0d : decide ((0 : Int) ≤ xr) = false := decide_eq_false hx0
          have HZ0 : Hid (Tt.findF tok rul bodies ws rule (x.way, x.t) = 0) := hid (HF0.out (by simp) (fun h => HM0.out h.1) (fun h => absurd h hx0))
          have HFZ := hid (HZ0.out : Tt.findF tok rul bodies ws rule (x.way, x.t) = 0)
          clear HPZ
          gi_wp2_with fail
          refine ⟨trivial, ?_⟩
          gi_wp2_with fail
          refine ⟨KeepsFrom.of_grownBy (grown_of HB2.out) (fun j e => by cases e), KpW.of HB2.out (by have := HB1.out.size; have := hb.size; omega) (by have := HB1.out.size; omega), ?_, HB1.out.trans ((HB2.out).mono HB1.out.size)⟩
          rw [projT_append, projT_one, List.find?_append, HF.out, Option.none_or, List.find?_cons_of_neg (by unfold Tt.badF; rw [HFZ.out]; decide), List.find?_nil]
    · have hpe : ((pf : Int) == 0) = false := by simp; omega
      have hpn : ((pf : Int) != 0) = true := by simp; omega
      have HP0 := hid hp0
      have HZP : Hid (Tt.findF tok rul bodies ws rule (x.way, x.t) = pf) := hid (HFP.out hp0)
      clear hp0
      have HFZ := hid (HZP.out : Tt.findF tok rul bodies ws rule (x.way, x.t) = pf)
      gi_wp2_with fail
      refine ⟨trivial, ?_⟩
      gi_wp2_with fail
      refine ⟨trivial, (HCLN.out W2 HB2.out).mono ?_⟩
      rintro _ W3 ⟨A5, c5, rfl, hown5, hb3⟩
      have HCP := hid (CallsIn.inRound l (callsIn_wide (n := 2) |>.2 (clipZ_any A5 m c5 W3 (own_cap hown5))))
      have HO5 := hid hown5
      have HB3 := hid hb3
      clear hown5 hb3 cC cR l0 l1 l2 l3 l4
      gi_wp2_with fail
      refine ⟨trivial, HCP.out.mono ?_⟩
      rintro _ _ ⟨rfl, rfl⟩
      have h3u := (HB2.out).trans (HB3.out.mono (HB2.out).size)
      have h03 := HB1.out.trans (h3u.mono HB1.out.size)
      have f3 : Boxed W3 (w.heap.size + 1 + 1 + 1 + 1) 36 (.int .u8 0) := (h03.block _ (heap_lt HBF.out.1)).trans HBF.out.1
      have y3 : Boxed W3 (w.heap.size + 1 + 1 + 1 + 1 + 1) 25 (.slice none 0 0) := (h03.block _ (heap_lt HBF.out.2)).trans HBF.out.2
      have cF := f3.cell
      have fF := f3.frozen
      have y4 := y3.other (B' := w.heap.size + 1 + 1 + 1 + 1) (by omega) (.int .u8 (pf : Int))
      have cY := y4.cell
      have fY := y4.frozen
      have HSTP := hid (check_stop (B := w0.heap.size) rfl (by omega) HBF.out.1 HBF.out.2 HWB.out hb.size HB1.out (HB2.out) HB3.out HO5.out (pf : Int))
      clear HCP h3u h03 f3 y3 y4
      gi_wp2_with fail
      obtain ⟨p1, p2, p3, p4, p5, p6⟩ := HSTP.out
      have hfd : (projT (pre ++ [x])).find? (Tt.badF tok rul bodies ws rule) = some (x.way, x.t) := by
        rw [projT_append, projT_one, List.find?_append, HF.out, Option.none_or, List.find?_cons_of_pos (by unfold Tt.badF; rw [HFZ.out]; simpa using HP0.out)]
      have hwo : Tt.wayB tok rul bodies ws rule (projT (pre ++ [x])) = x.way := by unfold Tt.wayB; rw [hfd]; rfl
      have hbz : Tt.badZ tok rul bodies ws rule (projT (pre ++ [x])) = (pf : Int) := by unfold Tt.badZ; rw [hfd]; show ((Tt.findF tok rul bodies ws rule (x.way, x.t) : Nat) : Int) = _; rw [HFZ.out]; all_goals rfl
      refine ⟨p1, p2, ⟨⟨⟨by rw [hfd]; rfl, A5, c5, ?_⟩, by rw [hbz]; exact p5⟩, p6⟩⟩
      rw [hwo, HM.out]
      exact ⟨p3, p4⟩
  case done =>
    rintro D ys W hD hys ⟨hf, hB1⟩ hK
    have hno : (Tt.partsT [] t).find? (Tt.badF tok rul bodies ws rule) = none := by rw [← hys]; exact hf
    have bT1 := (hB1.block _ (heap_lt bT)).trans bT
    have HLV := hid (leaves_any (w0 := w0) (B := w0.heap.size) t _ W hn hok hsz (h00.trans (hB1.mono h00.size)) (Nat.le_trans h00.size hB1.size))
    have t0 : W.cell? ⟨w.heap.size + 1, 0, none⟩ = some u0 := by rw [Lib.cell_of_heap bT1]; rfl
    have t1 : W.cell? ⟨w.heap.size + 1, 1, none⟩ = some u1 := by rw [Lib.cell_of_heap bT1]; rfl
    have t2 : W.cell? ⟨w.heap.size + 1, 2, none⟩ = some u2 := by rw [Lib.cell_of_heap bT1]; rfl
    have t3 : W.cell? ⟨w.heap.size + 1, 3, none⟩ = some u3 := by rw [Lib.cell_of_heap bT1]; rfl
    have t4 : W.cell? ⟨w.heap.size + 1, 4, none⟩ = some u4 := by rw [Lib.cell_of_heap bT1]; rfl
    have HLL := hid (show (Tt.leavesT t).length ≤ 1000000000 by
      unfold Tt.leavesT
      rw [List.length_map]
      exact Nat.le_trans (List.length_filter_le _ _) (by rw [Tt.partsT_len]; exact hsz))
    have HNO := hid hno
    have HBX := hid (And.intro bW (And.intro bF bY))
    have HBB := hid hB1
    have HWB := hid hB0
    have HKD := hid hK
    clear hno hf hys hB1 bC bT bR bW bF bY bX hB0 h00 hn hok hsz hK bT1
    gi_wp2_with fail
    refine ⟨trivial, (callsIn_wide.2 HLV.out).mono ?_⟩
    rintro _ W2 ⟨A2, rfl, hr2, hb2⟩
    obtain ⟨ln, hln⟩ : ∃ n, (Tt.leavesT t).length = n := ⟨_, rfl⟩
    have HR2 := hid hr2
    have HB2 := hid hb2
    have HLN := hid hln
    rw [hln]
    clear hr2 hb2 hln t0 t1 t2 t3 t4 HLV
    gi_wp2_with fail
    have HCW := hid (show Tt.checkW tok rul bodies t rule ws = [] by unfold Tt.checkW; rw [HNO.out]; rfl)
    have HCX := hid (show Tt.checkF tok rul bodies t rule ws = if Tt.leftB ws.length (Tt.leavesT t) then 0 else 5 by unfold Tt.checkF; rw [HNO.out])
    have HBF2 := hid (show Boxed W2 (w.heap.size + 1 + 1 + 1 + 1) 36 (.int .u8 0) ∧ Boxed W2 (w.heap.size + 1 + 1 + 1 + 1 + 1) 25 (.slice none 0 0) from ⟨(HB2.out.block _ (heap_lt ((HBB.out.block _ (heap_lt HBX.out.2.1)).trans HBX.out.2.1))).trans ((HBB.out.block _ (heap_lt HBX.out.2.1)).trans HBX.out.2.1), (HB2.out.block _ (heap_lt ((HBB.out.block _ (heap_lt HBX.out.2.2)).trans HBX.out.2.2))).trans ((HBB.out.block _ (heap_lt HBX.out.2.2)).trans HBX.out.2.2)⟩)
    have bW2 := (HB2.out.block _ (heap_lt ((HBB.out.block _ (heap_lt HBX.out.1)).trans HBX.out.1))).trans ((HBB.out.block _ (heap_lt HBX.out.1)).trans HBX.out.1)
    have HKD2 := hid ((HB2.out.block _ (heap_lt HKD.out)).trans HKD.out)
    have HBW2 := hid (HWB.out.trans ((HBB.out.trans (HB2.out.mono HBB.out.size)).mono HWB.out.size))
    have cW : W2.cell? ⟨w.heap.size + 1 + 1 + 1, 0, none⟩ = some (.slice WA wl wc) := by rw [Lib.cell_of_heap bW2]; rfl
    clear bW2
    refine wpIn_wide.2 ?_
    go_loopw [14, 15, 69] (fun _ _ iv wr => ∃ (i : Nat), i ≤ ln ∧ iv = .int .i64 (i : Int) ∧ Hid (∀ j, j < i → (Tt.leavesT t)[j]? = some (j : Int)) ∧ wr = W2) (fun _ _ iv _ => ln - (intOf iv).toNat)
    case atStart => exact ⟨0, Nat.zero_le _, rfl, hid (fun j h => absurd h (Nat.not_lt_zero _)), rfl⟩
    case round =>
      obtain ⟨i, hi, rfl, HI, hwr⟩ := hrel
      subst hwr
      by_cases hlt : i < ln
      · have hil : i < (Tt.leavesT t).length := by have := HLN.out; omega
        have hltI : (i : Int) < (ln : Int) := by omega
        have hwi : IntKind.i64.wrap ((i : Int) + 1) = (i : Int) + 1 := w64 (by have := HLL.out; omega) (by have := HLL.out; omega)
        obtain ⟨b, o, hA2, hb, _, hc⟩ := HR2.out.2 (by omega)
        have cl := hc i (.int .i64 (Tt.leavesT t)[i]) (by rw [List.getElem?_map, List.getElem?_eq_getElem hil]; rfl)
        obtain ⟨x, hx⟩ : ∃ x, (Tt.leavesT t)[i] = x := ⟨_, rfl⟩
        rw [hx] at cl
        have hgx : (Tt.leavesT t)[i]? = some x := by rw [List.getElem?_eq_getElem hil, hx]
        have HGX := hid hgx
        clear hx hb hc hgx hil
        subst hA2
        by_cases heq : x = (i : Int)
        · have hne : (x != (i : Int)) = false := by simp [heq]
          have HSN := hid (show ∀ j, j < i + 1 → (Tt.leavesT t)[j]? = some (j : Int) from fun j hj => by
            by_cases e : j = i
            · rw [e, HGX.out, heq]
            · exact HI.out j (by omega))
          clear heq
          go_wp2_with fail
          go_roundw
          case rel => exact ⟨i + 1, hlt, by go_num, HSN, by first | rfl | trivial⟩
          case measure => simp only [intOf]; omega
        · have hne : (x != (i : Int)) = true := by simp [heq]
          have hlf : Tt.leftB ws.length (Tt.leavesT t) = false := by
            unfold Tt.leftB
            rw [decide_eq_false (fun h => heq (by have h1 := h i (by have := HLN.out; omega); rw [HGX.out] at h1; injection h1)), Bool.false_and]
          have hcf : Tt.checkF tok rul bodies t rule ws = 5 := by rw [HCX.out, hlf]; rfl
          clear heq hlf
          have HCF := hid hcf
          clear hcf
          have f2 : Boxed wr (w.heap.size + 1 + 1 + 1 + 1) 36 (.int .u8 0) := HBF2.out.1
          have y2 : Boxed wr (w.heap.size + 1 + 1 + 1 + 1 + 1) 25 (.slice none 0 0) := HBF2.out.2
          have cF := f2.cell
          have fF := f2.frozen
          have y4 := y2.other (B' := w.heap.size + 1 + 1 + 1 + 1) (by omega) (.int .u8 5)
          have cY := y4.cell
          have fY := y4.frozen
          clear f2 y2 y4
          go_wp2_with fail
          obtain ⟨f2, y2⟩ := HBF2.out
          have hK' := ((KeepsOthers.setCell wr ⟨w.heap.size + 1 + 1 + 1 + 1, 0, none⟩ (.int .u8 5)).trans (KeepsOthers.setCell _ ⟨w.heap.size + 1 + 1 + 1 + 1 + 1, 0, none⟩ (.slice none 0 0))).same D _ HKD2.out rfl
          refine ⟨by simp, .inl ⟨_, _, rfl, run_takeDeferred hK', ?_⟩⟩
          have b1 := (Boxed.set (.int .u8 5) f2).other (B' := w.heap.size + 1 + 1 + 1 + 1 + 1) (by omega) (.slice none 0 0)
          have b2 := (Boxed.set (.slice none 0 0) (Boxed.other y2 (B' := w.heap.size + 1 + 1 + 1 + 1) (by omega) (.int .u8 5)))
          have hc5 := cell_kept b1.cell (grownBy_putObj' _ D (.deferred none)) (fun r e => by cases e; exact ⟨_, hK', rfl⟩)
          have hc6 := cell_kept b2.cell (grownBy_putObj' _ D (.deferred none)) (fun r e => by cases e; exact ⟨_, hK', rfl⟩)
          refine ⟨.tuple #[.int .u8 5, .slice none 0 0], ?_, ⟨none, by rw [HCW.out, HCF.out]; rfl, by rw [HCW.out]; exact ⟨rfl, fun e => absurd e (Nat.lt_irrefl _)⟩⟩, HBW2.out.trans (((Below.refl _ wr).setCell (p := ⟨w.heap.size + 1 + 1 + 1 + 1, 0, none⟩) (by simp; omega) _ |>.setCell (p := ⟨w.heap.size + 1 + 1 + 1 + 1 + 1, 0, none⟩) (by simp; omega) _).trans (belowK_b (w := w) (Nat.le_refl _) _ D _ _ (by omega) hK' rfl rfl))⟩
          simp [results, Tryz.f11, go_sem, hc5, hc6]
      · have hie : i = ln := by omega
        subst hie
        clear hlt
        by_cases hlw : i = wl
        · have h1 : ((i : Int) != (wl : Int)) = false := by simp [hlw]
          have h2 : (i != wl) = false := by simp [hlw]
          have hlf : Tt.leftB ws.length (Tt.leavesT t) = true := by
            unfold Tt.leftB
            rw [decide_eq_true (fun j hj => HI.out j (by have := HLN.out; omega)), decide_eq_true (by rw [HLN.out, HWL.out, hlw])]
            rfl
          have hcf : Tt.checkF tok rul bodies t rule ws = 0 := by rw [HCX.out, hlf]; rfl
          have HLW := hid hlw
          clear hlf hlw
          have HCF := hid hcf
          clear hcf
          have f2 : Boxed wr (w.heap.size + 1 + 1 + 1 + 1) 36 (.int .u8 0) := HBF2.out.1
          have y2 : Boxed wr (w.heap.size + 1 + 1 + 1 + 1 + 1) 25 (.slice none 0 0) := HBF2.out.2
          have cF := f2.cell
          have fF := f2.frozen
          have y4 := y2.other (B' := w.heap.size + 1 + 1 + 1 + 1) (by omega) (.int .u8 0)
          have cY := y4.cell
          have fY := y4.frozen
          clear f2 y2 y4
          go_wp2_with fail
          gi_wp2_with fail
          obtain ⟨f2, y2⟩ := HBF2.out
          have hK' := ((KeepsOthers.setCell wr ⟨w.heap.size + 1 + 1 + 1 + 1, 0, none⟩ (.int .u8 0)).trans (KeepsOthers.setCell _ ⟨w.heap.size + 1 + 1 + 1 + 1 + 1, 0, none⟩ (.slice none 0 0))).same D _ HKD2.out rfl
          refine ⟨by simp, .inl ⟨_, _, rfl, run_takeDeferred hK', ?_⟩⟩
          have b1 := (Boxed.set (.int .u8 0) f2).other (B' := w.heap.size + 1 + 1 + 1 + 1 + 1) (by omega) (.slice none 0 0)
          have b2 := (Boxed.set (.slice none 0 0) (Boxed.other y2 (B' := w.heap.size + 1 + 1 + 1 + 1) (by omega) (.int .u8 0)))
          have hc5 := cell_kept b1.cell (grownBy_putObj' _ D (.deferred none)) (fun r e => by cases e; exact ⟨_, hK', rfl⟩)
          have hc6 := cell_kept b2.cell (grownBy_putObj' _ D (.deferred none)) (fun r e => by cases e; exact ⟨_, hK', rfl⟩)
          refine ⟨.tuple #[.int .u8 0, .slice none 0 0], ?_, ⟨none, by rw [HCW.out, HCF.out]; rfl, by rw [HCW.out]; exact ⟨rfl, fun e => absurd e (Nat.lt_irrefl _)⟩⟩, HBW2.out.trans (((Below.refl _ wr).setCell (p := ⟨w.heap.size + 1 + 1 + 1 + 1, 0, none⟩) (by simp; omega) _ |>.setCell (p := ⟨w.heap.size + 1 + 1 + 1 + 1 + 1, 0, none⟩) (by simp; omega) _).trans (belowK_b (w := w) (Nat.le_refl _) _ D _ _ (by omega) hK' rfl rfl))⟩
          simp [results, Tryz.f11, go_sem, hc5, hc6]
        · have h1 : ((i : Int) != (wl : Int)) = true := by simp; omega
          have h2 : (i != wl) = true := by simp [hlw]
          have hlf : Tt.leftB ws.length (Tt.leavesT t) = false := by
            unfold Tt.leftB
            rw [decide_eq_false (fun h => hlw (by rw [← HLN.out, ← HWL.out, h]) : ¬ (Tt.leavesT t).length = ws.length), Bool.and_false]
          have hcf : Tt.checkF tok rul bodies t rule ws = 5 := by rw [HCX.out, hlf]; rfl
          clear hlf hlw
          have HCF := hid hcf
          clear hcf
          have f2 : Boxed wr (w.heap.size + 1 + 1 + 1 + 1) 36 (.int .u8 0) := HBF2.out.1
          have y2 : Boxed wr (w.heap.size + 1 + 1 + 1 + 1 + 1) 25 (.slice none 0 0) := HBF2.out.2
          have cF := f2.cell
          have fF := f2.frozen
          have y4 := y2.other (B' := w.heap.size + 1 + 1 + 1 + 1) (by omega) (.int .u8 5)
          have cY := y4.cell
          have fY := y4.frozen
          clear f2 y2 y4
          go_wp2_with fail
          gi_wp2_with fail
          obtain ⟨f2, y2⟩ := HBF2.out
          have hK' := ((KeepsOthers.setCell wr ⟨w.heap.size + 1 + 1 + 1 + 1, 0, none⟩ (.int .u8 5)).trans (KeepsOthers.setCell _ ⟨w.heap.size + 1 + 1 + 1 + 1 + 1, 0, none⟩ (.slice none 0 0))).same D _ HKD2.out rfl
          refine ⟨by simp, .inl ⟨_, _, rfl, run_takeDeferred hK', ?_⟩⟩
          have b1 := (Boxed.set (.int .u8 5) f2).other (B' := w.heap.size + 1 + 1 + 1 + 1 + 1) (by omega) (.slice none 0 0)
          have b2 := (Boxed.set (.slice none 0 0) (Boxed.other y2 (B' := w.heap.size + 1 + 1 + 1 + 1) (by omega) (.int .u8 5)))
          have hc5 := cell_kept b1.cell (grownBy_putObj' _ D (.deferred none)) (fun r e => by cases e; exact ⟨_, hK', rfl⟩)
          have hc6 := cell_kept b2.cell (grownBy_putObj' _ D (.deferred none)) (fun r e => by cases e; exact ⟨_, hK', rfl⟩)
          refine ⟨.tuple #[.int .u8 5, .slice none 0 0], ?_, ⟨none, by rw [HCW.out, HCF.out]; rfl, by rw [HCW.out]; exact ⟨rfl, fun e => absurd e (Nat.lt_irrefl _)⟩⟩, HBW2.out.trans (((Below.refl _ wr).setCell (p := ⟨w.heap.size + 1 + 1 + 1 + 1, 0, none⟩) (by simp; omega) _ |>.setCell (p := ⟨w.heap.size + 1 + 1 + 1 + 1 + 1, 0, none⟩) (by simp; omega) _).trans (belowK_b (w := w) (Nat.le_refl _) _ D _ _ (by omega) hK' rfl rfl))⟩
          simp [results, Tryz.f11, go_sem, hc5, hc6]
  case stop =>
    rintro D pre W hD hpre ⟨⟨⟨hf, A, c, hv, hrow⟩, hk⟩, hB1⟩ hK
    have HI := hid (And.intro hf (And.intro hv (And.intro hrow (And.intro hk (And.intro hB1 hK)))))
    clear hf hv hrow hk hB1 hK
    gi_wp2_with fail
    obtain ⟨hf, hv, hrow, hk, hB1, hK⟩ := HI.out
    refine ⟨by simp, .inl ⟨_, _, rfl, run_takeDeferred hK, ?_⟩⟩
    have hc5 := cell_kept hv.cell (grownBy_putObj' _ D (.deferred none)) (fun r e => by cases e; exact ⟨_, hK, rfl⟩)
    have hc6 := cell_kept hk.cell (grownBy_putObj' _ D (.deferred none)) (fun r e => by cases e; exact ⟨_, hK, rfl⟩)
    have hfp := find_prefix hpre hf
    have hcw : Tt.checkW tok rul bodies t rule ws = Tt.wayB tok rul bodies ws rule (projT pre) := by
      unfold Tt.checkW Tt.wayB
      rw [hfp]
    have hcf : ((Tt.checkF tok rul bodies t rule ws : Nat) : Int) = Tt.badZ tok rul bodies ws rule (projT pre) := by
      unfold Tt.checkF Tt.badZ
      rw [hfp]
      obtain ⟨y, hy⟩ := Option.isSome_iff_exists.1 hf
      rw [hy]
      rfl
    refine ⟨.tuple #[.int .u8 (Tt.badZ tok rul bodies ws rule (projT pre)), .slice A (Tt.wayB tok rul bodies ws rule (projT pre)).length (Tt.wayB tok rul bodies ws rule (projT pre)).length], ?_, ⟨A, by rw [hcw, hcf], ?_⟩, hB1.trans (belowK_b (w := w) (Nat.le_refl _) _ D _ _ (by omega) hK rfl rfl)⟩
    · simp [results, Tryz.f11, go_sem, hc5, hc6]
    · rw [hcw]
      exact RO.of_own0 (ownsRow_putObj hrow _ hK rfl) fun b e => e
end
end Go.Proofs.YtpbnfinmjnpkpaaGreatDoor
/-
  A checker that is not there, or that no call made, finds all wrong ((*trees.Checker).Check at nil, at an empty one): the walk.
-/
namespace Go.Proofs.YtpbnfinmjnpkpaaGreatDoor
open Go.RowKit
set_option maxRecDepth 100000
def VoidP (w : World) (e : Ending) (W' : World) : Prop := e = .returned (.tuple #[.int .u8 1, .slice none 0 0]) ∧ Below w.heap.size w W'
set_option maxHeartbeats 8000000 in
theorem checkNil_any (u0 u1 u2 u3 u4 : Value) (rule : Int) (WA : Option Addr) (wl wc : Nat) (w : World) :
    Calls Tryz.prog 11 #[.pointer none, .agg #[u0, u1, u2, u3, u4], .int .i64 rule, .slice WA wl wc] w (VoidP w) := by
  refine (callsIn_wide (n := 5)).1 ?_
  refine callsIn_of_wp_marks Tryz.func11 rfl trivial ?_ rfl
  simp only [Tryz.ntmps11, List.size_toArray, List.length_cons, List.length_nil, Nat.reduceAdd, Nat.reduceSub, Array.replicate_succ, Array.replicate_zero, List.push_toArray, List.append_toArray, List.nil_append, List.cons_append]
  gi_wp2_with fail
  have b1 := (Boxed.new ((((w.alloc (.cells #[.pointer none] 34)).alloc (.cells #[u0, u1, u2, u3, u4] 24)).alloc (.cells #[.int .i64 rule] 3)).alloc (.cells #[.slice WA wl wc] 25)) 36 (.int .u8 1)).alloc (.cells #[.slice none 0 0] 25)
  have b2 := Boxed.new (((((w.alloc (.cells #[.pointer none] 34)).alloc (.cells #[u0, u1, u2, u3, u4] 24)).alloc (.cells #[.int .i64 rule] 3)).alloc (.cells #[.slice WA wl wc] 25)).alloc (.cells #[.int .u8 1] 36)) 25 (.slice none 0 0)
  simp only [World.size_alloc] at b1 b2
  have hB0 : Below w.heap.size w ((((((w.alloc (.cells #[.pointer none] 34)).alloc (.cells #[u0, u1, u2, u3, u4] 24)).alloc (.cells #[.int .i64 rule] 3)).alloc (.cells #[.slice WA wl wc] 25)).alloc (.cells #[.int .u8 1] 36)).alloc (.cells #[.slice none 0 0] 25)) := ((((((Below.refl _ w).alloc (Nat.le_refl _) _).alloc (by simp) _).alloc (by simp; omega) _).alloc (by simp; omega) _).alloc (by simp; omega) _).alloc (by simp; omega) _
  have c1 := b1.cell
  have c2 := b2.cell
  refine ⟨.tuple #[.int .u8 1, .slice none 0 0], ?_, rfl, hB0⟩
  simp [results, Tryz.f11, go_sem, c1, c2]
set_option maxHeartbeats 8000000 in
theorem checkNone_any (u0 u1 u2 u3 u4 : Value) (rule : Int) (WA : Option Addr) (wl wc : Nat) (w : World) (nb : Nat) (hbx : w.heap[nb]? = some (.cells #[.map none, .map none, .slice none 0 0] 33 (0, 0))) :
    Calls Tryz.prog 11 #[.pointer (some ⟨nb, 0, none⟩), .agg #[u0, u1, u2, u3, u4], .int .i64 rule, .slice WA wl wc] w (VoidP w) := by
  have hnq : ∀ u : World, (binOp BinOp.eql 30 (.map none) (.map none)).run Tryz.prog u = .ok (.bool true) u := fun u => by kernel_rfl
  have hb6 : Below w.heap.size w ((((((w.alloc (.cells #[.pointer (some ⟨nb, 0, none⟩)] 34)).alloc (.cells #[u0, u1, u2, u3, u4] 24)).alloc (.cells #[.int .i64 rule] 3)).alloc (.cells #[.slice WA wl wc] 25)).alloc (.cells #[.int .u8 0] 36)).alloc (.cells #[.slice none 0 0] 25)) := ((((((Below.refl _ w).alloc (Nat.le_refl _) _).alloc (by simp) _).alloc (by simp; omega) _).alloc (by simp; omega) _).alloc (by simp; omega) _).alloc (by simp; omega) _
  have hcm : ((((((w.alloc (.cells #[.pointer (some ⟨nb, 0, none⟩)] 34)).alloc (.cells #[u0, u1, u2, u3, u4] 24)).alloc (.cells #[.int .i64 rule] 3)).alloc (.cells #[.slice WA wl wc] 25)).alloc (.cells #[.int .u8 0] 36)).alloc (.cells #[.slice none 0 0] 25)).cell? ⟨nb, 0, none⟩ = some (.map none) := by rw [Lib.cell_of_heap ((hb6.block _ (heap_lt hbx)).trans hbx)]; rfl
  clear hb6
  refine (callsIn_wide (n := 5)).1 ?_
  refine callsIn_of_wp_marks Tryz.func11 rfl trivial ?_ rfl
  simp only [Tryz.ntmps11, List.size_toArray, List.length_cons, List.length_nil, Nat.reduceAdd, Nat.reduceSub, Array.replicate_succ, Array.replicate_zero, List.push_toArray, List.append_toArray, List.nil_append, List.cons_append]
  gi_wp2_with fail
  have b1 := (Boxed.new ((((w.alloc (.cells #[.pointer (some ⟨nb, 0, none⟩)] 34)).alloc (.cells #[u0, u1, u2, u3, u4] 24)).alloc (.cells #[.int .i64 rule] 3)).alloc (.cells #[.slice WA wl wc] 25)) 36 (.int .u8 1)).alloc (.cells #[.slice none 0 0] 25)
  have b2 := Boxed.new (((((w.alloc (.cells #[.pointer (some ⟨nb, 0, none⟩)] 34)).alloc (.cells #[u0, u1, u2, u3, u4] 24)).alloc (.cells #[.int .i64 rule] 3)).alloc (.cells #[.slice WA wl wc] 25)).alloc (.cells #[.int .u8 1] 36)) 25 (.slice none 0 0)
  simp only [World.size_alloc] at b1 b2
  have hB0 : Below w.heap.size w ((((((w.alloc (.cells #[.pointer (some ⟨nb, 0, none⟩)] 34)).alloc (.cells #[u0, u1, u2, u3, u4] 24)).alloc (.cells #[.int .i64 rule] 3)).alloc (.cells #[.slice WA wl wc] 25)).alloc (.cells #[.int .u8 1] 36)).alloc (.cells #[.slice none 0 0] 25)) := ((((((Below.refl _ w).alloc (Nat.le_refl _) _).alloc (by simp) _).alloc (by simp; omega) _).alloc (by simp; omega) _).alloc (by simp; omega) _).alloc (by simp; omega) _
  have c1 := b1.cell
  have c2 := b2.cell
  refine ⟨.tuple #[.int .u8 1, .slice none 0 0], ?_, rfl, hB0⟩
  simp [results, Tryz.f11, go_sem, c1, c2]
end Go.Proofs.YtpbnfinmjnpkpaaGreatDoor
