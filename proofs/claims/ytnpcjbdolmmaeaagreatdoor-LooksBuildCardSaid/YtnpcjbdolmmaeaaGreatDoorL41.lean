/-
  LooksBuild: the statement's walk. Printed by gen_lklb.py.
-/
import Derived.Test.YtnpcjbdolmmaeaaGreatDoorL39
namespace Go.Proofs.YtnpcjbdolmmaeaaGreatDoor
open Go.RowKit Go.Maps
set_option maxRecDepth 100000
set_option maxHeartbeats 16000000 in
theorem looksb_any (w : World) (n : Drv.NNet) (SA TA UA QA DA : Option Addr) (sc tc uc qc dc : Nat) (z0 z1 z2 z3 : Int) (h : NetR w w.heap.size SA TA UA QA DA n)
    (hS : n.states.length ≤ 100000000000000) (hT : n.starts.length ≤ 100000000000000) (hU : n.stops.length ≤ 100000000000000) (hQ : n.preds.length ≤ 100000000000000) (hD : n.decs.length ≤ 100000000000000)
    (hs : ∀ s ∈ n.states, s.edges.length ≤ 100000000000000 ∧ s.ends.length ≤ 100000000000000) (hkd : ∀ s ∈ n.states, ∀ e ∈ s.edges, 0 ≤ e.kind ∧ e.kind ≤ 255) (hPT : PT w) :
    Calls Tryz.prog 4 #[netAgg SA TA UA QA DA sc tc uc qc dc n, .agg #[.int .i64 z0, .int .i64 z1, .int .i64 z2, .int .i64 z3]] w fun e w' => e = .returned (.bool true) ∧ Below w.heap.size w w' := by
  have z1' : (w.alloc (.cells #[.slice SA n.states.length sc, .slice TA n.starts.length tc, .slice UA n.stops.length uc, .slice QA n.preds.length qc, .slice DA n.decs.length dc] 25)).heap.size = w.heap.size + 1 := by simp
  obtain ⟨w1, hw1⟩ : ∃ w1, Hid ((w.alloc (.cells #[.slice SA n.states.length sc, .slice TA n.starts.length tc, .slice UA n.stops.length uc, .slice QA n.preds.length qc, .slice DA n.decs.length dc] 25)).alloc (.cells #[.int .i64 z0, .int .i64 z1, .int .i64 z2, .int .i64 z3] 53) = w1) := ⟨_, hid rfl⟩
  have hb1 : Below w.heap.size w w1 := by rw [← hw1.out]; exact (below_new _ _).alloc (by omega) _
  have h0 : w1.heap[w.heap.size]? = some (.cells #[.slice SA n.states.length sc, .slice TA n.starts.length tc, .slice UA n.stops.length uc, .slice QA n.preds.length qc, .slice DA n.decs.length dc] 25 (0, 0)) := by
    rw [← hw1.out, Below.heap_alloc _ _ _ (by omega)]; exact heap_alloc_new _ _
  have h1 : w1.heap[w.heap.size + 1]? = some (.cells #[.int .i64 z0, .int .i64 z1, .int .i64 z2, .int .i64 z3] 53 (0, 0)) := by rw [← hw1.out, ← z1']; exact heap_alloc_new _ _
  have HNT := hid (fun (u : World) (hb : Below w.heap.size w u) => (show NetR u u.heap.size SA TA UA QA DA n from ⟨(h.below hb).sts.more hb.size, (h.below hb).starts.more hb.size, (h.below hb).stops.more hb.size, (h.below hb).preds.more hb.size, (h.below hb).decs.more hb.size⟩))
  have HG := hid (netGreat_any w1 n SA TA UA QA DA sc tc uc qc dc (HNT.out w1 hb1) hS hT hU hQ hD hs)
  have HKD := hid hkd
  have HPT := hid hPT
  have HB1 := hid hb1
  have HC0 := hid (fun (u : World) (hb : Below w1.heap.size w1 u) => (show _ from cells5L ((hb.block _ (heap_lt h0)).trans h0)))
  have HC1 := hid (fun (u : World) (hb : Below w1.heap.size w1 u) => (show _ from cells4L ((hb.block _ (heap_lt h1)).trans h1)))
  have HLV := hid (fun (u : World) (hb : Below w.heap.size w u) => lives15_any u (Lib.tabBelow_of_tabIs hPT u hb))
  obtain ⟨q, hq⟩ : ∃ q, Cf.greatC n = q := ⟨_, rfl⟩
  rw [hq] at HG
  have HQ := hid hq
  obtain ⟨n0, n1, n2, n3, n4⟩ := HC0.out w1 (Below.refl _ _)
  obtain ⟨m0, m1, m2, m3⟩ := HC1.out w1 (Below.refl _ _)
  have hl1 := heap_lt h1
  clear h hS hT hU hQ hD hs hkd hPT hb1 h0 h1 hq z1'
  unfold netAgg at HG ⊢
  go_enter Tryz.func4, Tryz.ntmps4
  go_upto_region 1 with fail
  rw [hw1.out]
  clear hw1
  go_cut [34] from 15 to 33 (fun o wx => ∃ cc : Bool, o = .bool cc ∧ Hid (cc = false → q = false) ∧ Hid (Below w1.heap.size w1 wx))
  case first =>
    have HSM := hid (fun (u : World) => small_any z2 z3 u)
    obtain ⟨sm, hsm⟩ : ∃ sm, (decide (z2 ≤ 60) && decide (z3 ≤ 8)) = sm := ⟨_, rfl⟩
    rw [hsm] at HSM
    clear hsm
    cases q with
    | true =>
      go_wp2_with fail
      go_at_call 6
      refine HG.out.mono ?_
      rintro _ w2 ⟨rfl, hb2⟩
      have HB2 := hid hb2
      clear hb2 n0 n1 n2 n3 n4 m0 m1 m2 m3
      go_wp2_with fail
      go_meet
      exact ⟨true, rfl, hid (fun e => by cases e), HB2⟩
    | false =>
      go_wp2_with fail
      go_at_call 6
      refine HG.out.mono ?_
      rintro _ w2 ⟨rfl, hb2⟩
      have HB2 := hid hb2
      clear n0 n1 n2 n3 n4 m0 m1 m2 m3
      obtain ⟨m0, m1, m2, m3⟩ := HC1.out w2 hb2
      clear hb2
      go_wp2_with fail
      go_at_call 19
      refine (HSM.out w2).mono ?_
      rintro _ _ ⟨rfl, rfl⟩
      cases sm with
      | true =>
        go_wp2_with fail
        go_meet
        exact ⟨false, rfl, hid (by simp), HB2⟩
      | false =>
        obtain ⟨b1, hb1⟩ : ∃ b1, decide (z2 ≤ 4096) = b1 := ⟨_, rfl⟩
        obtain ⟨b2, hb2⟩ : ∃ b2, decide (z3 ≤ 64) = b2 := ⟨_, rfl⟩
        cases b1 with
        | false =>
          go_wp2_with fail
          go_meet
          exact ⟨false, rfl, hid (by simp), HB2⟩
        | true =>
          cases b2 with
          | false =>
            go_wp2_with fail
            go_meet
            exact ⟨false, rfl, hid (by simp), HB2⟩
          | true =>
            go_wp2_with fail
            go_meet
            exact ⟨true, rfl, hid (fun e => by cases e), HB2⟩
  case rest =>
    rename World => wx
    obtain ⟨cc, rfl, HCC, HX⟩ := hcut
    have HBX := hid (HB1.out.trans (HX.out.mono HB1.out.size))
    clear n0 n1 n2 n3 n4 m0 m1 m2 m3
    cases cc with
    | true =>
      go_wp2_with fail
      go_at_call 20
      refine (HLV.out wx HBX.out).mono ?_
      rintro _ w3 ⟨rfl, hb3⟩
      go_wp2
      go_ret
      exact ⟨rfl, HBX.out.trans (hb3.mono HBX.out.size)⟩
    | false =>
      have HF := hid (Cf.greatC_small (HQ.out.trans (HCC.out rfl)))
      clear HCC HG HQ
      have NS := hid (nets_of HF.out fun s hs e he => (HKD.out s hs e he).1)
      obtain ⟨n0, n1, n2, n3, n4⟩ := HC0.out wx HX.out
      have hot := netOther_any wx n SA TA UA QA DA sc tc uc qc dc (HNT.out wx HBX.out) NS.out (fun s hs e he => (HKD.out s hs e he).2)
      unfold netAgg at hot
      have HOT := hid hot
      clear hot
      go_wp2_with fail
      go_at_call 10
      refine HOT.out.mono ?_
      rintro _ w4 ⟨OA, oc, rfl, hb4, hRf⟩
      clear n0 n1 n2 n3 n4
      unfold netAgg
      dsimp only
      have hby := below_new w4 (.cells #[.slice OA n.states.length oc, .slice TA n.starts.length tc, .slice UA n.stops.length uc, .slice QA n.preds.length qc, .slice DA n.decs.length dc] 38)
      have h5 := heap_alloc_new w4 (.cells #[.slice OA n.states.length oc, .slice TA n.starts.length tc, .slice UA n.stops.length uc, .slice QA n.preds.length qc, .slice DA n.decs.length dc] 38)
      obtain ⟨w5, hw5⟩ : ∃ w5, Hid (w4.alloc (.cells #[.slice OA n.states.length oc, .slice TA n.starts.length tc, .slice UA n.stops.length uc, .slice QA n.preds.length qc, .slice DA n.decs.length dc] 38) = w5) := ⟨_, hid rfl⟩
      rw [hw5.out] at hby h5
      have hb5 := hb4.trans (hby.mono hb4.size)
      have HC5 := hid (fun (u : World) (hb : Below w5.heap.size w5 u) => (show _ from cells5L ((hb.block _ (heap_lt h5)).trans h5)))
      have HRN := hid (fun (u : World) (hb : Below w4.heap.size w4 u) => (show NetRf u u.heap.size OA TA UA QA DA n from ⟨stsRf_more (hRf.below hb).sts hb.size, (hRf.below hb).starts.more hb.size, (hRf.below hb).stops.more hb.size, (hRf.below hb).preds.more hb.size, (hRf.below hb).decs.more hb.size⟩))
      have HY5 := hid hby
      have HX5 := hid (HX.out.trans (hb5.mono HX.out.size))
      have HBX5 := hid (HBX.out.trans (hb5.mono HBX.out.size))
      obtain ⟨n0, n1, n2, n3, n4⟩ := HC0.out w5 HX5.out
      obtain ⟨m0, m1, m2, m3⟩ := HC1.out w5 HX5.out
      obtain ⟨l, hl⟩ : ∃ l, (Cf.autoQ n z0 z1 z2 z3).getD [] = l := ⟨_, rfl⟩
      obtain ⟨en, hen⟩ : ∃ en, errQ (Cf.autoQ n z0 z1 z2 z3) = en := ⟨_, rfl⟩
      have HBU := hid (fun (u : World) (hb : Below w.heap.size w u) => (show Calls Tryz.prog 21 #[.agg #[.slice SA n.states.length sc, .slice TA n.starts.length tc, .slice UA n.stops.length uc, .slice QA n.preds.length qc, .slice DA n.decs.length dc], .int .i64 z0, .int .i64 z1, .int .i64 z2, .int .i64 z3] u (fun e w' => ∃ A, e = .returned (.tuple #[.agg #[.slice A l.length l.length], .int .i64 en]) ∧ AutIn w' u.heap.size A l ∧ l.length ≤ 4096 ∧ Below u.heap.size u w') from
        (build_all n z0 z1 z2 z3 SA TA UA QA DA sc tc uc qc dc u (HNT.out u hb) NS.out HF.out (Lib.tabBelow_of_tabIs HPT.out u hb)).mono fun e w' hP => by have h9 := hP.uni; rw [hl, hen] at h9; exact h9))
      have HRB := hid (fun (u : World) (hb : Below w5.heap.size w5 u) => (show Calls Tryz.prog 22 #[.agg #[.slice OA n.states.length oc, .slice TA n.starts.length tc, .slice UA n.stops.length uc, .slice QA n.preds.length qc, .slice DA n.decs.length dc], .int .i64 z0, .int .i64 z1, .int .i64 z2, .int .i64 z3] u (fun e w' => ∃ A c, e = .returned (.tuple #[.agg #[.slice A l.length c], .int .i64 en]) ∧ AutR w' u.heap.size A c l ∧ Cf.AutS l ∧ Below u.heap.size u w') from
        (rbuild_all n z0 z1 z2 z3 OA TA UA QA DA oc tc uc qc dc u (HRN.out u (HY5.out.trans (hb.mono HY5.out.size))) NS.out HF.out (Lib.tabBelow_of_tabIs HPT.out u (HBX5.out.trans (hb.mono HBX5.out.size)))).mono fun e w' hP => by have h9 := hP.uni; rw [hl, hen] at h9; exact h9))
      have h45 := heap_lt h5
      clear hb4 hRf hby h5 hb5 HOT hl hen
      go_upto_region 4 with fail
      rw [hw5.out]
      clear hw5
      go_wp2_with fail
      go_at_call 21
      refine (HBU.out w5 HBX5.out).mono ?_
      rintro _ w6 ⟨A, rfl, hau, hln, hb6⟩
      have hby := below_new w6 (.cells #[.slice A l.length l.length] 57)
      have h7 := heap_alloc_new w6 (.cells #[.slice A l.length l.length] 57)
      obtain ⟨w7, hw7⟩ : ∃ w7, Hid (w6.alloc (.cells #[.slice A l.length l.length] 57) = w7) := ⟨_, hid rfl⟩
      rw [hw7.out] at hby h7
      have hb7 := hb6.trans (hby.mono hb6.size)
      have HA7 := hid (hau.below hby)
      have HX7 := hid h7
      have HB57 := hid hb7
      have HX17 := hid (HX5.out.trans (hb7.mono HX5.out.size))
      have HLN := hid hln
      clear n0 n1 n2 n3 n4 m0 m1 m2 m3
      obtain ⟨m0, m1, m2, m3⟩ := HC1.out w7 HX17.out
      obtain ⟨n0, n1, n2, n3, n4⟩ := HC5.out w7 hb7
      clear hby h7 hb7 hau hln hb6
      go_upto_region 5 with fail
      rw [hw7.out]
      clear hw7
      go_wp2_with fail
      go_at_call 22
      refine (HRB.out w7 HB57.out).mono ?_
      rintro _ w8 ⟨B, cb, rfl, hau, hsm, hb8⟩
      have hby := below_new w8 (.cells #[.slice B l.length cb] 62)
      have h9 := heap_alloc_new w8 (.cells #[.slice B l.length cb] 62)
      obtain ⟨w9, hw9⟩ : ∃ w9, Hid (w8.alloc (.cells #[.slice B l.length cb] 62) = w9) := ⟨_, hid rfl⟩
      rw [hw9.out] at hby h9
      have hb79 := hb8.trans (hby.mono hb8.size)
      have h79 := (hb79.block _ (heap_lt HX7.out)).trans HX7.out
      have HX79 := hid h79
      have HX9 := hid h9
      have HB9 := hid (hau.below hby)
      have HX19 := hid (HX17.out.trans (hb79.mono HX17.out.size))
      have HSM := hid hsm
      have HSA := hid (fun (u : World) (hb : Below w9.heap.size w9 u) => sameA_any l A B cb _ _ u ((HA7.out.below hb79).below hb) ((hau.below hby).below hb) hsm HLN.out)
      have a0 : w9.cell? ⟨w6.heap.size, 0, none⟩ = some (.slice A l.length l.length) := by rw [Lib.cell_of_heap h79]; rfl
      have b0 : w9.cell? ⟨w8.heap.size, 0, none⟩ = some (.slice B l.length cb) := by rw [Lib.cell_of_heap h9]; rfl
      have fe : (en != en) = false := by simp
      clear n0 n1 n2 n3 n4 m0 m1 m2 m3 hby h9 hb79 h79 hau hsm hb8
      go_upto_region 6 with fail
      rw [hw9.out]
      clear hw9
      go_wp2_with fail
      go_at_call 23
      refine (HSA.out w9 (Below.refl _ _)).mono ?_
      rintro _ w10 ⟨rfl, hb10⟩
      have HB10 := hid hb10
      have HX110 := hid (HX19.out.trans (hb10.mono HX19.out.size))
      have HBX10 := hid (HB1.out.trans (HX110.out.mono HB1.out.size))
      obtain ⟨n0, n1, n2, n3, n4⟩ := HC0.out w10 HX110.out
      obtain ⟨m0, m1, m2, m3⟩ := HC1.out w10 HX110.out
      clear hb10 a0 b0 fe
      go_upto_region 8 with fail
      go_wp2_with fail
      go_at_call 21
      refine (HBU.out w10 HBX10.out).mono ?_
      rintro _ w11 ⟨C, rfl, hau, _, hb11⟩
      have hby := below_new w11 (.cells #[.slice C l.length l.length] 57)
      have h12 := heap_alloc_new w11 (.cells #[.slice C l.length l.length] 57)
      obtain ⟨w12, hw12⟩ : ∃ w12, Hid (w11.alloc (.cells #[.slice C l.length l.length] 57) = w12) := ⟨_, hid rfl⟩
      rw [hw12.out] at hby h12
      have HST := hid (And.intro (hau.below hby).sh (And.intro (hb11.trans (hby.mono hb11.size)) h12))
      have h1011 := hb11.size
      clear n0 n1 n2 n3 n4 m0 m1 m2 m3 hby h12 hau hb11
      go_upto_region 9 with fail
      rw [hw12.out]
      clear hw12
      go_wp2_with fail
      go_loopw [12] (fun iv wr => ∃ i : Nat, i ≤ l.length ∧ iv = .int .i64 (i : Int) ∧ Hid (AutSh wr w10.heap.size C l ∧ Below w10.heap.size w10 wr ∧ wr.heap[w11.heap.size]? = some (.cells #[.slice C l.length l.length] 57 (0, 0)))) (fun iv _ => l.length - (intOf iv).toNat)
      case atStart => exact ⟨0, Nat.zero_le _, rfl, HST⟩
      case round =>
        clear HST
        obtain ⟨i, hi, rfl, HS⟩ := hrel
        have hln := HLN.out
        have c0 : wr.cell? ⟨w11.heap.size, 0, none⟩ = some (.slice C l.length l.length) := by rw [Lib.cell_of_heap HS.out.2.2]; rfl
        have hwi : IntKind.i64.wrap ((i : Int) + 1) = (i : Int) + 1 := w64 (by omega) (by omega)
        by_cases hlt : i < l.length
        · have hltI : (i : Int) < (l.length : Int) := by omega
          go_wp2_with fail
          clear c0
          go_loopw [13] (fun kv wr => ∃ k : Nat, k ≤ l[i].alts.length ∧ kv = .int .i64 (k : Int) ∧ Hid (AutSh wr w10.heap.size C l ∧ Below w10.heap.size w10 wr ∧ wr.heap[w11.heap.size]? = some (.cells #[.slice C l.length l.length] 57 (0, 0)))) (fun kv _ => l[i].alts.length - (intOf kv).toNat)
          case atStart => exact ⟨0, Nat.zero_le _, rfl, HS⟩
          case round =>
            clear HS
            obtain ⟨k, hk, rfl, HS⟩ := hrel
            have c0 : wr.cell? ⟨w11.heap.size, 0, none⟩ = some (.slice C l.length l.length) := by rw [Lib.cell_of_heap HS.out.2.2]; rfl
            obtain ⟨b, o, AA, ac, EA, ec, hC, c1, c2, r1, r2⟩ := HS.out.1.at i hlt
            have HR1 := hid r1
            have HR2 := hid r2
            have hna : l[i].alts.length ≤ 1000000 := (HSM.out _ (List.getElem_mem hlt)).2.2.1
            have hwk : IntKind.i64.wrap ((k : Int) + 1) = (k : Int) + 1 := w64 (by omega) (by omega)
            rw [hC] at c0
            clear r1 r2
            by_cases hltk : k < l[i].alts.length
            · obtain ⟨g, cs, u, hAA, hgB, hg, hu, hz⟩ := OwnC.cellAt HR1.out k (by omega)
              have HGS := hid hg
              have HCC := hid hC
              obtain ⟨na, hnae⟩ : ∃ na, l[i].alts.length = na := ⟨_, rfl⟩
              rw [hnae] at c1 hltk hna
              rw [hAA] at c1
              have hltkI : (k : Int) < (na : Int) := by omega
              have HNA := hid hnae
              clear hg hC hAA hnae hk
              go_wp2_with fail
              go_roundw
              case rel =>
                have ho := Only.of_set wr g k (.int .i64 (-7))
                exact ⟨k + 1, by have := HNA.out; omega, by go_num, hid ⟨HS.out.1.set HGS.out (by decide), HS.out.2.1.trans (ho.below' (fun k e => by omega) HS.out.2.1.size), (ho.block _ (heap_lt HS.out.2.2) (fun e => by have h9 := HS.out.2.2; rw [e] at h9; exact absurd (type_eq h9 HGS.out) (by decide))).trans HS.out.2.2⟩⟩
              case measure => simp only [intOf]; have := HNA.out; omega
            · have hke : k = l[i].alts.length := by omega
              obtain ⟨na, hnae⟩ : ∃ na, l[i].alts.length = na := ⟨_, rfl⟩
              rw [hnae] at c1 hke
              subst hke
              have HCC := hid hC
              clear hltk hk hnae hna hC
              go_wp2_with fail
              try rw [← HCC.out]
              clear c0 c1 c2
              go_loopw [14] (fun kv wr => ∃ k : Nat, k ≤ l[i].edges.length ∧ kv = .int .i64 (k : Int) ∧ Hid (AutSh wr w10.heap.size C l ∧ Below w10.heap.size w10 wr ∧ wr.heap[w11.heap.size]? = some (.cells #[.slice C l.length l.length] 57 (0, 0)))) (fun kv _ => l[i].edges.length - (intOf kv).toNat)
              case atStart => exact ⟨0, Nat.zero_le _, rfl, HS⟩
              case round =>
                clear HS HR1 HR2 HCC
                obtain ⟨k, hk, rfl, HS⟩ := hrel
                have c0 : wr.cell? ⟨w11.heap.size, 0, none⟩ = some (.slice C l.length l.length) := by rw [Lib.cell_of_heap HS.out.2.2]; rfl
                obtain ⟨b, o, AA, ac, EA, ec, hC, c1, c2, r1, r2⟩ := HS.out.1.at i hlt
                have HR2 := hid r2
                have hna : l[i].edges.length ≤ 1000000 := (HSM.out _ (List.getElem_mem hlt)).2.2.2
                have hwk : IntKind.i64.wrap ((k : Int) + 1) = (k : Int) + 1 := w64 (by omega) (by omega)
                rw [hC] at c0
                have HCC := hid hC
                clear r1 r2 hC
                obtain ⟨na, hnae⟩ : ∃ na, l[i].edges.length = na := ⟨_, rfl⟩
                have HNA := hid hnae
                rw [hnae] at c2 hna hk
                by_cases hltk : k < na
                · obtain ⟨g, cs, u, hAA, hgB, hg, hu, hz⟩ := OwnC.cellAt HR2.out (k * 2 + 1) (by omega)
                  have HGS := hid hg
                  rw [hAA] at c2
                  have hltkI : (k : Int) < (na : Int) := by omega
                  clear hg hAA hnae hk
                  go_wp2_with fail
                  go_roundw
                  case rel =>
                    have ho := Only.of_set wr g (k * 2 + 1) (.int .i64 (-7))
                    exact ⟨k + 1, by have := HNA.out; omega, by go_num, hid ⟨HS.out.1.set HGS.out (by decide), HS.out.2.1.trans (ho.below' (fun k e => by omega) HS.out.2.1.size), (ho.block _ (heap_lt HS.out.2.2) (fun e => by have h9 := HS.out.2.2; rw [e] at h9; exact absurd (type_eq h9 HGS.out) (by decide))).trans HS.out.2.2⟩⟩
                  case measure => simp only [intOf]; have := HNA.out; omega
                · have hke : k = na := by omega
                  subst hke
                  clear hltk hk hnae hna
                  go_wp2_with fail
                  go_roundw
                  case rel => exact ⟨i + 1, hlt, by go_num, HS⟩
                  case measure => simp [intOf]; omega
        · have hie : i = l.length := by omega
          have hltI : ¬ (i : Int) < (l.length : Int) := by omega
          have hb910 := HB10.out.trans (HS.out.2.1.mono HB10.out.size)
          have h79 := (hb910.block _ (heap_lt HX79.out)).trans HX79.out
          have h9 := (hb910.block _ (heap_lt HX9.out)).trans HX9.out
          have a0 : wr.cell? ⟨w6.heap.size, 0, none⟩ = some (.slice A l.length l.length) := by rw [Lib.cell_of_heap h79]; rfl
          have b0 : wr.cell? ⟨w8.heap.size, 0, none⟩ = some (.slice B l.length cb) := by rw [Lib.cell_of_heap h9]; rfl
          have HFB := hid (HBX10.out.trans (HS.out.2.1.mono HBX10.out.size))
          have HSB := HSA.out wr hb910
          have HSB := hid HSB
          clear h79 h9 hb910 hlt hie
          go_wp2_with fail
          go_at_call 23
          refine HSB.out.mono ?_
          rintro _ w20 ⟨rfl, hb20⟩
          have HF20 := hid (HFB.out.trans (hb20.mono HFB.out.size))
          clear hb20 a0 b0 c0
          go_wp2_with fail
          go_at_call 20
          refine (HLV.out w20 HF20.out).mono ?_
          rintro _ w21 ⟨rfl, hb21⟩
          go_wp2
          go_ret
          exact ⟨rfl, HF20.out.trans (hb21.mono HF20.out.size)⟩
end Go.Proofs.YtnpcjbdolmmaeaaGreatDoor
