/-
  ranges.Split: the walk.
-/
import Derived.Test.YtoclbcfgfaialaaGreatDoorSplit
namespace Go.Proofs.YtoclbcfgfaialaaGreatDoor
open Go.RowKit
open Go.Sort (grow)
set_option maxRecDepth 100000
theorem neats_len (lls : List (List Rg)) : (lls.map neatOf).flatten.length ≤ lls.flatten.length := by
  induction lls with
  | nil => simp
  | cons x r ih =>
    have := neatOf_len x
    simp only [List.map_cons, List.flatten_cons, List.length_append]
    omega
theorem neats_wf {lls : List (List Rg)} (h : WfL lls.flatten) : WfL (lls.map neatOf).flatten := by
  intro r hr
  obtain ⟨l, hl, hr⟩ := List.mem_flatten.1 hr
  obtain ⟨x, hx, rfl⟩ := List.mem_map.1 hl
  exact (WfL.neatOf (fun y hy => h y (List.mem_flatten.2 ⟨x, hx, hy⟩))) r hr
theorem NeatRow.spot {gN k : Nat} {lls : List (List Rg)} {wr : World} (h : NeatRow gN lls k wr) (i : Nat) (hi : i < lls.length) : ∃ u, wr.cell? ⟨gN, i, none⟩ = some u ∧ wr.frozen? ⟨gN, i, none⟩ = false := by
  obtain ⟨cs, hh, h2, _⟩ := h
  exact ⟨cs[i]'(by omega), by simp [World.cell?, hh, h2, hi], by simp [World.frozen?, hh]⟩
theorem infoS : (Tryz.prog.info? 28).map (fun i => (i.zero, i.size, i.bytes)) = some (some (.slice none 0 0), 1, 24) := by kernel_rfl
set_option maxHeartbeats 1600000 in
theorem split_at (A : Option Addr) (c : Nat) (lls nl : List (List Rg)) (ps m : List Rg) (w : World) (hl : lls.length ≤ 1000) (hm : lls.flatten.length ≤ 100000) (hwf : WfL lls.flatten) (h : LL w A lls)
    (hnl : Hid (lls.map neatOf = nl)) (hps : Hid ((pairs (placesOf (endsOf nl))).filter (heldB nl) = ps)) (hmm : Hid (foldS nl ps = m)) :
    Calls Tryz.prog 30 #[.slice A lls.length c] w fun e w' => ∃ A' c', e = .returned (.slice A' m.length c') ∧ OwnC w' w.heap.size 66 2 (.slice A' m.length c') m.length (flat encR m) ∧ Below w.heap.size w w' := by
  obtain ⟨i0, hi, hz0, hz1, hz2⟩ := info_parts infoR
  obtain ⟨i1, gi, gz0, gz1, gz2⟩ := info_parts infoS
  go_enter Tryz.func30, Tryz.ntmps30
  have hmk : ∀ u : World, (Instr.makeSlice 60 (.int .i64 (lls.length : Int)) (.int .i64 (lls.length : Int))).run Tryz.prog u =
      .ok (.slice (some ⟨u.heap.size, 0, none⟩) lls.length lls.length) (u.alloc (.cells (madeCells #[.slice none 0 0] lls.length) 28)) := fun u => by
    have h := run_make (P := Tryz.prog) u 60 28 i1 (.slice none 0 0) Tryz.underlying60 gi gz0 .i64 .i64 (lls.length : Int) (lls.length : Int) (by omega) (Int.le_refl _) (by rw [gz2]; omega) (by omega)
    have e : (lls.length : Int).toNat = lls.length := by omega
    rw [e] at h
    simpa [gz1, Value.cells] using h
  go_wp2
  have hs0 : w.heap.size + 2 ≤ ((w.alloc (.cells (madeCells #[.slice none 0 0] lls.length) 28)).alloc (.cells #[.slice (some ⟨w.heap.size, 0, none⟩) lls.length lls.length] 60)).heap.size := by simp
  go_loopw [16] (fun i wr => ∃ k : Nat, k ≤ lls.length ∧ i = .int .i64 k ∧ NeatRow w.heap.size lls k wr ∧ wr.cell? ⟨w.heap.size + 1, 0, none⟩ = some (.slice (some ⟨w.heap.size, 0, none⟩) lls.length lls.length) ∧ Below w.heap.size w wr ∧ w.heap.size + 2 ≤ wr.heap.size) (fun i _ => lls.length - (intOf i).toNat)
  case atStart =>
    refine ⟨0, Nat.zero_le _, rfl, ⟨_, (Below.heap_alloc _ _ _ (by simp)).trans (heap_alloc_new w _), by simp [madeCells], fun i _ hk => absurd hk (by omega)⟩, ?_, ((Below.refl _ _).alloc (Nat.le_refl _) _).alloc (by simp) _, hs0⟩
    rw [← size_alloc w (.cells (madeCells #[.slice none 0 0] lls.length) 28)]; exact cell_new _ _ _ _
  case round =>
    clear hs0 hmk
    obtain ⟨k, hk, rfl, hrow, hcN, hb, hsz⟩ := hrel
    by_cases hlt : k < lls.length
    · obtain ⟨b, off, Ai, ci, rfl, hbl, hc, hri⟩ := h.at k hlt
      have hc' := (hb.cell (p := ⟨b, off + k, none⟩) hbl).trans hc
      have hql : lls[k].length ≤ lls.flatten.length := by
        have := flatten_take_len lls k hlt
        have := flatten_take_le lls (k+1)
        omega
      have hqwf : WfL lls[k] := fun r hr => hwf r (List.mem_flatten.2 ⟨_, List.getElem_mem hlt, hr⟩)
      have hri2 := hri.next hb
      have hrid : Reads wr.drew wr.drew.heap.size 2 Ai lls[k].length (flat encR lls[k]) := hri2
      have hcd : wr.drew.cell? ⟨w.heap.size + 1, 0, none⟩ = some (.slice (some ⟨w.heap.size, 0, none⟩) lls.length lls.length) := hcN
      have hrowd : NeatRow w.heap.size lls k wr.drew := hrow
      have hput : Hid (∀ (w' : World) (A : Option Addr) (c : Nat), NeatRow w.heap.size lls k w' → OwnC w' (w.heap.size+1) 66 2 (.slice A (neatOf lls[k]).length c) (neatOf lls[k]).length (flat encR (neatOf lls[k])) → NeatRow w.heap.size lls (k+1) (w'.setCell ⟨w.heap.size, k, none⟩ (.slice A (neatOf lls[k]).length c))) := fun w' A c h1 h2 => h1.put hlt h2
      have e1 : (0 : Int) ≤ (k : Int) := by omega
      have e2 : (k : Int).toNat = k := by omega
      have e3 : (k : Int) < (lls.length : Int) := by omega
      generalize lls[k] = q at hc' hql hqwf hrid hput
      clear hri hc hri2
      generalize hnq : neatOf q = nq at hput
      have HNQ := hid hnq
      clear hnq
      go_wp2_with fail
      go_region_law
        (first
          | (go_simp; go_at_call 56; refine (neat_any Ai ci q _ (by omega) hqwf (by first | exact hrid | exact hrid.next ‹_›)).mono ?_; rw [HNQ.out]; rintro e w' ⟨A', c', rfl, hownA, hbA⟩; have hrowA := hrowd.next hbA (Nat.le_refl _); obtain ⟨u, hcu, hfu⟩ := hrowA.spot k hlt; have hcd2 := (hbA.cell (p := ⟨w.heap.size + 1, 0, none⟩) (by show w.heap.size + 1 < wr.heap.size; omega)).trans hcd))
      all_goals
        clear e1 e2 e3
        go_wp2
        go_roundw
        case rel => exact ⟨k + 1, by omega, by go_num, hput.out _ _ _ hrowA (hownA.base (show w.heap.size + 1 ≤ wr.heap.size by omega)), cell_set_far (by simp) hcd2, Below.setCell (hb.trans ⟨hbA.os, hbA.tape, hbA.output, hbA.size, fun j hj => hbA.block j (Nat.lt_of_lt_of_le hj hb.size)⟩) (Nat.le_refl _) _, by have := hbA.size; simp at this ⊢; omega⟩
        case measure => simp [intOf]; omega
    · have hkl : k = lls.length := by omega
      subst hkl
      have hll := hrow.ll
      rw [hnl.out] at hll
      have HNL : nl.length = lls.length := by rw [← hnl.out, List.length_map]
      have hnf : nl.flatten.length ≤ lls.flatten.length := by rw [← hnl.out]; exact neats_len lls
      have hnw : WfL nl.flatten := by rw [← hnl.out]; exact neats_wf hwf
      have hnm : ∀ l ∈ nl, l.length ≤ 10000000 := fun l hl => by
        have : l.length ≤ nl.flatten.length := by
          obtain ⟨i, hi, rfl⟩ := List.getElem_of_mem hl
          have := flatten_take_len nl i hi
          have := flatten_take_le nl (i+1)
          omega
        omega
      have hnm1 : nl.flatten.length ≤ 100000 := by omega
      clear hrow h hm
      have H1 := hid HNL
      clear HNL
      go_wp2_with fail
      have hcuts := cuts_at (some ⟨w.heap.size, 0, none⟩) lls.length nl _ _ wr (by rw [H1.out]; exact hl) (hid rfl) (hid rfl) (by omega) hnw hll
      rw [H1.out] at hcuts
      refine hcuts.mono ?_
      clear hcuts
      rintro e w2 ⟨v2, rfl, hown2, hb2⟩
      have hks : (pairs (placesOf (endsOf nl))).length ≤ 1000000 := by
        have h1 := pairs_len (placesOf (endsOf nl))
        have h2 := placesOf_len (endsOf nl)
        have h3 := endsOf_len nl
        omega
      have hkw := pairs_wf hnw
      have hps' := hps.out
      generalize pairs (placesOf (endsOf nl)) = pp at hown2 hks hps' hkw
      have HPS := hid hps'
      clear hps'
      obtain ⟨A2, c2, rfl, hr2, hc2⟩ := Reads.own hown2
      have hpl : w.heap.size + 1 < wr.heap.size := by omega
      have hpred : PredW 57 #[.pointer (some ⟨w.heap.size + 1, 0, none⟩)] (heldB nl) w2 := by
        intro w3 r hbr
        have hbr' := hb2.trans (hbr.mono hb2.size)
        have hs := hbr'.size
        have hcc := (hbr'.cell (p := ⟨w.heap.size + 1, 0, none⟩) hpl).trans hcN
        rw [← H1.out] at hcc
        exact split1_any nl (some ⟨w.heap.size, 0, none⟩) nl.length _ r w3 (by rw [H1.out]; exact hl) hnm (hll.next hbr') hcc (by omega)
      clear hown2
      go_wp2_with fail
      refine (kept_any 57 _ (heldB nl) split1_enters A2 c2 pp w2 (by omega) hr2 hpred).mono ?_
      rw [HPS.out]
      rintro e w3 ⟨v3, rfl, hown3, hb3⟩
      have hpw : WfL ps := by rw [← HPS.out]; exact fun r hr => hkw r (List.mem_filter.1 hr).1
      have hpn : ps.length ≤ 1000000 := by rw [← HPS.out]; exact Nat.le_trans (List.length_filter_le _ _) hks
      obtain ⟨A3, c3, rfl, hr3, hc3⟩ := Reads.own hown3
      have hb23 : Below wr.heap.size wr w3 := hb2.trans (hb3.mono hb2.size)
      have hbw3 : Below w.heap.size w w3 := hb.trans (hb23.mono hb.size)
      have hlike : Hid (∀ (w4 : World) (a b : Rg), Wf a → Wf b → Below wr.heap.size wr w4 → Calls Tryz.prog 60 #[.agg #[.int .i32 a.1, .int .i32 a.2], .agg #[.int .i32 b.1, .int .i32 b.2], .pointer (some ⟨w.heap.size + 1, 0, none⟩)] w4 fun e w' => e = .returned (.bool (alikeB nl a b)) ∧ Below w4.heap.size w4 w') := by
        intro w4 a b ha hb4 hbr'
        have hs := hbr'.size
        have hcc := (hbr'.cell (p := ⟨w.heap.size + 1, 0, none⟩) hpl).trans hcN
        rw [← H1.out] at hcc
        exact split2_any nl (some ⟨w.heap.size, 0, none⟩) nl.length _ a b w4 ha hb4 (by rw [H1.out]; exact hl) hnm (hll.next hbr') hcc (by omega)
      have HPRE : Hid (Below wr.heap.size wr w3) := hb23
      have hs3 : wr.heap.size ≤ w3.heap.size := hb23.size
      obtain ⟨wq, hwq⟩ : ∃ wq, Hid (wq = wr) := ⟨_, rfl⟩
      rw [← hwq.out] at hlike HPRE hs3
      clear hown3 hb3 hb2 hb23 hpred hll hcN hr2 hb hsz
      go_wp2_with fail
      go_loopw [2, 34] (fun v i wr => ∃ k : Nat, k ≤ ps.length ∧ i = .int .i64 k ∧ WfL (foldS nl (ps.take k)) ∧ wr.ownsRow w3.heap.size 66 2 v (foldS nl (ps.take k)).length (flat encR (foldS nl (ps.take k))) ∧ Below w3.heap.size w3 wr) (fun _ i _ => ps.length - (intOf i).toNat)
      case atStart => exact ⟨0, Nat.zero_le _, rfl, fun r h => absurd h (by simp [foldS]), by simpa [flat, foldS] using World.ownsRow_nil w3 _ 66 2, Below.refl _ _⟩
      case round =>
        obtain ⟨k, hk, rfl, hwm, hown, hb⟩ := hrel
        by_cases hlt : k < ps.length
        · obtain ⟨b, off, rfl, hbl, c0, c1⟩ := readsR hr3 hb k hlt
          have hms := foldS_snoc nl ps k hlt
          have hml := foldS_len nl ps k hk
          have hrw := hpw _ (List.getElem_mem hlt)
          generalize hq : ps[k] = q at c0 c1 hms hrw
          clear hq
          generalize hmm2 : foldS nl (ps.take k) = m0' at hown hwm hms hml
          have HM := hid hms
          clear hmm2 hms
          rcases List.eq_nil_or_concat m0' with h0 | ⟨m0, z, h0⟩
          · subst h0
            simp only [List.length_nil] at hown hml
            obtain ⟨A4, c4, rfl, _, _⟩ := Reads.own hown
            go_wp2_with fail
            go_quiet (fail)
            go_wp2_with (at_builtin; go_must (refine wpList_push _ rfl _ _ 28 rfl w3.heap.size 66 i0 _ 2 8 Tryz.underlying28 hi hz0 hz1 hz2 rfl (by omega) _ _ _ rfl (own_drewN (hown.alloc _) _) [.int .i32 q.1, .int .i32 q.2] 1 _ rfl (by simp) rfl (by simp [Value.oneCell']) (by simp only [maxLen]; omega) (by omega) (below_drewN (hb.alloc hb.size _) _).size ?_); intro v' w' hown' hsz' hB')
            go_roundw
            case rel => exact ⟨k + 1, by omega, by go_num, by rw [HM.out]; exact WfL.addS (fun r h => absurd h (by simp)) hrw, by rw [HM.out]; simpa [flat, encR, addS] using hown', hB' _ (below_drewN (hb.alloc hb.size _) _)⟩
            case measure => simp [intOf]; omega
          · rw [List.concat_eq_append] at h0
            obtain ⟨j, hj⟩ : ∃ j, m0.length = j := ⟨_, rfl⟩
            have hmj : m0'.length = j + 1 := by rw [h0]; simp [hj]
            rw [hmj, h0] at hown
            have hown' := hown
            obtain ⟨_, h2⟩ := hown'
            rcases h2 with ⟨_, h2⟩ | ⟨g, cap, cur, rfl, hg, _, _, _⟩
            · exact absurd h2 (by omega)
            have hz := hwm z (by rw [h0]; simp)
            have hgl := (hown.lt g rfl).2
            obtain ⟨wa, hwa⟩ : ∃ wa, Hid (wa = wr.alloc (.cells #[.int .i32 q.1, .int .i32 q.2] 66)) := ⟨_, rfl⟩
            have hba : Below wr.heap.size wr wa := by rw [hwa.out]; exact (Below.refl _ _).alloc (Nat.le_refl _) _
            have hgr : Reads wr wr.heap.size 2 (some ⟨g, 0, none⟩) (m0 ++ [z]).length (flat encR (m0 ++ [z])) := by
              have := Reads.of_own hown
              rwa [show j + 1 = (m0 ++ [z]).length by simp [hj]] at this
            obtain ⟨g', off', hA, _, d0, d1⟩ := readsR hgr hba j (by simp [hj])
            injection hA with hA
            injection hA with hA1 hA2 _
            subst hA1 hA2
            rw [show (m0 ++ [z])[j]'(by simp [hj]) = z by simp [← hj]] at d0 d1
            simp only [Nat.zero_add] at d0 d1
            have f0 : wa.cell? ⟨wr.heap.size, 0, none⟩ = some (.int .i32 q.1) := by rw [hwa.out]; exact cell_new _ _ _ _
            have f1 : wa.cell? ⟨wr.heap.size, 1, none⟩ = some (.int .i32 q.2) := by rw [hwa.out]; exact cell_new _ _ _ _
            have x0 := fun d os => cell_regrown d0 d os
            have x1 := fun d os => cell_regrown d1 d os
            have x2 := fun d os => cell_regrown f0 d os
            have x3 := fun d os => cell_regrown f1 d os
            have hbwa : Below w3.heap.size w3 wa := hb.trans (hba.mono hb.size)
            have ca := fun (dd : Nat) (os : Array Obj) => Calls.regrown_of (w := wa) (d := dd) (os := os) (hlike.out (grow (redrawn wa dd) os) z q hz hrw (HPRE.out.trans ((hbwa.trans ((below_regrown wa dd os).mono hbwa.size)).mono hs3)))
            have hownA : wa.ownsRow w3.heap.size 66 2 (.slice (some ⟨g, 0, none⟩) (j+1) cap) (j+1) (flat encR (m0 ++ [z])) := by rw [hwa.out]; exact hown.alloc _
            rw [hmj] at hml
            have HO := hid hownA
            have H0 := hid h0
            have HJ := hid hj
            have HWM := hid hwm
            clear hown hmj h0 hj hgr hownA hwm
            have e1 : IntKind.i64.wrap (j : Int) = j := w64 (by omega) (by omega)
            have e5 : (j : Int) < (j : Int) + 1 := by omega
            have e6 : (0 : Int) ≤ (j : Int) := by omega
            have e7 : (j : Int).toNat = j := by omega
            have e8 : (0 : Int) < (j : Int) + 1 := by omega
            cases hbb : alikeB nl z q with
            | true =>
              have HBB := hid hbb
              rw [hbb] at ca
              clear hbb
              go_wp2_with fail
              rw [← hwa.out]
              refine wp_region_quiet_below (by kernel_rfl) (by kernel_rfl) ?_
              repeat (quiet_step (exact ca _ _))
              refine wpQuiet_nil ?_
              intro w5 hw'
              obtain ⟨p5, hw5⟩ := hw'
              have hb5 : Below wa.heap.size wa w5 := by rw [hw5]; exact below_regrown wa _ _
              clear hw5 p5
              have hs1 : wr.heap.size < wa.heap.size := by rw [hwa.out]; simp
              have hs2 : g < wa.heap.size := by omega
              have y0 := (hb5.cell (p := ⟨wr.heap.size, 0, none⟩) hs1).trans f0
              have y1 := (hb5.cell (p := ⟨wr.heap.size, 1, none⟩) hs1).trans f1
              have y2 := (hb5.cell (p := ⟨g, j*2+1, none⟩) hs2).trans d1
              have own5 := ownsRow_below HO.out hb5 (Nat.le_refl _)
              have y3 := own_frozen own5 (j*2+1)
              have hbw5 : Below w3.heap.size w3 w5 := hbwa.trans (hb5.mono hbwa.size)
              have HO5 := hid own5
              clear x0 x1 x2 x3 ca own5
              go_wp2
              go_roundw
              case rel =>
                refine ⟨k + 1, by omega, by go_num, ?_, ?_, ?_⟩
                · rw [HM.out]; exact WfL.addS HWM.out hrw
                · have ea : addS nl m0' q = m0 ++ [(z.1, q.2)] := by rw [H0.out]; simp [addS, HBB.out]
                  rw [HM.out, ea, show (m0 ++ [(z.1, q.2)]).length = j + 1 by simp [HJ.out]]
                  exact ownsRow_setLast HJ.out HO5.out
                · exact Below.setCell hbw5 hg _
              case measure => simp [intOf]; omega
            | false =>
              have HBB := hid hbb
              rw [hbb] at ca
              clear hbb
              go_wp2_with fail
              rw [← hwa.out]
              refine wp_region_quiet_below (by kernel_rfl) (by kernel_rfl) ?_
              repeat (quiet_step (exact ca _ _))
              refine wpQuiet_nil ?_
              intro w5 hw'
              obtain ⟨p5, hw5⟩ := hw'
              have hb5 : Below wa.heap.size wa w5 := by rw [hw5]; exact below_regrown wa _ _
              clear hw5 p5
              have hs1 : wr.heap.size < wa.heap.size := by rw [hwa.out]; simp
              have hs2 : g < wa.heap.size := by omega
              have y0 := (hb5.cell (p := ⟨wr.heap.size, 0, none⟩) hs1).trans f0
              have y1 := (hb5.cell (p := ⟨wr.heap.size, 1, none⟩) hs1).trans f1
              have y2 := (hb5.cell (p := ⟨g, j*2+1, none⟩) hs2).trans d1
              have own5 := ownsRow_below HO.out hb5 (Nat.le_refl _)
              have y3 := own_frozen own5 (j*2+1)
              have hbw5 : Below w3.heap.size w3 w5 := hbwa.trans (hb5.mono hbwa.size)
              have HO5 := hid own5
              clear x0 x1 x2 x3 ca own5
              go_wp2_with (at_builtin; go_must (refine wpList_push _ rfl _ _ 28 rfl w3.heap.size 66 i0 _ 2 8 Tryz.underlying28 hi hz0 hz1 hz2 rfl (by omega) _ _ _ rfl HO5.out [.int .i32 q.1, .int .i32 q.2] 1 _ rfl (by simp) rfl (by simp [Value.oneCell']) (by simp only [maxLen]; omega) (by omega) hbw5.size ?_); intro v' w' hown' hsz' hB')
              go_roundw
              case rel =>
                refine ⟨k + 1, by omega, by go_num, ?_, ?_, ?_⟩
                · rw [HM.out]; exact WfL.addS HWM.out hrw
                · have ea : addS nl m0' q = m0 ++ [z] ++ [q] := by rw [H0.out]; simp [addS, HBB.out]
                  rw [HM.out, ea, show (m0 ++ [z] ++ [q]).length = j + 1 + 1 by simp [HJ.out], flat_snoc]
                  exact hown'
                · exact hB' _ hbw5
              case measure => simp [intOf]; omega
        · have hkl : k = ps.length := by omega
          subst hkl
          rw [List.take_length] at hown
          rw [hmm.out] at hown
          obtain ⟨A4, c4, rfl, hr4, hc4⟩ := Reads.own hown
          go_wp2_with (go_at_call 33; refine (clip_any A4 _ c4 _ hc4).mono ?_; rintro e w5 ⟨rfl, rfl⟩)
          go_ret
          exact ⟨A4, _, rfl, ((OwnC.of hown).clip).base hbw3.size, hbw3.trans (hb.mono hbw3.size)⟩
end Go.Proofs.YtoclbcfgfaialaaGreatDoor
