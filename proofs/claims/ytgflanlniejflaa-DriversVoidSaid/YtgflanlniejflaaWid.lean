/-
  Drivers: how much a rule may do without a token: the walk.
-/
import Derived.Test.YtgflanlniejflaaWid1
import Derived.Laws.EntriesVeiled
namespace Go.Proofs.Ytgflanlniejflaa
open Go.RowKit
set_option maxRecDepth 100000
theorem made_ints0 (n : Nat) : madeCells #[Value.int .i64 0] n = ((List.replicate n (0 : Int)).map (Value.int .i64)).toArray := by
  apply Array.ext
  · simp [madeCells]
  · intro i h1 h2
    simp [madeCells, Nat.mod_one]
theorem mkInts (n : Nat) (hn : n ≤ 1000000) (u : World) : (Instr.makeSlice 23 (.int .i64 (n : Int)) (.int .i64 (n : Int))).run Try.prog u =
      .ok (.slice (some ⟨u.heap.size, 0, none⟩) n n) (u.alloc (.cells ((List.replicate n (0 : Int)).map (Value.int .i64)).toArray 3)) := by
  obtain ⟨i2, hi2, hz2, hs2, hy2⟩ := info_of infoZ
  have h := run_make (P := Try.prog) u 23 3 i2 (.int .i64 0) Try.underlying23 hi2 hz2 .i64 .i64 (n : Int) (n : Int) (by omega) (Int.le_refl _) (by rw [hy2]; omega) (by omega)
  have e : (n : Int).toNat = n := by omega
  rw [e] at h
  rw [← made_ints0]
  simpa [hs2, Value.cells] using h
/-- what wide leaves -/
def WideP (n : Drv.NNet) (w : World) (e : Ending) (w' : World) : Prop := ∃ k, Drv.Known n k ∧ e = .returned (.int .i64 (Drv.wideR n k.rul)) ∧ Below w.heap.size w w'
set_option maxHeartbeats 12800000 in
theorem wide_any (w : World) (n : Drv.NNet) (SA TA UA QA DA : Option Addr) (sc tc uc qc dc : Nat) (h : NetR w w.heap.size SA TA UA QA DA n) (hs : NetS n) (hm : Drv.mayNet n = true) :
    Calls Try.prog 30 #[netAgg SA TA UA QA DA sc tc uc qc dc n] w (WideP n w) := by
  obtain ⟨R, hR⟩ : ∃ R, n.starts.length = R := ⟨_, rfl⟩
  have lT := hs.starts
  rw [hR] at lT
  have hmk := mkInts R lT
  obtain ⟨nS, hnS⟩ : ∃ m, n.states.length = m := ⟨_, rfl⟩
  obtain ⟨nU, hnU⟩ : ∃ m, n.stops.length = m := ⟨_, rfl⟩
  obtain ⟨nQ, hnQ⟩ : ∃ m, n.preds.length = m := ⟨_, rfl⟩
  obtain ⟨nD, hnD⟩ : ∃ m, n.decs.length = m := ⟨_, rfl⟩
  obtain ⟨w1, hw1⟩ : ∃ x, x = w.alloc (.cells #[.slice SA nS sc, .slice TA R tc, .slice UA nU uc, .slice QA nQ qc, .slice DA nD dc] 25) := ⟨_, rfl⟩
  have z1 : w1.heap.size = w.heap.size + 1 := by rw [hw1]; simp
  have b1 : Below w.heap.size w w1 := by rw [hw1]; exact below_new _ _
  have T1 : w1.heap[w.heap.size]? = some (.cells #[.slice SA nS sc, .slice TA R tc, .slice UA nU uc, .slice QA nQ qc, .slice DA nD dc] 25 (0, 0)) := by rw [hw1]; exact heap_alloc_new _ _
  have cr := reaches_any w1 n SA TA UA QA DA sc tc uc qc dc (h.up b1 b1.size) hs hm
  unfold netAgg at cr ⊢
  rw [hnS, hR, hnU, hnQ, hnD] at cr ⊢
  have CR := hid cr
  have H := hid (h.up b1 b1.size)
  have HS := hid hs
  have HM := hid hm
  have HT1 := hid T1
  have HB1 := hid b1
  have hW1 := hid hw1.symm
  have HR := hid hR
  have y0 : w1.cell? ⟨w.heap.size, 0, none⟩ = some (.slice SA nS sc) := by rw [Lib.cell_of_heap T1]; rfl
  have y1 : w1.cell? ⟨w.heap.size, 1, none⟩ = some (.slice TA R tc) := by rw [Lib.cell_of_heap T1]; rfl
  have y2 : w1.cell? ⟨w.heap.size, 2, none⟩ = some (.slice UA nU uc) := by rw [Lib.cell_of_heap T1]; rfl
  have y3 : w1.cell? ⟨w.heap.size, 3, none⟩ = some (.slice QA nQ qc) := by rw [Lib.cell_of_heap T1]; rfl
  have y4 : w1.cell? ⟨w.heap.size, 4, none⟩ = some (.slice DA nD dc) := by rw [Lib.cell_of_heap T1]; rfl
  have HSZ := hid (And.intro hnS (And.intro hnU (And.intro hnQ hnD)))
  clear h hs hm hw1 z1 b1 T1 hR cr hnS hnU hnQ hnD
  go_enter Try.func30, Try.ntmps30
  go_upto_region 1 with fail
  rw [hW1.out]
  clear hW1
  go_wp2_with fail
  refine CR.out.mono ?_
  rintro e w2 ⟨kb, kn, rfl, hKM, hkb, hb2, hKN, hFU⟩
  rw [HR.out] at hKM hFU ⊢
  obtain ⟨w3, hw3⟩ : ∃ x, x = w2.alloc (.cells #[.slice (some ⟨kb, 0, none⟩) R R] 134) := ⟨_, rfl⟩
  have z3 : w3.heap.size = w2.heap.size + 1 := by rw [hw3]; simp
  have hl1 : w.heap.size < w1.heap.size := heap_lt HT1.out
  have hb13 : Below w1.heap.size w1 w3 := by rw [hw3]; exact hb2.alloc hb2.size _
  have ho3 : Only (fun _ => False) w2 w3 := by rw [hw3]; exact Only.of_below (below_new _ _)
  have T3 : w3.heap[w2.heap.size]? = some (.cells #[.slice (some ⟨kb, 0, none⟩) R R] 134 (0, 0)) := by rw [hw3]; exact heap_alloc_new _ _
  have hn13 := hb13.block _ hl1
  have HWS : Hid (WdS w3 w3.heap.size w.heap.size w2.heap.size SA TA UA QA DA (some ⟨kb, 0, none⟩) sc tc uc qc dc R n kn) := by
    obtain ⟨g1, g2, g3, g4⟩ := HSZ.out
    have hsz13 := hb13.size
    refine hid ⟨H.out.up hb13 hb13.size, ?_, ?_, by omega, by omega, ?_, ?_⟩
    · rw [HR.out]; exact (hKM.still ho3).toR
    · rw [HR.out]; exact hFU
    · rw [hn13, HT1.out, g1, g2, g3, g4, HR.out]
    · rw [HR.out]; exact T3
  have HB3 := hid (HB1.out.trans (hb13.mono HB1.out.size))
  have HKN := hid hKN
  have c1 : w3.cell? ⟨w.heap.size, 1, none⟩ = some (.slice TA R tc) := (hb13.cell (p := ⟨w.heap.size, 1, none⟩) hl1).trans y1
  have HW3 := hid hw3.symm
  obtain ⟨b3, hb3e⟩ : ∃ b3, b3 = w2.heap.size := ⟨_, rfl⟩
  have hb3l : b3 < w3.heap.size := by omega
  rw [← hb3e] at HWS T3
  have c3 : w3.cell? ⟨b3, 0, none⟩ = some (.slice (some ⟨kb, 0, none⟩) R R) := by rw [Lib.cell_of_heap T3]; rfl
  have HB3E := hid hb3e
  clear hw3 z3 hb13 ho3 T3 hn13 hKM hFU hKN hb2 hkb y0 y1 y2 y3 y4 hl1 hb3e
  go_upto_region 2 with fail
  rw [HW3.out, ← HB3E.out]
  clear HW3 HB3E
  go_upto_region 5 with fail
  obtain ⟨w4, hw4⟩ : ∃ x, x = w3.alloc (.cells (Array.replicate R (Value.int .i64 0)) 3) := ⟨_, rfl⟩
  obtain ⟨w5, hw5⟩ : ∃ x, x = w4.alloc (.cells #[.slice (some ⟨w3.heap.size, 0, none⟩) R R] 23) := ⟨_, rfl⟩
  obtain ⟨w6, hw6⟩ : ∃ x, x = w5.alloc (.cells #[clo54 (w3.heap.size + 1) w.heap.size b3 (w3.heap.size + 1 + 1)] 119) := ⟨_, rfl⟩
  have z4 : w4.heap.size = w3.heap.size + 1 := by rw [hw4]; simp
  have z5 : w5.heap.size = w3.heap.size + 1 + 1 := by rw [hw5]; simp [z4]
  have hl1 : w.heap.size < w3.heap.size := HWS.out.l1
  have hI6 : WdI w3 w3.heap.size w3.heap.size (w3.heap.size + 1) (w3.heap.size + 1 + 1) (clo54 (w3.heap.size + 1) w.heap.size b3 (w3.heap.size + 1 + 1)) R (Drv.wOf n (Drv.toK kn).rul) (List.replicate R 0) w6 := by
    refine ⟨?_, Nat.le_refl _, ?_, ?_, ?_, by simp, fun q x hq => .inl ?_⟩
    · rw [hw6, hw5, hw4]; exact (((below_new _ _).alloc (by simp) _).alloc (by simp; omega) _)
    · rw [hw6, Below.heap_alloc _ _ _ (by omega), hw5, Below.heap_alloc _ _ _ (by omega), hw4, heap_alloc_new]; simp
    · rw [hw6, Below.heap_alloc _ _ _ (by omega), hw5, ← z4]; exact heap_alloc_new _ _
    · rw [hw6, ← z5]; exact heap_alloc_new _ _
    · rw [List.getElem?_replicate] at hq
      split at hq
      · injection hq with hq; exact hq.symm
      · cases hq
  have HI6 := hid hI6
  have hW6 := hid (show ((w3.alloc (.cells (Array.replicate R (Value.int .i64 0)) 3)).alloc (.cells #[.slice (some ⟨w3.heap.size, 0, none⟩) R R] 23)).alloc (.cells #[.func (.func 54) #[] #[.pointer (some ⟨w3.heap.size + 1, 0, none⟩), .pointer (some ⟨w.heap.size, 0, none⟩), .pointer (some ⟨b3, 0, none⟩), .pointer (some ⟨w3.heap.size + 1 + 1, 0, none⟩)]] 119) = w6 by rw [hw6, hw5, hw4]; rfl)
  have B36 := hid hI6.below
  have k4 : w6.cell? ⟨w3.heap.size + 1, 0, none⟩ = some (.slice (some ⟨w3.heap.size, 0, none⟩) R R) := by rw [Lib.cell_of_heap hI6.c4]; rfl
  have d3 := (hI6.below.cell (p := ⟨b3, 0, none⟩) hb3l).trans c3
  clear hw4 hw5 hw6 z4 z5 hI6 c1 c3 hmk
  rw [hW6.out]
  clear hW6
  have HWB : Hid (Below w.heap.size w w6) := hid (HB3.out.trans (B36.out.mono HB3.out.size))
  have BIT := hid (fun (r : Nat) (hr : r < R) => HWS.out.bit (r := r) (q := r) (by rw [HR.out]; exact hr) (by rw [HR.out]; exact hr))
  go_wp2_with fail
  go_loopw [2, 17] (fun z i wx => ∃ j : Nat, j ≤ R ∧ z = .int .i64 0 ∧ i = .int .i64 j ∧ Hid (Drv.selfR (Drv.toK kn).rul j = false) ∧ wx = w6) (fun _ i _ => R - (intOf i).toNat)
  case atStart => exact ⟨0, Nat.zero_le _, rfl, rfl, hid rfl, rfl⟩
  case round =>
    obtain ⟨j, hj, rfl, rfl, hF, rfl⟩ := hrel
    by_cases hlt : j < R
    · obtain ⟨kb', ko, ab, ao, ci, hKA, hkb, y4, hab, y5⟩ := BIT.out j hlt
      injection hKA with hKA
      injection hKA with hKb hKo
      subst hKb hKo
      rw [HR.out] at y4
      have y4 := (B36.out.cell (p := ⟨kb, 0 + j * 2, none⟩) hkb).trans y4
      have y5 := (B36.out.cell (p := ⟨ab, ao + j, none⟩) hab).trans y5
      rw [Nat.zero_add] at y4
      have hltI : (j : Int) < (R : Int) := by omega
      generalize hrr : (Drv.toK kn).rul j j = be at y5
      have HRR := hid hrr
      clear hrr
      cases be with
      | true =>
        have HE : Hid (WideP n w (.returned (.int .i64 1099511627776)) wr) := hid ⟨_, HKN.out, (by
          unfold Drv.wideR
          rw [HR.out, if_pos ((Drv.selfR_iff _ _).2 ⟨j, hlt, HRR.out⟩)]), HWB.out⟩
        go_wp2_with fail
        go_ret
        exact HE.out
      | false =>
        have HF : Hid (Drv.selfR (Drv.toK kn).rul (j + 1) = false) := hid (by unfold Drv.selfR; rw [hF.out, HRR.out]; rfl)
        go_wp2_with fail
        go_roundw
        case rel => exact ⟨j + 1, by omega, rfl, by go_num, HF, trivial⟩
        case measure => simp [intOf]; omega
    · have hjR : j = R := by omega
      subst hjR
      have hirr := HKN.out.irr (by rw [HR.out]; exact hF.out)
      have CL := hid (wide1_any w3 w3.heap.size w.heap.size b3 w3.heap.size (w3.heap.size + 1) (w3.heap.size + 1 + 1) SA TA UA QA DA (some ⟨kb, 0, none⟩) sc tc uc qc dc j n kn HWS.out HS.out HM.out HKN.out hirr)
      clear hirr
      go_wp2_with fail
      go_loopw [2, 31] (fun z i wx => ∃ i' : Nat, i' ≤ j ∧ z = .int .i64 (Drv.wMax n (Drv.toK kn).rul i') ∧ i = .int .i64 i' ∧ Hid (∃ own, WdI w3 w3.heap.size w3.heap.size (w3.heap.size + 1) (w3.heap.size + 1 + 1) (clo54 (w3.heap.size + 1) w.heap.size b3 (w3.heap.size + 1 + 1)) j (Drv.wOf n (Drv.toK kn).rul) own wx)) (fun _ i _ => j - (intOf i).toNat)
      case atStart => exact ⟨0, Nat.zero_le _, rfl, rfl, hid ⟨_, HI6.out⟩⟩
      case round =>
        rename World => wx
        obtain ⟨i, hi, rfl, rfl, hI⟩ := hrel
        obtain ⟨own, hI⟩ := hI.out
        have HI := hid hI
        clear hI
        by_cases hlt : i < j
        · have hc := CL.out (j + 1) i (by have := Drv.hgt_le n.starts.length (Drv.toK kn).rul i; have := HR.out; omega) (by rw [HR.out]; exact hlt) wx own (by rw [HR.out]; exact HI.out)
          rw [HR.out] at hc
          have HC := hid hc
          have c5 : wx.cell? ⟨w3.heap.size + 1 + 1, 0, none⟩ = some (.func (.func 54) #[] #[.pointer (some ⟨w3.heap.size + 1, 0, none⟩), .pointer (some ⟨w.heap.size, 0, none⟩), .pointer (some ⟨b3, 0, none⟩), .pointer (some ⟨w3.heap.size + 1 + 1, 0, none⟩)]) := by
            rw [Lib.cell_of_heap HI.out.c5]; rfl
          clear hc k4 d3
          go_wp2_with fail
          refine HC.out.mono ?_
          rintro e w7 ⟨rfl, ow7, hI7, _⟩
          have HI7 := hid hI7
          clear hI7
          dsimp only
          go_wp2_with fail
          go_roundw
          case rel => exact ⟨i + 1, by omega, rfl, by go_num, hid ⟨_, HI7.out⟩⟩
          case measure => simp [intOf]; omega
        · have hij : i = j := by omega
          subst hij
          have HE : Hid (WideP n w (.returned (.int .i64 (Drv.wMax n (Drv.toK kn).rul i))) wx) := hid ⟨_, HKN.out, (by
            unfold Drv.wideR
            rw [HR.out, if_neg (by rw [hF.out]; simp)]), HB3.out.trans (HI.out.below.mono HB3.out.size)⟩
          go_wp2_with fail
          go_ret
          exact HE.out
end Go.Proofs.Ytgflanlniejflaa
