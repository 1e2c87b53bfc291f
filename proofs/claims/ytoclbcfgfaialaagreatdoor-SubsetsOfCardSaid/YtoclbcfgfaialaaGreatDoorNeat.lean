/-
  slices.Clip, ranges.Neat: the walks.
-/
import Derived.Test.YtoclbcfgfaialaaGreatDoorSort
import Derived.Test.YtoclbcfgfaialaaGreatDoorLL
namespace Go.Proofs.YtoclbcfgfaialaaGreatDoor
open Go.RowKit
set_option maxRecDepth 100000
set_option maxHeartbeats 400000 in
theorem clip_any (A : Option Addr) (n c : Nat) (w : World) (hc : n ≤ c) : Calls Tryz.prog 33 #[.slice A n c] w fun e w' => e = .returned (.slice A n n) ∧ w' = w := by
  go_enter Tryz.func33, Tryz.ntmps33
  go_wp2
  go_ret
  exact ⟨rfl, rfl⟩
set_option maxHeartbeats 1600000 in
theorem neat_any (A : Option Addr) (c : Nat) (l : List Rg) (w : World) (hm : l.length ≤ 10000000) (hwf : WfL l) (hr : Reads w w.heap.size 2 A l.length (flat encR l)) :
    Calls Tryz.prog 56 #[.slice A l.length c] w fun e w' => ∃ A' c', e = .returned (.slice A' (neatOf l).length c') ∧ OwnC w' w.heap.size 66 2 (.slice A' (neatOf l).length c') (neatOf l).length (flat encR (neatOf l)) ∧ Below w.heap.size w w' := by
  obtain ⟨i0, hi, hz0, hz1, hz2⟩ := info_parts infoR
  go_enter Tryz.func56, Tryz.ntmps56
  go_wp2_with fail
  refine (kept_any 74 #[] someB some_enters A c l _ hm hr (some_pred _)).mono ?_
  rintro e w1 ⟨v1, rfl, hown1, hb1⟩
  have hfl : (l.filter someB).length ≤ 10000000 := Nat.le_trans (List.length_filter_le _ _) hm
  go_wp2_with fail
  refine (sortR_any w.heap.size v1 _ _ hfl hown1).mono ?_
  rintro e w2 ⟨rfl, l', hperm, hris, hown2, hs2, hb2⟩
  have hb2 := hb2 w hb1.size hb1
  have hl' : l'.length ≤ 10000000 := by rw [hperm.length_eq]; exact hfl
  obtain ⟨A2, c2, rfl, hr2, hc2⟩ := Reads.own hown2
  go_wp2_with fail
  have hwf' : WfL l' := fun r h => hwf r (List.mem_filter.1 (hperm.mem_iff.1 h)).1
  have HP := hid hperm
  have HR := hid hris
  clear hperm hris hown1 hb1 hr hown2
  go_loopw [2, 13] (fun v i wr => ∃ k : Nat, k ≤ l'.length ∧ i = .int .i64 k ∧ WfL (mergeL (l'.take k)) ∧ wr.ownsRow w2.heap.size 66 2 v (mergeL (l'.take k)).length (flat encR (mergeL (l'.take k))) ∧ Below w2.heap.size w2 wr) (fun _ i _ => l'.length - (intOf i).toNat)
  case atStart => exact ⟨0, Nat.zero_le _, rfl, fun r h => absurd h (by simp [mergeL]), by simpa [flat, mergeL] using World.ownsRow_nil w2 _ 66 2, Below.refl _ _⟩
  case round =>
    obtain ⟨k, hk, rfl, hwm, hown, hb⟩ := hrel
    by_cases hlt : k < l'.length
    · obtain ⟨b, off, rfl, hbl, c0, c1⟩ := readsR hr2 hb k hlt
      have hms := mergeL_snoc l' k hlt
      have hml := mergeL_len l' k hk
      have hrw := hwf' _ (List.getElem_mem hlt)
      generalize hq : l'[k] = q at c0 c1 hms hrw
      clear hq
      generalize hmm : mergeL (l'.take k) = m at hown hwm hms hml
      have HM := hid hms
      clear hmm hms
      obtain ⟨⟨r1, r2⟩, ⟨r3, r4⟩⟩ := hrw
      rcases List.eq_nil_or_concat m with h0 | ⟨m0, z, h0⟩
      · subst h0
        simp only [List.length_nil] at hown hml
        obtain ⟨A3, c3, rfl, _, _⟩ := Reads.own hown
        go_wp2_with fail
        go_quiet (fail)
        go_wp2_with (at_builtin; go_must (refine wpList_push _ rfl _ _ 28 rfl w2.heap.size 66 i0 _ 2 8 Tryz.underlying28 hi hz0 hz1 hz2 rfl (by omega) _ _ _ rfl (own_drewN (hown.alloc _) _) [.int .i32 q.1, .int .i32 q.2] 1 _ rfl (by simp) rfl (by simp [Value.oneCell']) (by simp only [maxLen]; omega) (by omega) (below_drewN (hb.alloc hb.size _) _).size ?_); intro v' w' hown' hsz' hB')
        go_roundw
        case rel => exact ⟨k + 1, by omega, by go_num, by rw [HM.out]; exact WfL.addR (fun r h => absurd h (by simp)) ⟨⟨r1, r2⟩, ⟨r3, r4⟩⟩, by rw [HM.out]; simpa [flat, encR, addR] using hown', hB' _ (below_drewN (hb.alloc hb.size _) _)⟩
        case measure => simp [intOf]; omega
      · rw [List.concat_eq_append] at h0
        obtain ⟨j, hj⟩ : ∃ j, m0.length = j := ⟨_, rfl⟩
        have hmj : m.length = j + 1 := by rw [h0]; simp [hj]
        rw [hmj, h0] at hown
        have hown' := hown
        obtain ⟨_, h2⟩ := hown'
        rcases h2 with ⟨_, h2⟩ | ⟨g, cap, cur, rfl, hg, hh, hnc, _⟩
        · exact absurd h2 (by omega)
        have hz := hwm z (by rw [h0]; simp)
        obtain ⟨⟨z1, z2⟩, ⟨z3, z4⟩⟩ := hz
        have hgl := (hown.lt g rfl).2
        have d1 : (wr.alloc (.cells #[.int .i32 q.1, .int .i32 q.2] 66)).cell? ⟨g, j*2+1, none⟩ = some (.int .i32 z.2) := by
          have hgt := (flatR_get (m0 ++ [z]) j (by simp [hj])).2
          have hgc := hown.cells (g := g) rfl (j*2+1) _ hgt
          rw [show (m0 ++ [z])[j]'(by simp [hj]) = z by simp [← hj]] at hgc
          exact (World.cell?_alloc_lt _ _ _ hgl).trans (by simpa [Addr.add] using hgc)
        rw [hmj] at hml
        have HO := hid hown
        clear hown hh hnc hmj
        have H0 := hid h0
        clear h0
        by_cases hle : q.1 ≤ z.2 + 1
        · go_wp2_with fail
          have e1 : IntKind.i64.wrap (j : Int) = j := w64 (by omega) (by omega)
          have e2 : IntKind.i64.wrap q.1 = q.1 := w64 (by omega) (by omega)
          have e3 : IntKind.i64.wrap z.2 = z.2 := w64 (by omega) (by omega)
          have e4 : IntKind.i64.wrap (z.2 + 1) = z.2 + 1 := w64 (by omega) (by omega)
          have e5 : (j : Int) < (j : Int) + 1 := by omega
          have e6 : (0 : Int) ≤ (j : Int) := by omega
          have e7 : (j : Int).toNat = j := by omega
          go_quiet (fail)
          clear e2 e3 e4
          go_wp2_with fail
          refine still_tail 14 (by kernel_rfl) (by kernel_rfl) ?_
          intro w3 HW3
          have f0 : w3.cell? ⟨wr.heap.size, 1, none⟩ = some (.int .i32 q.2) := by rw [HW3.out]; simp
          have f1 : w3.cell? ⟨g, j*2+1, none⟩ = some (.int .i32 z.2) := by rw [HW3.out]; exact d1
          have f2 : w3.frozen? ⟨g, j*2+1, none⟩ = false := by rw [HW3.out]; exact own_frozen (HO.out.alloc (.cells #[.int .i32 q.1, .int .i32 q.2] 66)) _
          simp only [List.take_succ_cons, List.take_zero, List.drop_succ_cons, List.drop_zero]
          repeat still_step
          refine wpStill_nil ?_
          go_wp2
          go_roundw
          case rel =>
            refine ⟨k + 1, by omega, by go_num, ?_, ?_, ?_⟩
            · rw [HM.out]; exact WfL.addR hwm ⟨⟨r1, r2⟩, ⟨r3, r4⟩⟩
            · have ea : addR m q = m0 ++ [(z.1, max z.2 q.2)] := by rw [H0.out]; simp [addR, hle]
              rw [HM.out, ea, show (m0 ++ [(z.1, max z.2 q.2)]).length = j + 1 by simp [hj]]
              exact ownsRow_setLast hj (by rw [HW3.out]; exact own_drewN (HO.out.alloc _) (nq + 1))
            · refine Below.setCell ?_ hg _
              rw [HW3.out]
              exact below_drewN (hb.alloc hb.size _) (nq + 1)
          case measure => simp [intOf]; omega
        · go_wp2_with fail
          have e1 : IntKind.i64.wrap (j : Int) = j := w64 (by omega) (by omega)
          have e2 : IntKind.i64.wrap q.1 = q.1 := w64 (by omega) (by omega)
          have e3 : IntKind.i64.wrap z.2 = z.2 := w64 (by omega) (by omega)
          have e4 : IntKind.i64.wrap (z.2 + 1) = z.2 + 1 := w64 (by omega) (by omega)
          have e5 : (j : Int) < (j : Int) + 1 := by omega
          have e6 : (0 : Int) ≤ (j : Int) := by omega
          have e7 : (j : Int).toNat = j := by omega
          go_quiet (fail)
          clear e1 e2 e3 e4
          go_wp2_with (at_builtin; go_must (refine wpList_push _ rfl _ _ 28 rfl w2.heap.size 66 i0 _ 2 8 Tryz.underlying28 hi hz0 hz1 hz2 rfl (by omega) _ _ _ rfl (own_drewN (HO.out.alloc _) _) [.int .i32 q.1, .int .i32 q.2] 1 _ rfl (by simp) rfl (by simp [Value.oneCell']) (by simp only [maxLen]; omega) (by omega) (below_drewN (hb.alloc hb.size _) _).size ?_); intro v' w' hown' hsz' hB')
          go_roundw
          case rel =>
            refine ⟨k + 1, by omega, by go_num, ?_, ?_, ?_⟩
            · rw [HM.out]; exact WfL.addR hwm ⟨⟨r1, r2⟩, ⟨r3, r4⟩⟩
            · have ea : addR m q = m0 ++ [z] ++ [q] := by rw [H0.out]; simp [addR]; omega
              rw [HM.out, ea, show (m0 ++ [z] ++ [q]).length = j + 1 + 1 by simp [hj]]
              rw [flat_snoc]
              exact hown'
            · exact hB' _ (below_drewN (hb.alloc hb.size _) _)
          case measure => simp [intOf]; omega
    · have hkl : k = l'.length := by omega
      subst hkl
      rw [List.take_length] at hown hwm
      have hml := mergeL_len l' l'.length (Nat.le_refl _)
      rw [List.take_length] at hml
      obtain ⟨A3, c3, rfl, hr3, hc3⟩ := Reads.own hown
      go_wp2_with (go_at_call 33; refine (clip_any A3 _ c3 _ hc3).mono ?_; rintro e w4 ⟨rfl, rfl⟩)
      go_ret
      rw [neatOf_eq l l' HP.out HR.out] at hown
      rw [← neatOf_eq l l' HP.out HR.out] at *
      refine ⟨A3, _, rfl, ?_, hb2.trans (hb.mono (Nat.le_trans hb2.size (Nat.le_refl _)))⟩
      exact ((OwnC.of hown).clip).base hb2.size
end Go.Proofs.YtoclbcfgfaialaaGreatDoor
