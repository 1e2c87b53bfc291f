/-
  ConfigsVoid: the statement's walk.
-/
import Derived.Test.YtnpcjbdolmmaeaaDoorCfLi
namespace Go.Proofs.YtnpcjbdolmmaeaaDoor
open Go.RowKit Go.Maps
set_option maxRecDepth 100000
set_option maxHeartbeats 4000000 in
theorem void_any (tok : Int) (w : World) (hT : PT w) : Calls Tryd.prog 3 #[.int .i64 tok] w fun e w' => e = .returned (.bool true) ∧ Below w.heap.size w w' := by
  have z0 : (w.alloc (.cells #[.slice none 0 0, .slice none 0 0, .slice none 0 0, .slice none 0 0, .slice none 0 0, .int .i64 0, .slice none 0 0, .slice none 0 0, .int .i64 0, .slice none 0 0] 31)).heap.size = w.heap.size + 1 := by simp
  obtain ⟨w1, hw1⟩ : ∃ w1, Hid ((w.alloc (.cells #[.slice none 0 0, .slice none 0 0, .slice none 0 0, .slice none 0 0, .slice none 0 0, .int .i64 0, .slice none 0 0, .slice none 0 0, .int .i64 0, .slice none 0 0] 31)).alloc (.cells #[.pointer none, .pointer (some ⟨w.heap.size, 0, none⟩)] 32) = w1) := ⟨_, hid rfl⟩
  have hb1 : Below w.heap.size w w1 := by rw [← hw1.out]; exact (below_new _ _).alloc (by omega) _
  have h0 : w1.heap[w.heap.size]? = some (.cells #[.slice none 0 0, .slice none 0 0, .slice none 0 0, .slice none 0 0, .slice none 0 0, .int .i64 0, .slice none 0 0, .slice none 0 0, .int .i64 0, .slice none 0 0] 31 (0, 0)) := by
    rw [← hw1.out, Below.heap_alloc _ _ _ (by omega)]; exact heap_alloc_new _ _
  have h1 : w1.heap[w.heap.size + 1]? = some (.cells #[.pointer none, .pointer (some ⟨w.heap.size, 0, none⟩)] 32 (0, 0)) := by
    rw [← hw1.out, ← z0]; exact heap_alloc_new _ _
  have hl1 := heap_lt h1
  have HB1 := hid hb1
  have HH0 := hid h0
  have HH1 := hid h1
  have HT := hid hT
  clear hb1 h0 h1 hT z0
  go_enter Tryd.func3, Tryd.ntmps3
  go_wp2_with fail
  rw [hw1.out]
  go_loopw [5, 6, 7] (fun i _ _ wr => ∃ j : Nat, j ≤ 2 ∧ i = .int .i64 (j : Int) ∧ Below w1.heap.size w1 wr) (fun i _ _ _ => 2 - (intOf i).toNat)
  case atStart => exact ⟨0, by omega, rfl, Below.refl _ _⟩
  case round =>
    obtain ⟨j, hj, rfl, hb⟩ := hrel
    by_cases hlt : j < 2
    · have hr1 := (hb.block (w.heap.size + 1) hl1).trans HH1.out
      have hr0 := (hb.block w.heap.size (by omega)).trans HH0.out
      obtain ⟨p, hp, hnt⟩ : ∃ p, wr.cell? ⟨w.heap.size + 1, j, none⟩ = some p ∧ ∀ u, Below wr.heap.size wr u → NotThere p u := by
        rcases (by omega : j = 0 ∨ j = 1) with rfl | rfl
        · exact ⟨.pointer none, by rw [Lib.cell_of_heap hr1]; rfl, fun u _ u' _ => there_nil u'⟩
        · refine ⟨.pointer (some ⟨w.heap.size, 0, none⟩), by rw [Lib.cell_of_heap hr1]; rfl, fun u hu u' hu' => there_zero u' w.heap.size ?_⟩
          rw [Lib.cell_of_heap ((hu'.block w.heap.size (heap_lt ((hu.block w.heap.size (heap_lt hr0)).trans hr0))).trans ((hu.block w.heap.size (heap_lt hr0)).trans hr0))]; rfl
      have hst := start_not p wr (hnt wr (Below.refl _ _))
      have HST := hid hst
      have HNT := hid hnt
      have HB := hid hb
      have hwl := Nat.lt_of_lt_of_le hl1 hb.size
      have hjz : (j : Int) < 2 := by omega
      clear hst hnt hr1 hr0 hb
      go_wp2_with fail
      go_at_call 4
      refine HST.out.mono ?_
      rintro _ w2 ⟨rfl, hb2⟩
      have hp2 := (hb2.cell (p := ⟨w.heap.size + 1, j, none⟩) hwl).trans hp
      have hbn := below_new w2 (.cells #[.slice none 0 0, .slice none 0 0, .bool false] 36)
      have hxn := heap_alloc_new w2 (.cells #[.slice none 0 0, .slice none 0 0, .bool false] 36)
      obtain ⟨w3, hw3⟩ : ∃ w3, Hid (w2.alloc (.cells #[.slice none 0 0, .slice none 0 0, .bool false] 36) = w3) := ⟨_, hid rfl⟩
      rw [hw3.out] at hbn hxn
      have hb3 := hb2.trans (hbn.mono hb2.size)
      have hp3 := (hbn.cell (p := ⟨w.heap.size + 1, j, none⟩) (by show w.heap.size + 1 < _; have := hb2.size; omega)).trans hp2
      have hbm := below_new w3 (.cells #[.int .i64 0, .int .i64 0, .slice none 0 0, .bool false, .bool false] 40)
      have hmv := move_not p (.slice (some ⟨w3.heap.size, 0, none⟩) 1 1) (.slice none 0 0) (.bool false) tok (w3.alloc (.cells #[.int .i64 0, .int .i64 0, .slice none 0 0, .bool false, .bool false] 40)) (HNT.out _ (hb3.trans (hbm.mono hb3.size)))
      have HMV := hid hmv
      have HB3 := hid hb3
      have HX3 := hid hxn
      have HBM := hid hbm
      have hl3 := heap_lt hxn
      clear hmv hb3 hxn hbm hb2 hbn hp2 hp
      go_upto_region 7 with fail
      rw [hw3.out]
      go_wp2_with fail
      go_at_call 5
      refine HMV.out.mono ?_
      rintro _ w5 ⟨rfl, hb5⟩
      have hb35 := HBM.out.trans (hb5.mono HBM.out.size)
      have hx5 := (hb35.block w2.heap.size hl3).trans HX3.out
      obtain ⟨g0, g1, g2⟩ := cells3 hx5
      have hbk := below_new w5 (.cells #[.slice none 0 0, .slice none 0 0, .bool false] 36)
      have hl5 := heap_lt hx5
      have g0 := (hbk.cell (p := ⟨w2.heap.size, 0, none⟩) hl5).trans g0
      have g1 := (hbk.cell (p := ⟨w2.heap.size, 1, none⟩) hl5).trans g1
      have g2 := (hbk.cell (p := ⟨w2.heap.size, 2, none⟩) hl5).trans g2
      have HBF := hid (HB3.out.trans ((hb35.trans (hbk.mono hb35.size)).mono HB3.out.size))
      clear hb5 hb35 hx5 hbk
      go_wp2
      go_roundw
      case rel => exact ⟨j + 1, by omega, by go_num, HB.out.trans (HBF.out.mono HB.out.size)⟩
      case measure => simp [intOf]; omega
    · have hje : j = 2 := by omega
      subst hje
      have hli := lives_any wr ((HT.out.next HB1.out).next hb)
      have HL := hid hli
      have HB := hid hb
      clear hli hb
      go_wp2_with fail
      go_at_call 6
      refine HL.out.mono ?_
      rintro _ w2 ⟨rfl, hb2⟩
      go_wp2
      go_ret
      exact ⟨rfl, (HB1.out.trans (HB.out.mono HB1.out.size)).trans (hb2.mono (Nat.le_trans HB1.out.size HB.out.size))⟩
end Go.Proofs.YtnpcjbdolmmaeaaDoor
