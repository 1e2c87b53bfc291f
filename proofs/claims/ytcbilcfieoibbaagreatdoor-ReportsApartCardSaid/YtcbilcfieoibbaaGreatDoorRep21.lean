/-
  Tables that hold names alone, as the document has them: the walk of harbingerlaw19.Other. Printed by gen_rep21.py.
-/
import Derived.Test.YtcbilcfieoibbaaGreatDoorRep19
import Derived.Test.YtcbilcfieoibbaaGreatDoorRep17
import Derived.Test.YtcbilcfieoibbaaGreatDoorLate4
import Derived.Laws.Tables
import Derived.Great.BuildSlice
import Derived.Deep.CutRange
namespace Go.Proofs.YtcbilcfieoibbaaGreatDoor
open Go.RowKit
set_option maxRecDepth 100000
theorem infoT19 : (Tryz.prog.info? 70).map (·.size) = some 13 := by kernel_rfl
theorem tabC_one (RA TA : Option Addr) (rn rc tn tc : Nat) : (tabC (.slice RA rn rc) (.slice TA tn tc)).all (·.oneCell') = true := by kernel_rfl
theorem heap_ltB {w : World} {b : Nat} {o : Obj} (h : w.heap[b]? = some o) : b < w.heap.size := (Array.getElem?_eq_some_iff.1 h).1
theorem below_setRow {B g : Nat} {cs : Array Value} {w w' : World} (h : Below B w w') (hg : B ≤ g) : Below B w (w'.setRow g cs) := by
  refine ⟨h.os, h.tape, h.output, ?_, fun k hk => ?_⟩
  · have := h.size
    unfold World.setRow
    simpa using this
  · rw [← h.block k hk]
    unfold World.setRow
    simp only [Array.getElem?_modify]
    rw [if_neg (by omega)]
set_option maxHeartbeats 4000000 in
theorem other_nil (RA TA : Option Addr) (rn rc tn tc : Nat) (w : World) : Calls Tryz.prog 14 #[tabV (.slice RA rn rc) (.slice TA tn tc)] w fun e w' => e = .returned (.agg (tabC (.slice RA rn rc) (.slice TA tn tc))) ∧ Below w.heap.size w w' := by
  unfold tabV
  obtain ⟨W, hW⟩ : ∃ W, W = (w.alloc (.cells (tabC (.slice RA rn rc) (.slice TA tn tc)) 61)).alloc (.cells (tabC (.slice none 0 0) (.slice none 0 0)) 70) := ⟨_, rfl⟩
  have hWo : W = [Obj.cells (tabC (.slice RA rn rc) (.slice TA tn tc)) 61, .cells (tabC (.slice none 0 0) (.slice none 0 0)) 70].foldl World.alloc w := hW
  have hx1 : W.heap[w.heap.size]? = some (.cells (tabC (.slice RA rn rc) (.slice TA tn tc)) 61 (0, 0)) := by rw [hWo]; exact al_at _ _ 0 _ rfl
  have hx2 : W.heap[w.heap.size + 1]? = some (.cells (tabC (.slice none 0 0) (.slice none 0 0)) 70 (0, 0)) := by rw [hWo]; exact al_at _ _ 1 _ rfl
  have hbW : Below w.heap.size w W := by rw [hWo]; exact al_below _ _
  have hWs : w.heap.size + 1 < W.heap.size := by rw [hWo, al_size]; simp
  have Q0 := hid @lexer_nil
  have Q1 := hid @netOther_nil
  have c : ∀ i v, (tabC (.slice RA rn rc) (.slice TA tn tc))[i]? = some v → W.cell? ⟨w.heap.size, i, none⟩ = some v := fun i v h => by rw [Lib.cell_of_heap hx1]; exact h
  have c0 := c 0 _ rfl
  have c1 := c 1 _ rfl
  have c2 := c 2 _ rfl
  have c3 := c 3 _ rfl
  have c4 := c 4 _ rfl
  have c5 := c 5 _ rfl
  have c6 := c 6 _ rfl
  have c7 := c 7 _ rfl
  have c8 := c 8 _ rfl
  have c9 := c 9 _ rfl
  have c10 := c 10 _ rfl
  have c11 := c 11 _ rfl
  have ST : Hid (∀ w', Below W.heap.size W w' → w'.cell? ⟨w.heap.size, 0, none⟩ = some (.slice RA rn rc) ∧ w'.cell? ⟨w.heap.size, 1, none⟩ = some (.slice TA tn tc) ∧ w'.cell? ⟨w.heap.size, 2, none⟩ = some (.slice none 0 0) ∧ w'.cell? ⟨w.heap.size, 3, none⟩ = some (.slice none 0 0) ∧ w'.cell? ⟨w.heap.size, 4, none⟩ = some (.slice none 0 0) ∧ w'.cell? ⟨w.heap.size, 5, none⟩ = some (.slice none 0 0) ∧ w'.cell? ⟨w.heap.size, 6, none⟩ = some (.slice none 0 0) ∧ w'.cell? ⟨w.heap.size, 7, none⟩ = some (.slice none 0 0) ∧ w'.cell? ⟨w.heap.size, 8, none⟩ = some (.slice none 0 0) ∧ w'.cell? ⟨w.heap.size, 9, none⟩ = some (.slice none 0 0) ∧ w'.cell? ⟨w.heap.size, 10, none⟩ = some (.slice none 0 0) ∧ w'.cell? ⟨w.heap.size, 11, none⟩ = some (.slice none 0 0)) := hid fun w' hb => by
    have hc := fun i => hb.cell (p := ⟨w.heap.size, i, none⟩) (show w.heap.size < W.heap.size by omega)
    exact ⟨(hc 0).trans c0, (hc 1).trans c1, (hc 2).trans c2, (hc 3).trans c3, (hc 4).trans c4, (hc 5).trans c5, (hc 6).trans c6, (hc 7).trans c7, (hc 8).trans c8, (hc 9).trans c9, (hc 10).trans c10, (hc 11).trans c11⟩
  have c12 := c 12 _ rfl
  have HX2 := hid hx2
  have HBW := hid hbW
  clear c hx1 hx2 hbW hWo
  go_enter Tryz.func14, Tryz.ntmps14
  go_upto_region 1 with fail
  unfold tabC at hW
  rw [← hW]
  clear hW
  go_cut [3] from 5 (fun v wx => ∃ g : Nat, v = .pointer (some ⟨g, 0, none⟩) ∧ Hid (Below W.heap.size W wx ∧ wx.heap[g]? = some (.cells (tabC (.slice RA rn rc) (.slice TA tn tc)) 70 (0, 0)) ∧ W.heap.size ≤ g))
  case first =>
    refine wp_region_late (l := 15) (S := (fun w' => w'.cell? ⟨w.heap.size, 0, none⟩ = some (.slice RA rn rc) ∧ w'.cell? ⟨w.heap.size, 1, none⟩ = some (.slice TA tn tc) ∧ w'.cell? ⟨w.heap.size, 2, none⟩ = some (.slice none 0 0) ∧ w'.cell? ⟨w.heap.size, 3, none⟩ = some (.slice none 0 0) ∧ w'.cell? ⟨w.heap.size, 4, none⟩ = some (.slice none 0 0) ∧ w'.cell? ⟨w.heap.size, 5, none⟩ = some (.slice none 0 0) ∧ w'.cell? ⟨w.heap.size, 6, none⟩ = some (.slice none 0 0) ∧ w'.cell? ⟨w.heap.size, 7, none⟩ = some (.slice none 0 0) ∧ w'.cell? ⟨w.heap.size, 8, none⟩ = some (.slice none 0 0) ∧ w'.cell? ⟨w.heap.size, 9, none⟩ = some (.slice none 0 0) ∧ w'.cell? ⟨w.heap.size, 10, none⟩ = some (.slice none 0 0) ∧ w'.cell? ⟨w.heap.size, 11, none⟩ = some (.slice none 0 0))) (by kernel_rfl) ⟨c0, c1, c2, c3, c4, c5, c6, c7, c8, c9, c10, c11⟩ (fun hHeld => ?_)
    have HLwd : Below W.heap.size W W.drew := ⟨rfl, rfl, rfl, Nat.le_refl _, fun _ _ => rfl⟩
    generalize W.drew = wd at hHeld HLwd ⊢
    clear c0 c1 c2 c3 c4 c5 c6 c7 c8 c9 c10 c11 c12
    refine wpAnyF_take (i := 0) (.pointer (some ⟨w.heap.size, 0, none⟩)) rfl (by kernel_rfl) (by kernel_rfl) (by kernel_rfl) (by kernel_rfl) (fun _ _ _ h => h) hHeld (by rfl) (fun w' hSw => ?_) ?_
    · obtain ⟨l0, l1, l2, l3, l4, l5, l6, l7, l8, l9, l10, l11⟩ := hSw; go_simp
    try simp only [Act.put]
    refine wpAnyF_take (i := 1) (.slice RA rn rc) rfl (by kernel_rfl) (by kernel_rfl) (by kernel_rfl) (by kernel_rfl) (fun _ _ _ h => h) hHeld (by rfl) (fun w' hSw => ?_) ?_
    · obtain ⟨l0, l1, l2, l3, l4, l5, l6, l7, l8, l9, l10, l11⟩ := hSw; go_simp
    try simp only [Act.put]
    refine wpAnyF_take (i := 2) (.pointer (some ⟨w.heap.size, 1, none⟩)) rfl (by kernel_rfl) (by kernel_rfl) (by kernel_rfl) (by kernel_rfl) (fun _ _ _ h => h) hHeld (by rfl) (fun w' hSw => ?_) ?_
    · obtain ⟨l0, l1, l2, l3, l4, l5, l6, l7, l8, l9, l10, l11⟩ := hSw; go_simp
    try simp only [Act.put]
    refine wpAnyF_take (i := 3) (.slice TA tn tc) rfl (by kernel_rfl) (by kernel_rfl) (by kernel_rfl) (by kernel_rfl) (fun _ _ _ h => h) hHeld (by rfl) (fun w' hSw => ?_) ?_
    · obtain ⟨l0, l1, l2, l3, l4, l5, l6, l7, l8, l9, l10, l11⟩ := hSw; go_simp
    try simp only [Act.put]
    refine wpAnyF_take (i := 4) (.pointer (some ⟨w.heap.size, 2, none⟩)) rfl (by kernel_rfl) (by kernel_rfl) (by kernel_rfl) (by kernel_rfl) (fun _ _ _ h => h) hHeld (by rfl) (fun w' hSw => ?_) ?_
    · obtain ⟨l0, l1, l2, l3, l4, l5, l6, l7, l8, l9, l10, l11⟩ := hSw; go_simp
    try simp only [Act.put]
    refine wpAnyF_take (i := 5) (.slice none 0 0) rfl (by kernel_rfl) (by kernel_rfl) (by kernel_rfl) (by kernel_rfl) (fun _ _ _ h => h) hHeld (by rfl) (fun w' hSw => ?_) ?_
    · obtain ⟨l0, l1, l2, l3, l4, l5, l6, l7, l8, l9, l10, l11⟩ := hSw; go_simp
    try simp only [Act.put]
    refine wpAnyF_take (i := 6) (.pointer (some ⟨w.heap.size, 3, none⟩)) rfl (by kernel_rfl) (by kernel_rfl) (by kernel_rfl) (by kernel_rfl) (fun _ _ _ h => h) hHeld (by rfl) (fun w' hSw => ?_) ?_
    · obtain ⟨l0, l1, l2, l3, l4, l5, l6, l7, l8, l9, l10, l11⟩ := hSw; go_simp
    try simp only [Act.put]
    refine wpAnyF_take (i := 7) (.agg #[.slice none 0 0, .slice none 0 0, .slice none 0 0, .slice none 0 0]) rfl (by kernel_rfl) (by kernel_rfl) (by kernel_rfl) (by kernel_rfl) (fun _ _ _ h => h) hHeld (by rfl) (fun w' hSw => ?_) ?_
    · obtain ⟨l0, l1, l2, l3, l4, l5, l6, l7, l8, l9, l10, l11⟩ := hSw; go_simp
    try simp only [Act.put]
    refine wpAnyF_take (i := 9) (.pointer (some ⟨w.heap.size, 7, none⟩)) rfl (by kernel_rfl) (by kernel_rfl) (by kernel_rfl) (by kernel_rfl) (fun _ _ _ h => h) hHeld (by rfl) (fun w' hSw => ?_) ?_
    · obtain ⟨l0, l1, l2, l3, l4, l5, l6, l7, l8, l9, l10, l11⟩ := hSw; go_simp
    try simp only [Act.put]
    refine wpAnyF_take (i := 10) (.agg #[.slice none 0 0, .slice none 0 0, .slice none 0 0, .slice none 0 0, .slice none 0 0]) rfl (by kernel_rfl) (by kernel_rfl) (by kernel_rfl) (by kernel_rfl) (fun _ _ _ h => h) hHeld (by rfl) (fun w' hSw => ?_) ?_
    · obtain ⟨l0, l1, l2, l3, l4, l5, l6, l7, l8, l9, l10, l11⟩ := hSw; go_simp
    try simp only [Act.put]
    refine wpAnyF_two 8 13 (by kernel_rfl) rfl rfl (fun K hK => ?_) (fun K hK => ?_)
    · go_simp
      go_at_call 31
      refine (Q0.out wd).mono ?_
      rintro e wa ⟨rfl, hbwa⟩
      dsimp only
      have HLwa := HLwd.trans (hbwa.mono HLwd.size)
      refine hK _ _ (ST.out _ HLwa) (fun hHeld => ?_)
      clear hK
      clear K
      try simp only [Act.put]
      refine wpAnyF_two 11 13 (by kernel_rfl) rfl rfl (fun K hK => ?_) (fun K hK => ?_)
      · go_simp
        go_at_call 32
        refine (Q1.out wa).mono ?_
        rintro e waa ⟨rfl, hbwaa⟩
        dsimp only
        have HLwaa := HLwa.trans (hbwaa.mono HLwa.size)
        refine hK _ _ (ST.out _ HLwaa) (fun hHeld => ?_)
        clear hK
        clear K
        try simp only [Act.put]
        refine wpAnyF_two 12 13 (by kernel_rfl) rfl rfl (fun K hK => ?_) (fun K hK => ?_)
        · go_simp
          refine hK _ _ (ST.out _ HLwaa) (fun hHeld => ?_)
          clear hK
          clear K
          try simp only [Act.put]
          refine wpAnyF_step 13 (by kernel_rfl) rfl (fun K hK => ?_)
          go_simp
          have hbwaaaa : Below waa.heap.size waa (waa.alloc (.cells #[.slice none 0 0, .slice none 0 0, .slice none 0 0, .slice none 0 0, .slice none 0 0, .slice none 0 0, .slice none 0 0, .slice none 0 0, .slice none 0 0, .slice none 0 0, .slice none 0 0, .slice none 0 0, .slice none 0 0] 70)) := below_new _ _
          have Tg := heap_alloc_new waa (.cells #[.slice none 0 0, .slice none 0 0, .slice none 0 0, .slice none 0 0, .slice none 0 0, .slice none 0 0, .slice none 0 0, .slice none 0 0, .slice none 0 0, .slice none 0 0, .slice none 0 0, .slice none 0 0, .slice none 0 0] 70)
          have HLwaaaa := HLwaa.trans (hbwaaaa.mono HLwaa.size)
          have hgeg := HLwaa.size
          refine hK _ _ (ST.out _ HLwaaaa) (fun hHeld => ?_)
          clear hK
          clear K
          generalize waa.alloc (.cells #[.slice none 0 0, .slice none 0 0, .slice none 0 0, .slice none 0 0, .slice none 0 0, .slice none 0 0, .slice none 0 0, .slice none 0 0, .slice none 0 0, .slice none 0 0, .slice none 0 0, .slice none 0 0, .slice none 0 0] 70) = waaaa at hbwaaaa Tg HLwaaaa hHeld ⊢
          generalize hgg : waa.heap.size = g at Tg hgeg ⊢
          try simp only [Act.put]
          refine wpAnyF_step 14 (by kernel_rfl) rfl (fun K hK => ?_)
          rw [if_pos (by rfl)]
          refine wp_store_row 70 _ _ rfl g (tabC (.slice RA rn rc) (.slice TA tn tc)) rfl rfl 70 (tabC (.slice none 0 0) (.slice none 0 0)) Tg (by kernel_rfl) rfl (tabC_one _ _ _ _ _ _) ?_
          have Tg2 := setRow_heap _ g _ (tabC (.slice RA rn rc) (.slice TA tn tc)) _ _ Tg
          have HLs := below_setRow (g := g) (cs := tabC (.slice RA rn rc) (.slice TA tn tc)) HLwaaaa hgeg
          generalize waaaa.setRow g (tabC (.slice RA rn rc) (.slice TA tn tc)) = ws at Tg2 HLs ⊢
          refine hK _ _ (ST.out _ HLs) (fun hHeld => ?_)
          clear hK
          clear K
          try simp only [Act.put]
          refine ⟨by kernel_rfl, ?_⟩
          have HF := hid (And.intro HLs (And.intro Tg2 hgeg))
          clear hHeld
          go_wp2_with fail
          go_meet
          exact ⟨g, rfl, HF⟩
        · go_simp
          have hbwaab : Below waa.heap.size waa (waa.alloc (.cells #[.slice none 0 0, .slice none 0 0, .slice none 0 0, .slice none 0 0, .slice none 0 0, .slice none 0 0, .slice none 0 0, .slice none 0 0, .slice none 0 0, .slice none 0 0, .slice none 0 0, .slice none 0 0, .slice none 0 0] 70)) := below_new _ _
          have Tg := heap_alloc_new waa (.cells #[.slice none 0 0, .slice none 0 0, .slice none 0 0, .slice none 0 0, .slice none 0 0, .slice none 0 0, .slice none 0 0, .slice none 0 0, .slice none 0 0, .slice none 0 0, .slice none 0 0, .slice none 0 0, .slice none 0 0] 70)
          have HLwaab := HLwaa.trans (hbwaab.mono HLwaa.size)
          have hgeg := HLwaa.size
          refine hK _ _ (ST.out _ HLwaab) (fun hHeld => ?_)
          clear hK
          clear K
          generalize waa.alloc (.cells #[.slice none 0 0, .slice none 0 0, .slice none 0 0, .slice none 0 0, .slice none 0 0, .slice none 0 0, .slice none 0 0, .slice none 0 0, .slice none 0 0, .slice none 0 0, .slice none 0 0, .slice none 0 0, .slice none 0 0] 70) = waab at hbwaab Tg HLwaab hHeld ⊢
          generalize hgg : waa.heap.size = g at Tg hgeg ⊢
          try simp only [Act.put]
          refine wpAnyF_step 12 (by kernel_rfl) rfl (fun K hK => ?_)
          go_simp
          refine hK _ _ (ST.out _ HLwaab) (fun hHeld => ?_)
          clear hK
          clear K
          try simp only [Act.put]
          refine wpAnyF_step 14 (by kernel_rfl) rfl (fun K hK => ?_)
          rw [if_pos (by rfl)]
          refine wp_store_row 70 _ _ rfl g (tabC (.slice RA rn rc) (.slice TA tn tc)) rfl rfl 70 (tabC (.slice none 0 0) (.slice none 0 0)) Tg (by kernel_rfl) rfl (tabC_one _ _ _ _ _ _) ?_
          have Tg2 := setRow_heap _ g _ (tabC (.slice RA rn rc) (.slice TA tn tc)) _ _ Tg
          have HLs := below_setRow (g := g) (cs := tabC (.slice RA rn rc) (.slice TA tn tc)) HLwaab hgeg
          generalize waab.setRow g (tabC (.slice RA rn rc) (.slice TA tn tc)) = ws at Tg2 HLs ⊢
          refine hK _ _ (ST.out _ HLs) (fun hHeld => ?_)
          clear hK
          clear K
          try simp only [Act.put]
          refine ⟨by kernel_rfl, ?_⟩
          have HF := hid (And.intro HLs (And.intro Tg2 hgeg))
          clear hHeld
          go_wp2_with fail
          go_meet
          exact ⟨g, rfl, HF⟩
      · go_simp
        have hbwab : Below wa.heap.size wa (wa.alloc (.cells #[.slice none 0 0, .slice none 0 0, .slice none 0 0, .slice none 0 0, .slice none 0 0, .slice none 0 0, .slice none 0 0, .slice none 0 0, .slice none 0 0, .slice none 0 0, .slice none 0 0, .slice none 0 0, .slice none 0 0] 70)) := below_new _ _
        have Tg := heap_alloc_new wa (.cells #[.slice none 0 0, .slice none 0 0, .slice none 0 0, .slice none 0 0, .slice none 0 0, .slice none 0 0, .slice none 0 0, .slice none 0 0, .slice none 0 0, .slice none 0 0, .slice none 0 0, .slice none 0 0, .slice none 0 0] 70)
        have HLwab := HLwa.trans (hbwab.mono HLwa.size)
        have hgeg := HLwa.size
        refine hK _ _ (ST.out _ HLwab) (fun hHeld => ?_)
        clear hK
        clear K
        generalize wa.alloc (.cells #[.slice none 0 0, .slice none 0 0, .slice none 0 0, .slice none 0 0, .slice none 0 0, .slice none 0 0, .slice none 0 0, .slice none 0 0, .slice none 0 0, .slice none 0 0, .slice none 0 0, .slice none 0 0, .slice none 0 0] 70) = wab at hbwab Tg HLwab hHeld ⊢
        generalize hgg : wa.heap.size = g at Tg hgeg ⊢
        try simp only [Act.put]
        refine wpAnyF_step 11 (by kernel_rfl) rfl (fun K hK => ?_)
        go_simp
        go_at_call 32
        refine (Q1.out wab).mono ?_
        rintro e waba ⟨rfl, hbwaba⟩
        dsimp only
        have HLwaba := HLwab.trans (hbwaba.mono HLwab.size)
        refine hK _ _ (ST.out _ HLwaba) (fun hHeld => ?_)
        clear hK
        clear K
        have Tg := (hbwaba.block _ (heap_ltB Tg)).trans Tg
        try simp only [Act.put]
        refine wpAnyF_step 12 (by kernel_rfl) rfl (fun K hK => ?_)
        go_simp
        refine hK _ _ (ST.out _ HLwaba) (fun hHeld => ?_)
        clear hK
        clear K
        try simp only [Act.put]
        refine wpAnyF_step 14 (by kernel_rfl) rfl (fun K hK => ?_)
        rw [if_pos (by rfl)]
        refine wp_store_row 70 _ _ rfl g (tabC (.slice RA rn rc) (.slice TA tn tc)) rfl rfl 70 (tabC (.slice none 0 0) (.slice none 0 0)) Tg (by kernel_rfl) rfl (tabC_one _ _ _ _ _ _) ?_
        have Tg2 := setRow_heap _ g _ (tabC (.slice RA rn rc) (.slice TA tn tc)) _ _ Tg
        have HLs := below_setRow (g := g) (cs := tabC (.slice RA rn rc) (.slice TA tn tc)) HLwaba hgeg
        generalize waba.setRow g (tabC (.slice RA rn rc) (.slice TA tn tc)) = ws at Tg2 HLs ⊢
        refine hK _ _ (ST.out _ HLs) (fun hHeld => ?_)
        clear hK
        clear K
        try simp only [Act.put]
        refine ⟨by kernel_rfl, ?_⟩
        have HF := hid (And.intro HLs (And.intro Tg2 hgeg))
        clear hHeld
        go_wp2_with fail
        go_meet
        exact ⟨g, rfl, HF⟩
    · go_simp
      have hbwb : Below wd.heap.size wd (wd.alloc (.cells #[.slice none 0 0, .slice none 0 0, .slice none 0 0, .slice none 0 0, .slice none 0 0, .slice none 0 0, .slice none 0 0, .slice none 0 0, .slice none 0 0, .slice none 0 0, .slice none 0 0, .slice none 0 0, .slice none 0 0] 70)) := below_new _ _
      have Tg := heap_alloc_new wd (.cells #[.slice none 0 0, .slice none 0 0, .slice none 0 0, .slice none 0 0, .slice none 0 0, .slice none 0 0, .slice none 0 0, .slice none 0 0, .slice none 0 0, .slice none 0 0, .slice none 0 0, .slice none 0 0, .slice none 0 0] 70)
      have HLwb := HLwd.trans (hbwb.mono HLwd.size)
      have hgeg := HLwd.size
      refine hK _ _ (ST.out _ HLwb) (fun hHeld => ?_)
      clear hK
      clear K
      generalize wd.alloc (.cells #[.slice none 0 0, .slice none 0 0, .slice none 0 0, .slice none 0 0, .slice none 0 0, .slice none 0 0, .slice none 0 0, .slice none 0 0, .slice none 0 0, .slice none 0 0, .slice none 0 0, .slice none 0 0, .slice none 0 0] 70) = wb at hbwb Tg HLwb hHeld ⊢
      generalize hgg : wd.heap.size = g at Tg hgeg ⊢
      try simp only [Act.put]
      refine wpAnyF_step 8 (by kernel_rfl) rfl (fun K hK => ?_)
      go_simp
      go_at_call 31
      refine (Q0.out wb).mono ?_
      rintro e wba ⟨rfl, hbwba⟩
      dsimp only
      have HLwba := HLwb.trans (hbwba.mono HLwb.size)
      refine hK _ _ (ST.out _ HLwba) (fun hHeld => ?_)
      clear hK
      clear K
      have Tg := (hbwba.block _ (heap_ltB Tg)).trans Tg
      try simp only [Act.put]
      refine wpAnyF_step 11 (by kernel_rfl) rfl (fun K hK => ?_)
      go_simp
      go_at_call 32
      refine (Q1.out wba).mono ?_
      rintro e wbaa ⟨rfl, hbwbaa⟩
      dsimp only
      have HLwbaa := HLwba.trans (hbwbaa.mono HLwba.size)
      refine hK _ _ (ST.out _ HLwbaa) (fun hHeld => ?_)
      clear hK
      clear K
      have Tg := (hbwbaa.block _ (heap_ltB Tg)).trans Tg
      try simp only [Act.put]
      refine wpAnyF_step 12 (by kernel_rfl) rfl (fun K hK => ?_)
      go_simp
      refine hK _ _ (ST.out _ HLwbaa) (fun hHeld => ?_)
      clear hK
      clear K
      try simp only [Act.put]
      refine wpAnyF_step 14 (by kernel_rfl) rfl (fun K hK => ?_)
      rw [if_pos (by rfl)]
      refine wp_store_row 70 _ _ rfl g (tabC (.slice RA rn rc) (.slice TA tn tc)) rfl rfl 70 (tabC (.slice none 0 0) (.slice none 0 0)) Tg (by kernel_rfl) rfl (tabC_one _ _ _ _ _ _) ?_
      have Tg2 := setRow_heap _ g _ (tabC (.slice RA rn rc) (.slice TA tn tc)) _ _ Tg
      have HLs := below_setRow (g := g) (cs := tabC (.slice RA rn rc) (.slice TA tn tc)) HLwbaa hgeg
      generalize wbaa.setRow g (tabC (.slice RA rn rc) (.slice TA tn tc)) = ws at Tg2 HLs ⊢
      refine hK _ _ (ST.out _ HLs) (fun hHeld => ?_)
      clear hK
      clear K
      try simp only [Act.put]
      refine ⟨by kernel_rfl, ?_⟩
      have HF := hid (And.intro HLs (And.intro Tg2 hgeg))
      clear hHeld
      go_wp2_with fail
      go_meet
      exact ⟨g, rfl, HF⟩
  case rest =>
    rename World => w5
    obtain ⟨g, rfl, hI⟩ := hcut
    obtain ⟨hb, hg, hge⟩ := hI.out
    have l1 : w.heap.size < W.heap.size := by omega
    have b12 : w5.cell? ⟨w.heap.size, 12, none⟩ = some (.slice none 0 0) := (hb.cell (p := ⟨w.heap.size, 12, none⟩) l1).trans c12
    clear c0 c1 c2 c3 c4 c5 c6 c7 c8 c9 c10 c11 c12
    have hx2 := (hb.block _ hWs).trans HX2.out
    have hx2 := hid hx2
    have HG := hid hg
    have HB := hid hb
    clear hg hb hI
    go_wp2_with fail
    go_loop [4] (fun i => i = .int .i64 0) (fun _ => 0)
    case atStart => rfl
    case round =>
      obtain rfl := hrel
      go_upto_region 6 with fail
      apply wp_region_lit
      refine wpList_load_row rfl 70 _ rfl g rfl 70 _ _ _ HG.out Tryz.underlying70 rfl (by kernel_rfl) ?_
      refine wpList_store_rowTo rfl 70 _ _ rfl rfl (w.heap.size + 1) (tabC (.slice RA rn rc) (.slice TA tn tc)) rfl rfl 70 (tabC (.slice none 0 0) (.slice none 0 0)) hx2.out (by kernel_rfl) rfl (tabC_one _ _ _ _ _ _) ?_
      apply wpList_nil
      have hx3 := setRow_heap w5 (w.heap.size + 1) _ (tabC (.slice RA rn rc) (.slice TA tn tc)) _ _ hx2.out
      have hb3 := below_setRow (g := w.heap.size + 1) (cs := tabC (.slice RA rn rc) (.slice TA tn tc)) (HBW.out.trans (HB.out.mono (by omega))) (by omega)
      generalize w5.setRow (w.heap.size + 1) (tabC (.slice RA rn rc) (.slice TA tn tc)) = w6 at hx3 hb3 ⊢
      go_wp2_with fail
      refine bodyPost_ret (results_cell_row rfl _ _ (w.heap.size + 1) 70 _ _ _ rfl hx3 Tryz.underlying70 rfl (by kernel_rfl)) rfl ?_
      exact ⟨rfl, hb3⟩
end Go.Proofs.YtcbilcfieoibbaaGreatDoor
