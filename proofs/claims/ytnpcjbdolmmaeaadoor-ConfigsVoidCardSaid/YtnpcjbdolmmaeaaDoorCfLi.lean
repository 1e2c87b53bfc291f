/-
  The chapter's example of configurations: the walk.
-/
import Derived.Test.YtnpcjbdolmmaeaaDoorCfLm
namespace Go.Proofs.YtnpcjbdolmmaeaaDoor
open Go.RowKit Go.Maps
set_option maxRecDepth 100000
theorem SetIn.cells {w : World} {B : Nat} {CA AA : Option Addr} {s : Cf.St} (h : SetIn w B CA AA s) (hn : s.configs.length ≠ 0) : ∃ g vs, CA = some ⟨g, 0, none⟩ ∧ g < w.heap.size ∧ CfsO w B s.configs vs ∧ ∀ k u, vs[k]? = some u → w.cell? ⟨g, k, none⟩ = some u := by
  obtain ⟨vs, h1, h2⟩ := h.cfg
  rcases h1.2 with ⟨_, h0⟩ | ⟨g, c, cur, hv, _⟩
  · exact absurd h0 hn
  · injection hv with hv _ _
    subst hv
    obtain ⟨b, off, e, hb, hc⟩ := h1.reads.2 (by omega)
    injection e with e
    injection e with e1 e2
    subst e1 e2
    exact ⟨g, vs, rfl, hb, h2, fun k u hk => by have := hc k u hk; rwa [Nat.zero_add] at this⟩
set_option maxHeartbeats 12800000 in
theorem lives_any (w : World) (hT : PT w) : Calls Tryd.prog 6 #[] w fun e w' => e = .returned (.bool true) ∧ Below w.heap.size w w' := by
  have LM := fun wq h => live_mem w wq h
  have HT := hid hT
  clear hT
  go_enter Tryd.func6, Tryd.ntmps6
  go_wp2_with fail
  go_at_call 11
  refine (empty_any 2 _).mono ?_
  rintro _ _ ⟨rfl, rfl⟩
  go_wp2_with fail
  go_at_call 11
  refine (empty_any 4 _).mono ?_
  rintro _ _ ⟨rfl, rfl⟩
  go_wp2_with fail
  go_at_call 11
  refine (empty_any 5 _).mono ?_
  rintro _ _ ⟨rfl, rfl⟩
  go_wp2_with fail
  go_at_call 11
  refine (empty_any 1 _).mono ?_
  rintro _ _ ⟨rfl, rfl⟩
  go_upto_region 2 with fail
  generalize hq : World.alloc _ _ = wq
  obtain ⟨hb0, hbx, hsz, hnet⟩ := LM wq hq.symm
  clear LM hq
  have x0 : wq.cell? ⟨w.heap.size + 1 + 1 + 1 + 1 + 1 + 1 + 1 + 1 + 1 + 1 + 1 + 1 + 1 + 1 + 1, 0, none⟩ = some (.slice (some ⟨w.heap.size + 1 + 1 + 1 + 1 + 1 + 1 + 1 + 1 + 1 + 1 + 1 + 1 + 1 + 1, 0, none⟩) 7 7) := by rw [Lib.cell_of_heap hbx]; rfl
  have x1 : wq.cell? ⟨w.heap.size + 1 + 1 + 1 + 1 + 1 + 1 + 1 + 1 + 1 + 1 + 1 + 1 + 1 + 1 + 1, 1, none⟩ = some (.slice (some ⟨w.heap.size, 0, none⟩) 1 1) := by rw [Lib.cell_of_heap hbx]; rfl
  have x2 : wq.cell? ⟨w.heap.size + 1 + 1 + 1 + 1 + 1 + 1 + 1 + 1 + 1 + 1 + 1 + 1 + 1 + 1 + 1, 2, none⟩ = some (.slice (some ⟨w.heap.size + 1, 0, none⟩) 1 1) := by rw [Lib.cell_of_heap hbx]; rfl
  have x3 : wq.cell? ⟨w.heap.size + 1 + 1 + 1 + 1 + 1 + 1 + 1 + 1 + 1 + 1 + 1 + 1 + 1 + 1 + 1, 3, none⟩ = some (.slice none 0 0) := by rw [Lib.cell_of_heap hbx]; rfl
  have x4 : wq.cell? ⟨w.heap.size + 1 + 1 + 1 + 1 + 1 + 1 + 1 + 1 + 1 + 1 + 1 + 1 + 1 + 1 + 1, 4, none⟩ = some (.slice (some ⟨w.heap.size + 1 + 1, 0, none⟩) 1 1) := by rw [Lib.cell_of_heap hbx]; rfl
  have hnew := new_any Cf.n14 0 1 _ _ _ _ _ 7 1 1 0 1 wq hnet ⟨by decide, by decide, by decide, by decide, by decide, by decide⟩ Cf.few14
  have HN := hid hnew
  have HB0 := hid hb0
  have HTQ := hid (HT.out.next hb0)
  clear hnew hb0 hbx hnet
  go_wp2_with fail
  go_at_call 12
  refine HN.out.mono ?_
  rintro _ w2 (⟨hno, _, _⟩ | ⟨v, V, a, hv, rfl, hva, hge, hb2⟩)
  · rw [Cf.new14] at hno; cases hno
  rw [Cf.new14] at hv
  injection hv with hv
  subst hv
  obtain ⟨hW, hd, _, he⟩ := Cf.newV_ok Cf.new14 Cf.few14
  have HB2 := hid (HB0.out.trans (hb2.mono HB0.out.size))
  have HT2 := hid (HTQ.out.next hb2)
  have hst := start_any Cf.v14 a V w2 hva hW hd he HT2.out
  have HST := hid hst
  have HVA := hid hva
  have HWW := hid hW
  clear hst hva hb2 HTQ HB0 HN x0 x1 x2 x3 x4 hsz hge hW
  dsimp only
  go_wp2_with fail
  go_at_call 4
  refine HST.out.mono ?_
  rintro _ w3 ⟨s, CA, AA, rfl, his, hsb, hin, hb3⟩
  have hs := his.unique Cf.set14
  subst hs
  clear his
  have hbx := below_new w3 (.cells #[.slice CA 2 2, .slice AA 2 2, .bool false] 36)
  have hx := heap_alloc_new w3 (.cells #[.slice CA 2 2, .slice AA 2 2, .bool false] 36)
  obtain ⟨w4, hw4⟩ : ∃ w4, Hid (w3.alloc (.cells #[.slice CA 2 2, .slice AA 2 2, .bool false] 36) = w4) := ⟨_, hid rfl⟩
  rw [hw4.out] at hbx hx
  have hb4 := hb3.trans (hbx.mono hb3.size)
  have hin4 := hin.below hbx
  have hmv := move_any Cf.v14 a V Cf.s14 0 CA AA w4 (HVA.out.next hb4) HWW.out hsb hin4.cfr (HT2.out.next hb4)
  obtain ⟨c0, c1, c2⟩ := cells3 hx
  have HIN4 := hid hin4
  have HX4 := hid hx
  have HMV := hid hmv
  have HB4 := hid (HB2.out.trans (hb4.mono HB2.out.size))
  have hl4 := heap_lt hx
  clear hbx hx hb4 hin4 hmv hin hb3 hsb
  unfold setAgg
  rw [show Cf.s14.configs.length = 2 from rfl, show Cf.s14.alts.length = 2 from rfl, show Cf.s14.over = false from rfl]
  go_wp2_with fail
  rw [hw4.out]
  go_at_call 5
  refine HMV.out.mono ?_
  rintro _ w5 ⟨t, CB, AB, rfl, hit, htb, hin5, hb5⟩
  rw [if_neg (by decide)] at hit
  have ht := hit.unique Cf.set14b
  subst ht
  clear hit
  have hbx := below_new w5 (.cells #[.slice CB 1 1, .slice AB 1 1, .bool false] 36)
  have hx := heap_alloc_new w5 (.cells #[.slice CB 1 1, .slice AB 1 1, .bool false] 36)
  obtain ⟨w6, hw6⟩ : ∃ w6, Hid (w5.alloc (.cells #[.slice CB 1 1, .slice AB 1 1, .bool false] 36) = w6) := ⟨_, hid rfl⟩
  rw [hw6.out] at hbx hx
  have hb6 := hb5.trans (hbx.mono hb5.size)
  have hinA := HIN4.out.below hb6
  have hinB := hin5.below hbx
  have hx4 := (hb6.block _ hl4).trans HX4.out
  obtain ⟨d0, d1, d2⟩ := cells3 hx4
  obtain ⟨e0, e1, e2⟩ := cells3 hx
  obtain ⟨ga, va, hCA, hga, hoa, hka⟩ := hinA.cells (by decide)
  obtain ⟨gb, vb, hCB, hgb, hob, hkb⟩ := hinB.cells (by decide)
  obtain ⟨A1, b1, ea, _, A2, b2, eb, _, _⟩ := hoa
  obtain ⟨A3, b3, ec, _, _⟩ := hob
  have ka1 := hka 1 (.int .i64 4) (by rw [ea]; rfl)
  have ka5 := hka 5 (.int .i64 1) (by rw [ea, eb]; rfl)
  have ka6 := hka 6 (.int .i64 5) (by rw [ea, eb]; rfl)
  have kb1 := hkb 1 (.int .i64 3) (by rw [ec]; rfl)
  have kb3 := hkb 3 (.bool true) (by rw [ec]; rfl)
  have kb4 := hkb 4 (.bool true) (by rw [ec]; rfl)
  have hd1 := done_any Cf.s14 CA AA w6 hinA.cfr (by decide)
  rw [Cf.done14] at hd1
  have HD1 := hid hd1
  have HIA := hid hinA
  have HIB := hid hinB
  have HB6 := hid (HB4.out.trans (hb6.mono HB4.out.size))
  subst hCA hCB
  clear hd1 hinA hinB hb6 hb5 hbx hx hx4 hin5 htb hka hkb ea eb ec c0 c1 c2 HIN4 HX4 HMV HST
  unfold setAgg
  rw [show Cf.t14.configs.length = 1 from rfl, show Cf.t14.alts.length = 1 from rfl, show Cf.t14.over = false from rfl]
  go_upto_region 5 with fail
  rw [hw6.out]
  have hsd := World.block_lt_of_cell? w6 _ d1
  have hse := World.block_lt_of_cell? w6 _ e1
  have hsg := World.block_lt_of_cell? w6 _ kb1
  dsimp only at hsd hse hsg
  go_wp2_with fail
  go_at_call 13
  refine HD1.out.mono ?_
  rintro _ w7 ⟨rfl, hb7⟩
  have hs7 := hb7.size
  have d1 := (hb7.cell (p := ⟨w3.heap.size, 1, none⟩) (by show w3.heap.size < _; omega)).trans d1
  have e0 := (hb7.cell (p := ⟨w5.heap.size, 0, none⟩) (by show w5.heap.size < _; omega)).trans e0
  have e1 := (hb7.cell (p := ⟨w5.heap.size, 1, none⟩) (by show w5.heap.size < _; omega)).trans e1
  have e2 := (hb7.cell (p := ⟨w5.heap.size, 2, none⟩) (by show w5.heap.size < _; omega)).trans e2
  have kb1 := (hb7.cell (p := ⟨gb, 1, none⟩) (by show gb < _; omega)).trans kb1
  have kb3 := (hb7.cell (p := ⟨gb, 3, none⟩) (by show gb < _; omega)).trans kb3
  have kb4 := (hb7.cell (p := ⟨gb, 4, none⟩) (by show gb < _; omega)).trans kb4
  have hbn := below_new w7 (.cells #[.int .i64 0, .int .i64 1] 3)
  have hxn := heap_alloc_new w7 (.cells #[.int .i64 0, .int .i64 1] 3)
  obtain ⟨w8, hw8⟩ : ∃ w8, Hid (w7.alloc (.cells #[.int .i64 0, .int .i64 1] 3) = w8) := ⟨_, hid rfl⟩
  rw [hw8.out] at hbn hxn
  have hb68 := hb7.trans (hbn.mono hb7.size)
  have hra := (HIA.out.below hb68).alts.reads
  have hsn := sameZ_eq AA (some ⟨w7.heap.size, 0, none⟩) 2 2 [0, 1] w8 (by decide) hra (rdh hxn rfl)
  have HSN := hid hsn
  have HB8 := hid hb68
  have e0 := (hbn.cell (p := ⟨w5.heap.size, 0, none⟩) (by show w5.heap.size < _; omega)).trans e0
  have e1 := (hbn.cell (p := ⟨w5.heap.size, 1, none⟩) (by show w5.heap.size < _; omega)).trans e1
  have e2 := (hbn.cell (p := ⟨w5.heap.size, 2, none⟩) (by show w5.heap.size < _; omega)).trans e2
  have kb1 := (hbn.cell (p := ⟨gb, 1, none⟩) (by show gb < _; omega)).trans kb1
  have kb3 := (hbn.cell (p := ⟨gb, 3, none⟩) (by show gb < _; omega)).trans kb3
  have kb4 := (hbn.cell (p := ⟨gb, 4, none⟩) (by show gb < _; omega)).trans kb4
  have hs8 := hbn.size
  clear hbn hxn hb7 hra hsn HD1 ka1 ka5 ka6 d0 d2
  go_wp2_with fail
  rw [hw8.out]
  go_at_call 14
  refine HSN.out.mono ?_
  rintro _ w9 ⟨rfl, hb9⟩
  have hb69 := HB8.out.trans (hb9.mono HB8.out.size)
  have e0 := (hb9.cell (p := ⟨w5.heap.size, 0, none⟩) (by show w5.heap.size < _; omega)).trans e0
  have e1 := (hb9.cell (p := ⟨w5.heap.size, 1, none⟩) (by show w5.heap.size < _; omega)).trans e1
  have e2 := (hb9.cell (p := ⟨w5.heap.size, 2, none⟩) (by show w5.heap.size < _; omega)).trans e2
  have kb1 := (hb9.cell (p := ⟨gb, 1, none⟩) (by show gb < _; omega)).trans kb1
  have kb3 := (hb9.cell (p := ⟨gb, 3, none⟩) (by show gb < _; omega)).trans kb3
  have kb4 := (hb9.cell (p := ⟨gb, 4, none⟩) (by show gb < _; omega)).trans kb4
  have hs9 := hb9.size
  have hd2 := done_any Cf.t14 (some ⟨gb, 0, none⟩) AB w9 (HIB.out.below hb69).cfr (by decide)
  rw [Cf.done14b] at hd2
  unfold setAgg at hd2
  have HD2 := hid hd2
  have HB9 := hid hb69
  clear hd2 hb9 hb69 HSN
  go_wp2_with fail
  go_at_call 13
  refine HD2.out.mono ?_
  rintro _ w10 ⟨rfl, hb10⟩
  have e1 := (hb10.cell (p := ⟨w5.heap.size, 1, none⟩) (by show w5.heap.size < _; omega)).trans e1
  have hbn := below_new w10 (.cells #[.int .i64 0] 3)
  have hxn := heap_alloc_new w10 (.cells #[.int .i64 0] 3)
  obtain ⟨w11, hw11⟩ : ∃ w11, Hid (w10.alloc (.cells #[.int .i64 0] 3) = w11) := ⟨_, hid rfl⟩
  rw [hw11.out] at hbn hxn
  have hb611 := HB9.out.trans ((hb10.trans (hbn.mono hb10.size)).mono HB9.out.size)
  have hra := (HIB.out.below hb611).alts.reads
  have hsn := sameZ_eq AB (some ⟨w10.heap.size, 0, none⟩) 1 1 [0] w11 (by decide) hra (rdh hxn rfl)
  have HSN := hid hsn
  have HB11 := hid hb611
  clear hbn hxn hb10 hra hsn hb611
  go_wp2_with fail
  rw [hw11.out]
  go_at_call 14
  refine HSN.out.mono ?_
  rintro _ w12 ⟨rfl, hb12⟩
  go_wp2_with fail
  go_ret
  exact ⟨rfl, HB6.out.trans ((HB11.out.trans (hb12.mono HB11.out.size)).mono HB6.out.size)⟩
end Go.Proofs.YtnpcjbdolmmaeaaDoor
