/-
  A configuration is kept (configs.closing.keep): the walk.
-/
import Derived.Test.YtnpcjbdolmmaeaaDoorCfMt
import Derived.Test.YtnpcjbdolmmaeaaDoorCfKq
namespace Go.Proofs.YtnpcjbdolmmaeaaDoor
open Go.RowKit Go.Maps
open Go.Sort (grow)
set_option maxRecDepth 100000
theorem zeroCfg (w : World) : (zeroValue 40).run Tryd.prog w = .ok (.agg #[.int .i64 0, .int .i64 0, .slice none 0 0, .bool false, .bool false]) w := by kernel_rfl
theorem kept_same {w : World} {f : ClF} {c : Cf.Cl} {x z : Cf.Cfg} (h : ClAt w f c) (hz : z ∈ c.kept) (hl : Cf.Like x z) (he : x.exact = true → ∃ z ∈ c.kept, Cf.Like x z ∧ z.exact = true) : ClAt w f (Cf.keep c x) := by
  obtain ⟨nk, D, k1, k2, k3⟩ := h.kept
  exact ⟨h.row, h.view, h.met, ⟨nk, D, by unfold Cf.keep; simp; omega, k2, k3.same hz hl he⟩, h.pt, h.ge, h.ne, h.hw⟩
set_option maxHeartbeats 4000000 in
theorem keep_any (f : ClF) (c : Cf.Cl) (x : Cf.Cfg) (A : Option Addr) (cx : Nat) (w : World) (h : ClAt w f c) (hs : ClSz c) (hx : OkC x) (hr : RO w (ClS w f) 1 A x.stack.length (x.stack.map (Value.int .i64))) :
    Calls Tryd.prog 31 #[.pointer (some ⟨f.C, 0, none⟩), .agg #[.int .i64 x.alt, .int .i64 x.state, .slice A x.stack.length cx, .bool x.exact, .bool x.ended]] w (MtP f (Cf.keep c x) w) := by
  obtain ⟨w1, hw1⟩ : ∃ w1, Hid (w.alloc (.cells #[.int .i64 x.alt, .int .i64 x.state, .slice A x.stack.length cx, .bool x.exact, .bool x.ended] 40) = w1) := ⟨_, hid rfl⟩
  have hb1 : Below w.heap.size w w1 := by rw [← hw1.out]; exact below_new _ _
  have h1 : w1.heap[w.heap.size]? = some (.cells #[.int .i64 x.alt, .int .i64 x.state, .slice A x.stack.length cx, .bool x.exact, .bool x.ended] 40 (0, 0)) := by rw [← hw1.out]; exact heap_alloc_new _ _
  have s0 : w1.cell? ⟨w.heap.size, 0, none⟩ = some (.int .i64 x.alt) := by rw [Lib.cell_of_heap h1]; rfl
  have s1 : w1.cell? ⟨w.heap.size, 1, none⟩ = some (.int .i64 x.state) := by rw [Lib.cell_of_heap h1]; rfl
  have s2 : w1.cell? ⟨w.heap.size, 2, none⟩ = some (.slice A x.stack.length cx) := by rw [Lib.cell_of_heap h1]; rfl
  have s3 : w1.cell? ⟨w.heap.size, 3, none⟩ = some (.bool x.exact) := by rw [Lib.cell_of_heap h1]; rfl
  have s4 : w1.cell? ⟨w.heap.size, 4, none⟩ = some (.bool x.ended) := by rw [Lib.cell_of_heap h1]; rfl
  have hcl1 := h.below hb1
  have hsg := sign_any x A cx w1 hx (hr.only (Only.of_below (S := ClS w f) hb1) (fun _ _ e => e)).reads hcl1.pt.here
  have HCL1 := hid hcl1
  have HB1 := hid hb1
  have HR := hid hr
  have HS := hid hs
  have HX := hid hx
  have HLT := hid h.lt
  have HLK := hid (ClAt.ltK h)
  clear hcl1 hr hs hx h hb1
  go_enter Tryd.func31, Tryd.ntmps31
  go_wp2_with fail
  rw [hw1.out]
  clear hw1
  go_at_call 30
  refine (hsg).mono ?_
  rintro e w2 ⟨rfl, hb2⟩
  clear hsg
  have s0 := (hb2.cell (p := ⟨w.heap.size, 0, none⟩) (heap_lt h1)).trans s0
  have s1 := (hb2.cell (p := ⟨w.heap.size, 1, none⟩) (heap_lt h1)).trans s1
  have s2 := (hb2.cell (p := ⟨w.heap.size, 2, none⟩) (heap_lt h1)).trans s2
  have s3 := (hb2.cell (p := ⟨w.heap.size, 3, none⟩) (heap_lt h1)).trans s3
  have s4 := (hb2.cell (p := ⟨w.heap.size, 4, none⟩) (heap_lt h1)).trans s4
  have h2 := (hb2.block _ (heap_lt h1)).trans h1
  have HB2 := hid (HB1.out.trans (hb2.mono HB1.out.size))
  have HCL2 := hid (HCL1.out.below hb2)
  clear hb2 h1 HB1 HCL1
  obtain ⟨u, vs, c0, c1, c2, c3, c4, hfz, hown, hcv⟩ := HCL2.out.cells
  obtain ⟨nk, D, hnk, hmap, hkep⟩ := HCL2.out.kept
  have hky := key_of x false (key_len HX.out false)
  rw [show Cf.keyT x false = Cf.signT x from rfl] at hky
  obtain ⟨el, elp, hlk, hlr⟩ := hmap.look_ok lawStr Tryd.underlying56 (zeroCfg w2) (show asIs (.agg #[.int .i64 0, .int .i64 0, .slice none 0 0, .bool false, .bool false]) = some (.held (.agg #[.int .i64 0, .int .i64 0, .slice none 0 0, .bool false, .bool false]), []) from rfl) hky
  have hel : ∃ (y : Cf.Cfg) (B : Option Addr) (cy : Nat), el = .agg #[.int .i64 y.alt, .int .i64 y.state, .slice B y.stack.length cy, .bool y.exact, .bool y.ended] ∧
      ((has D (keyL x false) = false ∧ ¬ ∃ z ∈ c.kept, Cf.Like x z) ∨ (has D (keyL x false) = true ∧ (∃ z ∈ c.kept, Cf.Like x z) ∧ (y.exact = true ↔ ∃ z ∈ c.kept, Cf.Like x z ∧ z.exact = true))) := by
    have hlr' : DataW.held el = D.atKey (keyL x false) (.held (.agg #[.int .i64 0, .int .i64 0, .slice none 0 0, .bool false, .bool false])) := by
      unfold asIs at hlr
      injection hlr with hlr
      injection hlr
    cases hh : has D (keyL x false) with
    | false =>
      have h2 := hlr'
      rw [atKey_of_not_has hh] at h2
      injection h2 with h2
      refine ⟨⟨0, 0, [], false, false⟩, none, 0, h2, .inl ⟨rfl, fun hz => ?_⟩⟩
      rw [(hkep.has x).2 hz] at hh
      cases hh
    | true =>
      obtain ⟨z, hz, hl⟩ := (hkep.has x).1 hh
      obtain ⟨y, A', c', e1, e2, e3, e4⟩ := hkep.elem z hz
      have h2 := hlr'
      rw [keyL_like hl false, e1] at h2
      injection h2 with h2
      refine ⟨y, A', c', h2, .inr ⟨rfl, ⟨z, hz, hl⟩, e3.trans ⟨?_, ?_⟩⟩⟩
      · rintro ⟨q, hq, hlq, heq⟩; exact ⟨q, hq, hl.trans hlq, heq⟩
      · rintro ⟨q, hq, hlq, heq⟩; exact ⟨q, hq, hl.symm.trans hlq, heq⟩
  obtain ⟨y, B, cy, rfl, hcase⟩ := hel
  clear hlr elp
  obtain ⟨b0, hb0⟩ : ∃ b0, has D (keyL x false) = b0 := ⟨_, rfl⟩
  rw [hb0] at hlk hcase
  have HCASE := hid hcase
  have HMAP := hid hmap
  have HKEP := hid hkep
  have HH2 := hid h2
  have HKY := hid hky
  clear hmap hkep hcase hb0 h2 hfz hown hcv hky c0 c1 c2 c4 vs u
  have hw2l := heap_lt HH2.out
  have q0 := ((below_new w2 (.cells #[.int .i64 y.alt, .int .i64 y.state, .slice B y.stack.length cy, .bool y.exact, .bool y.ended] 40)).cell (p := ⟨w.heap.size, 0, none⟩) hw2l).trans s0
  have q1 := ((below_new w2 (.cells #[.int .i64 y.alt, .int .i64 y.state, .slice B y.stack.length cy, .bool y.exact, .bool y.ended] 40)).cell (p := ⟨w.heap.size, 1, none⟩) hw2l).trans s1
  have q2 := ((below_new w2 (.cells #[.int .i64 y.alt, .int .i64 y.state, .slice B y.stack.length cy, .bool y.exact, .bool y.ended] 40)).cell (p := ⟨w.heap.size, 2, none⟩) hw2l).trans s2
  have q3 := ((below_new w2 (.cells #[.int .i64 y.alt, .int .i64 y.state, .slice B y.stack.length cy, .bool y.exact, .bool y.ended] 40)).cell (p := ⟨w.heap.size, 3, none⟩) hw2l).trans s3
  have q4 := ((below_new w2 (.cells #[.int .i64 y.alt, .int .i64 y.state, .slice B y.stack.length cy, .bool y.exact, .bool y.ended] 40)).cell (p := ⟨w.heap.size, 4, none⟩) hw2l).trans s4
  have r3 : (w2.alloc (.cells #[.int .i64 y.alt, .int .i64 y.state, .slice B y.stack.length cy, .bool y.exact, .bool y.ended] 40)).cell? ⟨w2.heap.size, 3, none⟩ = some (.bool y.exact) := by rw [cell_new]; rfl
  have c3 := ((below_new w2 (.cells #[.int .i64 y.alt, .int .i64 y.state, .slice B y.stack.length cy, .bool y.exact, .bool y.ended] 40)).cell (p := ⟨f.C, 3, none⟩) HCL2.out.lt).trans c3
  have hb3 := below_new w2 (.cells #[.int .i64 y.alt, .int .i64 y.state, .slice B y.stack.length cy, .bool y.exact, .bool y.ended] 40)
  obtain ⟨w3, hw3⟩ : ∃ w3, Hid ((w2.alloc (.cells #[.int .i64 y.alt, .int .i64 y.state, .slice B y.stack.length cy, .bool y.exact, .bool y.ended] 40)) = w3) := ⟨_, hid rfl⟩
  have p3 := q3
  have r3a := r3
  rw [hw3.out] at q0 q1 q2 q3 q4 r3 c3 hb3
  have hmap3 := ownsMap_onlyH HMAP.out (Only.of_below (S := fun _ => False) hb3) (fun e => e)
  have hkep3 := HKEP.out.only (S' := ClS w3 f) (Only.of_below hb3) (fun b _ hk => (cls_of_cell (hb3.cell (p := ⟨f.C, 2, none⟩) HCL2.out.lt) b).1 hk)
  have HCL3 := hid (HCL2.out.below hb3)
  have HB3 := hid (HB2.out.trans (hb3.mono HB2.out.size))
  have HM3 := hid hmap3
  have HK3 := hid hkep3
  clear hb3 hmap3 hkep3 s0 s1 s2 s3 s4 HMAP HKEP HB2 HCL2 hw2l HH2
  cases b0 with
  | false =>
    go_wp2_with fail
    rw [hw3.out]
    clear hlk hw3 p3 r3a
    refine still_tail 6 (by kernel_rfl) (by kernel_rfl) ?_
    intro w4 HW4
    have ho4 : Only (fun _ => False) w3 w4 := by rw [HW4.out]; exact ⟨rfl, rfl, rfl, Nat.le_refl _, fun _ _ _ => rfl⟩
    clear HW4
    have hlw3 : w.heap.size < w3.heap.size := World.block_lt_of_cell? w3 _ q0
    have hC3 := HCL3.out.lt
    have c3 := (ho4.cell (o := 3) hC3 (fun e => e)).trans c3
    have q0 := (ho4.cell (o := 0) hlw3 (fun e => e)).trans q0
    have q1 := (ho4.cell (o := 1) hlw3 (fun e => e)).trans q1
    have q2 := (ho4.cell (o := 2) hlw3 (fun e => e)).trans q2
    have q3 := (ho4.cell (o := 3) hlw3 (fun e => e)).trans q3
    have q4 := (ho4.cell (o := 4) hlw3 (fun e => e)).trans q4
    have hmap4 := ownsMap_onlyH HM3.out ho4 (fun e => e)
    have hmx : nk < maxLen := by have := HS.out.kept; simp only [maxLen]; omega
    have HKY2 := hid HKY.out
    have hky := HKY.out
    clear HKY
    simp only [List.take_succ_cons, List.take_zero, List.drop_succ_cons, List.drop_zero]
    repeat still_step
    refine wpStill_nil ?_
    refine wpList_mapUpdate_own _ rfl _ _ _ 56 rfl 9 40 lawStr Tryd.underlying56 asIs f.K nk D rfl hmap4 hmx _ _ _ rfl rfl hky _ [] rfl ?_
    intro w5 hmap5 hg5
    have hmap5 : w5.ownsMap Tryd.prog 9 asIs f.K (nk + 1) (D.put (keyL x false) (.held (.agg (cfC x A cx).toArray))) := hmap5
    have ho5 : Only (fun k => k = f.K) w3 w5 := (ho4.more (fun _ _ e => e.elim)).trans (Only.of_grown hg5) (fun b _ e => by injection e)
    have hn2 := HCL3.out.ne.2.1
    have hsm : ∀ b, b < w3.heap.size → ClS w5 f b → ClS w3 f b := fun b _ hk => (cls_of_cell (ho5.cell (o := 2) hC3 hn2) b).1 hk
    have hoS : Only (ClS w3 f) w3 w5 := ho5.more (fun b _ e => by rw [show b = f.K from e]; exact .inr (.inr (.inl rfl)))
    have hrx := (HR.out.only (S' := ClS w3 f) (Only.of_below HB3.out) (fun b _ hk => (cls_of_cell (HB3.out.cell (p := ⟨f.C, 2, none⟩) HLT.out) b).1 hk)).only hoS hsm
    have hkp := (HK3.out.only hoS hsm).put (c := cx) hrx (.inr (by rcases HCASE.out with h | h; exact h.2; cases h.1))
    have HF := hid (HCL3.out.kept1 ho5 hmap5 (by simp; omega) hkp)
    clear hmap5 hg5 hkp hrx hmap4
    go_wp2_with fail
    go_end0
    exact ⟨rfl, HF.out.1, (Steps.of_below HLT.out HB3.out).trans HF.out.2⟩
  | true =>
    cases hxe : x.exact with
    | false =>
      rw [hxe] at q3 p3
      go_wp2
      go_end0
      have hcs := HCASE.out
      rcases hcs with h | ⟨_, ⟨z, hz, hl⟩, _⟩
      · cases h.1
      · rw [hw3.out]
        exact ⟨rfl, kept_same HCL3.out hz hl (fun e => by rw [hxe] at e; cases e), Steps.of_below HLT.out HB3.out⟩
    | true =>
      rw [hxe] at q3 p3
      cases hye : y.exact with
      | true =>
        rw [hye] at r3 r3a hw3 hlk p3
        go_wp2
        go_end0
        have hcs := HCASE.out
        rcases hcs with h | ⟨_, ⟨z, hz, hl⟩, hiff⟩
        · cases h.1
        · rw [hw3.out]
          exact ⟨rfl, kept_same HCL3.out hz hl (fun _ => hiff.1 hye), Steps.of_below HLT.out HB3.out⟩
      | false =>
        rw [hye] at r3 r3a hw3 hlk p3
        go_wp2_with fail
        rw [hw3.out]
        clear hlk hw3 p3 r3a
        refine still_tail 6 (by kernel_rfl) (by kernel_rfl) ?_
        intro w4 HW4
        have ho4 : Only (fun _ => False) w3 w4 := by rw [HW4.out]; exact ⟨rfl, rfl, rfl, Nat.le_refl _, fun _ _ _ => rfl⟩
        clear HW4
        have hlw3 : w.heap.size < w3.heap.size := World.block_lt_of_cell? w3 _ q0
        have hC3 := HCL3.out.lt
        have c3 := (ho4.cell (o := 3) hC3 (fun e => e)).trans c3
        have q0 := (ho4.cell (o := 0) hlw3 (fun e => e)).trans q0
        have q1 := (ho4.cell (o := 1) hlw3 (fun e => e)).trans q1
        have q2 := (ho4.cell (o := 2) hlw3 (fun e => e)).trans q2
        have q3 := (ho4.cell (o := 3) hlw3 (fun e => e)).trans q3
        have q4 := (ho4.cell (o := 4) hlw3 (fun e => e)).trans q4
        have hmap4 := ownsMap_onlyH HM3.out ho4 (fun e => e)
        have hmx : nk < maxLen := by have := HS.out.kept; simp only [maxLen]; omega
        have HKY2 := hid HKY.out
        have hky := HKY.out
        clear HKY
        simp only [List.take_succ_cons, List.take_zero, List.drop_succ_cons, List.drop_zero]
        repeat still_step
        refine wpStill_nil ?_
        refine wpList_mapUpdate_own _ rfl _ _ _ 56 rfl 9 40 lawStr Tryd.underlying56 asIs f.K nk D rfl hmap4 hmx _ _ _ rfl rfl hky _ [] rfl ?_
        intro w5 hmap5 hg5
        have hmap5 : w5.ownsMap Tryd.prog 9 asIs f.K (nk + 1) (D.put (keyL x false) (.held (.agg (cfC x A cx).toArray))) := by unfold cfC; rw [hxe]; exact hmap5
        have ho5 : Only (fun k => k = f.K) w3 w5 := (ho4.more (fun _ _ e => e.elim)).trans (Only.of_grown hg5) (fun b _ e => by injection e)
        have hn2 := HCL3.out.ne.2.1
        have hsm : ∀ b, b < w3.heap.size → ClS w5 f b → ClS w3 f b := fun b _ hk => (cls_of_cell (ho5.cell (o := 2) hC3 hn2) b).1 hk
        have hoS : Only (ClS w3 f) w3 w5 := ho5.more (fun b _ e => by rw [show b = f.K from e]; exact .inr (.inr (.inl rfl)))
        have hrx := (HR.out.only (S' := ClS w3 f) (Only.of_below HB3.out) (fun b _ hk => (cls_of_cell (HB3.out.cell (p := ⟨f.C, 2, none⟩) HLT.out) b).1 hk)).only hoS hsm
        have hkp := (HK3.out.only hoS hsm).put (c := cx) hrx (.inl hxe)
        have HF := hid (HCL3.out.kept1 ho5 hmap5 (by simp; omega) hkp)
        clear hmap5 hg5 hkp hrx hmap4
        go_wp2_with fail
        go_end0
        exact ⟨rfl, HF.out.1, (Steps.of_below HLT.out HB3.out).trans HF.out.2⟩
end Go.Proofs.YtnpcjbdolmmaeaaDoor
