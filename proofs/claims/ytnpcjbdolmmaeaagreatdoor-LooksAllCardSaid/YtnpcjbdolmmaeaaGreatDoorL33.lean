/-
  Looks: a set's place among the states: it is made, if it is none (looks.building.place): the walk. Printed by gen_lkpl.py.
-/
import Derived.Test.YtnpcjbdolmmaeaaGreatDoorL06
import Derived.Test.YtnpcjbdolmmaeaaGreatDoorL08
import Derived.Test.YtnpcjbdolmmaeaaGreatDoorL09
import Derived.Test.YtnpcjbdolmmaeaaGreatDoorL32
namespace Go.Proofs.YtnpcjbdolmmaeaaGreatDoor
open Go.RowKit Go.Maps
set_option maxRecDepth 100000
theorem infoSetP : (Tryz.prog.info? 43).map (fun i => (i.zero, i.size, i.bytes)) = some (some (.agg #[.slice none 0 0, .slice none 0 0, .bool false]), 3, 56) := by kernel_rfl
theorem infoLS : (Tryz.prog.info? 69).map (fun i => (i.zero, i.size, i.bytes)) = some (some (.agg #[.int .u8 0, .slice none 0 0, .slice none 0 0]), 3, 56) := by kernel_rfl
def PlcP (f : LkF) (E : Nat) (sets : List Cf.St) (aut : List Drv.LSt) (s : Cf.St) (w : World) (e : Ending) (w' : World) : Prop :=
  match Cf.findS sets s with
  | some k => e = .returned (.int .i64 (k : Int)) ∧ Below w.heap.size w w'
  | none => if f.budget ≤ sets.length then e = .panicked [{ v := .iface 144 (.agg #[]), recovered := false }] ∧ Below w.heap.size w w'
    else e = .returned (.int .i64 (sets.length : Int)) ∧ BlAt w' f E (sets ++ [s]) (sets ++ [s]) (aut ++ [Cf.freshL s]) ∧ Below f.B0 w w' ∧ LkKept w w'
theorem signS_len {s : Cf.St} (K : SgOk s) : (Cf.signS s).length ≤ maxLen := by
  have h1 := nums_len K.alts
  have h2 := Cf.flatMap_len Cf.cfgT 300000 s.configs (fun x hx => by
    obtain ⟨c0, c1, c2, c3⟩ := K.cfg x hx
    exact cfg_len c0 c1 c2 c3)
  have := K.alen
  have := K.clen
  unfold Cf.signS
  simp only [maxLen]
  rw [List.length_cons]
  split
  · have : s.configs.length * 300000 ≤ 4000 * 300000 := Nat.mul_le_mul_right _ (by omega)
    omega
  · omega
set_option maxHeartbeats 8000000 in
theorem place_any (f : LkF) (sets : List Cf.St) (aut : List Drv.LSt) (s : Cf.St) (CA AA : Option Addr) (w : World) (E : Nat) (h : BlAt w f E sets sets aut) (hs : SetIn w f.B0 CA AA s) (K : SgOk s) (hn : sets.length ≤ 1000000) (hna : aut.length ≤ 1000000) :
    Calls Tryz.prog 68 #[.pointer (some ⟨f.B, 0, none⟩), setAgg CA AA s] w (PlcP f E sets aut s w) := by
  have hbn := below_new w (.cells #[.slice CA s.configs.length s.configs.length, .slice AA s.alts.length s.alts.length, .bool s.over] 43)
  have hxn := heap_alloc_new w (.cells #[.slice CA s.configs.length s.configs.length, .slice AA s.alts.length s.alts.length, .bool s.over] 43)
  obtain ⟨w1, hw1⟩ : ∃ w1, Hid (w.alloc (.cells #[.slice CA s.configs.length s.configs.length, .slice AA s.alts.length s.alts.length, .bool s.over] 43) = w1) := ⟨_, hid rfl⟩
  rw [hw1.out] at hbn hxn
  have h1 := h.below hbn
  have hs1 := hs.below hbn
  have hsg := signS_any s CA AA w1 hs1.cfr hs1.alts.reads K h1.pt.here
  have hwlB := h.lt
  have hB0w := h.hw
  obtain ⟨sv0, av0, ss0, as0, hr0⟩ := h.rows
  have HL0 := hid (fun k hk => (World.ownsRow.lt hr0.sown k hk).2)
  have HC0 := hid hr0.cells.2.2.2.2.1
  clear hr0
  have hwlM := h.ltM
  unfold setAgg at hsg ⊢
  have HSG := hid hsg
  have H1 := hid h1
  have HS1 := hid hs1
  have HB1 := hid hbn
  have HX1 := hid hxn
  have HK := hid K
  obtain ⟨p0, p1, p2⟩ := cells3 hxn
  clear hsg h1 hs1 hbn hxn K h hs
  go_enter Tryz.func68, Tryz.ntmps68
  go_wp2_with fail
  rw [hw1.out]
  clear hw1
  go_wp2_with fail
  go_at_call 89
  refine HSG.out.mono ?_
  rintro _ w2 ⟨rfl, hb2⟩
  have HB2 := hid (HB1.out.trans (hb2.mono HB1.out.size))
  have HX2 := hid ((hb2.block _ (heap_lt HX1.out)).trans HX1.out)
  have HS2 := hid (HS1.out.below hb2)
  have h2 := H1.out.below hb2
  have H2 := hid h2
  obtain ⟨sv, av, ss, ass, hr⟩ := h2.rows
  obtain ⟨SV, sc, rfl⟩ := row_form hr.sown
  obtain ⟨b0, b1, b2, b3, b4, b5, bz⟩ := hr.cells
  obtain ⟨nm, D, hnm, hmap, hpl⟩ := h2.map
  have hkl := signS_len HK.out
  have hky := keyS_of s hkl
  obtain ⟨el, elp, hlk, hlr⟩ := hmap.look_ok lawStr Tryz.underlying110 (zeroInt w2) (show asIs (.int .i64 0) = some (.held (.int .i64 0), []) from rfl) hky
  have hel : D.atKey (keyS s) (.held (.int .i64 0)) = .held el := by
    unfold asIs at hlr
    injection hlr with hlr
    injection hlr with hlr _
    exact hlr.symm
  rw [hpl.has s] at hlk
  clear hlr elp hb2 HSG p0 p1 p2
  have HR2 := hid hr
  have HMAP := hid hmap
  have HPL := hid hpl
  have HKY := hid hky
  have HEL := hid hel
  have HNM := hid hnm
  clear hr hmap hpl hky hel hnm h2
  cases hf : Cf.findS sets s with
  | some k =>
    have he := HEL.out
    rw [HPL.out.elem s k hf] at he
    injection he with he
    subst he
    rw [hf] at hlk
    have HF := hid hf
    have HFIN : Hid (PlcP f E sets aut s w (.returned (.int .i64 (k : Int))) w2) := hid (by unfold PlcP; rw [hf]; exact ⟨rfl, HB2.out⟩)
    clear hf
    go_wp2_with fail
    go_ret
    exact HFIN.out
  | none =>
    rw [hf] at hlk
    have HF := hid hf
    by_cases hg : f.budget ≤ sets.length
    · have f1 : decide ((f.budget : Int) ≤ (sets.length : Int)) = true := decide_eq_true (by omega)
      have f2 : decide (f.budget ≤ sets.length) = true := decide_eq_true hg
      have HFIN : Hid (PlcP f E sets aut s w (.panicked [{ v := .iface 144 (.agg #[]), recovered := false }]) w2) := hid (by unfold PlcP; rw [hf]; dsimp only; rw [if_pos hg]; exact ⟨rfl, HB2.out⟩)
      clear hf hg
      go_wp2_with fail
      exact ⟨by first | rfl | trivial, HFIN.out⟩
    · have f1 : decide ((f.budget : Int) ≤ (sets.length : Int)) = false := decide_eq_false (by omega)
      have f2 : decide (f.budget ≤ sets.length) = false := decide_eq_false hg
      have HPP : Hid (∀ w', BlAt w' f E (sets ++ [s]) (sets ++ [s]) (aut ++ [Cf.freshL s]) → Below f.B0 w w' → LkKept w w' → PlcP f E sets aut s w (.returned (.int .i64 (sets.length : Int))) w') := hid fun w' a1 a2 a3 => by unfold PlcP; rw [hf]; dsimp only; rw [if_neg hg]; exact ⟨rfl, a1, a2, a3⟩
      have hmx : nm < maxLen := by have := HNM.out; simp only [maxLen]; omega
      have hmap := HMAP.out
      have hky := HKY.out
      clear hf hg
      go_wp2_with (refine wpList_mapUpdate_own w2 rfl _ _ _ 110 rfl 9 3 lawStr Tryz.underlying110 asIs f.M nm D rfl hmap hmx _ _ _ rfl rfl hky _ [] rfl ?_; intro w5 hmap5 hg5)
      clear hlk hky hmap
      have hp5 := HPL.out.put HF.out
      have ho5 : Only (fun k => k = f.M) w2 w5 := (Only.of_grown hg5).more (fun b _ e => by injection e)
      obtain ⟨h5, hk5⟩ := H2.out.setM ho5 (km' := sets ++ [s]) (show w5.ownsMap Tryz.prog 9 asIs f.M (nm + 1) (D.put (keyS s) (.held (.int .i64 (sets.length : Int)))) from hmap5) (by rw [List.length_append]; have := HNM.out; simp; omega) hp5
      have H5 := hid h5
      have hBM : ¬ w.heap.size = f.M := by omega
      have hfBM := H1.out.ne
      have hgM := H1.out.ge.2
      have hB5 : Below f.B0 w w5 := (HB2.out.mono hB0w).trans (ho5.below' (fun k e => by omega) H2.out.hw)
      have HC5 := hid ((ho5.cell (b := f.B) (o := 4) H2.out.lt hfBM).trans ((HB2.out.cell (p := ⟨f.B, 4, none⟩) hwlB).trans HC0.out))
      have HB5 := hid hB5
      have HK5 := hid ((LkKept.below HB2.out).trans hk5)
      have HX5 := hid ((ho5.block _ (heap_lt HX2.out) hBM).trans HX2.out)
      have HS5 := hid (HS2.out.kept hk5)
      clear h5 hk5 hp5 hmap5 hg5 ho5 hB5 HR2 b0 b1 b2 b3 b4 b5 bz
      obtain ⟨sv, av, ss, ass, hr⟩ := H5.out.rows
      obtain rfl : sv = sv0 := by
        have e1 := hr.cells.2.2.2.2.1
        rw [HC5.out] at e1
        injection e1 with e1
        exact e1.symm
      obtain ⟨SV, sc, rfl⟩ := row_form hr.sown
      have HR5 := hid hr
      clear hr
      go_upto_region 9 with fail
      obtain ⟨ws, hws⟩ : ∃ ws, Hid (w5.drew = ws) := ⟨_, hid rfl⟩
      have hbs : Below w5.heap.size w5 ws := by rw [← hws.out]; exact (Below.refl _ _).drew
      have HRs := hid (HR5.out.below hbs)
      have HHs := hid (H5.out.below hbs)
      have HSs := hid (HS5.out.below hbs)
      have HBs := hid (HB5.out.trans (hbs.mono H5.out.hw))
      have HKs := hid (HK5.out.trans (.below hbs))
      have hxs := (hbs.block _ (heap_lt HX5.out)).trans HX5.out
      have hxl := heap_lt hxs
      have HXs := hid hxs
      have HST := hid (fun (uu : World) (hb : Below ws.heap.size ws uu) => (show uu.cell? ⟨f.B, 4, none⟩ = some (.slice SV sets.length sc) ∧ uu.cell? ⟨w.heap.size, 0, none⟩ = some (.slice CA s.configs.length s.configs.length) ∧ uu.cell? ⟨w.heap.size, 1, none⟩ = some (.slice AA s.alts.length s.alts.length) ∧ uu.cell? ⟨w.heap.size, 2, none⟩ = some (.bool s.over) from by
        obtain ⟨_, _, _, _, g4, _⟩ := (HRs.out.below hb).cells
        obtain ⟨g0, g1, g2⟩ := cells3 ((hb.block _ hxl).trans HXs.out)
        exact ⟨g4, g0, g1, g2⟩))
      clear hbs hxs
      refine wp_region_late (l := 10) (S := fun w' => w'.cell? ⟨f.B, 4, none⟩ = some (.slice SV sets.length sc) ∧ w'.cell? ⟨w.heap.size, 0, none⟩ = some (.slice CA s.configs.length s.configs.length) ∧ w'.cell? ⟨w.heap.size, 1, none⟩ = some (.slice AA s.alts.length s.alts.length) ∧ w'.cell? ⟨w.heap.size, 2, none⟩ = some (.bool s.over)) (by kernel_rfl) (by rw [hws.out]; exact HST.out ws (Below.refl _ _)) (fun hHeld => ?_)
      rw [hws.out] at hHeld ⊢
      refine wpAnyF_take2 (i := 0) (.pointer (some ⟨f.B, 0, none⟩)) (by kernel_rfl) rfl (by decide) (by kernel_rfl) (by kernel_rfl) (by kernel_rfl) (by kernel_rfl) (fun _ _ _ h => h) hHeld (by rfl) (fun w' hSw => ?_) ?_
      · obtain ⟨g4, g0, g1, g2⟩ := hSw; go_simp
      simp only [Act.put, List.getElem_toArray, List.getElem_cons_zero, List.setIfInBounds_toArray, List.set_cons_zero, List.set_cons_succ]
      refine wpAnyF_take2 (i := 1) (.pointer (some ⟨f.B, 0, none⟩)) (by kernel_rfl) rfl (by decide) (by kernel_rfl) (by kernel_rfl) (by kernel_rfl) (by kernel_rfl) (fun _ _ _ h => h) hHeld (by rfl) (fun w' hSw => ?_) ?_
      · obtain ⟨g4, g0, g1, g2⟩ := hSw; go_simp
      try simp only [Act.put, List.getElem_toArray, List.getElem_cons_zero, List.getElem_cons_succ, List.setIfInBounds_toArray, List.set_cons_zero, List.set_cons_succ]
      refine wpAnyF_take2 (i := 2) (.pointer (some ⟨f.B, 0, none⟩)) (by kernel_rfl) rfl (by decide) (by kernel_rfl) (by kernel_rfl) (by kernel_rfl) (by kernel_rfl) (fun _ _ _ h => h) hHeld (by rfl) (fun w' hSw => ?_) ?_
      · obtain ⟨g4, g0, g1, g2⟩ := hSw; go_simp
      try simp only [Act.put, List.getElem_toArray, List.getElem_cons_zero, List.getElem_cons_succ, List.setIfInBounds_toArray, List.set_cons_zero, List.set_cons_succ]
      refine wpAnyF_take2 (i := 3) (.pointer (some ⟨f.B, 4, none⟩)) (by kernel_rfl) rfl (by decide) (by kernel_rfl) (by kernel_rfl) (by kernel_rfl) (by kernel_rfl) (fun _ _ _ h => h) hHeld (by rfl) (fun w' hSw => ?_) ?_
      · obtain ⟨g4, g0, g1, g2⟩ := hSw; go_simp
      try simp only [Act.put, List.getElem_toArray, List.getElem_cons_zero, List.getElem_cons_succ, List.setIfInBounds_toArray, List.set_cons_zero, List.set_cons_succ]
      refine wpAnyF_take2 (i := 4) (.slice SV sets.length sc) (by kernel_rfl) rfl (by decide) (by kernel_rfl) (by kernel_rfl) (by kernel_rfl) (by kernel_rfl) (fun _ _ _ h => h) hHeld (by rfl) (fun w' hSw => ?_) ?_
      · obtain ⟨g4, g0, g1, g2⟩ := hSw; go_simp
      try simp only [Act.put, List.getElem_toArray, List.getElem_cons_zero, List.getElem_cons_succ, List.setIfInBounds_toArray, List.set_cons_zero, List.set_cons_succ]
      refine wpAnyF_take2 (i := 5) (.agg #[.slice CA s.configs.length s.configs.length, .slice AA s.alts.length s.alts.length, .bool s.over]) (by kernel_rfl) rfl (by decide) (by kernel_rfl) (by kernel_rfl) (by kernel_rfl) (by kernel_rfl) (fun _ _ _ h => h) hHeld (by rfl) (fun w' hSw => ?_) ?_
      · obtain ⟨g4, g0, g1, g2⟩ := hSw; go_simp
      try simp only [Act.put, List.getElem_toArray, List.getElem_cons_zero, List.getElem_cons_succ, List.setIfInBounds_toArray, List.set_cons_zero, List.set_cons_succ]
      refine wpAnyF_step 6 (by kernel_rfl) rfl (fun K hK => ?_)
      go_simp
      have hbx := below_new ws (.cells #[.slice CA s.configs.length s.configs.length, .slice AA s.alts.length s.alts.length, .bool s.over] 43)
      have hxx := heap_alloc_new ws (.cells #[.slice CA s.configs.length s.configs.length, .slice AA s.alts.length s.alts.length, .bool s.over] 43)
      obtain ⟨wx, hwx⟩ : ∃ wx, Hid (ws.alloc (.cells #[.slice CA s.configs.length s.configs.length, .slice AA s.alts.length s.alts.length, .bool s.over] 43) = wx) := ⟨_, hid rfl⟩
      rw [hwx.out] at hbx hxx ⊢
      have HRx := hid (HRs.out.below hbx)
      have HHx := hid (HHs.out.below hbx)
      have HSx := hid (HSs.out.below hbx)
      have HBx := hid (HBs.out.trans (hbx.mono HHs.out.hw))
      have HKx := hid (HKs.out.trans (.below hbx))
      have HXx := hid ((hbx.block _ hxl).trans HXs.out)
      have HSTx := hid (HST.out wx hbx)
      have HXX := hid hxx
      refine hK _ _ HSTx.out (fun hHeld => ?_)
      clear hK hbx hxx
      clear K
      try simp only [Act.put, List.getElem_toArray, List.getElem_cons_zero, List.getElem_cons_succ, List.setIfInBounds_toArray, List.set_cons_zero, List.set_cons_succ]
      obtain ⟨iS, hiS, hzS, hsS, hyS⟩ := info_of infoSetP
      have hsown := HRx.out.sown
      have hcs : ∀ u ∈ [Value.slice CA s.configs.length s.configs.length, .slice AA s.alts.length s.alts.length, .bool s.over], u.oneCell' = true := fun u hu => by
        simp only [List.mem_cons, List.mem_nil_iff, or_false] at hu
        rcases hu with rfl | rfl | rfl <;> rfl
      have hwx0 := HHx.out.hw
      refine wpAnyF_step 7 (by kernel_rfl) rfl (fun K hK => ?_)
      refine step_pushG wx rfl _ _ 111 rfl f.B0 43 iS _ 3 56 Tryz.underlying111 hiS hzS hsS hyS rfl (by omega) (.slice SV sets.length sc) sets.length ss rfl hsown [.slice CA s.configs.length s.configs.length, .slice AA s.alts.length s.alts.length, .bool s.over] 1 ws.heap.size rfl rfl (fun j5 u5 hj5 => by
        rw [show (⟨ws.heap.size, 0, none⟩ : Addr).add j5 = ⟨ws.heap.size, j5, none⟩ by unfold Addr.add; by_cases h : j5 = 0 <;> simp [h]]
        rw [Lib.cell_of_heap HXX.out]; simpa using hj5) hcs Nat.zero_lt_one (by simp only [maxLen]; omega) (by omega) hwx0 ?_
      intro g cg w6 hown6 hg6 ho6
      have hps := HHx.out.pushS HRx.out HSx.out hown6 ho6
      have hnS : ¬ (Value.slice SV sets.length sc).ownBlock = some w.heap.size := fun e => absurd (HL0.out _ e) (Nat.lt_irrefl _)
      have HX6 := hid ((ho6.block _ (heap_lt HXx.out) hnS).trans HXx.out)
      have hb6B := (ho6.block f.B (heap_lt HRx.out.blk) (row_not hsown HRx.out.blk (by decide))).trans HRx.out.blk
      have e4 : w6.cell? ⟨f.B, 4, none⟩ = some (.slice SV sets.length sc) := by rw [Lib.cell_of_heap hb6B]; rfl
      have ez : w6.frozen? ⟨f.B, 4, none⟩ = false := Lib.frozen_of_heap hb6B 4
      refine hK _ _ (by obtain ⟨g0, g1, g2⟩ := cells3 HX6.out; exact ⟨e4, g0, g1, g2⟩) (fun hHeld => ?_)
      clear hK
      clear K
      try simp only [Act.put, List.getElem_toArray, List.getElem_cons_zero, List.getElem_cons_succ, List.setIfInBounds_toArray, List.set_cons_zero, List.set_cons_succ]
      refine wpAnyF_take2 (i := 8) (.pointer (some ⟨f.B, 0, none⟩)) (by kernel_rfl) rfl (by decide) (by kernel_rfl) (by kernel_rfl) (by kernel_rfl) (by kernel_rfl) (fun _ _ _ h => h) hHeld (by rfl) (fun w' hSw => ?_) ?_
      · obtain ⟨g4, g0, g1, g2⟩ := hSw; go_simp
      try simp only [Act.put, List.getElem_toArray, List.getElem_cons_zero, List.getElem_cons_succ, List.setIfInBounds_toArray, List.set_cons_zero, List.set_cons_succ]
      refine wpAnyF_take2 (i := 9) (.pointer (some ⟨f.B, 4, none⟩)) (by kernel_rfl) rfl (by decide) (by kernel_rfl) (by kernel_rfl) (by kernel_rfl) (by kernel_rfl) (fun _ _ _ h => h) hHeld (by rfl) (fun w' hSw => ?_) ?_
      · obtain ⟨g4, g0, g1, g2⟩ := hSw; go_simp
      try simp only [Act.put, List.getElem_toArray, List.getElem_cons_zero, List.getElem_cons_succ, List.setIfInBounds_toArray, List.set_cons_zero, List.set_cons_succ]
      have HX7 := hid (((Only.of_set w6 f.B 4 (.slice (some ⟨g, 0, none⟩) (sets.length + 1) cg)).block _ (heap_lt HX6.out) (by omega)).trans HX6.out)
      obtain ⟨w7, hw7⟩ : ∃ w7, Hid (w6.setCell ⟨f.B, 4, none⟩ (.slice (some ⟨g, 0, none⟩) (sets.length + 1) cg) = w7) := ⟨_, hid rfl⟩
      rw [hw7.out] at hps HX7
      have H7 := hid hps.1
      have HK7 := hid (HKx.out.trans hps.2.1)
      have HB7 := hid (HBx.out.trans hps.2.2)
      have HS7 := hid (HSx.out.kept hps.2.1)
      clear hps hsown hown6 hg6 ho6 hb6B hHeld
      refine wpAnyF_turn 10 (by kernel_rfl) rfl (by decide) (by decide) (fun K hK => ?_)
      go_simp
      rw [hw7.out]
      refine hK _ _ ?_
      clear hK e4 ez hw7
      clear K
      refine ⟨by kernel_rfl, ?_⟩
      clear HST HSTx HRs HHs HSs HBs HKs HXs HRx HHx HSx HBx HKx HXx HXX HX6 HR5 H5 HS5 HB5 HK5 HX5
      have hki := kind_any s CA AA w7 HS7.out.cfr (by have := HK.out.clen; omega)
      have hkl2 := Cf.kindS_le s
      obtain ⟨k, hk⟩ : ∃ k : Nat, Cf.kindS s = (k : Int) := ⟨(Cf.kindS s).toNat, by omega⟩
      rw [hk] at hki
      unfold setAgg at hki
      have HKI := hid hki
      have HKE := hid hk
      obtain ⟨x0, x1, x2⟩ := cells3 HX7.out
      clear hki hkl2 hk
      go_wp2_with fail
      go_at_call 90
      refine HKI.out.mono ?_
      rintro _ w8 ⟨rfl, hb8⟩
      have H8 := hid (H7.out.below hb8)
      have HS8 := hid (HS7.out.below hb8)
      have HX8 := hid ((hb8.block _ (heap_lt HX7.out)).trans HX7.out)
      have HK8 := hid (HK7.out.trans (.below hb8))
      have HB8 := hid (HB7.out.trans (hb8.mono H7.out.hw))
      clear hb8 x0 x1 x2
      obtain ⟨_, av8, _, _, hr8⟩ := H8.out.rows
      have HL8 := hid (fun k hk => (World.ownsRow.lt hr8.aown k hk).2)
      have HC8 := hid hr8.cells.2.2.2.1
      have h8B := H8.out.lt
      clear hr8
      have hby := below_new w8 (.cells #[.int .u8 (k : Int), .slice none 0 0, .slice none 0 0] 69)
      have hxy := heap_alloc_new w8 (.cells #[.int .u8 (k : Int), .slice none 0 0, .slice none 0 0] 69)
      obtain ⟨wy, hwy⟩ : ∃ wy, Hid (w8.alloc (.cells #[.int .u8 (k : Int), .slice none 0 0, .slice none 0 0] 69) = wy) := ⟨_, hid rfl⟩
      rw [hwy.out] at hby hxy
      have HY := hid (H8.out.below hby)
      have HSY := hid (HS8.out.below hby)
      have HXY := hid ((hby.block _ (heap_lt HX8.out)).trans HX8.out)
      have HKY2 := hid (HK8.out.trans (.below hby))
      have HBY := hid (HB8.out.trans (hby.mono H8.out.hw))
      have HYY := hid hxy
      have HC9 := hid ((hby.cell (p := ⟨f.B, 3, none⟩) h8B).trans HC8.out)
      have hx8l : w8.heap.size < wy.heap.size := heap_lt hxy
      have hx8w := heap_lt HX8.out
      clear hby hxy
      have k0 : wy.cell? ⟨w8.heap.size, 0, none⟩ = some (.int .u8 (k : Int)) := by rw [Lib.cell_of_heap HYY.out]; rfl
      go_upto_region 11 with fail
      rw [hwy.out]
      clear hwy
      by_cases hk0 : k = 0
      · subst hk0
        have HLS : Hid (LsV wy f.B0 E (Cf.freshL s) [.int .u8 0, .slice none 0 0, .slice none 0 0]) := hid (by
          unfold Cf.freshL
          rw [HKE.out]
          exact ⟨none, 0, none, 0, rfl, OwnC.of (World.ownsRow_nil _ _ _ _), OwnC.of (World.ownsRow_nil _ _ _ _), fun k hk => (by cases hk)⟩)
        obtain ⟨sv, av, ss, ass, hr⟩ := HY.out.rows
        obtain rfl : av = av8 := by
          have e1 := hr.cells.2.2.2.1
          rw [HC9.out] at e1
          injection e1 with e1
          exact e1.symm
        obtain ⟨AV, avc, rfl⟩ := row_form hr.aown
        have HRY := hid hr
        have hyl := heap_lt HYY.out
        clear hr
        go_upto_region 13 with fail
        clear k0
        obtain ⟨wt, hwt⟩ : ∃ wt, Hid (wy.drew = wt) := ⟨_, hid rfl⟩
        have hbt : Below wy.heap.size wy wt := by rw [← hwt.out]; exact (Below.refl _ _).drew
        have HRt := hid (HRY.out.below hbt)
        have HTt := hid (HY.out.below hbt)
        have HBt := hid (HBY.out.trans (hbt.mono HY.out.hw))
        have HKt := hid (HKY2.out.trans (.below hbt))
        have HXt := hid ((hbt.block _ hyl).trans HYY.out)
        have htl := heap_lt HXt.out
        have HLt := hid (HLS.out.kept (.below hbt))
        have HST := hid (fun (uu : World) (hb : Below wt.heap.size wt uu) => (show uu.cell? ⟨f.B, 3, none⟩ = some (.slice AV aut.length avc) ∧ uu.cell? ⟨w8.heap.size, 0, none⟩ = some (.int .u8 0) ∧ uu.cell? ⟨w8.heap.size, 1, none⟩ = some (.slice none 0 0) ∧ uu.cell? ⟨w8.heap.size, 2, none⟩ = some (.slice none 0 0) from by
          obtain ⟨_, _, _, g3, _⟩ := (HRt.out.below hb).cells
          obtain ⟨g0, g1, g2⟩ := cells3 ((hb.block _ htl).trans HXt.out)
          exact ⟨g3, g0, g1, g2⟩))
        clear hbt
        refine wp_region_late (l := 12) (S := fun w' => w'.cell? ⟨f.B, 3, none⟩ = some (.slice AV aut.length avc) ∧ w'.cell? ⟨w8.heap.size, 0, none⟩ = some (.int .u8 0) ∧ w'.cell? ⟨w8.heap.size, 1, none⟩ = some (.slice none 0 0) ∧ w'.cell? ⟨w8.heap.size, 2, none⟩ = some (.slice none 0 0)) (by kernel_rfl) (by rw [hwt.out]; exact HST.out wt (Below.refl _ _)) (fun hHeld => ?_)
        rw [hwt.out] at hHeld ⊢
        refine wpAnyF_take2 (i := 0) (.pointer (some ⟨f.B, 0, none⟩)) (by kernel_rfl) rfl (by decide) (by kernel_rfl) (by kernel_rfl) (by kernel_rfl) (by kernel_rfl) (fun _ _ _ h => h) hHeld (by rfl) (fun w' hSw => ?_) ?_
        · obtain ⟨g3, g0, g1, g2⟩ := hSw; go_simp
        simp only [Act.put, List.getElem_toArray, List.getElem_cons_zero, List.setIfInBounds_toArray, List.set_cons_zero, List.set_cons_succ]
        refine wpAnyF_take2 (i := 1) (.pointer (some ⟨f.B, 0, none⟩)) (by kernel_rfl) rfl (by decide) (by kernel_rfl) (by kernel_rfl) (by kernel_rfl) (by kernel_rfl) (fun _ _ _ h => h) hHeld (by rfl) (fun w' hSw => ?_) ?_
        · obtain ⟨g3, g0, g1, g2⟩ := hSw; go_simp
        try simp only [Act.put, List.getElem_toArray, List.getElem_cons_zero, List.getElem_cons_succ, List.setIfInBounds_toArray, List.set_cons_zero, List.set_cons_succ]
        refine wpAnyF_take2 (i := 2) (.pointer (some ⟨f.B, 0, none⟩)) (by kernel_rfl) rfl (by decide) (by kernel_rfl) (by kernel_rfl) (by kernel_rfl) (by kernel_rfl) (fun _ _ _ h => h) hHeld (by rfl) (fun w' hSw => ?_) ?_
        · obtain ⟨g3, g0, g1, g2⟩ := hSw; go_simp
        try simp only [Act.put, List.getElem_toArray, List.getElem_cons_zero, List.getElem_cons_succ, List.setIfInBounds_toArray, List.set_cons_zero, List.set_cons_succ]
        refine wpAnyF_take2 (i := 3) (.pointer (some ⟨f.B, 3, none⟩)) (by kernel_rfl) rfl (by decide) (by kernel_rfl) (by kernel_rfl) (by kernel_rfl) (by kernel_rfl) (fun _ _ _ h => h) hHeld (by rfl) (fun w' hSw => ?_) ?_
        · obtain ⟨g3, g0, g1, g2⟩ := hSw; go_simp
        try simp only [Act.put, List.getElem_toArray, List.getElem_cons_zero, List.getElem_cons_succ, List.setIfInBounds_toArray, List.set_cons_zero, List.set_cons_succ]
        refine wpAnyF_take2 (i := 4) (.pointer (some ⟨f.B, 3, none⟩)) (by kernel_rfl) rfl (by decide) (by kernel_rfl) (by kernel_rfl) (by kernel_rfl) (by kernel_rfl) (fun _ _ _ h => h) hHeld (by rfl) (fun w' hSw => ?_) ?_
        · obtain ⟨g3, g0, g1, g2⟩ := hSw; go_simp
        try simp only [Act.put, List.getElem_toArray, List.getElem_cons_zero, List.getElem_cons_succ, List.setIfInBounds_toArray, List.set_cons_zero, List.set_cons_succ]
        refine wpAnyF_take2 (i := 5) (.slice AV aut.length avc) (by kernel_rfl) rfl (by decide) (by kernel_rfl) (by kernel_rfl) (by kernel_rfl) (by kernel_rfl) (fun _ _ _ h => h) hHeld (by rfl) (fun w' hSw => ?_) ?_
        · obtain ⟨g3, g0, g1, g2⟩ := hSw; go_simp
        try simp only [Act.put, List.getElem_toArray, List.getElem_cons_zero, List.getElem_cons_succ, List.setIfInBounds_toArray, List.set_cons_zero, List.set_cons_succ]
        refine wpAnyF_take2 (i := 6) (.agg #[.int .u8 0, .slice none 0 0, .slice none 0 0]) (by kernel_rfl) rfl (by decide) (by kernel_rfl) (by kernel_rfl) (by kernel_rfl) (by kernel_rfl) (fun _ _ _ h => h) hHeld (by rfl) (fun w' hSw => ?_) ?_
        · obtain ⟨g3, g0, g1, g2⟩ := hSw; go_simp
        try simp only [Act.put, List.getElem_toArray, List.getElem_cons_zero, List.getElem_cons_succ, List.setIfInBounds_toArray, List.set_cons_zero, List.set_cons_succ]
        refine wpAnyF_step 7 (by kernel_rfl) rfl (fun K hK => ?_)
        go_simp
        have hbv := below_new wt (.cells #[.int .u8 0, .slice none 0 0, .slice none 0 0] 69)
        have hxv := heap_alloc_new wt (.cells #[.int .u8 0, .slice none 0 0, .slice none 0 0] 69)
        obtain ⟨wv, hwv⟩ : ∃ wv, Hid (wt.alloc (.cells #[.int .u8 0, .slice none 0 0, .slice none 0 0] 69) = wv) := ⟨_, hid rfl⟩
        rw [hwv.out] at hbv hxv ⊢
        have HRv := hid (HRt.out.below hbv)
        have HTv := hid (HTt.out.below hbv)
        have HBv := hid (HBt.out.trans (hbv.mono HTt.out.hw))
        have HKv := hid (HKt.out.trans (.below hbv))
        have HLv := hid (HLt.out.kept (.below hbv))
        have HSTv := hid (HST.out wv hbv)
        have HXv := hid ((hbv.block _ htl).trans HXt.out)
        have HVV := hid hxv
        refine hK _ _ HSTv.out (fun hHeld => ?_)
        clear hK hbv hxv
        clear K
        try simp only [Act.put, List.getElem_toArray, List.getElem_cons_zero, List.getElem_cons_succ, List.setIfInBounds_toArray, List.set_cons_zero, List.set_cons_succ]
        obtain ⟨iL, hiL, hzL, hsL, hyL⟩ := info_of infoLS
        have haown := HRv.out.aown
        have hcs : ∀ u ∈ ([.int .u8 0, .slice none 0 0, .slice none 0 0] : List Value), u.oneCell' = true := fun u hu => by
          simp only [List.mem_cons, List.mem_nil_iff, or_false] at hu
          rcases hu with rfl | rfl | rfl <;> rfl
        have hwv0 := HTv.out.hw
        refine wpAnyF_step 8 (by kernel_rfl) rfl (fun K hK => ?_)
        refine step_pushG wv rfl _ _ 55 rfl f.B0 69 iL _ 3 56 Tryz.underlying55 hiL hzL hsL hyL rfl (by omega) (.slice AV aut.length avc) aut.length ass rfl haown [.int .u8 0, .slice none 0 0, .slice none 0 0] 1 wt.heap.size rfl rfl (fun j5 u5 hj5 => by
          rw [show (⟨wt.heap.size, 0, none⟩ : Addr).add j5 = ⟨wt.heap.size, j5, none⟩ by unfold Addr.add; by_cases h : j5 = 0 <;> simp [h]]
          rw [Lib.cell_of_heap HVV.out]; simpa using hj5) hcs Nat.zero_lt_one (by simp only [maxLen]; omega) (by omega) hwv0 ?_
        intro g2 cg2 wq hownq hgq hoq
        have hpa := HTv.out.pushA HRv.out HLv.out hownq hoq
        have hnA : ¬ (Value.slice AV aut.length avc).ownBlock = some w8.heap.size := fun e => absurd (HL8.out _ e) (Nat.lt_irrefl _)
        have HXq := hid ((hoq.block _ (heap_lt HXv.out) hnA).trans HXv.out)
        have hbqB := (hoq.block f.B (heap_lt HRv.out.blk) (row_not haown HRv.out.blk (by decide))).trans HRv.out.blk
        have e3 : wq.cell? ⟨f.B, 3, none⟩ = some (.slice AV aut.length avc) := by rw [Lib.cell_of_heap hbqB]; rfl
        have ez : wq.frozen? ⟨f.B, 3, none⟩ = false := Lib.frozen_of_heap hbqB 3
        refine hK _ _ (by obtain ⟨g0, g1, g2⟩ := cells3 HXq.out; exact ⟨e3, g0, g1, g2⟩) (fun hHeld => ?_)
        clear hK
        clear K
        try simp only [Act.put, List.getElem_toArray, List.getElem_cons_zero, List.getElem_cons_succ, List.setIfInBounds_toArray, List.set_cons_zero, List.set_cons_succ]
        refine wpAnyF_take2 (i := 9) (.pointer (some ⟨f.B, 0, none⟩)) (by kernel_rfl) rfl (by decide) (by kernel_rfl) (by kernel_rfl) (by kernel_rfl) (by kernel_rfl) (fun _ _ _ h => h) hHeld (by rfl) (fun w' hSw => ?_) ?_
        · obtain ⟨g3, g0, g1, g2⟩ := hSw; go_simp
        try simp only [Act.put, List.getElem_toArray, List.getElem_cons_zero, List.getElem_cons_succ, List.setIfInBounds_toArray, List.set_cons_zero, List.set_cons_succ]
        refine wpAnyF_take2 (i := 10) (.pointer (some ⟨f.B, 3, none⟩)) (by kernel_rfl) rfl (by decide) (by kernel_rfl) (by kernel_rfl) (by kernel_rfl) (by kernel_rfl) (fun _ _ _ h => h) hHeld (by rfl) (fun w' hSw => ?_) ?_
        · obtain ⟨g3, g0, g1, g2⟩ := hSw; go_simp
        try simp only [Act.put, List.getElem_toArray, List.getElem_cons_zero, List.getElem_cons_succ, List.setIfInBounds_toArray, List.set_cons_zero, List.set_cons_succ]
        refine wpAnyF_take2 (i := 11) (.pointer (some ⟨f.B, 3, none⟩)) (by kernel_rfl) rfl (by decide) (by kernel_rfl) (by kernel_rfl) (by kernel_rfl) (by kernel_rfl) (fun _ _ _ h => h) hHeld (by rfl) (fun w' hSw => ?_) ?_
        · obtain ⟨g3, g0, g1, g2⟩ := hSw; go_simp
        try simp only [Act.put, List.getElem_toArray, List.getElem_cons_zero, List.getElem_cons_succ, List.setIfInBounds_toArray, List.set_cons_zero, List.set_cons_succ]
        obtain ⟨wf, hwf⟩ : ∃ wf, Hid (wq.setCell ⟨f.B, 3, none⟩ (.slice (some ⟨g2, 0, none⟩) (aut.length + 1) cg2) = wf) := ⟨_, hid rfl⟩
        rw [hwf.out] at hpa
        have HFIN := hid (HPP.out wf hpa.1 (HBv.out.trans hpa.2.2) (HKv.out.trans hpa.2.1))
        clear hpa haown hownq hgq hoq hbqB hHeld
        refine wpAnyF_turn 12 (by kernel_rfl) rfl (by decide) (by decide) (fun K hK => ?_)
        go_simp
        rw [hwf.out]
        refine hK _ _ ?_
        clear hK e3 ez hwf
        clear K
        refine ⟨by kernel_rfl, ?_⟩
        go_wp2_with fail
        go_ret
        exact HFIN.out
      · have f3 : ((k : Int) != 0) = true := by rw [bne_iff_ne]; omega
        have f4 : (k != 0) = true := by rw [bne_iff_ne]; exact hk0
        have x1 : wy.cell? ⟨w.heap.size, 1, none⟩ = some (.slice AA s.alts.length s.alts.length) := by rw [Lib.cell_of_heap HXY.out]; rfl
        have hal := HK.out.alen
        have HLS0 : Hid (Cf.freshL s = ⟨(k : Int), s.alts, []⟩) := hid (by
          unfold Cf.freshL
          rw [HKE.out, if_neg (by omega)])
        clear hk0
        go_wp2_with fail
        go_at_call 58
        refine (cloneZ_any AA s.alts.length s.alts.length wy.heap.size _ wy (by omega) HSY.out.alts.reads (by simp [Value.oneCell'])).mono ?_
        rintro _ wa ⟨A9, c9, rfl, hcl, hba⟩
        have hcap := own_cap hcl
        have HA := hid (HY.out.below hba)
        have HKA := hid (HKY2.out.trans (.below hba))
        have HBA := hid (HBY.out.trans (hba.mono HY.out.hw))
        have HYA := hid ((hba.block _ hx8l).trans HYY.out)
        have HC9 := hid ((hba.cell (p := ⟨f.B, 3, none⟩) HY.out.lt).trans HC9.out)
        have HCL := hid (show OwnC wa f.B0 3 1 (.slice A9 s.alts.length c9) s.alts.length (s.alts.map (Value.int .i64)) from (OwnC.of hcl).base HY.out.hw)
        clear hcl hba x1 k0
        go_wp2_with fail
        go_at_call 57
        refine (clipZ_any A9 s.alts.length c9 wa hcap).mono ?_
        rintro _ wx ⟨rfl, hwx⟩
        rw [hwx]
        clear hwx
        have q0 : wa.cell? ⟨w8.heap.size, 1, none⟩ = some (.slice none 0 0) := by rw [Lib.cell_of_heap HYA.out]; rfl
        have qz : wa.frozen? ⟨w8.heap.size, 1, none⟩ = false := Lib.frozen_of_heap HYA.out 1
        have hset := heap_setCell_same wa w8.heap.size 1 _ _ (.slice A9 s.alts.length s.alts.length) HYA.out
        have hos := Only.of_set wa w8.heap.size 1 (.slice A9 s.alts.length s.alts.length)
        obtain ⟨wz, hwz⟩ : ∃ wz, Hid (wa.setCell ⟨w8.heap.size, 1, none⟩ (.slice A9 s.alts.length s.alts.length) = wz) := ⟨_, hid rfl⟩
        rw [hwz.out] at hset hos
        obtain ⟨sva, ava, ssa, asa, hra⟩ := HA.out.rows
        have HZ1 := hid (HA.out.setX hra HYA.out (by
          have e1 := hra.cells.2.2.2.1
          rw [HC9.out] at e1
          injection e1 with e1
          rw [← e1]
          exact fun e => absurd (HL8.out _ e) (Nat.lt_irrefl _)) hos (by have := H8.out.hw; omega))
        have HC9 := hid ((hos.cell (b := f.B) (o := 3) HA.out.lt (by omega)).trans HC9.out)
        clear hra
        have HLS : Hid (LsV wz f.B0 E (Cf.freshL s) [.int .u8 (k : Int), .slice A9 s.alts.length s.alts.length, .slice none 0 0]) := hid (by
          rw [HLS0.out]
          refine ⟨A9, s.alts.length, none, 0, rfl, ?_, OwnC.of (World.ownsRow_nil _ _ _ _), fun k hk => (by cases hk)⟩
          exact (HCL.out.clip).kept HZ1.out.2.1 (by decide) (by decide) (by decide))
        have HZZ := hid hset
        have HYY := HZZ
        have HY := hid HZ1.out.1
        have HKY2 := hid (HKA.out.trans HZ1.out.2.1)
        have HBY := hid (HBA.out.trans HZ1.out.2.2)
        clear hset hos
        go_upto_region 13 with fail
        rw [hwz.out]
        clear hwz q0 qz
        obtain ⟨sv, av, ss, ass, hr⟩ := HY.out.rows
        obtain rfl : av = av8 := by
          have e1 := hr.cells.2.2.2.1
          rw [HC9.out] at e1
          injection e1 with e1
          exact e1.symm
        obtain ⟨AV, avc, rfl⟩ := row_form hr.aown
        have HRY := hid hr
        have hyl := heap_lt HYY.out
        clear hr
        obtain ⟨wt, hwt⟩ : ∃ wt, Hid (wz.drew = wt) := ⟨_, hid rfl⟩
        have hbt : Below wz.heap.size wz wt := by rw [← hwt.out]; exact (Below.refl _ _).drew
        have HRt := hid (HRY.out.below hbt)
        have HTt := hid (HY.out.below hbt)
        have HBt := hid (HBY.out.trans (hbt.mono HY.out.hw))
        have HKt := hid (HKY2.out.trans (.below hbt))
        have HXt := hid ((hbt.block _ hyl).trans HYY.out)
        have htl := heap_lt HXt.out
        have HLt := hid (HLS.out.kept (.below hbt))
        have HST := hid (fun (uu : World) (hb : Below wt.heap.size wt uu) => (show uu.cell? ⟨f.B, 3, none⟩ = some (.slice AV aut.length avc) ∧ uu.cell? ⟨w8.heap.size, 0, none⟩ = some (.int .u8 (k : Int)) ∧ uu.cell? ⟨w8.heap.size, 1, none⟩ = some (.slice A9 s.alts.length s.alts.length) ∧ uu.cell? ⟨w8.heap.size, 2, none⟩ = some (.slice none 0 0) from by
          obtain ⟨_, _, _, g3, _⟩ := (HRt.out.below hb).cells
          obtain ⟨g0, g1, g2⟩ := cells3 ((hb.block _ htl).trans HXt.out)
          exact ⟨g3, g0, g1, g2⟩))
        clear hbt
        refine wp_region_late (l := 12) (S := fun w' => w'.cell? ⟨f.B, 3, none⟩ = some (.slice AV aut.length avc) ∧ w'.cell? ⟨w8.heap.size, 0, none⟩ = some (.int .u8 (k : Int)) ∧ w'.cell? ⟨w8.heap.size, 1, none⟩ = some (.slice A9 s.alts.length s.alts.length) ∧ w'.cell? ⟨w8.heap.size, 2, none⟩ = some (.slice none 0 0)) (by kernel_rfl) (by rw [hwt.out]; exact HST.out wt (Below.refl _ _)) (fun hHeld => ?_)
        rw [hwt.out] at hHeld ⊢
        refine wpAnyF_take2 (i := 0) (.pointer (some ⟨f.B, 0, none⟩)) (by kernel_rfl) rfl (by decide) (by kernel_rfl) (by kernel_rfl) (by kernel_rfl) (by kernel_rfl) (fun _ _ _ h => h) hHeld (by rfl) (fun w' hSw => ?_) ?_
        · obtain ⟨g3, g0, g1, g2⟩ := hSw; go_simp
        simp only [Act.put, List.getElem_toArray, List.getElem_cons_zero, List.setIfInBounds_toArray, List.set_cons_zero, List.set_cons_succ]
        refine wpAnyF_take2 (i := 1) (.pointer (some ⟨f.B, 0, none⟩)) (by kernel_rfl) rfl (by decide) (by kernel_rfl) (by kernel_rfl) (by kernel_rfl) (by kernel_rfl) (fun _ _ _ h => h) hHeld (by rfl) (fun w' hSw => ?_) ?_
        · obtain ⟨g3, g0, g1, g2⟩ := hSw; go_simp
        try simp only [Act.put, List.getElem_toArray, List.getElem_cons_zero, List.getElem_cons_succ, List.setIfInBounds_toArray, List.set_cons_zero, List.set_cons_succ]
        refine wpAnyF_take2 (i := 2) (.pointer (some ⟨f.B, 0, none⟩)) (by kernel_rfl) rfl (by decide) (by kernel_rfl) (by kernel_rfl) (by kernel_rfl) (by kernel_rfl) (fun _ _ _ h => h) hHeld (by rfl) (fun w' hSw => ?_) ?_
        · obtain ⟨g3, g0, g1, g2⟩ := hSw; go_simp
        try simp only [Act.put, List.getElem_toArray, List.getElem_cons_zero, List.getElem_cons_succ, List.setIfInBounds_toArray, List.set_cons_zero, List.set_cons_succ]
        refine wpAnyF_take2 (i := 3) (.pointer (some ⟨f.B, 3, none⟩)) (by kernel_rfl) rfl (by decide) (by kernel_rfl) (by kernel_rfl) (by kernel_rfl) (by kernel_rfl) (fun _ _ _ h => h) hHeld (by rfl) (fun w' hSw => ?_) ?_
        · obtain ⟨g3, g0, g1, g2⟩ := hSw; go_simp
        try simp only [Act.put, List.getElem_toArray, List.getElem_cons_zero, List.getElem_cons_succ, List.setIfInBounds_toArray, List.set_cons_zero, List.set_cons_succ]
        refine wpAnyF_take2 (i := 4) (.pointer (some ⟨f.B, 3, none⟩)) (by kernel_rfl) rfl (by decide) (by kernel_rfl) (by kernel_rfl) (by kernel_rfl) (by kernel_rfl) (fun _ _ _ h => h) hHeld (by rfl) (fun w' hSw => ?_) ?_
        · obtain ⟨g3, g0, g1, g2⟩ := hSw; go_simp
        try simp only [Act.put, List.getElem_toArray, List.getElem_cons_zero, List.getElem_cons_succ, List.setIfInBounds_toArray, List.set_cons_zero, List.set_cons_succ]
        refine wpAnyF_take2 (i := 5) (.slice AV aut.length avc) (by kernel_rfl) rfl (by decide) (by kernel_rfl) (by kernel_rfl) (by kernel_rfl) (by kernel_rfl) (fun _ _ _ h => h) hHeld (by rfl) (fun w' hSw => ?_) ?_
        · obtain ⟨g3, g0, g1, g2⟩ := hSw; go_simp
        try simp only [Act.put, List.getElem_toArray, List.getElem_cons_zero, List.getElem_cons_succ, List.setIfInBounds_toArray, List.set_cons_zero, List.set_cons_succ]
        refine wpAnyF_take2 (i := 6) (.agg #[.int .u8 (k : Int), .slice A9 s.alts.length s.alts.length, .slice none 0 0]) (by kernel_rfl) rfl (by decide) (by kernel_rfl) (by kernel_rfl) (by kernel_rfl) (by kernel_rfl) (fun _ _ _ h => h) hHeld (by rfl) (fun w' hSw => ?_) ?_
        · obtain ⟨g3, g0, g1, g2⟩ := hSw; go_simp
        try simp only [Act.put, List.getElem_toArray, List.getElem_cons_zero, List.getElem_cons_succ, List.setIfInBounds_toArray, List.set_cons_zero, List.set_cons_succ]
        refine wpAnyF_step 7 (by kernel_rfl) rfl (fun K hK => ?_)
        go_simp
        have hbv := below_new wt (.cells #[.int .u8 (k : Int), .slice A9 s.alts.length s.alts.length, .slice none 0 0] 69)
        have hxv := heap_alloc_new wt (.cells #[.int .u8 (k : Int), .slice A9 s.alts.length s.alts.length, .slice none 0 0] 69)
        obtain ⟨wv, hwv⟩ : ∃ wv, Hid (wt.alloc (.cells #[.int .u8 (k : Int), .slice A9 s.alts.length s.alts.length, .slice none 0 0] 69) = wv) := ⟨_, hid rfl⟩
        rw [hwv.out] at hbv hxv ⊢
        have HRv := hid (HRt.out.below hbv)
        have HTv := hid (HTt.out.below hbv)
        have HBv := hid (HBt.out.trans (hbv.mono HTt.out.hw))
        have HKv := hid (HKt.out.trans (.below hbv))
        have HLv := hid (HLt.out.kept (.below hbv))
        have HSTv := hid (HST.out wv hbv)
        have HXv := hid ((hbv.block _ htl).trans HXt.out)
        have HVV := hid hxv
        refine hK _ _ HSTv.out (fun hHeld => ?_)
        clear hK hbv hxv
        clear K
        try simp only [Act.put, List.getElem_toArray, List.getElem_cons_zero, List.getElem_cons_succ, List.setIfInBounds_toArray, List.set_cons_zero, List.set_cons_succ]
        obtain ⟨iL, hiL, hzL, hsL, hyL⟩ := info_of infoLS
        have haown := HRv.out.aown
        have hcs : ∀ u ∈ ([.int .u8 (k : Int), .slice A9 s.alts.length s.alts.length, .slice none 0 0] : List Value), u.oneCell' = true := fun u hu => by
          simp only [List.mem_cons, List.mem_nil_iff, or_false] at hu
          rcases hu with rfl | rfl | rfl <;> rfl
        have hwv0 := HTv.out.hw
        refine wpAnyF_step 8 (by kernel_rfl) rfl (fun K hK => ?_)
        refine step_pushG wv rfl _ _ 55 rfl f.B0 69 iL _ 3 56 Tryz.underlying55 hiL hzL hsL hyL rfl (by omega) (.slice AV aut.length avc) aut.length ass rfl haown [.int .u8 (k : Int), .slice A9 s.alts.length s.alts.length, .slice none 0 0] 1 wt.heap.size rfl rfl (fun j5 u5 hj5 => by
          rw [show (⟨wt.heap.size, 0, none⟩ : Addr).add j5 = ⟨wt.heap.size, j5, none⟩ by unfold Addr.add; by_cases h : j5 = 0 <;> simp [h]]
          rw [Lib.cell_of_heap HVV.out]; simpa using hj5) hcs Nat.zero_lt_one (by simp only [maxLen]; omega) (by omega) hwv0 ?_
        intro g2 cg2 wq hownq hgq hoq
        have hpa := HTv.out.pushA HRv.out HLv.out hownq hoq
        have hnA : ¬ (Value.slice AV aut.length avc).ownBlock = some w8.heap.size := fun e => absurd (HL8.out _ e) (Nat.lt_irrefl _)
        have HXq := hid ((hoq.block _ (heap_lt HXv.out) hnA).trans HXv.out)
        have hbqB := (hoq.block f.B (heap_lt HRv.out.blk) (row_not haown HRv.out.blk (by decide))).trans HRv.out.blk
        have e3 : wq.cell? ⟨f.B, 3, none⟩ = some (.slice AV aut.length avc) := by rw [Lib.cell_of_heap hbqB]; rfl
        have ez : wq.frozen? ⟨f.B, 3, none⟩ = false := Lib.frozen_of_heap hbqB 3
        refine hK _ _ (by obtain ⟨g0, g1, g2⟩ := cells3 HXq.out; exact ⟨e3, g0, g1, g2⟩) (fun hHeld => ?_)
        clear hK
        clear K
        try simp only [Act.put, List.getElem_toArray, List.getElem_cons_zero, List.getElem_cons_succ, List.setIfInBounds_toArray, List.set_cons_zero, List.set_cons_succ]
        refine wpAnyF_take2 (i := 9) (.pointer (some ⟨f.B, 0, none⟩)) (by kernel_rfl) rfl (by decide) (by kernel_rfl) (by kernel_rfl) (by kernel_rfl) (by kernel_rfl) (fun _ _ _ h => h) hHeld (by rfl) (fun w' hSw => ?_) ?_
        · obtain ⟨g3, g0, g1, g2⟩ := hSw; go_simp
        try simp only [Act.put, List.getElem_toArray, List.getElem_cons_zero, List.getElem_cons_succ, List.setIfInBounds_toArray, List.set_cons_zero, List.set_cons_succ]
        refine wpAnyF_take2 (i := 10) (.pointer (some ⟨f.B, 3, none⟩)) (by kernel_rfl) rfl (by decide) (by kernel_rfl) (by kernel_rfl) (by kernel_rfl) (by kernel_rfl) (fun _ _ _ h => h) hHeld (by rfl) (fun w' hSw => ?_) ?_
        · obtain ⟨g3, g0, g1, g2⟩ := hSw; go_simp
        try simp only [Act.put, List.getElem_toArray, List.getElem_cons_zero, List.getElem_cons_succ, List.setIfInBounds_toArray, List.set_cons_zero, List.set_cons_succ]
        refine wpAnyF_take2 (i := 11) (.pointer (some ⟨f.B, 3, none⟩)) (by kernel_rfl) rfl (by decide) (by kernel_rfl) (by kernel_rfl) (by kernel_rfl) (by kernel_rfl) (fun _ _ _ h => h) hHeld (by rfl) (fun w' hSw => ?_) ?_
        · obtain ⟨g3, g0, g1, g2⟩ := hSw; go_simp
        try simp only [Act.put, List.getElem_toArray, List.getElem_cons_zero, List.getElem_cons_succ, List.setIfInBounds_toArray, List.set_cons_zero, List.set_cons_succ]
        obtain ⟨wf, hwf⟩ : ∃ wf, Hid (wq.setCell ⟨f.B, 3, none⟩ (.slice (some ⟨g2, 0, none⟩) (aut.length + 1) cg2) = wf) := ⟨_, hid rfl⟩
        rw [hwf.out] at hpa
        have HFIN := hid (HPP.out wf hpa.1 (HBv.out.trans hpa.2.2) (HKv.out.trans hpa.2.1))
        clear hpa haown hownq hgq hoq hbqB hHeld
        refine wpAnyF_turn 12 (by kernel_rfl) rfl (by decide) (by decide) (fun K hK => ?_)
        go_simp
        rw [hwf.out]
        refine hK _ _ ?_
        clear hK e3 ez hwf
        clear K
        refine ⟨by kernel_rfl, ?_⟩
        go_wp2_with fail
        go_ret
        exact HFIN.out
end Go.Proofs.YtnpcjbdolmmaeaaGreatDoor
