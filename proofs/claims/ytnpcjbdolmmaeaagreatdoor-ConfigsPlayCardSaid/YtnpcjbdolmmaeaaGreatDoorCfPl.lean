/-
  ConfigsPlay: the statement's walk. Printed by gen_cfpl.py.
-/
import Derived.Test.YtnpcjbdolmmaeaaGreatDoorCfPlM
import Derived.Test.YtnpcjbdolmmaeaaGreatDoorCfLm
import Derived.Test.YtnpcjbdolmmaeaaGreatDoorLate
namespace Go.Proofs.YtnpcjbdolmmaeaaGreatDoor
open Go.RowKit Go.Maps Go.Sort
set_option maxRecDepth 100000

/-- what stays amid the playing -/
structure PlK (v : Cf.Vw) (w0 : World) (V V2 : Nat) (a a2 : VwA) (WA : Option Addr) (toks : List Int) (Bw : Nat) : Prop where
  K : RvOk v
  hv : VwAt w0 w0.heap.size V a v
  rv : RvAt w0 w0.heap.size V2 a2 v
  hT : PT w0
  toks : Reads w0 Bw 1 WA toks.length (toks.map (Value.int .i64))
  le : Bw ≤ w0.heap.size
set_option maxHeartbeats 16000000 in
theorem play_any (w : World) (n : Drv.NNet) (SA TA UA QA DA WA : Option Addr) (sc tc uc qc dc wc : Nat) (d b : Int) (toks : List Int) (h : NetR w w.heap.size SA TA UA QA DA n) (hW : Reads w w.heap.size 1 WA toks.length (toks.map (Value.int .i64)))
    (hS : n.states.length ≤ 100000000000000) (hT : n.starts.length ≤ 100000000000000) (hU : n.stops.length ≤ 100000000000000) (hQ : n.preds.length ≤ 100000000000000) (hD : n.decs.length ≤ 100000000000000)
    (hs : ∀ s ∈ n.states, s.edges.length ≤ 100000000000000 ∧ s.ends.length ≤ 100000000000000) (hkd : ∀ s ∈ n.states, ∀ e ∈ s.edges, 0 ≤ e.kind ∧ e.kind ≤ 255) (hwl : toks.length ≤ 100000000000000) (hPT : PT w) :
    Calls Tryz.prog 3 #[netAgg SA TA UA QA DA sc tc uc qc dc n, .agg #[.int .i64 d, .int .i64 b], .slice WA toks.length wc] w fun e w' => e = .returned (.bool true) ∧ Below w.heap.size w w' := by
  have z1 : (w.alloc (.cells #[.slice SA n.states.length sc, .slice TA n.starts.length tc, .slice UA n.stops.length uc, .slice QA n.preds.length qc, .slice DA n.decs.length dc] 25)).heap.size = w.heap.size + 1 := by simp
  obtain ⟨w1, hw1⟩ : ∃ w1, Hid ((w.alloc (.cells #[.slice SA n.states.length sc, .slice TA n.starts.length tc, .slice UA n.stops.length uc, .slice QA n.preds.length qc, .slice DA n.decs.length dc] 25)).alloc (.cells #[.int .i64 d, .int .i64 b] 26) = w1) := ⟨_, hid rfl⟩
  have hb1 : Below w.heap.size w w1 := by rw [← hw1.out]; exact (below_new _ _).alloc (by omega) _
  have h0 : w1.heap[w.heap.size]? = some (.cells #[.slice SA n.states.length sc, .slice TA n.starts.length tc, .slice UA n.stops.length uc, .slice QA n.preds.length qc, .slice DA n.decs.length dc] 25 (0, 0)) := by
    rw [← hw1.out, Below.heap_alloc _ _ _ (by omega)]; exact heap_alloc_new _ _
  have h1 : w1.heap[w.heap.size + 1]? = some (.cells #[.int .i64 d, .int .i64 b] 26 (0, 0)) := by rw [← hw1.out, ← z1]; exact heap_alloc_new _ _
  have n0 : w1.cell? ⟨w.heap.size, 0, none⟩ = some (.slice SA n.states.length sc) := by rw [Lib.cell_of_heap h0]; rfl
  have n1 : w1.cell? ⟨w.heap.size, 1, none⟩ = some (.slice TA n.starts.length tc) := by rw [Lib.cell_of_heap h0]; rfl
  have n2 : w1.cell? ⟨w.heap.size, 2, none⟩ = some (.slice UA n.stops.length uc) := by rw [Lib.cell_of_heap h0]; rfl
  have n3 : w1.cell? ⟨w.heap.size, 3, none⟩ = some (.slice QA n.preds.length qc) := by rw [Lib.cell_of_heap h0]; rfl
  have n4 : w1.cell? ⟨w.heap.size, 4, none⟩ = some (.slice DA n.decs.length dc) := by rw [Lib.cell_of_heap h0]; rfl
  have HNT := hid (fun (u : World) (hb : Below w.heap.size w u) => (show NetR u u.heap.size SA TA UA QA DA n from ⟨(h.below hb).sts.more hb.size, (h.below hb).starts.more hb.size, (h.below hb).stops.more hb.size, (h.below hb).preds.more hb.size, (h.below hb).decs.more hb.size⟩))
  have HG := hid (netGreat_any w1 n SA TA UA QA DA sc tc uc qc dc (HNT.out w1 hb1) hS hT hU hQ hD hs)
  have HKD := hid hkd
  have HTK := hid hW
  have HPT := hid hPT
  have HB1 := hid hb1
  have HH0 := hid h0
  have HH1 := hid h1
  have HLV := hid (fun (u : World) (hb : Below w.heap.size w u) => lives_any u (Lib.tabBelow_of_tabIs hPT u hb))
  have hl1 := heap_lt h1
  obtain ⟨q, hq⟩ : ∃ q, Cf.greatC n = q := ⟨_, rfl⟩
  rw [hq] at HG
  have HQ := hid hq
  clear h hW hS hT hU hQ hD hs hkd hPT hb1 h0 h1 hq z1
  unfold netAgg at HG ⊢
  cases q with
  | true =>
    go_enter Tryz.func3, Tryz.ntmps3
    go_wp2_with fail
    rw [hw1.out]
    go_wp2_with fail
    go_at_call 6
    refine HG.out.mono ?_
    rintro _ w2 ⟨rfl, hb2⟩
    have HB2 := hid (HB1.out.trans (hb2.mono HB1.out.size))
    clear hb2
    go_wp2_with fail
    go_at_call 7
    refine (HLV.out w2 HB2.out).mono ?_
    rintro _ w3 ⟨rfl, hb3⟩
    go_wp2
    go_ret
    exact ⟨rfl, HB2.out.trans (hb3.mono HB2.out.size)⟩
  | false =>
    have HF := hid (Cf.greatC_small HQ.out)
    by_cases h12 : 12 < toks.length
    · have f1 : decide ((12 : Int) < (toks.length : Int)) = true := decide_eq_true (by omega)
      have f2 : decide (12 < toks.length) = true := decide_eq_true h12
      clear h12
      go_enter Tryz.func3, Tryz.ntmps3
      go_wp2_with fail
      rw [hw1.out]
      go_wp2_with fail
      go_at_call 6
      refine HG.out.mono ?_
      rintro _ w2 ⟨rfl, hb2⟩
      have HB2 := hid (HB1.out.trans (hb2.mono HB1.out.size))
      clear hb2
      go_wp2_with fail
      go_at_call 7
      refine (HLV.out w2 HB2.out).mono ?_
      rintro _ w3 ⟨rfl, hb3⟩
      go_wp2
      go_ret
      exact ⟨rfl, HB2.out.trans (hb3.mono HB2.out.size)⟩
    · have f1 : decide ((12 : Int) < (toks.length : Int)) = false := decide_eq_false (by omega)
      have f2 : decide (12 < toks.length) = false := decide_eq_false h12
      have h12' : toks.length ≤ 12 := by omega
      clear h12
      go_enter Tryz.func3, Tryz.ntmps3
      go_wp2_with fail
      rw [hw1.out]
      clear hw1
      go_wp2_with fail
      go_at_call 6
      refine HG.out.mono ?_
      rintro _ w2 ⟨rfl, hb2⟩
      have HB2 := hid (HB1.out.trans (hb2.mono HB1.out.size))
      have hx0 := (hb2.block w.heap.size (by omega)).trans HH0.out
      have hx1 := (hb2.block (w.heap.size + 1) (by omega)).trans HH1.out
      have HX0 := hid hx0
      have HX1 := hid hx1
      have NS := hid (nets_of HF.out fun s hs e he => (HKD.out s hs e he).1)
      have hnw := new_any n d b SA TA UA QA DA sc tc uc qc dc w2 (HNT.out w2 HB2.out) NS.out HF.out
      unfold netAgg at hnw
      have HNW := hid hnw
      clear hb2 hnw n0 n1 n2 n3 n4
      have n0 : w2.cell? ⟨w.heap.size, 0, none⟩ = some (.slice SA n.states.length sc) := by rw [Lib.cell_of_heap hx0]; rfl
      have n1 : w2.cell? ⟨w.heap.size, 1, none⟩ = some (.slice TA n.starts.length tc) := by rw [Lib.cell_of_heap hx0]; rfl
      have n2 : w2.cell? ⟨w.heap.size, 2, none⟩ = some (.slice UA n.stops.length uc) := by rw [Lib.cell_of_heap hx0]; rfl
      have n3 : w2.cell? ⟨w.heap.size, 3, none⟩ = some (.slice QA n.preds.length qc) := by rw [Lib.cell_of_heap hx0]; rfl
      have n4 : w2.cell? ⟨w.heap.size, 4, none⟩ = some (.slice DA n.decs.length dc) := by rw [Lib.cell_of_heap hx0]; rfl
      have m0 : w2.cell? ⟨w.heap.size + 1, 0, none⟩ = some (.int .i64 d) := by rw [Lib.cell_of_heap hx1]; rfl
      have m1 : w2.cell? ⟨w.heap.size + 1, 1, none⟩ = some (.int .i64 b) := by rw [Lib.cell_of_heap hx1]; rfl
      have hl2 : w.heap.size + 1 < w2.heap.size := heap_lt hx1
      clear hx0 hx1
      go_wp2_with fail
      go_at_call 8
      refine HNW.out.mono ?_
      clear n0 n1 n2 n3 n4 m0 m1
      intro e3 w3 hN3
      have HN3 := hid hN3
      obtain ⟨x3, y3, he3, hb3, hR3⟩ : ∃ (x3 y3 : Value), e3 = .returned (.tuple #[x3, y3]) ∧ Below w2.heap.size w2 w3 ∧ ((Cf.newV n d b = none ∧ x3 = .pointer none ∧ y3 = .int .i64 1) ∨ ∃ v V a, Cf.newV n d b = some v ∧ x3 = .pointer (some ⟨V, 0, none⟩) ∧ y3 = .int .i64 0 ∧ VwAt w3 w3.heap.size V a v ∧ w2.heap.size ≤ V) := by
        rcases hN3 with ⟨h1, h2, h3⟩ | ⟨v, V, a, h1, h2, h3, h4, h5⟩
        · exact ⟨_, _, h2, h3, .inl ⟨h1, rfl, rfl⟩⟩
        · exact ⟨_, _, h2, h5, .inr ⟨v, V, a, h1, rfl, rfl, h3, h4⟩⟩
      subst he3
      clear hN3 HN3
      have HR3 := hid hR3
      have HB3 := hid (HB2.out.trans (hb3.mono HB2.out.size))
      have HX0 := hid ((hb3.block w.heap.size (by omega)).trans HX0.out)
      have HX1 := hid ((hb3.block (w.heap.size + 1) (by omega)).trans HX1.out)
      clear hR3 hb3
      go_upto_region 4 with fail
      obtain ⟨ws, hws⟩ : ∃ ws, Hid (w3.drew = ws) := ⟨_, hid rfl⟩
      have hbs : Below w3.heap.size w3 ws := by rw [← hws.out]; exact (Below.refl _ _).drew
      have HBS := hid (HB3.out.trans (hbs.mono HB3.out.size))
      have HY0 := hid ((hbs.block w.heap.size (heap_lt HX0.out)).trans HX0.out)
      have HY1 := hid ((hbs.block (w.heap.size + 1) (heap_lt HX1.out)).trans HX1.out)
      have HST := hid (fun (uu : World) (hb : Below ws.heap.size ws uu) => (show uu.cell? ⟨w.heap.size, 0, none⟩ = some (.slice SA n.states.length sc) ∧ uu.cell? ⟨w.heap.size, 1, none⟩ = some (.slice TA n.starts.length tc) ∧ uu.cell? ⟨w.heap.size, 2, none⟩ = some (.slice UA n.stops.length uc) ∧ uu.cell? ⟨w.heap.size, 3, none⟩ = some (.slice QA n.preds.length qc) ∧ uu.cell? ⟨w.heap.size, 4, none⟩ = some (.slice DA n.decs.length dc) ∧ uu.cell? ⟨w.heap.size + 1, 0, none⟩ = some (.int .i64 d) ∧ uu.cell? ⟨w.heap.size + 1, 1, none⟩ = some (.int .i64 b) from by
        have e0 := (hb.block w.heap.size (heap_lt HY0.out)).trans HY0.out
        have e1 := (hb.block (w.heap.size + 1) (heap_lt HY1.out)).trans HY1.out
        exact ⟨by rw [Lib.cell_of_heap e0]; rfl, by rw [Lib.cell_of_heap e0]; rfl, by rw [Lib.cell_of_heap e0]; rfl, by rw [Lib.cell_of_heap e0]; rfl, by rw [Lib.cell_of_heap e0]; rfl, by rw [Lib.cell_of_heap e1]; rfl, by rw [Lib.cell_of_heap e1]; rfl⟩))
      have hot := netOther_any ws n SA TA UA QA DA sc tc uc qc dc (HNT.out ws HBS.out) NS.out (fun s hs e he => (HKD.out s hs e he).2)
      unfold netAgg at hot
      have HOT := hid hot
      have HSB := hid hbs
      clear hbs hot
      refine wp_region_late (l := 12) (S := fun w' => w'.cell? ⟨w.heap.size, 0, none⟩ = some (.slice SA n.states.length sc) ∧ w'.cell? ⟨w.heap.size, 1, none⟩ = some (.slice TA n.starts.length tc) ∧ w'.cell? ⟨w.heap.size, 2, none⟩ = some (.slice UA n.stops.length uc) ∧ w'.cell? ⟨w.heap.size, 3, none⟩ = some (.slice QA n.preds.length qc) ∧ w'.cell? ⟨w.heap.size, 4, none⟩ = some (.slice DA n.decs.length dc) ∧ w'.cell? ⟨w.heap.size + 1, 0, none⟩ = some (.int .i64 d) ∧ w'.cell? ⟨w.heap.size + 1, 1, none⟩ = some (.int .i64 b)) (by kernel_rfl) (by rw [hws.out]; exact HST.out ws (Below.refl _ _)) (fun hHeld => ?_)
      rw [hws.out] at hHeld ⊢
      refine wpAnyF_take (i := 0) (.agg #[.slice SA n.states.length sc, .slice TA n.starts.length tc, .slice UA n.stops.length uc, .slice QA n.preds.length qc, .slice DA n.decs.length dc]) rfl (by kernel_rfl) (by kernel_rfl) (by kernel_rfl) (by kernel_rfl) (fun _ _ _ h => h) hHeld (by rfl) (fun w' hSw => ?_) ?_
      · obtain ⟨c0, c1, c2, c3, c4, c5, c6⟩ := hSw; go_simp
      simp only [Act.put, List.getElem_toArray, List.getElem_cons_zero, List.setIfInBounds_toArray, List.set_cons_zero, List.set_cons_succ]
      refine wpAnyF_take (i := 2) (.pointer (some ⟨w.heap.size + 1, 0, none⟩)) rfl (by kernel_rfl) (by kernel_rfl) (by kernel_rfl) (by kernel_rfl) (fun _ _ _ h => h) hHeld (by rfl) (fun w' hSw => ?_) ?_
      · obtain ⟨c0, c1, c2, c3, c4, c5, c6⟩ := hSw; go_simp
      try simp only [Act.put, List.getElem_toArray, List.getElem_cons_zero, List.getElem_cons_succ, List.setIfInBounds_toArray, List.set_cons_zero, List.set_cons_succ]
      refine wpAnyF_take (i := 3) (.int .i64 d) rfl (by kernel_rfl) (by kernel_rfl) (by kernel_rfl) (by kernel_rfl) (fun _ _ _ h => h) hHeld (by rfl) (fun w' hSw => ?_) ?_
      · obtain ⟨c0, c1, c2, c3, c4, c5, c6⟩ := hSw; go_simp
      try simp only [Act.put, List.getElem_toArray, List.getElem_cons_zero, List.getElem_cons_succ, List.setIfInBounds_toArray, List.set_cons_zero, List.set_cons_succ]
      refine wpAnyF_take (i := 4) (.pointer (some ⟨w.heap.size + 1, 1, none⟩)) rfl (by kernel_rfl) (by kernel_rfl) (by kernel_rfl) (by kernel_rfl) (fun _ _ _ h => h) hHeld (by rfl) (fun w' hSw => ?_) ?_
      · obtain ⟨c0, c1, c2, c3, c4, c5, c6⟩ := hSw; go_simp
      try simp only [Act.put, List.getElem_toArray, List.getElem_cons_zero, List.getElem_cons_succ, List.setIfInBounds_toArray, List.set_cons_zero, List.set_cons_succ]
      refine wpAnyF_take (i := 5) (.int .i64 b) rfl (by kernel_rfl) (by kernel_rfl) (by kernel_rfl) (by kernel_rfl) (fun _ _ _ h => h) hHeld (by rfl) (fun w' hSw => ?_) ?_
      · obtain ⟨c0, c1, c2, c3, c4, c5, c6⟩ := hSw; go_simp
      try simp only [Act.put, List.getElem_toArray, List.getElem_cons_zero, List.getElem_cons_succ, List.setIfInBounds_toArray, List.set_cons_zero, List.set_cons_succ]
      refine wpAnyF_step 1 (by kernel_rfl) rfl (fun K hK => ?_)
      go_simp
      go_at_call 10
      refine HOT.out.mono ?_
      rintro _ w4 ⟨OA, oc, rfl, hb4, hRf⟩
      have hrn := rnew_any n d b OA TA UA QA DA oc tc uc qc dc w4 hRf NS.out HF.out
      unfold netAgg at hrn ⊢
      have HRN := hid hrn
      have HB4 := hid hb4
      clear hrn hb4 hRf
      dsimp only
      refine hK _ _ (HST.out _ HB4.out) (fun hHeld => ?_)
      clear hK
      clear K
      try simp only [Act.put, List.getElem_toArray, List.getElem_cons_zero, List.getElem_cons_succ, List.setIfInBounds_toArray, List.set_cons_zero, List.set_cons_succ]
      refine wpAnyF_step 6 (by kernel_rfl) rfl (fun K hK => ?_)
      go_simp
      go_at_call 9
      refine HRN.out.mono ?_
      intro e5 w5 hN5
      obtain ⟨x5, he5, hb5, hR5⟩ : ∃ (x5 : Value), e5 = .returned (.tuple #[x5, y3]) ∧ Below w4.heap.size w4 w5 ∧ ((Cf.newV n d b = none ∧ x3 = .pointer none ∧ x5 = .pointer none ∧ y3 = .int .i64 1) ∨ ∃ v V a V2 a2, Cf.newV n d b = some v ∧ x3 = .pointer (some ⟨V, 0, none⟩) ∧ x5 = .pointer (some ⟨V2, 0, none⟩) ∧ y3 = .int .i64 0 ∧ VwAt w3 w3.heap.size V a v ∧ RvAt w5 w5.heap.size V2 a2 v) := by
        rcases HR3.out with ⟨r1, r2, r3⟩ | ⟨v, V, a, r1, r2, r3, r4, r5⟩
        · rcases hN5 with ⟨h1, h2, h3⟩ | ⟨v2, V2, a2, h1, h2, h3, h4, h5⟩
          · exact ⟨_, by rw [r3]; exact h2, h3, .inl ⟨r1, r2, rfl, r3⟩⟩
          · rw [r1] at h1; cases h1
        · rcases hN5 with ⟨h1, h2, h3⟩ | ⟨v2, V2, a2, h1, h2, h3, h4, h5⟩
          · rw [r1] at h1; cases h1
          · rw [r1] at h1
            injection h1 with h1
            subst h1
            exact ⟨_, by rw [r3]; exact h2, h5, .inr ⟨v, V, a, V2, a2, r1, r2, rfl, r3, r4, h3⟩⟩
      subst he5
      have HR5 := hid hR5
      have hb45 := HB4.out.trans (hb5.mono HB4.out.size)
      have HB5 := hid hb45
      clear hN5 hR5 hb5 hb45
      dsimp only
      refine hK _ _ (HST.out _ HB5.out) (fun hHeld => ?_)
      clear hK
      clear K
      try simp only [Act.put, List.getElem_toArray, List.getElem_cons_zero, List.getElem_cons_succ, List.setIfInBounds_toArray, List.set_cons_zero, List.set_cons_succ]
      refine wpAnyF_take (i := 7) (.tuple #[x5, y3]) rfl (by kernel_rfl) (by kernel_rfl) (by kernel_rfl) (by kernel_rfl) (fun _ _ _ h => h) hHeld (by rfl) (fun w' hSw => ?_) ?_
      · obtain ⟨c0, c1, c2, c3, c4, c5, c6⟩ := hSw; go_simp
      try simp only [Act.put, List.getElem_toArray, List.getElem_cons_zero, List.getElem_cons_succ, List.setIfInBounds_toArray, List.set_cons_zero, List.set_cons_succ]
      refine wpAnyF_take (i := 8) (x5) rfl (by kernel_rfl) (by kernel_rfl) (by kernel_rfl) (by kernel_rfl) (fun _ _ _ h => h) hHeld (by rfl) (fun w' hSw => ?_) ?_
      · obtain ⟨c0, c1, c2, c3, c4, c5, c6⟩ := hSw; go_simp
      try simp only [Act.put, List.getElem_toArray, List.getElem_cons_zero, List.getElem_cons_succ, List.setIfInBounds_toArray, List.set_cons_zero, List.set_cons_succ]
      refine wpAnyF_take (i := 9) (y3) rfl (by kernel_rfl) (by kernel_rfl) (by kernel_rfl) (by kernel_rfl) (fun _ _ _ h => h) hHeld (by rfl) (fun w' hSw => ?_) ?_
      · obtain ⟨c0, c1, c2, c3, c4, c5, c6⟩ := hSw; go_simp
      try simp only [Act.put, List.getElem_toArray, List.getElem_cons_zero, List.getElem_cons_succ, List.setIfInBounds_toArray, List.set_cons_zero, List.set_cons_succ]
      refine wpAnyF_take (i := 10) (x5) rfl (by kernel_rfl) (by kernel_rfl) (by kernel_rfl) (by kernel_rfl) (fun _ _ _ h => h) hHeld (by rfl) (fun w' hSw => ?_) ?_
      · obtain ⟨c0, c1, c2, c3, c4, c5, c6⟩ := hSw; go_simp
      try simp only [Act.put, List.getElem_toArray, List.getElem_cons_zero, List.getElem_cons_succ, List.setIfInBounds_toArray, List.set_cons_zero, List.set_cons_succ]
      refine wpAnyF_take (i := 11) (y3) rfl (by kernel_rfl) (by kernel_rfl) (by kernel_rfl) (by kernel_rfl) (fun _ _ _ h => h) hHeld (by rfl) (fun w' hSw => ?_) ?_
      · obtain ⟨c0, c1, c2, c3, c4, c5, c6⟩ := hSw; go_simp
      try simp only [Act.put, List.getElem_toArray, List.getElem_cons_zero, List.getElem_cons_succ, List.setIfInBounds_toArray, List.set_cons_zero, List.set_cons_succ]
      refine ⟨by kernel_rfl, ?_⟩
      clear hHeld
      have HBW := hid (HBS.out.trans (HB5.out.mono HBS.out.size))
      have HB35 := hid (HSB.out.trans (HB5.out.mono HSB.out.size))
      rcases HR5.out with ⟨hv, rfl, rfl, rfl⟩ | ⟨v, V, a, V2, a2, hv, rfl, rfl, rfl, hVw, hRv⟩
      · clear hv
        go_wp2_with fail
        go_at_call 7
        refine (HLV.out w5 HBW.out).mono ?_
        rintro _ w6 ⟨rfl, hb6⟩
        go_wp2
        go_ret
        exact ⟨rfl, HBW.out.trans (hb6.mono HBW.out.size)⟩
      · have HVW := hid (hVw.next HB35.out)
        have HRV := hid hRv
        have HV := hid hv
        obtain ⟨W, hd, hn, hde⟩ := Cf.newV_ok hv HF.out
        have HK := hid (rvok_of hv HF.out)
        have HDE := hid hde
        have HND := hid hn
        have hst := start_any v a V w5 HVW.out W hd hde (Lib.tabBelow_of_tabIs HPT.out w5 HBW.out)
        have HSA := hid hst
        clear hVw hRv hv hst W hd hn hde
        go_wp2_with fail
        go_at_call 12
        refine HSA.out.mono ?_
        rintro _ w6 ⟨s6, CA6, AA6, rfl, hI6, hB6, hS6, hb6⟩
        have hal6 := Cf.alts_few hI6 hB6
        have hend : v.d.ends.length ≤ 1000000 := HK.out.ends
        have hsp := spoil_any s6 CA6 AA6 w5.heap.size w6 hS6 hb6.size (by have := hB6.few; omega) (by omega) (Cf.SetB.stk HK.out.W hB6)
        unfold setAgg at hsp ⊢
        have HSP := hid hsp
        have HB6X := hid hb6
        clear hsp hI6 hB6 hS6 hal6 hb6
        go_wp2_with fail
        go_at_call 11
        refine HSP.out.mono ?_
        rintro _ w7 ⟨rfl, hb7⟩
        have hb7 := HB6X.out.trans hb7
        have HB7 := hid hb7
        have HV7 := hid (HVW.out.next hb7)
        have HR7 := hid ((HRV.out.below hb7).more hb7.size)
        have HBW7 := hid (HBW.out.trans (hb7.mono HBW.out.size))
        have hst := start_any v a V w7 HV7.out HK.out.W HK.out.dec HDE.out (Lib.tabBelow_of_tabIs HPT.out w7 HBW7.out)
        have HSA := hid hst
        clear hst hb7 HSP
        go_wp2_with fail
        go_at_call 12
        refine HSA.out.mono ?_
        rintro _ w0 ⟨s, CA, AA, rfl, hI, hSB, hSI, hb8⟩
        have HI0 := hid hI
        have HSB0 := hid hSB
        have HSI0 := hid (hSI.base (Nat.zero_le _))
        have HBW8 := hid (HBW7.out.trans (hb8.mono HBW7.out.size))
        have HKK : Hid (PlK v w0 V V2 a a2 WA toks w.heap.size) := hid ⟨HK.out, HV7.out.next hb8, (HR7.out.below hb8).more hb8.size, Lib.tabBelow_of_tabIs HPT.out w0 HBW8.out, HTK.out.below HBW8.out, HBW8.out.size⟩
        have hbn := below_new w0 (.cells (cellsP CA AA s) 43)
        have hxn := heap_alloc_new w0 (.cells (cellsP CA AA s) 43)
        have hzn : (w0.alloc (.cells (cellsP CA AA s) 43)).heap.size = w0.heap.size + 1 := by simp
        unfold cellsP at hbn hxn hzn
        unfold setAgg
        clear hI hSB hSI hb8
        go_upto_region 11 with fail
        generalize w0.alloc (.cells #[.slice CA s.configs.length s.configs.length, .slice AA s.alts.length s.alts.length, .bool s.over] 43) = w9 at hbn hxn hzn ⊢
        have hrs := rstart_any v a2 V2 w9 ((HKK.out.rv.below hbn).more hbn.size) HK.out (Cf.start_has HK.out.W HK.out.dec HDE.out)
        have HRS := hid hrs
        have HBN := hid hbn
        have HXN := hid hxn
        clear hrs hbn hxn
        go_wp2_with fail
        go_at_call 13
        refine HRS.out.mono ?_
        rintro _ w10 ⟨t, CB, cb, AB, ab, rfl, hI2, hSB2, hcr, har, hb10⟩
        obtain rfl : s = t := Cf.IsSet.unique HI0.out hI2
        have hbm := below_new w10 (.cells (cellsR CB AB cb ab s) 47)
        have hxm := heap_alloc_new w10 (.cells (cellsR CB AB cb ab s) 47)
        have hb09 := HBN.out.trans ((hb10.trans (hbm.mono hb10.size)).mono HBN.out.size)
        have hr10 := hb10.size
        have hPl : Pl v w0 w10.heap.size s s CA AA CB AB cb ab (w10.alloc (.cells (cellsR CB AB cb ab s) 47)) :=
          ⟨hb09, by omega, HSB0.out, HSB0.out, HSI0.out.below hb09, (hbm.block _ (by omega)).trans ((hb10.block _ (heap_lt HXN.out)).trans HXN.out), hcr.below hbm, (RO.of_reads har (Nat.le_refl _) (fun _ e => e.elim)).only (S' := fun _ => False) (Only.of_below (S := fun _ => False) hbm) (fun _ _ e => e), hxm⟩
        have HPL := hid (And.intro hPl (Nat.le_trans (Cf.alts_few HI0.out HSB0.out) hend))
        unfold cellsR at HPL
        unfold setAggR
        clear hPl hbm hxm hb09 hcr har hb10 hI2 hSB2 hr10
        go_upto_block 0 with fail
        generalize w10.alloc (.cells #[.slice CB s.configs.length cb, .slice AB s.alts.length ab, .bool s.over] 47) = w11 at HPL ⊢
        generalize w10.heap.size = b2 at HPL ⊢
        go_wp2_with fail
        go_loopw [13] (fun i wr => ∃ (j : Nat) (s : Cf.St) (CA AA CB AB : Option Addr) (cb ab : Nat), j ≤ toks.length ∧ i = .int .i64 (j : Int) ∧ Hid (Pl v w0 b2 s s CA AA CB AB cb ab wr ∧ s.alts.length ≤ 1000000)) (fun i _ => toks.length - (intOf i).toNat)
        case atStart => exact ⟨0, s, CA, AA, CB, AB, cb, ab, Nat.zero_le _, rfl, HPL⟩
        case round =>
          clear HPL
          obtain ⟨j, s, CA, AA, CB, AB, cb, ab, hj, rfl, HI⟩ := hrel
          obtain ⟨p0, p1, p2⟩ := HI.out.1.pcells
          obtain ⟨r0, r1, r2⟩ := HI.out.1.rcells
          have hfew := HI.out.1.sb.few
          have HSM := hid (fun (u : World) (hb : Below wr.heap.size wr u) => same14_any s CA AA CB AB cb ab u ((HI.out.1.next hb).p.cfr) ((HI.out.1.next hb).p.alts.reads) (HI.out.1.next hb).rc ((HI.out.1.next hb).ra.reads) (by omega) HI.out.2 (Cf.SetB.stk HK.out.W HI.out.1.sb))
          have HDN := hid (fun (u : World) (hb : Below wr.heap.size wr u) => done_any s CA AA u ((HI.out.1.next hb).p.cfr) (by omega))
          have HRD := hid (fun (u : World) (hb : Below wr.heap.size wr u) => rdone_any s CB AB cb ab u (HI.out.1.next hb).rc (by omega))
          unfold setAgg at HSM HDN
          unfold setAggR at HSM HRD
          generalize Cf.doneS s = dn at HDN HRD
          have ca1 : ∀ (d : Nat) (o : Array Obj), Calls Tryz.prog 14 #[.agg #[.slice CA s.configs.length s.configs.length, .slice AA s.alts.length s.alts.length, .bool s.over], .agg #[.slice CB s.configs.length cb, .slice AB s.alts.length ab, .bool s.over]] (grow (redrawn wr d) o) fun e w'' => e = .returned (.bool true) ∧ ∃ p : Regrown, w'' = grow (redrawn wr p.d) p.os := fun d o => Calls.regrown_of (HSM.out _ (below_regrown wr d o))
          have ca2 : ∀ (d : Nat) (o : Array Obj), Calls Tryz.prog 15 #[.agg #[.slice CA s.configs.length s.configs.length, .slice AA s.alts.length s.alts.length, .bool s.over]] (grow (redrawn wr d) o) fun e w'' => e = .returned (.bool dn) ∧ ∃ p : Regrown, w'' = grow (redrawn wr p.d) p.os := fun d o => Calls.regrown_of (HDN.out _ (below_regrown wr d o))
          have ca3 : ∀ (d : Nat) (o : Array Obj), Calls Tryz.prog 16 #[.agg #[.slice CB s.configs.length cb, .slice AB s.alts.length ab, .bool s.over]] (grow (redrawn wr d) o) fun e w'' => e = .returned (.bool dn) ∧ ∃ p : Regrown, w'' = grow (redrawn wr p.d) p.os := fun d o => Calls.regrown_of (HRD.out _ (below_regrown wr d o))
          have q0 := fun d os => cell_regrown p0 d os
          have q1 := fun d os => cell_regrown p1 d os
          have q2 := fun d os => cell_regrown p2 d os
          have t0 := fun d os => cell_regrown r0 d os
          have t1 := fun d os => cell_regrown r1 d os
          have t2 := fun d os => cell_regrown r2 d os
          have fd : (dn != dn) = false := by cases dn <;> rfl
          have fe : (dn == dn) = true := by cases dn <;> rfl
          have HBW9 := hid (HBW8.out.trans (HI.out.1.below.mono HBW8.out.size))
          clear p0 p1 p2 r0 r1 r2
          by_cases hlt : j < toks.length
          · have hltI : (j : Int) < (toks.length : Int) := by omega
            go_upto_region 15 with fail
            refine wp_region_quiet_below (by kernel_rfl) (by kernel_rfl) ?_
            repeat (quiet_step (first | exact ca1 _ _ | exact ca2 _ _ | exact ca3 _ _))
            clear ca1 ca2 ca3 q0 q1 q2 t0 t1 t2
            refine wpQuiet_nil ?_
            rintro _ ⟨⟨dq, osq⟩, rfl⟩
            have hbq := below_regrown wr dq osq
            generalize grow (redrawn wr dq) osq = wq at hbq ⊢
            have HPq := hid (HI.out.1.next hbq)
            have HBQ := hid hbq
            obtain ⟨tb, tf, hWA, htl, htc⟩ := HKK.out.toks.2 (by omega)
            have htk := htc j (.int .i64 toks[j]) (by rw [List.getElem?_map, List.getElem?_eq_getElem hlt]; rfl)
            generalize toks[j] = tok at htk
            have htk := (HPq.out.below.cell (p := ⟨tb, tf + j, none⟩) (Nat.lt_of_lt_of_le htl HKK.out.le)).trans htk
            have HMV := hid (fun (u : World) (hb : Below wq.heap.size wq u) => move_any v a V s tok CA AA u (HKK.out.hv.next (HPq.out.next hb).below) HK.out.W HPq.out.sb (HPq.out.next hb).p.cfr (HKK.out.hT.next (HPq.out.next hb).below))
            have HRM := hid (fun (u : World) (hb : Below w0.heap.size w0 u) (hc : CfR u (fun _ => False) CB s.configs) => rmove_any v a2 V2 s CB AB cb ab tok u ((HKK.out.rv.below hb).more hb.size) HK.out HPq.out.sb hc (Cf.move_has HK.out.W HPq.out.sb tok))
            unfold setAgg at HMV
            unfold setAggR at HRM
            have HTK2 := hid htk
            have HWA := hid hWA
            rw [hWA]
            clear hbq htc htk
            go_upto_region 17 with fail
            obtain ⟨ws, hws⟩ : ∃ ws, Hid (wq.drew = ws) := ⟨_, hid rfl⟩
            have hbs : Below wq.heap.size wq ws := by rw [← hws.out]; exact (Below.refl _ _).drew
            have HPS := hid (HPq.out.next hbs)
            have HSQ := hid hbs
            have HST := hid (fun (uu : World) (hb : Below ws.heap.size ws uu) => (show uu.cell? ⟨w0.heap.size, 0, none⟩ = some (.slice CA s.configs.length s.configs.length) ∧ uu.cell? ⟨w0.heap.size, 1, none⟩ = some (.slice AA s.alts.length s.alts.length) ∧ uu.cell? ⟨w0.heap.size, 2, none⟩ = some (.bool s.over) ∧ uu.cell? ⟨tb, tf + j, none⟩ = some (.int .i64 tok) from by
              obtain ⟨g0, g1, g2⟩ := (HPS.out.next hb).pcells
              exact ⟨g0, g1, g2, ((HSQ.out.trans (hb.mono HSQ.out.size)).cell (p := ⟨tb, tf + j, none⟩) (Nat.lt_of_lt_of_le htl (Nat.le_trans HKK.out.le HPq.out.below.size))).trans HTK2.out⟩))
            clear hbs
            refine wp_region_late (l := 8) (S := fun w' => w'.cell? ⟨w0.heap.size, 0, none⟩ = some (.slice CA s.configs.length s.configs.length) ∧ w'.cell? ⟨w0.heap.size, 1, none⟩ = some (.slice AA s.alts.length s.alts.length) ∧ w'.cell? ⟨w0.heap.size, 2, none⟩ = some (.bool s.over) ∧ w'.cell? ⟨tb, tf + j, none⟩ = some (.int .i64 tok)) (by kernel_rfl) (by rw [hws.out]; exact HST.out ws (Below.refl _ _)) (fun hHeld => ?_)
            rw [hws.out] at hHeld ⊢
            refine wpAnyF_take (i := 0) (.pointer (some ⟨V, 0, none⟩)) rfl (by kernel_rfl) (by kernel_rfl) (by kernel_rfl) (by kernel_rfl) (fun _ _ _ h => h) hHeld (by rfl) (fun w' hSw => ?_) ?_
            · obtain ⟨g0, g1, g2, g3⟩ := hSw; go_simp
            simp only [Act.put, List.getElem_toArray, List.getElem_cons_zero, List.setIfInBounds_toArray, List.set_cons_zero, List.set_cons_succ]
            refine wpAnyF_take (i := 1) (.agg #[.slice CA s.configs.length s.configs.length, .slice AA s.alts.length s.alts.length, .bool s.over]) rfl (by kernel_rfl) (by kernel_rfl) (by kernel_rfl) (by kernel_rfl) (fun _ _ _ h => h) hHeld (by rfl) (fun w' hSw => ?_) ?_
            · obtain ⟨g0, g1, g2, g3⟩ := hSw; go_simp
            try simp only [Act.put, List.getElem_toArray, List.getElem_cons_zero, List.getElem_cons_succ, List.setIfInBounds_toArray, List.set_cons_zero, List.set_cons_succ]
            refine wpAnyF_take (i := 2) (.slice (some ⟨tb, tf, none⟩) toks.length wc) rfl (by kernel_rfl) (by kernel_rfl) (by kernel_rfl) (by kernel_rfl) (fun _ _ _ h => h) hHeld (by rfl) (fun w' hSw => ?_) ?_
            · obtain ⟨g0, g1, g2, g3⟩ := hSw; go_simp
            try simp only [Act.put, List.getElem_toArray, List.getElem_cons_zero, List.getElem_cons_succ, List.setIfInBounds_toArray, List.set_cons_zero, List.set_cons_succ]
            refine wpAnyF_take (i := 3) (.int .i64 (j : Int)) rfl (by kernel_rfl) (by kernel_rfl) (by kernel_rfl) (by kernel_rfl) (fun _ _ _ h => h) hHeld (by rfl) (fun w' hSw => ?_) ?_
            · obtain ⟨g0, g1, g2, g3⟩ := hSw; go_simp
            try simp only [Act.put, List.getElem_toArray, List.getElem_cons_zero, List.getElem_cons_succ, List.setIfInBounds_toArray, List.set_cons_zero, List.set_cons_succ]
            refine wpAnyF_take (i := 4) (.pointer (some ⟨tb, tf + j, none⟩)) rfl (by kernel_rfl) (by kernel_rfl) (by kernel_rfl) (by kernel_rfl) (fun _ _ _ h => h) hHeld (by rfl) (fun w' hSw => ?_) ?_
            · obtain ⟨g0, g1, g2, g3⟩ := hSw; go_simp
            try simp only [Act.put, List.getElem_toArray, List.getElem_cons_zero, List.getElem_cons_succ, List.setIfInBounds_toArray, List.set_cons_zero, List.set_cons_succ]
            refine wpAnyF_take (i := 5) (.int .i64 tok) rfl (by kernel_rfl) (by kernel_rfl) (by kernel_rfl) (by kernel_rfl) (fun _ _ _ h => h) hHeld (by rfl) (fun w' hSw => ?_) ?_
            · obtain ⟨g0, g1, g2, g3⟩ := hSw; go_simp
            try simp only [Act.put, List.getElem_toArray, List.getElem_cons_zero, List.getElem_cons_succ, List.setIfInBounds_toArray, List.set_cons_zero, List.set_cons_succ]
            refine wpAnyF_step 6 (by kernel_rfl) rfl (fun K hK => ?_)
            go_simp
            go_at_call 17
            refine (HMV.out ws HSQ.out).mono ?_
            rintro _ wa ⟨t, CA2, AA2, rfl, hif, hsb, hin, hba⟩
            have hend : v.d.ends.length ≤ 1000000 := HK.out.ends
            have hsp := spoil_any t CA2 AA2 ws.heap.size wa hin hba.size (by have := hsb.few; omega) (Nat.le_trans (Cf.move_few hif hsb) hend) (Cf.SetB.stk HK.out.W hsb)
            unfold setAgg at hsp ⊢
            have HSP := hid hsp
            have HBA := hid hba
            clear hsp hif hsb hin hba
            refine hK _ _ (HST.out _ HBA.out) (fun hHeld => ?_)
            clear hK
            clear K
            try simp only [Act.put, List.getElem_toArray, List.getElem_cons_zero, List.getElem_cons_succ, List.setIfInBounds_toArray, List.set_cons_zero, List.set_cons_succ]
            refine wpAnyF_step 7 (by kernel_rfl) rfl (fun K hK => ?_)
            go_simp
            go_at_call 11
            refine HSP.out.mono ?_
            rintro _ wb ⟨rfl, hbb⟩
            have HBB := hid (HBA.out.trans hbb)
            clear hbb HSP
            refine hK _ _ (HST.out _ HBB.out) (fun hHeld => ?_)
            clear hK
            clear K
            try simp only [Act.put, List.getElem_toArray, List.getElem_cons_zero, List.getElem_cons_succ, List.setIfInBounds_toArray, List.set_cons_zero, List.set_cons_succ]
            refine ⟨by kernel_rfl, ?_⟩
            clear hHeld
            have HPB := hid (HPS.out.next HBB.out)
            have HSQB := hid (HSQ.out.trans (HBB.out.mono HSQ.out.size))
            clear HST
            obtain ⟨p0, p1, p2⟩ := HPB.out.pcells
            obtain ⟨r0, r1, r2⟩ := HPB.out.rcells
            have HBWB := hid (HBQ.out.trans (HSQB.out.mono HBQ.out.size))
            go_wp2_with fail
            go_at_call 14
            refine (HSM.out wb HBWB.out).mono ?_
            rintro _ wcc ⟨rfl, hbc⟩
            have HPC := hid (HPB.out.next hbc)
            have HQC := hid (HSQB.out.trans (hbc.mono HSQB.out.size))
            clear hbc p0 p1 p2 r0 r1 r2
            go_upto_region 20 with fail
            obtain ⟨wt, hwt⟩ : ∃ wt, Hid (wcc.drew = wt) := ⟨_, hid rfl⟩
            have hbt : Below wcc.heap.size wcc wt := by rw [← hwt.out]; exact (Below.refl _ _).drew
            have HPT2 := hid (HPC.out.next hbt)
            have HQT := hid (HQC.out.trans (hbt.mono HQC.out.size))
            have HST := hid (fun (uu : World) (hb : Below wt.heap.size wt uu) => (show uu.cell? ⟨w0.heap.size, 0, none⟩ = some (.slice CA s.configs.length s.configs.length) ∧ uu.cell? ⟨w0.heap.size, 1, none⟩ = some (.slice AA s.alts.length s.alts.length) ∧ uu.cell? ⟨w0.heap.size, 2, none⟩ = some (.bool s.over) ∧ uu.cell? ⟨tb, tf + j, none⟩ = some (.int .i64 tok) from by
              obtain ⟨g0, g1, g2⟩ := (HPT2.out.next hb).pcells
              exact ⟨g0, g1, g2, ((HQT.out.trans (hb.mono HQT.out.size)).cell (p := ⟨tb, tf + j, none⟩) (Nat.lt_of_lt_of_le htl (Nat.le_trans HKK.out.le HPq.out.below.size))).trans HTK2.out⟩))
            clear hbt
            refine wp_region_late (l := 7) (S := fun w' => w'.cell? ⟨w0.heap.size, 0, none⟩ = some (.slice CA s.configs.length s.configs.length) ∧ w'.cell? ⟨w0.heap.size, 1, none⟩ = some (.slice AA s.alts.length s.alts.length) ∧ w'.cell? ⟨w0.heap.size, 2, none⟩ = some (.bool s.over) ∧ w'.cell? ⟨tb, tf + j, none⟩ = some (.int .i64 tok)) (by kernel_rfl) (by rw [hwt.out]; exact HST.out wt (Below.refl _ _)) (fun hHeld => ?_)
            rw [hwt.out] at hHeld ⊢
            refine wpAnyF_take2 (i := 0) (.pointer (some ⟨V, 0, none⟩)) (by kernel_rfl) rfl (by decide) (by kernel_rfl) (by kernel_rfl) (by kernel_rfl) (by kernel_rfl) (fun _ _ _ h => h) hHeld (by rfl) (fun w' hSw => ?_) ?_
            · obtain ⟨g0, g1, g2, g3⟩ := hSw; go_simp
            simp only [Act.put, List.getElem_toArray, List.getElem_cons_zero, List.setIfInBounds_toArray, List.set_cons_zero, List.set_cons_succ]
            refine wpAnyF_take2 (i := 1) (.agg #[.slice CA s.configs.length s.configs.length, .slice AA s.alts.length s.alts.length, .bool s.over]) (by kernel_rfl) rfl (by decide) (by kernel_rfl) (by kernel_rfl) (by kernel_rfl) (by kernel_rfl) (fun _ _ _ h => h) hHeld (by rfl) (fun w' hSw => ?_) ?_
            · obtain ⟨g0, g1, g2, g3⟩ := hSw; go_simp
            try simp only [Act.put, List.getElem_toArray, List.getElem_cons_zero, List.getElem_cons_succ, List.setIfInBounds_toArray, List.set_cons_zero, List.set_cons_succ]
            refine wpAnyF_take2 (i := 2) (.slice (some ⟨tb, tf, none⟩) toks.length wc) (by kernel_rfl) rfl (by decide) (by kernel_rfl) (by kernel_rfl) (by kernel_rfl) (by kernel_rfl) (fun _ _ _ h => h) hHeld (by rfl) (fun w' hSw => ?_) ?_
            · obtain ⟨g0, g1, g2, g3⟩ := hSw; go_simp
            try simp only [Act.put, List.getElem_toArray, List.getElem_cons_zero, List.getElem_cons_succ, List.setIfInBounds_toArray, List.set_cons_zero, List.set_cons_succ]
            refine wpAnyF_take2 (i := 3) (.int .i64 (j : Int)) (by kernel_rfl) rfl (by decide) (by kernel_rfl) (by kernel_rfl) (by kernel_rfl) (by kernel_rfl) (fun _ _ _ h => h) hHeld (by rfl) (fun w' hSw => ?_) ?_
            · obtain ⟨g0, g1, g2, g3⟩ := hSw; go_simp
            try simp only [Act.put, List.getElem_toArray, List.getElem_cons_zero, List.getElem_cons_succ, List.setIfInBounds_toArray, List.set_cons_zero, List.set_cons_succ]
            refine wpAnyF_take2 (i := 4) (.pointer (some ⟨tb, tf + j, none⟩)) (by kernel_rfl) rfl (by decide) (by kernel_rfl) (by kernel_rfl) (by kernel_rfl) (by kernel_rfl) (fun _ _ _ h => h) hHeld (by rfl) (fun w' hSw => ?_) ?_
            · obtain ⟨g0, g1, g2, g3⟩ := hSw; go_simp
            try simp only [Act.put, List.getElem_toArray, List.getElem_cons_zero, List.getElem_cons_succ, List.setIfInBounds_toArray, List.set_cons_zero, List.set_cons_succ]
            refine wpAnyF_take2 (i := 5) (.int .i64 tok) (by kernel_rfl) rfl (by decide) (by kernel_rfl) (by kernel_rfl) (by kernel_rfl) (by kernel_rfl) (fun _ _ _ h => h) hHeld (by rfl) (fun w' hSw => ?_) ?_
            · obtain ⟨g0, g1, g2, g3⟩ := hSw; go_simp
            try simp only [Act.put, List.getElem_toArray, List.getElem_cons_zero, List.getElem_cons_succ, List.setIfInBounds_toArray, List.set_cons_zero, List.set_cons_succ]
            refine wpAnyF_step 6 (by kernel_rfl) rfl (fun K hK => ?_)
            go_simp
            go_at_call 17
            refine (HMV.out wt HQT.out).mono ?_
            rintro _ wd ⟨t, CA2, AA2, rfl, hif, hsb, hin, hbd⟩
            have HIF := hid hif
            have HSBT := hid hsb
            have HPD := hid (HPT2.out.next hbd)
            have HIN := hid (hin.base (Nat.zero_le _))
            have HQD := hid (HQT.out.trans (hbd.mono HQT.out.size))
            unfold setAgg
            refine hK _ _ (HST.out _ hbd) (fun hHeld => ?_)
            clear hK hif hsb hin hbd
            clear K
            try simp only [Act.put, List.getElem_toArray, List.getElem_cons_zero, List.getElem_cons_succ, List.setIfInBounds_toArray, List.set_cons_zero, List.set_cons_succ]
            have hpb := HPD.out.pb
            unfold cellsP at hpb
            have hpz : ∀ i, wd.frozen? ⟨w0.heap.size, i, none⟩ = false := fun i => Lib.frozen_of_heap hpb i
            obtain ⟨p0, p1, p2⟩ := cells3 hpb
            obtain ⟨hq, ho⟩ := set3 hpb (.slice CA2 t.configs.length t.configs.length) (.slice AA2 t.alts.length t.alts.length) (.bool t.over)
            obtain ⟨we, hwe⟩ : ∃ we, Hid (((wd.setCell ⟨w0.heap.size, 0, none⟩ (.slice CA2 t.configs.length t.configs.length)).setCell ⟨w0.heap.size, 1, none⟩ (.slice AA2 t.alts.length t.alts.length)).setCell ⟨w0.heap.size, 2, none⟩ (.bool t.over) = we) := ⟨_, hid rfl⟩
            rw [hwe.out] at hq ho
            have HPE := hid (HPD.out.putP HIN.out HSBT.out ho hq)
            have htk5 : we.cell? ⟨tb, tf + j, none⟩ = some (.int .i64 tok) := (ho.cell (b := tb) (o := tf + j) (Nat.lt_of_lt_of_le htl (Nat.le_trans HKK.out.le HPD.out.below.size)) (by have := HKK.out.le; omega)).trans ((HQD.out.cell (p := ⟨tb, tf + j, none⟩) (Nat.lt_of_lt_of_le htl (Nat.le_trans HKK.out.le HPq.out.below.size))).trans HTK2.out)
            have HTK5 := hid htk5
            clear hq ho hpb htk5 hHeld HST
            refine wpAnyF_turn 7 (by kernel_rfl) rfl (by decide) (by decide) (fun K hK => ?_)
            go_simp
            rw [hwe.out]
            refine hK _ _ ?_
            clear hK p0 p1 p2 hpz hwe
            clear K
            refine ⟨by kernel_rfl, ?_⟩
            go_upto_region 21 with fail
            obtain ⟨wf, hwf⟩ : ∃ wf, Hid (we.drew = wf) := ⟨_, hid rfl⟩
            have hbf : Below we.heap.size we wf := by rw [← hwf.out]; exact (Below.refl _ _).drew
            have HPF := hid (HPE.out.next hbf)
            have htk6 := (hbf.cell (p := ⟨tb, tf + j, none⟩) (Nat.lt_of_lt_of_le htl (Nat.le_trans HKK.out.le HPE.out.below.size))).trans HTK5.out
            have HTK6 := hid htk6
            have HST := hid (fun (uu : World) (hb : Below wf.heap.size wf uu) => (show uu.cell? ⟨b2, 0, none⟩ = some (.slice CB s.configs.length cb) ∧ uu.cell? ⟨b2, 1, none⟩ = some (.slice AB s.alts.length ab) ∧ uu.cell? ⟨b2, 2, none⟩ = some (.bool s.over) ∧ uu.cell? ⟨tb, tf + j, none⟩ = some (.int .i64 tok) from by
              obtain ⟨g0, g1, g2⟩ := (HPF.out.next hb).rcells
              exact ⟨g0, g1, g2, (hb.cell (p := ⟨tb, tf + j, none⟩) (Nat.lt_of_lt_of_le htl (Nat.le_trans HKK.out.le HPF.out.below.size))).trans HTK6.out⟩))
            clear hbf htk6
            refine wp_region_late (l := 7) (S := fun w' => w'.cell? ⟨b2, 0, none⟩ = some (.slice CB s.configs.length cb) ∧ w'.cell? ⟨b2, 1, none⟩ = some (.slice AB s.alts.length ab) ∧ w'.cell? ⟨b2, 2, none⟩ = some (.bool s.over) ∧ w'.cell? ⟨tb, tf + j, none⟩ = some (.int .i64 tok)) (by kernel_rfl) (by rw [hwf.out]; exact HST.out wf (Below.refl _ _)) (fun hHeld => ?_)
            rw [hwf.out] at hHeld ⊢
            refine wpAnyF_take2 (i := 0) (.pointer (some ⟨V2, 0, none⟩)) (by kernel_rfl) rfl (by decide) (by kernel_rfl) (by kernel_rfl) (by kernel_rfl) (by kernel_rfl) (fun _ _ _ h => h) hHeld (by rfl) (fun w' hSw => ?_) ?_
            · obtain ⟨g0, g1, g2, g3⟩ := hSw; go_simp
            simp only [Act.put, List.getElem_toArray, List.getElem_cons_zero, List.setIfInBounds_toArray, List.set_cons_zero, List.set_cons_succ]
            refine wpAnyF_take2 (i := 1) (.agg #[.slice CB s.configs.length cb, .slice AB s.alts.length ab, .bool s.over]) (by kernel_rfl) rfl (by decide) (by kernel_rfl) (by kernel_rfl) (by kernel_rfl) (by kernel_rfl) (fun _ _ _ h => h) hHeld (by rfl) (fun w' hSw => ?_) ?_
            · obtain ⟨g0, g1, g2, g3⟩ := hSw; go_simp
            try simp only [Act.put, List.getElem_toArray, List.getElem_cons_zero, List.getElem_cons_succ, List.setIfInBounds_toArray, List.set_cons_zero, List.set_cons_succ]
            refine wpAnyF_take2 (i := 2) (.slice (some ⟨tb, tf, none⟩) toks.length wc) (by kernel_rfl) rfl (by decide) (by kernel_rfl) (by kernel_rfl) (by kernel_rfl) (by kernel_rfl) (fun _ _ _ h => h) hHeld (by rfl) (fun w' hSw => ?_) ?_
            · obtain ⟨g0, g1, g2, g3⟩ := hSw; go_simp
            try simp only [Act.put, List.getElem_toArray, List.getElem_cons_zero, List.getElem_cons_succ, List.setIfInBounds_toArray, List.set_cons_zero, List.set_cons_succ]
            refine wpAnyF_take2 (i := 3) (.int .i64 (j : Int)) (by kernel_rfl) rfl (by decide) (by kernel_rfl) (by kernel_rfl) (by kernel_rfl) (by kernel_rfl) (fun _ _ _ h => h) hHeld (by rfl) (fun w' hSw => ?_) ?_
            · obtain ⟨g0, g1, g2, g3⟩ := hSw; go_simp
            try simp only [Act.put, List.getElem_toArray, List.getElem_cons_zero, List.getElem_cons_succ, List.setIfInBounds_toArray, List.set_cons_zero, List.set_cons_succ]
            refine wpAnyF_take2 (i := 4) (.pointer (some ⟨tb, tf + j, none⟩)) (by kernel_rfl) rfl (by decide) (by kernel_rfl) (by kernel_rfl) (by kernel_rfl) (by kernel_rfl) (fun _ _ _ h => h) hHeld (by rfl) (fun w' hSw => ?_) ?_
            · obtain ⟨g0, g1, g2, g3⟩ := hSw; go_simp
            try simp only [Act.put, List.getElem_toArray, List.getElem_cons_zero, List.getElem_cons_succ, List.setIfInBounds_toArray, List.set_cons_zero, List.set_cons_succ]
            refine wpAnyF_take2 (i := 5) (.int .i64 tok) (by kernel_rfl) rfl (by decide) (by kernel_rfl) (by kernel_rfl) (by kernel_rfl) (by kernel_rfl) (fun _ _ _ h => h) hHeld (by rfl) (fun w' hSw => ?_) ?_
            · obtain ⟨g0, g1, g2, g3⟩ := hSw; go_simp
            try simp only [Act.put, List.getElem_toArray, List.getElem_cons_zero, List.getElem_cons_succ, List.setIfInBounds_toArray, List.set_cons_zero, List.set_cons_succ]
            refine wpAnyF_step 6 (by kernel_rfl) rfl (fun K hK => ?_)
            go_simp
            go_at_call 18
            refine (HRM.out wf HPF.out.below HPF.out.rc).mono ?_
            rintro _ wg ⟨t2, CB2, cb2, AB2, ab2, rfl, hif, hsb, hcr, har, hbg⟩
            obtain rfl : t = t2 := by
              have h1 := HIF.out
              by_cases e : s.over = true
              · rw [if_pos e] at h1 hif; rw [h1, hif]
              · rw [if_neg e] at h1 hif; exact Cf.IsSet.unique h1 hif
            have HPG := hid (HPF.out.next hbg)
            have HCR := hid hcr
            have HAR := hid (RO.of_reads (S := fun _ => False) har (Nat.le_refl _) (fun _ e => e.elim))
            unfold setAggR
            refine hK _ _ (HST.out _ hbg) (fun hHeld => ?_)
            clear hK hif hsb hcr har hbg
            clear K
            try simp only [Act.put, List.getElem_toArray, List.getElem_cons_zero, List.getElem_cons_succ, List.setIfInBounds_toArray, List.set_cons_zero, List.set_cons_succ]
            have hrb := HPG.out.rb
            unfold cellsR at hrb
            have hrz : ∀ i, wg.frozen? ⟨b2, i, none⟩ = false := fun i => Lib.frozen_of_heap hrb i
            obtain ⟨r0, r1, r2⟩ := cells3 hrb
            obtain ⟨hq, ho⟩ := set3 hrb (.slice CB2 t.configs.length cb2) (.slice AB2 t.alts.length ab2) (.bool t.over)
            obtain ⟨wh, hwh⟩ : ∃ wh, Hid (((wg.setCell ⟨b2, 0, none⟩ (.slice CB2 t.configs.length cb2)).setCell ⟨b2, 1, none⟩ (.slice AB2 t.alts.length ab2)).setCell ⟨b2, 2, none⟩ (.bool t.over) = wh) := ⟨_, hid rfl⟩
            rw [hwh.out] at hq ho
            have hend : v.d.ends.length ≤ 1000000 := HK.out.ends
            have HPH := hid (And.intro (HPG.out.putR HCR.out HAR.out HSBT.out ho hq) (Nat.le_trans (Cf.move_few HIF.out HSBT.out) hend))
            clear hq ho hrb hHeld HST
            refine wpAnyF_turn 7 (by kernel_rfl) rfl (by decide) (by decide) (fun K hK => ?_)
            go_simp
            rw [hwh.out]
            refine hK _ _ ?_
            clear hK r0 r1 r2 hrz hwh
            clear K
            refine ⟨by kernel_rfl, ?_⟩
            go_wp2_with fail
            rw [← HWA.out]
            go_roundw
            case rel => exact ⟨j + 1, t, CA2, AA2, CB2, AB2, cb2, ab2, hlt, by go_num, HPH⟩
            case measure => simp [intOf]; omega
          · have hje : j = toks.length := by omega
            subst hje
            have hltI : ¬ (toks.length : Int) < (toks.length : Int) := by omega
            have ca4 : ∀ (d : Nat) (o : Array Obj), Calls Tryz.prog 7 #[] (grow (redrawn wr d) o) fun e w'' => e = .returned (.bool true) ∧ ∃ p : Regrown, w'' = grow (redrawn wr p.d) p.os := fun d o => Calls.regrown_of (HLV.out _ (HBW9.out.trans ((below_regrown wr d o).mono HBW9.out.size)))
            go_upto_region 22 with fail
            refine wp_region_quiet_below (by kernel_rfl) (by kernel_rfl) ?_
            repeat (quiet_step (first | exact ca1 _ _ | exact ca2 _ _ | exact ca3 _ _ | exact ca4 _ _))
            clear ca1 ca2 ca3 ca4 q0 q1 q2 t0 t1 t2
            refine wpQuiet_nil ?_
            rintro _ ⟨⟨dq, osq⟩, rfl⟩
            have hbq := below_regrown wr dq osq
            generalize grow (redrawn wr dq) osq = wq at hbq ⊢
            have HF9 := hid (HBW9.out.trans (hbq.mono HBW9.out.size))
            clear hbq
            go_wp2_with fail
            go_ret
            exact ⟨rfl, HF9.out⟩
end Go.Proofs.YtnpcjbdolmmaeaaGreatDoor
