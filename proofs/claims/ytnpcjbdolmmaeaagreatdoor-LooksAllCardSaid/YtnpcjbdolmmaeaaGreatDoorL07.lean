/-
  A configuration is met (configs.closing.meet): the walk.
-/
import Derived.StillTail
import Derived.Lib.QuietBelow
import Derived.StillTailTactics
import Derived.Test.YtnpcjbdolmmaeaaGreatDoorL05
import Derived.Test.YtnpcjbdolmmaeaaGreatDoorL06
namespace Go.Proofs.YtnpcjbdolmmaeaaGreatDoor
open Go.RowKit Go.Maps
open Go.Sort (grow)
set_option maxRecDepth 100000
def MtP (f : ClF) (c : Cf.Cl) (w : World) (e : Ending) (w' : World) : Prop := e = .returned (.tuple #[]) ∧ ClAt w' f c ∧ Steps f w w'
theorem zeroInt (w : World) : (zeroValue 3).run Tryz.prog w = .ok (.int .i64 0) w := by kernel_rfl
theorem key_len {x : Cf.Cfg} (hx : OkC x) (e : Bool) : (Cf.keyT x e).length ≤ maxLen := by
  have h1 := sgN_len (l := x.state :: x.stack) (fun n hn => by rcases List.mem_cons.1 hn with rfl | hn; exact hx.state; exact hx.stack n hn) _ (Nat.le_refl _)
  have h2 := sgB_all x
  have h3 : (Cf.signT x).length ≤ 1 + (21 + (x.stack.length + 1) * 22) := by
    rw [← h2]
    have := Lib.itoa_length_le x.alt hx.alt.1 hx.alt.2
    unfold sgB
    rw [List.length_cons, List.length_append]
    simp only [List.length_cons] at h1 ⊢
    omega
  have h4 := hx.len
  have h5 : (Cf.keyT x e).length ≤ (Cf.signT x).length + 1 := by
    cases e with
    | true => rw [Cf.key_sign]; simp
    | false => exact Nat.le_succ _
  simp only [maxLen]
  omega
theorem key_bang (x : Cf.Cfg) : (⟨(Cf.signT x).toArray⟩ : ByteArray) ++ ⟨#[33]⟩ = ⟨(Cf.keyT x true).toArray⟩ := by
  rw [Cf.key_sign]
  apply ByteArray.ext
  simp [ByteArray.data_append]
theorem meet_new {v : Cf.Vw} {c : Cf.Cl} {x : Cf.Cfg} (h : ¬ x ∈ c.wait) (k : Cf.has v x = true) : Cf.meet v c x = ⟨c.wait ++ [x], c.kept, c.over || decide (2000 < c.wait.length + 1)⟩ := by
  unfold Cf.meet
  rw [if_neg]
  rintro (e | e)
  · exact h e
  · rw [k] at e; cases e
theorem ClAt.ltM {w : World} {f : ClF} {c : Cf.Cl} (h : ClAt w f c) : f.M < w.heap.size := by
  obtain ⟨nm, D, _, hm, _⟩ := h.met
  exact hm.lt
theorem ClAt.rowLt {w : World} {f : ClF} {c : Cf.Cl} (h : ClAt w f c) : ∀ u, w.cell? ⟨f.C, 2, none⟩ = some u → ∀ k, u.ownBlock = some k → k < w.heap.size := fun _ hu _ hk => (h.row_ne hu hk).2.2.2.2
theorem infoCfg : (Tryz.prog.info? 89).map (fun i => (i.zero, i.size, i.bytes)) = some (some (.agg #[.int .i64 0, .int .i64 0, .slice none 0 0, .bool false, .bool false]), 5, 48) := by kernel_rfl
set_option maxHeartbeats 4000000 in
theorem meet_any (f : ClF) (c : Cf.Cl) (x : Cf.Cfg) (A : Option Addr) (cx : Nat) (w : World) (h : ClAt w f c) (hs : ClSz c) (hx : OkC x) (hcx : x.stack.length ≤ cx) (hr : RO w (ClS w f) 1 A x.stack.length (x.stack.map (Value.int .i64))) :
    Calls Tryz.prog 51 #[.pointer (some ⟨f.C, 0, none⟩), .agg #[.int .i64 x.alt, .int .i64 x.state, .slice A x.stack.length cx, .bool x.exact, .bool x.ended]] w (MtP f (Cf.meet f.v c x) w) := by
  have HCX := hid hcx
  clear hcx
  obtain ⟨w1, hw1⟩ : ∃ w1, Hid (w.alloc (.cells #[.int .i64 x.alt, .int .i64 x.state, .slice A x.stack.length cx, .bool x.exact, .bool x.ended] 89) = w1) := ⟨_, hid rfl⟩
  have hb1 : Below w.heap.size w w1 := by rw [← hw1.out]; exact below_new _ _
  have h1 : w1.heap[w.heap.size]? = some (.cells #[.int .i64 x.alt, .int .i64 x.state, .slice A x.stack.length cx, .bool x.exact, .bool x.ended] 89 (0, 0)) := by rw [← hw1.out]; exact heap_alloc_new _ _
  have s0 : w1.cell? ⟨w.heap.size, 0, none⟩ = some (.int .i64 x.alt) := by rw [Lib.cell_of_heap h1]; rfl
  have s1 : w1.cell? ⟨w.heap.size, 1, none⟩ = some (.int .i64 x.state) := by rw [Lib.cell_of_heap h1]; rfl
  have s2 : w1.cell? ⟨w.heap.size, 2, none⟩ = some (.slice A x.stack.length cx) := by rw [Lib.cell_of_heap h1]; rfl
  have s3 : w1.cell? ⟨w.heap.size, 3, none⟩ = some (.bool x.exact) := by rw [Lib.cell_of_heap h1]; rfl
  have s4 : w1.cell? ⟨w.heap.size, 4, none⟩ = some (.bool x.ended) := by rw [Lib.cell_of_heap h1]; rfl
  have hcl1 := h.below hb1
  have hsg := sign_any x A cx w1 hx (hr.only (Only.of_below (S := ClS w f) hb1) (fun _ _ e => e)).reads hcl1.pt.here
  have HCL1 := hid hcl1
  have HB1 := hid hb1
  have HR := hid hr
  have HS := hid hs
  have HX := hid hx
  have HLT := hid h.lt
  have HLM := hid (ClAt.ltM h)
  have HU := hid (ClAt.rowLt h)
  clear hcl1 hr hs hx h hb1
  go_enter Tryz.func51, Tryz.ntmps51
  go_wp2_with fail
  rw [hw1.out]
  clear hw1
  go_at_call 78
  refine (hsg).mono ?_
  rintro e w2 ⟨rfl, hb2⟩
  clear hsg
  have s0 := (hb2.cell (p := ⟨w.heap.size, 0, none⟩) (heap_lt h1)).trans s0
  have s1 := (hb2.cell (p := ⟨w.heap.size, 1, none⟩) (heap_lt h1)).trans s1
  have s2 := (hb2.cell (p := ⟨w.heap.size, 2, none⟩) (heap_lt h1)).trans s2
  have s3 := (hb2.cell (p := ⟨w.heap.size, 3, none⟩) (heap_lt h1)).trans s3
  have s4 := (hb2.cell (p := ⟨w.heap.size, 4, none⟩) (heap_lt h1)).trans s4
  have h2 := (hb2.block _ (heap_lt h1)).trans h1
  have HB2 := hid (HB1.out.trans (hb2.mono HB1.out.size))
  have HCL2 := hid (HCL1.out.below hb2)
  clear hb2 h1 HB1 HCL1
  obtain ⟨u, vs, c0, c1, c2, c3, c4, hfz, hown, hcv⟩ := HCL2.out.cells
  obtain ⟨nm, D, hnm, hmap, hmet⟩ := HCL2.out.met
  have hkl := key_len HX.out x.exact
  obtain ⟨el, elp, hlk, hlr⟩ := hmap.look_ok lawStr Tryz.underlying110 (zeroInt w2) (show asIs (.int .i64 0) = some (.held (.int .i64 0), []) from rfl) (key_of x x.exact hkl)
  clear hlr elp
  rw [hmet.2.2 x] at hlk
  have hS3 := s3
  obtain ⟨b0, hb0⟩ : ∃ b0, decide (x ∈ c.wait) = b0 := ⟨_, rfl⟩
  rw [hb0] at hlk
  have HMAP := hid hmap
  have HMET := hid hmet
  have HOWN := hid hown
  have HCV := hid hcv
  have HKL := hid hkl
  have HH2 := hid h2
  have HFZ := hid hfz
  have HB0 := hid hb0
  clear hmap hmet hown hcv hkl hb0 h2 hfz
  have hl1 : (Cf.signT x).length + 1 ≤ 9223372036854775807 := by
    have := key_len HX.out true
    rw [Cf.key_sign] at this
    simpa [maxLen] using this
  cases hex : x.exact
  all_goals
    rw [hex] at s3 hlk
    first | rw [← key_bang] at hlk | rw [show Cf.keyT x false = Cf.signT x from rfl] at hlk
    go_wp2_with fail
    clear hlk
    cases b0
    rotate_left
    · go_quiet (fail)
      go_wp2
      go_end0
      have hin : x ∈ c.wait := of_decide_eq_true HB0.out
      have hm : Cf.meet f.v c x = c := by unfold Cf.meet; rw [if_pos (.inl hin)]
      rw [hm]
      have hbn := below_drewN (Below.refl w2.heap.size w2) nq
      exact ⟨rfl, HCL2.out.below hbn, Steps.of_below HLT.out (below_drewN HB2.out nq)⟩
    · have hnin : ¬ x ∈ c.wait := of_decide_eq_false HB0.out
      have hvw := HCL2.out.view
      have q0 := fun d os => cell_regrown s0 d os
      have q1 := fun d os => cell_regrown s1 d os
      have q2 := fun d os => cell_regrown s2 d os
      have q3 := fun d os => cell_regrown s3 d os
      have q4 := fun d os => cell_regrown s4 d os
      have p0 := fun d os => cell_regrown c0 d os
      have ca1 := fun i os => Calls.regrown_of (by have h9 := has_any x A cx (grow (redrawn w2 i) os) f.B0 f.V f.a f.v (hvw.below ((below_regrown w2 i os).mono HCL2.out.hw)) (Nat.le_trans HCL2.out.hw (below_regrown w2 i os).size); rw [hex] at h9; exact h9)
      clear s0 s1 s2 s3 s4 c0 c1 c2 c3 c4
      refine wp_region_quiet_below (by kernel_rfl) (by kernel_rfl) ?_
      repeat (quiet_step (exact ca1 _ _))
      refine wpQuiet_nil ?_
      rintro _ ⟨⟨dq, osq⟩, rfl⟩
      have hb3 := below_regrown w2 dq osq
      clear q0 q1 q2 q3 q4 p0 ca1
      generalize grow (redrawn w2 dq) osq = w3 at hb3 ⊢
      have HB3 := hid (HB2.out.trans (hb3.mono HB2.out.size))
      have HCL3 := hid (HCL2.out.below hb3)
      have h3 := (hb3.block _ (heap_lt HH2.out)).trans HH2.out
      clear hvw HMAP HOWN HCV HFZ HCL2 HH2 hb3 HB2 hS3 hnm
      clear HMET
      clear nm D
      clear u vs
      obtain ⟨u, vs, c0, c1, c2, c3, c4, hfz, hown, hcv⟩ := HCL3.out.cells
      obtain ⟨nm, D, hnm, hmap, hmet⟩ := HCL3.out.met
      have HMAP := hid hmap
      have HMET := hid hmet
      have HOWN := hid hown
      have HCV := hid hcv
      have HFZ := hid hfz
      have HH3 := hid h3
      clear hmap hmet hown hcv h3 hfz
      cases hhas : Cf.has f.v x with
      | false =>
        go_wp2
        go_end0
        have hm : Cf.meet f.v c x = c := by unfold Cf.meet; rw [if_pos (.inr hhas)]
        rw [hm]
        exact ⟨rfl, HCL3.out, Steps.of_below HLT.out HB3.out⟩
      | true =>
        go_wp2_with fail
        refine still_tail 10 (by kernel_rfl) (by kernel_rfl) ?_
        intro w4 HW4
        have ho4 : Only (fun _ => False) w3 w4 := by rw [HW4.out]; exact ⟨rfl, rfl, rfl, Nat.le_refl _, fun _ _ _ => rfl⟩
        clear HW4
        have hC3 : f.C < w3.heap.size := Nat.lt_of_lt_of_le HLT.out HB3.out.size
        have c1 := (ho4.cell (o := 1) hC3 (fun e => e)).trans c1
        have hmap4 := ownsMap_onlyH HMAP.out ho4 (fun e => e)
        have hlen := hmap4.len Tryz.underlying110 3
        have hmx : nm < maxLen := by have := HS.out.wait; simp only [maxLen]; omega
        have hky := key_of x x.exact HKL.out
        rw [hex] at hky
        first | rw [← key_bang] at hky | rw [show Cf.keyT x false = Cf.signT x from rfl] at hky
        simp only [List.take_succ_cons, List.take_zero, List.drop_succ_cons, List.drop_zero]
        repeat still_step
        refine wpStill_nil ?_
        refine wpList_mapUpdate_own _ rfl _ _ _ 110 rfl 9 3 lawStr Tryz.underlying110 asIs f.M nm D rfl hmap4 hmx _ _ _ rfl rfl hky _ [] rfl ?_
        intro w5 hmap5 hg5
        have hD5 : MetIs (D.put (keyL x x.exact) (.held (.int .i64 (size D)))) (c.wait ++ [x]) := HMET.out.put hnin (.held (.int .i64 (size D)))
        have hmap5 : w5.ownsMap Tryz.prog 9 asIs f.M (nm + 1) (D.put (keyL x x.exact) (.held (.int .i64 (size D)))) := by rw [hex]; exact hmap5
        generalize D.put (keyL x x.exact) (.held (.int .i64 (size D))) = D5 at hD5 hmap5
        have hp5 := Only.of_grown hg5
        have ho5 : Only (fun k => k = f.M) w3 w5 := (ho4.more (fun _ _ e => e.elim)).trans hp5 (fun b _ e => by injection e)
        obtain ⟨n1, n2, n3⟩ := HCL3.out.ge
        obtain ⟨m1, m2, m3⟩ := HCL3.out.ne
        have hCM : ¬ f.C = f.M := m1
        have hxM : ¬ w.heap.size = f.M := by have := HLM.out; omega
        have h5 := (ho5.block _ (heap_lt HH3.out) hxM).trans HH3.out
        have c2' := (ho5.cell (o := 2) hC3 hCM).trans c2
        have hul : ∀ k, u.ownBlock = some k → k < w.heap.size := HU.out u ((HB3.out.cell (p := ⟨f.C, 2, none⟩) HLT.out).symm.trans c2)
        have hSw : ∀ w' : World, w'.heap[w.heap.size]? = w5.heap[w.heap.size]? → w'.cell? ⟨f.C, 2, none⟩ = some u → (w'.cell? ⟨f.C, 2, none⟩ = some u ∧ w'.cell? ⟨w.heap.size, 0, none⟩ = some (.int .i64 x.alt) ∧ w'.cell? ⟨w.heap.size, 1, none⟩ = some (.int .i64 x.state) ∧ w'.cell? ⟨w.heap.size, 2, none⟩ = some (.slice A x.stack.length cx) ∧ w'.cell? ⟨w.heap.size, 3, none⟩ = some (.bool x.exact) ∧ w'.cell? ⟨w.heap.size, 4, none⟩ = some (.bool x.ended)) := fun w' hh hc => by
          have hh := hh.trans h5
          refine ⟨hc, ?_, ?_, ?_, ?_, ?_⟩ <;> (rw [Lib.cell_of_heap hh]; rfl)
        clear hex
        obtain ⟨w6, hw6⟩ : ∃ w6, Hid (w5.drew = w6) := ⟨_, hid rfl⟩
        have hSS := hSw w6 (by rw [← hw6.out]; rfl) (by rw [← hw6.out]; exact c2')
        have ho6 : Only (fun k => k = f.M) w3 w6 := by rw [← hw6.out]; exact ⟨ho5.os, ho5.tape, ho5.output, ho5.size, ho5.block⟩
        have h6 : w6.heap = w5.heap := by rw [← hw6.out]; rfl
        have hmap6 := ownsMap_onlyH (S := fun _ => False) hmap5 (w' := w6) (by rw [← hw6.out]; exact ⟨rfl, rfl, rfl, Nat.le_refl _, fun _ _ _ => rfl⟩) (fun e => e)
        have hown6 := ownsRow_only HOWN.out ho6 (fun k hk e => (HCL3.out.row_ne c2 hk).2.1 e)
        have hC5 : f.C < w5.heap.size := Nat.lt_of_lt_of_le hC3 ho5.size
        have hSA : ∀ o, _ := fun o => hSw (w6.alloc o) ((Below.heap_alloc w6 o _ (by rw [h6]; exact heap_lt h5)).trans (by rw [h6])) (((below_new w6 o).cell (p := ⟨f.C, 2, none⟩) (by rw [h6]; exact hC5)).trans hSS.1)
        have hu3 := fun k hk => HCL3.out.row_ne c2 (k := k) hk
        have hS8 : ∀ w8, Only (fun k => u.ownBlock = some k) w6 w8 → _ := fun w8 ho => hSw w8 ((ho.block _ (by rw [h6]; exact heap_lt h5) (fun e => absurd (hul _ e) (Nat.lt_irrefl _))).trans (by rw [h6])) ((ho.cell (o := 2) (by rw [h6]; exact hC5) (fun e => (hu3 _ e).1 rfl)).trans hSS.1)
        have hmy : c.wait.length + 1 ≤ maxLen := by have := HS.out.wait; simp only [maxLen]; omega
        have hmz : (c.wait.length + 1) * 48 ≤ 140737488355328 := by have := HS.out.wait; omega
        have hbs5 : f.B0 ≤ w6.heap.size := Nat.le_trans HCL3.out.hw ho6.size
        obtain ⟨i0, hi0, hz0, hsz0, hy0⟩ := info_parts infoCfg
        have HS5 := hid hSS
        obtain ⟨u', vs', hrow3, _, _⟩ := HCL3.out.row
        have hC6 := (ho6.block f.C hC3 hCM).trans hrow3
        clear hrow3
        have hrx := HR.out.only (S' := ClS w3 f) (Only.of_below HB3.out) (fun b _ hk => (cls_of_cell (HB3.out.cell (p := ⟨f.C, 2, none⟩) HLT.out) b).1 hk)
        clear h6
        clear hSS
        go_wp2_with fail
        refine wp_region_last (l := 10) (S := fun w' => (w'.cell? ⟨f.C, 2, none⟩ = some u ∧ w'.cell? ⟨w.heap.size, 0, none⟩ = some (.int .i64 x.alt) ∧ w'.cell? ⟨w.heap.size, 1, none⟩ = some (.int .i64 x.state) ∧ w'.cell? ⟨w.heap.size, 2, none⟩ = some (.slice A x.stack.length cx) ∧ w'.cell? ⟨w.heap.size, 3, none⟩ = some (.bool x.exact) ∧ w'.cell? ⟨w.heap.size, 4, none⟩ = some (.bool x.ended))) (by kernel_rfl) (by rw [hw6.out]; exact HS5.out) (fun hHeld => ?_)
        rw [hw6.out] at hHeld ⊢
        refine wpAnyE_take (i := 0) (.pointer (some ⟨f.C, 0, none⟩)) rfl (by kernel_rfl) (by kernel_rfl) (by kernel_rfl) (by kernel_rfl) (fun _ _ _ h => h) hHeld (by rfl) (fun w' hSwq => ?_) ?_
        · obtain ⟨d2, e0, e1, e2, e3, e4⟩ := hSwq; go_simp
        simp only [Act.put, List.getElem_toArray, List.getElem_cons_zero, List.setIfInBounds_toArray, List.set_cons_zero, List.set_cons_succ]
        refine wpAnyE_take (i := 1) (.pointer (some ⟨f.C, 0, none⟩)) rfl (by kernel_rfl) (by kernel_rfl) (by kernel_rfl) (by kernel_rfl) (fun _ _ _ h => h) hHeld (by rfl) (fun w' hSwq => ?_) ?_
        · obtain ⟨d2, e0, e1, e2, e3, e4⟩ := hSwq; go_simp
        simp only [Act.put, List.getElem_toArray, List.getElem_cons_zero, List.getElem_cons_succ, List.setIfInBounds_toArray, List.set_cons_zero, List.set_cons_succ]
        refine wpAnyE_take (i := 2) (.pointer (some ⟨f.C, 0, none⟩)) rfl (by kernel_rfl) (by kernel_rfl) (by kernel_rfl) (by kernel_rfl) (fun _ _ _ h => h) hHeld (by rfl) (fun w' hSwq => ?_) ?_
        · obtain ⟨d2, e0, e1, e2, e3, e4⟩ := hSwq; go_simp
        simp only [Act.put, List.getElem_toArray, List.getElem_cons_zero, List.getElem_cons_succ, List.setIfInBounds_toArray, List.set_cons_zero, List.set_cons_succ]
        refine wpAnyE_take (i := 3) (.pointer (some ⟨f.C, 2, none⟩)) rfl (by kernel_rfl) (by kernel_rfl) (by kernel_rfl) (by kernel_rfl) (fun _ _ _ h => h) hHeld (by rfl) (fun w' hSwq => ?_) ?_
        · obtain ⟨d2, e0, e1, e2, e3, e4⟩ := hSwq; go_simp
        simp only [Act.put, List.getElem_toArray, List.getElem_cons_zero, List.getElem_cons_succ, List.setIfInBounds_toArray, List.set_cons_zero, List.set_cons_succ]
        refine wpAnyE_take (i := 4) (u) rfl (by kernel_rfl) (by kernel_rfl) (by kernel_rfl) (by kernel_rfl) (fun _ _ _ h => h) hHeld (by rfl) (fun w' hSwq => ?_) ?_
        · obtain ⟨d2, e0, e1, e2, e3, e4⟩ := hSwq; go_simp
        simp only [Act.put, List.getElem_toArray, List.getElem_cons_zero, List.getElem_cons_succ, List.setIfInBounds_toArray, List.set_cons_zero, List.set_cons_succ]
        refine wpAnyE_take (i := 5) (.agg #[.int .i64 x.alt, .int .i64 x.state, .slice A x.stack.length cx, .bool x.exact, .bool x.ended]) rfl (by kernel_rfl) (by kernel_rfl) (by kernel_rfl) (by kernel_rfl) (fun _ _ _ h => h) hHeld (by rfl) (fun w' hSwq => ?_) ?_
        · obtain ⟨d2, e0, e1, e2, e3, e4⟩ := hSwq; go_simp
        simp only [Act.put, List.getElem_toArray, List.getElem_cons_zero, List.getElem_cons_succ, List.setIfInBounds_toArray, List.set_cons_zero, List.set_cons_succ]
        clear hHeld
        refine wpAnyE_step 6 (by kernel_rfl) rfl (fun K hK => ?_)
        go_simp
        refine hK.out _ _ (hSA _) (fun hHeld => ?_)
        clear hK K
        try simp only [Act.put, List.getElem_toArray, List.getElem_cons_zero, List.getElem_cons_succ, List.setIfInBounds_toArray, List.set_cons_zero, List.set_cons_succ]
        refine wpAnyE_step 7 (by kernel_rfl) rfl (fun K hK => ?_)
        refine step_push4 w6 rfl _ _ 41 rfl f.B0 89 i0 _ 5 48 Tryz.underlying41 hi0 hz0 hsz0 hy0 rfl (by omega) u c.wait.length vs rfl hown6 (cfC x A cx) 1 _ rfl rfl rfl (by simp [cfC, Value.oneCell']) Nat.zero_lt_one hmy hmz hbs5 ?_
        intro g cg w8 hown8 hg8 ho8
        refine hK.out _ _ (hS8 w8 ho8) (fun hHeld => ?_)
        clear hK K
        try simp only [Act.put, List.getElem_toArray, List.getElem_cons_zero, List.getElem_cons_succ, List.setIfInBounds_toArray, List.set_cons_zero, List.set_cons_succ]
        refine wpAnyE_step 8 (by kernel_rfl) rfl (fun K hK => ?_)
        go_simp
        refine hK.out _ _ (hS8 w8 ho8) (fun hHeld => ?_)
        clear hK K
        try simp only [Act.put, List.getElem_toArray, List.getElem_cons_zero, List.getElem_cons_succ, List.setIfInBounds_toArray, List.set_cons_zero, List.set_cons_succ]
        refine wpAnyE_step 9 (by kernel_rfl) rfl (fun K hK => ?_)
        go_simp
        refine hK.out _ _ (hS8 w8 ho8) (fun hHeld => ?_)
        clear hK K
        try simp only [Act.put, List.getElem_toArray, List.getElem_cons_zero, List.getElem_cons_succ, List.setIfInBounds_toArray, List.set_cons_zero, List.set_cons_succ]
        clear hHeld
        have hC8 := (ho8.block f.C (by rw [← hw6.out]; exact hC5) (fun e => (hu3 _ e).1 rfl)).trans hC6
        have z8 := Lib.frozen_of_heap hC8 2
        have q1 := heap_setCell_same w8 f.C 2 _ _ (.slice (some ⟨g, 0, none⟩) (c.wait.length + 1) cg) hC8
        refine wpAnyE_end (by kernel_rfl) rfl (by kernel_rfl) (fun K hK => ?_)
        go_simp
        refine hK.out _ _ ?_
        clear hK K
        have h98 := Only.of_set w8 f.C 2 (.slice (some ⟨g, 0, none⟩) (c.wait.length + 1) cg)
        have HQ := hid q1
        have HPUSH := hid (fun o => ClAt.push (x := x) (A := A) (cx := cx) (cg := cg) o HCL3.out c2 HCV.out HCX.out hrx ho6 hmap6 (by omega) hD5 ho8 hown8 (hg8.imp id (fun e => by omega)))
        have hm9 := ownsMap_onlyH (ownsMap_onlyH hmap6 ho8 (fun e => (hu3 _ e).2.1 rfl)) h98 (fun e => m1 e.symm)
        have d1 : (w8.setCell ⟨f.C, 2, none⟩ (.slice (some ⟨g, 0, none⟩) (c.wait.length + 1) cg)).cell? ⟨f.C, 1, none⟩ = some (.map (some f.M)) := by rw [Lib.cell_of_heap q1]; rfl
        have d4 : (w8.setCell ⟨f.C, 2, none⟩ (.slice (some ⟨g, 0, none⟩) (c.wait.length + 1) cg)).cell? ⟨f.C, 4, none⟩ = some (.bool c.over) := by rw [Lib.cell_of_heap q1]; rfl
        have z9 := Lib.frozen_of_heap q1 4
        clear q1 h98
        generalize w8.setCell ⟨f.C, 2, none⟩ (.slice (some ⟨g, 0, none⟩) (c.wait.length + 1) cg) = w9 at *
        have hlen9 := hm9.len Tryz.underlying110 3
        rw [hD5.2.1, List.length_append, List.length_singleton] at hlen9
        clear hm9 hmap6 hD5 hlen hmap4
        cases hov : c.over
        all_goals
          rw [hov] at d4
          go_wp2_with fail
          go_end0
          obtain ⟨t1, t2⟩ := HPUSH.out _
          refine ⟨rfl, ?_, (Steps.of_below HLT.out HB3.out).trans t2⟩
          rw [meet_new hnin hhas, hov]
          first | exact t1 | (rw [show (false || decide (2000 < c.wait.length + 1)) = decide ((2000 : Int) < (c.wait.length : Int) + 1) from by simp only [Bool.false_or, decide_eq_decide]; omega]; exact t1)
end Go.Proofs.YtnpcjbdolmmaeaaGreatDoor
