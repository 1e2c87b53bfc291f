/-
  Looks: LkSm, LkLaw3, LkRbL, LkRbM, LkRbS (texts joined).
-/
import Derived.Test.YtnpcjbdolmmaeaaGreatDoorL06
import Derived.Test.YtnpcjbdolmmaeaaGreatDoorL26
import Derived.Test.YtnpcjbdolmmaeaaGreatDoorL29
import Derived.Test.YtnpcjbdolmmaeaaGreatDoorL31
import Derived.Test.YtnpcjbdolmmaeaaGreatDoorL32
import Derived.Test.YtnpcjbdolmmaeaaGreatDoorL34
namespace Go.Proofs.YtnpcjbdolmmaeaaGreatDoor
open Go.RowKit
set_option maxRecDepth 100000
namespace Cf
def sameR (a b : St) : Bool := decide (kindS a = kindS b) && decide (a.alts = b.alts) && (if kindS a = 0 then decide (a.configs = b.configs) else true)
theorem sameR_kind {a b : St} (h : ¬ kindS a = kindS b) : sameR a b = false := by
  unfold sameR
  rw [decide_eq_false h]; rfl
theorem sameR_alts {a b : St} (h : ¬ a.alts = b.alts) : sameR a b = false := by
  unfold sameR
  rw [decide_eq_false h, Bool.and_false]; rfl
theorem sameR_yes {a b : St} (h : kindS a = kindS b) (h1 : a.alts = b.alts) (h2 : ¬ kindS a = 0) : sameR a b = true := by
  unfold sameR
  rw [decide_eq_true h, decide_eq_true h1, if_neg h2]; rfl
theorem sameR_cfg {a b : St} (h : kindS a = kindS b) (h1 : a.alts = b.alts) (h2 : kindS a = 0) : sameR a b = decide (a.configs = b.configs) := by
  unfold sameR
  rw [decide_eq_true h, decide_eq_true h1, if_pos h2]; rfl
end Cf
section
variable {P : Program} {ops : Array Oper} {Q : Exit → Act → World → Prop} {md : Region.Mode} {S : World → Prop} {l : Nat}
theorem wpAnyF_pass {i : Nat} {oi : Oper} {fuel : Nat} {listed : Array Bool} {a : Act} {w : World} (hi : ops[i]? = some oi)
    (hs : Region.noSelect ops = true) (hf : Region.free md ops listed i = true) (hr : (Region.ready md ops listed).contains i = true) (hl : allWait md ops l i = true)
    (hQ : ∀ c a w, Q (.panic c) (a.put oi.dst undef) w → Q (.panic c) a w) (hS : S w) (hw : Region.wanted oi (yielded ops a.tmps) = false)
    (h : wpAnyF P md ops Q S l fuel (listed.setIfInBounds i true) (a.put oi.dst undef) w) : wpAnyF P md ops Q S l (fuel + 1) listed a w :=
  wpAnyF_first hi (Region.noSelect_spec hs) hQ hl fuel listed a w (Region.free_spec hi hf) (by simpa using hr) (.inr ⟨hw, rfl⟩) hS h
end
set_option maxHeartbeats 8000000 in
theorem rsame_any (a b : Cf.St) (CA AA CB AB : Option Addr) (ca aa cb ab : Nat) (w : World) (hp : CfR w (fun _ => False) CA a.configs) (ha : Reads w w.heap.size 1 AA a.alts.length (a.alts.map (Value.int .i64))) (hr : CfR w (fun _ => False) CB b.configs)
    (hb : Reads w w.heap.size 1 AB b.alts.length (b.alts.map (Value.int .i64))) (hl : a.configs.length ≤ 1000000) (hla : a.alts.length ≤ 1000000) (hlx : ∀ x ∈ a.configs, x.stack.length ≤ 1000000) (hl2 : b.configs.length ≤ 1000000) (hla2 : b.alts.length ≤ 1000000) (hlx2 : ∀ x ∈ b.configs, x.stack.length ≤ 1000000) :
    Calls Tryz.prog 42 #[setAggR CA ca AA aa a, setAggR CB cb AB ab b] w (KiP (.bool (Cf.sameR a b)) w) := by
  have z1 : (w.alloc (.cells #[.slice CA a.configs.length ca, .slice AA a.alts.length aa, .bool a.over] 47)).heap.size = w.heap.size + 1 := by simp
  obtain ⟨w1, hw1⟩ : ∃ w1, Hid ((w.alloc (.cells #[.slice CA a.configs.length ca, .slice AA a.alts.length aa, .bool a.over] 47)).alloc (.cells #[.slice CB b.configs.length cb, .slice AB b.alts.length ab, .bool b.over] 47) = w1) := ⟨_, hid rfl⟩
  have hb1 : Below w.heap.size w w1 := by rw [← hw1.out]; exact (below_new _ _).alloc (by omega) _
  have h0 : w1.heap[w.heap.size]? = some (.cells #[.slice CA a.configs.length ca, .slice AA a.alts.length aa, .bool a.over] 47 (0, 0)) := by
    rw [← hw1.out, Below.heap_alloc _ _ _ (by omega)]; exact heap_alloc_new _ _
  have h1 : w1.heap[w.heap.size + 1]? = some (.cells #[.slice CB b.configs.length cb, .slice AB b.alts.length ab, .bool b.over] 47 (0, 0)) := by
    rw [← hw1.out, ← z1]; exact heap_alloc_new _ _
  have HKA := hid (fun (u : World) (hu : Below w1.heap.size w1 u) => rkind_any a CA AA ca aa u ((hp.below hb1).below hu) hl)
  have HKB := hid (fun (u : World) (hu : Below w1.heap.size w1 u) => rkind_any b CB AB cb ab u ((hr.below hb1).below hu) hl2)
  have HNU := hid (fun (u : World) (hu : Below w1.heap.size w1 u) => nums_any a.alts b.alts AA AB aa ab u (by omega) (by omega) ((((ha.below hb1).more hb1.size).below hu).more hu.size) ((((hb.below hb1).more hb1.size).below hu).more hu.size))
  have HST := hid (fun (u : World) (hu : Below w1.heap.size w1 u) => (show u.cell? ⟨w.heap.size, 0, none⟩ = some (.slice CA a.configs.length ca) ∧ u.cell? ⟨w.heap.size, 1, none⟩ = some (.slice AA a.alts.length aa) ∧ u.cell? ⟨w.heap.size, 2, none⟩ = some (.bool a.over) ∧ u.cell? ⟨w.heap.size + 1, 0, none⟩ = some (.slice CB b.configs.length cb) ∧ u.cell? ⟨w.heap.size + 1, 1, none⟩ = some (.slice AB b.alts.length ab) ∧ u.cell? ⟨w.heap.size + 1, 2, none⟩ = some (.bool b.over) from by
    obtain ⟨x0, x1, x2⟩ := cells3 ((hu.block _ (heap_lt h0)).trans h0)
    obtain ⟨y0, y1, y2⟩ := cells3 ((hu.block _ (heap_lt h1)).trans h1)
    exact ⟨x0, x1, x2, y0, y1, y2⟩))
  have HP := hid (hp.below hb1)
  have HR := hid (hr.below hb1)
  have HB1 := hid hb1
  have HBD := hid (show Below w1.heap.size w1 w1.drew from (Below.refl _ _).drew)
  have HLX := hid hlx
  have HLX2 := hid hlx2
  obtain ⟨p0, p1, p2⟩ := cells3 h0
  obtain ⟨q0, q1, q2⟩ := cells3 h1
  have hw1l := heap_lt h1
  obtain ⟨ka, hka⟩ : ∃ k, Cf.kindS a = k := ⟨_, rfl⟩
  obtain ⟨kb, hkb⟩ : ∃ k, Cf.kindS b = k := ⟨_, rfl⟩
  rw [hka] at HKA
  rw [hkb] at HKB
  have HKX := hid hka
  have HKY := hid hkb
  clear hb1 h0 h1 hp ha hr hb hlx hlx2 z1 hka hkb
  unfold setAggR at HKA HKB ⊢
  by_cases hk : ka = kb
  · have f1 : (ka != kb) = false := by rw [hk]; simp
    have HKE := hid hk
    obtain ⟨q, hq⟩ : ∃ q, decide (a.alts = b.alts) = q := ⟨_, rfl⟩
    rw [hq] at HNU
    have HQ := hid hq
    clear hq hk
    go_enter Tryz.func42, Tryz.ntmps42
    go_upto_region 1 with fail
    rw [hw1.out]
    clear hw1
    obtain ⟨ws, hws⟩ : ∃ ws, Hid (w1.drew = ws) := ⟨_, hid rfl⟩
    rw [hws.out] at HBD
    refine wp_region_late (l := 13) (S := fun w' => w'.cell? ⟨w.heap.size, 0, none⟩ = some (.slice CA a.configs.length ca) ∧ w'.cell? ⟨w.heap.size, 1, none⟩ = some (.slice AA a.alts.length aa) ∧ w'.cell? ⟨w.heap.size, 2, none⟩ = some (.bool a.over) ∧ w'.cell? ⟨w.heap.size + 1, 0, none⟩ = some (.slice CB b.configs.length cb) ∧ w'.cell? ⟨w.heap.size + 1, 1, none⟩ = some (.slice AB b.alts.length ab) ∧ w'.cell? ⟨w.heap.size + 1, 2, none⟩ = some (.bool b.over)) (by kernel_rfl) (by rw [hws.out]; exact HST.out ws HBD.out) (fun hHeld => ?_)
    rw [hws.out] at hHeld ⊢
    clear p0 p1 p2 q0 q1 q2
    refine wpAnyF_take (i := 0) (.agg #[.slice CA a.configs.length ca, .slice AA a.alts.length aa, .bool a.over]) rfl (by kernel_rfl) (by kernel_rfl) (by kernel_rfl) (by kernel_rfl) (fun _ _ _ h => h) hHeld (by rfl) (fun w' hSw => ?_) ?_
    · obtain ⟨s0, s1, s2, s3, s4, s5⟩ := hSw; go_simp
    simp only [Act.put, List.getElem_toArray, List.getElem_cons_zero, List.setIfInBounds_toArray, List.set_cons_zero, List.set_cons_succ]
    refine wpAnyF_take (i := 2) (.agg #[.slice CB b.configs.length cb, .slice AB b.alts.length ab, .bool b.over]) rfl (by kernel_rfl) (by kernel_rfl) (by kernel_rfl) (by kernel_rfl) (fun _ _ _ h => h) hHeld (by rfl) (fun w' hSw => ?_) ?_
    · obtain ⟨s0, s1, s2, s3, s4, s5⟩ := hSw; go_simp
    try simp only [Act.put, List.getElem_toArray, List.getElem_cons_zero, List.getElem_cons_succ, List.setIfInBounds_toArray, List.set_cons_zero, List.set_cons_succ]
    refine wpAnyF_step 1 (by kernel_rfl) rfl (fun K hK => ?_)
    go_simp
    go_at_call 41
    refine (HKA.out ws HBD.out).mono ?_
    rintro e wa ⟨rfl, hba⟩
    have HBA := hid (HBD.out.trans (hba.mono HBD.out.size))
    clear hba
    dsimp only
    refine hK _ _ (HST.out _ HBA.out) (fun hHeld => ?_)
    clear hK
    clear K
    try simp only [Act.put, List.getElem_toArray, List.getElem_cons_zero, List.getElem_cons_succ, List.setIfInBounds_toArray, List.set_cons_zero, List.set_cons_succ]
    refine wpAnyF_step 3 (by kernel_rfl) rfl (fun K hK => ?_)
    go_simp
    go_at_call 41
    refine (HKB.out wa HBA.out).mono ?_
    rintro e wb ⟨rfl, hbb⟩
    have HBB := hid (HBA.out.trans (hbb.mono HBA.out.size))
    clear hbb
    dsimp only
    refine hK _ _ (HST.out _ HBB.out) (fun hHeld => ?_)
    clear hK
    clear K
    try simp only [Act.put, List.getElem_toArray, List.getElem_cons_zero, List.getElem_cons_succ, List.setIfInBounds_toArray, List.set_cons_zero, List.set_cons_succ]
    refine wpAnyF_take (i := 4) (.bool false) rfl (by kernel_rfl) (by kernel_rfl) (by kernel_rfl) (by kernel_rfl) (fun _ _ _ h => h) hHeld (by rfl) (fun w' hSw => ?_) ?_
    · obtain ⟨s0, s1, s2, s3, s4, s5⟩ := hSw; go_simp
    try simp only [Act.put, List.getElem_toArray, List.getElem_cons_zero, List.getElem_cons_succ, List.setIfInBounds_toArray, List.set_cons_zero, List.set_cons_succ]
    refine wpAnyF_take (i := 5) (.bool false) rfl (by kernel_rfl) (by kernel_rfl) (by kernel_rfl) (by kernel_rfl) (fun _ _ _ h => h) hHeld (by rfl) (fun w' hSw => ?_) ?_
    · obtain ⟨s0, s1, s2, s3, s4, s5⟩ := hSw; go_simp
    try simp only [Act.put, List.getElem_toArray, List.getElem_cons_zero, List.getElem_cons_succ, List.setIfInBounds_toArray, List.set_cons_zero, List.set_cons_succ]
    refine wpAnyF_take (i := 6) (.pointer (some ⟨w.heap.size, 1, none⟩)) rfl (by kernel_rfl) (by kernel_rfl) (by kernel_rfl) (by kernel_rfl) (fun _ _ _ h => h) hHeld (by rfl) (fun w' hSw => ?_) ?_
    · obtain ⟨s0, s1, s2, s3, s4, s5⟩ := hSw; go_simp
    try simp only [Act.put, List.getElem_toArray, List.getElem_cons_zero, List.getElem_cons_succ, List.setIfInBounds_toArray, List.set_cons_zero, List.set_cons_succ]
    refine wpAnyF_take (i := 7) (.slice AA a.alts.length aa) rfl (by kernel_rfl) (by kernel_rfl) (by kernel_rfl) (by kernel_rfl) (fun _ _ _ h => h) hHeld (by rfl) (fun w' hSw => ?_) ?_
    · obtain ⟨s0, s1, s2, s3, s4, s5⟩ := hSw; go_simp
    try simp only [Act.put, List.getElem_toArray, List.getElem_cons_zero, List.getElem_cons_succ, List.setIfInBounds_toArray, List.set_cons_zero, List.set_cons_succ]
    refine wpAnyF_take (i := 8) (.pointer (some ⟨w.heap.size + 1, 1, none⟩)) rfl (by kernel_rfl) (by kernel_rfl) (by kernel_rfl) (by kernel_rfl) (fun _ _ _ h => h) hHeld (by rfl) (fun w' hSw => ?_) ?_
    · obtain ⟨s0, s1, s2, s3, s4, s5⟩ := hSw; go_simp
    try simp only [Act.put, List.getElem_toArray, List.getElem_cons_zero, List.getElem_cons_succ, List.setIfInBounds_toArray, List.set_cons_zero, List.set_cons_succ]
    refine wpAnyF_take (i := 9) (.slice AB b.alts.length ab) rfl (by kernel_rfl) (by kernel_rfl) (by kernel_rfl) (by kernel_rfl) (fun _ _ _ h => h) hHeld (by rfl) (fun w' hSw => ?_) ?_
    · obtain ⟨s0, s1, s2, s3, s4, s5⟩ := hSw; go_simp
    try simp only [Act.put, List.getElem_toArray, List.getElem_cons_zero, List.getElem_cons_succ, List.setIfInBounds_toArray, List.set_cons_zero, List.set_cons_succ]
    refine wpAnyF_step 10 (by kernel_rfl) rfl (fun K hK => ?_)
    go_simp
    go_at_call 70
    refine (HNU.out wb HBB.out).mono ?_
    rintro e wc ⟨rfl, hbc⟩
    have HBC := hid (HBB.out.trans (hbc.mono HBB.out.size))
    clear hbc
    dsimp only
    refine hK _ _ (HST.out _ HBC.out) (fun hHeld => ?_)
    clear hK
    clear K
    try simp only [Act.put, List.getElem_toArray, List.getElem_cons_zero, List.getElem_cons_succ, List.setIfInBounds_toArray, List.set_cons_zero, List.set_cons_succ]
    refine wpAnyF_take (i := 11) (.bool (!q)) rfl (by kernel_rfl) (by kernel_rfl) (by kernel_rfl) (by kernel_rfl) (fun _ _ _ h => h) hHeld (by rfl) (fun w' hSw => ?_) ?_
    · obtain ⟨s0, s1, s2, s3, s4, s5⟩ := hSw; go_simp
    try simp only [Act.put, List.getElem_toArray, List.getElem_cons_zero, List.getElem_cons_succ, List.setIfInBounds_toArray, List.set_cons_zero, List.set_cons_succ]
    refine wpAnyF_take (i := 12) (.bool (!q)) rfl (by kernel_rfl) (by kernel_rfl) (by kernel_rfl) (by kernel_rfl) (fun _ _ _ h => h) hHeld (by rfl) (fun w' hSw => ?_) ?_
    · obtain ⟨s0, s1, s2, s3, s4, s5⟩ := hSw; go_simp
    try simp only [Act.put, List.getElem_toArray, List.getElem_cons_zero, List.getElem_cons_succ, List.setIfInBounds_toArray, List.set_cons_zero, List.set_cons_succ]
    clear hHeld
    refine ⟨by kernel_rfl, ?_⟩
    cases q with
    | false =>
      have HF := hid (Cf.sameR_alts (a := a) (b := b) (of_decide_eq_false HQ.out))
      go_wp2_with fail
      go_ret
      exact ⟨by rw [HF.out]; rfl, HB1.out.trans (HBC.out.mono HB1.out.size)⟩
    | true =>
      have HAL := hid (of_decide_eq_true HQ.out)
      obtain ⟨s0, s1, s2, s3, s4, s5⟩ := HST.out wc HBC.out
      by_cases hz : ka = 0
      · have f2 : (ka != 0) = false := by rw [hz]; rfl
        have HCF := hid (Cf.sameR_cfg (a := a) (b := b) (by rw [HKX.out, HKY.out, HKE.out]) HAL.out (by rw [HKX.out]; exact hz))
        clear hz
        go_wp2_with fail
        go_at_call 41
        refine (HKA.out wc HBC.out).mono ?_
        rintro e wd ⟨rfl, hbd⟩
        have HBW := hid (HBC.out.trans (hbd.mono HBC.out.size))
        clear hbd s0 s1 s2 s3 s4 s5
        obtain ⟨s0, s1, s2, s3, s4, s5⟩ := HST.out wd HBW.out
        obtain ⟨na, hna⟩ : ∃ m, a.configs.length = m := ⟨_, rfl⟩
        obtain ⟨nb, hnb⟩ : ∃ m, b.configs.length = m := ⟨_, rfl⟩
        have HNA := hid hna
        have HNB := hid hnb
        rw [hna] at s0 hl HST
        rw [hnb] at s3 hl2 HST
        clear hna hnb
        by_cases hnn : na = nb
        · have f3 : ((na : Int) != (nb : Int)) = false := by rw [hnn]; simp
          have f3n : (na != nb) = false := by rw [hnn]; simp
          have HNN := hid hnn
          clear hnn
          go_wp2_with fail
          clear f1 f2 f3 f3n s0 s1 s2 s3 s4 s5
          go_loopw [5] (fun i wr => ∃ j : Nat, j ≤ na ∧ i = .int .i64 (j : Int) ∧ Hid (a.configs.take j = b.configs.take j) ∧ Hid (Below w1.heap.size w1 wr)) (fun i _ => na - (intOf i).toNat)
          case atStart => exact ⟨0, Nat.zero_le _, rfl, hid (by simp), HBW⟩
          case round =>
            obtain ⟨j, hj, rfl, HT, HI⟩ := hrel
            obtain ⟨p0, _, _, q0, _, _⟩ := HST.out wr HI.out
            by_cases hlt : j < na
            · have hja : j < a.configs.length := by rw [HNA.out]; exact hlt
              have hjb : j < b.configs.length := by rw [HNB.out, ← HNN.out]; exact hlt
              have hltb : j < nb := by rw [← HNN.out]; exact hlt
              obtain ⟨b1, off, B, c, hA, hbl, _, hfar⟩ := HP.out.far j hja
              obtain ⟨b2, off', B', c', hA', hbl', _, hfar'⟩ := HR.out.far j hjb
              have hst := HLX.out _ (List.getElem_mem hja)
              have hst2 := HLX2.out _ (List.getElem_mem hjb)
              have HXY := hid (show a.configs[j] = b.configs[j] → a.configs.take (j + 1) = b.configs.take (j + 1) from fun e => by rw [List.take_succ_eq_append_getElem hja, List.take_succ_eq_append_getElem hjb, HT.out, e])
              have HXN := hid (show ¬ a.configs[j] = b.configs[j] → Cf.sameR a b = false from fun e => by
                rw [HCF.out]
                exact decide_eq_false (fun e2 => e (by simp only [e2])))
              generalize a.configs[j] = x at hfar hst HXY HXN
              generalize b.configs[j] = y at hfar' hst2 HXY HXN
              obtain ⟨_, r0, r1, r2, r3, r4⟩ := hfar wr HI.out
              have hsr := HI.out.size
              have hn1 := heap_alloc_new wr (.cells #[.int .i64 x.alt, .int .i64 x.state, .slice B x.stack.length c, .bool x.exact, .bool x.ended] 103)
              have hbn1 := below_new wr (.cells #[.int .i64 x.alt, .int .i64 x.state, .slice B x.stack.length c, .bool x.exact, .bool x.ended] 103)
              obtain ⟨wa2, hwa⟩ : ∃ wa2, Hid (wr.alloc (.cells #[.int .i64 x.alt, .int .i64 x.state, .slice B x.stack.length c, .bool x.exact, .bool x.ended] 103) = wa2) := ⟨_, hid rfl⟩
              rw [hwa.out] at hn1 hbn1
              obtain ⟨_, r0', r1', r2', r3', r4'⟩ := hfar' wa2 (HI.out.trans (hbn1.mono hsr))
              have q0a := (hbn1.cell (p := ⟨w.heap.size + 1, 0, none⟩) (by show w.heap.size + 1 < wr.heap.size; omega)).trans q0
              have hn2 := heap_alloc_new wa2 (.cells #[.int .i64 y.alt, .int .i64 y.state, .slice B' y.stack.length c', .bool y.exact, .bool y.ended] 103)
              have hbn2 := below_new wa2 (.cells #[.int .i64 y.alt, .int .i64 y.state, .slice B' y.stack.length c', .bool y.exact, .bool y.ended] 103)
              obtain ⟨wb2, hwb⟩ : ∃ wb2, Hid (wa2.alloc (.cells #[.int .i64 y.alt, .int .i64 y.state, .slice B' y.stack.length c', .bool y.exact, .bool y.ended] 103) = wb2) := ⟨_, hid rfl⟩
              rw [hwb.out] at hn2 hbn2
              have hna2 := heap_lt hn1
              have hn1 := (hbn2.block _ hna2).trans hn1
              have hbb : Below w1.heap.size w1 wb2 := HI.out.trans ((hbn1.trans (hbn2.mono hbn1.size)).mono hsr)
              obtain ⟨hro, _⟩ := hfar wb2 hbb
              obtain ⟨hro', _⟩ := hfar' wb2 hbb
              have hnu := nums_any x.stack y.stack B B' c c' wb2 (by omega) (by omega) hro.reads hro'.reads
              have k0 : wb2.cell? ⟨wr.heap.size, 0, none⟩ = some (.int .i64 x.alt) := by rw [Lib.cell_of_heap hn1]; rfl
              have k1 : wb2.cell? ⟨wr.heap.size, 1, none⟩ = some (.int .i64 x.state) := by rw [Lib.cell_of_heap hn1]; rfl
              have k2 : wb2.cell? ⟨wr.heap.size, 2, none⟩ = some (.slice B x.stack.length c) := by rw [Lib.cell_of_heap hn1]; rfl
              have k3 : wb2.cell? ⟨wr.heap.size, 3, none⟩ = some (.bool x.exact) := by rw [Lib.cell_of_heap hn1]; rfl
              have k4 : wb2.cell? ⟨wr.heap.size, 4, none⟩ = some (.bool x.ended) := by rw [Lib.cell_of_heap hn1]; rfl
              have m0 : wb2.cell? ⟨wa2.heap.size, 0, none⟩ = some (.int .i64 y.alt) := by rw [Lib.cell_of_heap hn2]; rfl
              have m1 : wb2.cell? ⟨wa2.heap.size, 1, none⟩ = some (.int .i64 y.state) := by rw [Lib.cell_of_heap hn2]; rfl
              have m2 : wb2.cell? ⟨wa2.heap.size, 2, none⟩ = some (.slice B' y.stack.length c') := by rw [Lib.cell_of_heap hn2]; rfl
              have m3 : wb2.cell? ⟨wa2.heap.size, 3, none⟩ = some (.bool y.exact) := by rw [Lib.cell_of_heap hn2]; rfl
              have m4 : wb2.cell? ⟨wa2.heap.size, 4, none⟩ = some (.bool y.ended) := by rw [Lib.cell_of_heap hn2]; rfl
              obtain ⟨qs, hqs⟩ : ∃ q, decide (x.stack = y.stack) = q := ⟨_, rfl⟩
              rw [hqs] at hnu
              have HQS := hid hqs
              have HS2 := hid hnu
              have HBB2 := hid hbb
              rw [hA] at p0
              rw [hA'] at q0 q0a
              clear hnu hbb hro hro' hfar hfar' hA hA' hn1 hn2 hbn1 hbn2 hqs
              go_upto_region 11 with fail
              rw [hwa.out]
              clear r0 r1 r2 r3 r4 p0 q0
              go_upto_region 12 with fail
              rw [hwb.out]
              clear r0' r1' r2' r3' r4' q0a
              have HEQ := hid (show x.alt = y.alt → x.state = y.state → x.exact = y.exact → x.ended = y.ended → qs = true → x = y from fun e1 e2 e3 e4 e5 => by
                have e6 := of_decide_eq_true (HQS.out.trans e5)
                cases x; cases y; simp_all)
              have HN1 := hid (show ¬ x.alt = y.alt → ¬ x = y from fun h e => h (by rw [e]))
              have HN2 := hid (show ¬ x.state = y.state → ¬ x = y from fun h e => h (by rw [e]))
              have HN3 := hid (show ¬ x.exact = y.exact → ¬ x = y from fun h e => h (by rw [e]))
              have HN4 := hid (show ¬ x.ended = y.ended → ¬ x = y from fun h e => h (by rw [e]))
              have HN5 := hid (show qs = false → ¬ x = y from fun h e => absurd (HQS.out.trans h) (by rw [e]; simp))
              have HBE := hid (HB1.out.trans (HBB2.out.mono HB1.out.size))
              clear hwa hwb
              generalize x.alt = xa at k0 HEQ HN1
              generalize y.alt = ya at m0 HEQ HN1
              generalize x.state = xs at k1 HEQ HN2
              generalize y.state = ys at m1 HEQ HN2
              generalize x.exact = xe at k3 HEQ HN3
              generalize y.exact = ye at m3 HEQ HN3
              generalize x.ended = xd at k4 HEQ HN4
              generalize y.ended = yd at m4 HEQ HN4
              by_cases e0 : xa = ya
              · have g0 : (xa != ya) = false := by rw [e0]; simp
                by_cases e1 : xs = ys
                · have g1 : (xs != ys) = false := by rw [e1]; simp
                  have HE := hid (HEQ.out e0 e1)
                  clear e0 e1 HN1 HN2
                  by_cases e2 : xe = ye
                  · subst e2
                    by_cases e3 : xd = yd
                    · subst e3
                      have HE2 := hid (HE.out rfl rfl)
                      cases xe
                      all_goals (
                        cases xd
                        all_goals (
                          cases qs with
                          | false =>
                            have HF := hid (HXN.out (HN5.out rfl))
                            go_wp2_with fail
                            go_at_call 70
                            refine HS2.out.mono ?_
                            rintro _ w5 ⟨rfl, hb5⟩
                            have HB5 := hid (HBE.out.trans (hb5.mono HBE.out.size))
                            clear hb5
                            go_wp2_with fail
                            go_ret
                            exact ⟨by rw [HF.out]; rfl, HB5.out⟩
                          | true =>
                            have HTN := hid (HXY.out (HE2.out rfl))
                            go_wp2_with fail
                            go_at_call 70
                            refine HS2.out.mono ?_
                            rintro _ w5 ⟨rfl, hb5⟩
                            have HB5 := hid (HBB2.out.trans (hb5.mono HBB2.out.size))
                            clear hb5
                            go_wp2_with fail
                            go_roundw
                            case rel => exact ⟨j + 1, hlt, by go_num, HTN, HB5⟩
                            case measure => simp [intOf]; omega))
                    · have HF := hid (HXN.out (HN4.out e3))
                      cases xe
                      all_goals (
                        cases xd
                        all_goals (
                          cases yd
                          all_goals first
                            | exact absurd rfl e3
                            | (clear e3
                               go_wp2_with fail
                               go_ret
                               exact ⟨by rw [HF.out]; rfl, HBE.out⟩)))
                  · have HF := hid (HXN.out (HN3.out e2))
                    cases xe
                    all_goals (
                      cases ye
                      all_goals first
                        | exact absurd rfl e2
                        | (clear e2
                           go_wp2_with fail
                           go_ret
                           exact ⟨by rw [HF.out]; rfl, HBE.out⟩))
                · have g1 : (xs != ys) = true := by rw [bne_iff_ne]; exact e1
                  have HF := hid (HXN.out (HN2.out e1))
                  clear e0 e1
                  go_wp2_with fail
                  go_ret
                  exact ⟨by rw [HF.out]; rfl, HBE.out⟩
              · have g0 : (xa != ya) = true := by rw [bne_iff_ne]; exact e0
                have HF := hid (HXN.out (HN1.out e0))
                clear e0
                go_wp2_with fail
                go_ret
                exact ⟨by rw [HF.out]; rfl, HBE.out⟩
            · have hje : j = na := by omega
              subst hje
              have HFIN := hid (show Cf.sameR a b = true from by
                rw [HCF.out]
                refine decide_eq_true ?_
                have := HT.out
                rw [← HNA.out, List.take_length, HNA.out, HNN.out, ← HNB.out, List.take_length] at this
                exact this)
              go_wp2_with fail
              go_ret
              exact ⟨by rw [HFIN.out]; rfl, HB1.out.trans (HI.out.mono HB1.out.size)⟩
        · have f3 : ((na : Int) != (nb : Int)) = true := by rw [bne_iff_ne]; omega
          have f3n : (na != nb) = true := by rw [bne_iff_ne]; exact hnn
          have HFIN := hid (show Cf.sameR a b = false from by
            rw [HCF.out]
            exact decide_eq_false (fun e => hnn (by rw [← HNA.out, ← HNB.out, e])))
          clear hnn
          go_wp2_with fail
          go_ret
          exact ⟨by rw [HFIN.out]; rfl, HB1.out.trans (HBW.out.mono HB1.out.size)⟩
      · have f2 : (ka != 0) = true := by rw [bne_iff_ne]; exact hz
        have HF := hid (Cf.sameR_yes (a := a) (b := b) (by rw [HKX.out, HKY.out, HKE.out]) HAL.out (by rw [HKX.out]; exact hz))
        clear hz
        go_wp2_with fail
        go_at_call 41
        refine (HKA.out wc HBC.out).mono ?_
        rintro e wd ⟨rfl, hbd⟩
        have HBW := hid (HBC.out.trans (hbd.mono HBC.out.size))
        clear hbd s0 s1 s2 s3 s4 s5
        go_wp2_with fail
        go_ret
        exact ⟨by rw [HF.out]; rfl, HB1.out.trans (HBW.out.mono HB1.out.size)⟩
  · have f1 : (ka != kb) = true := by rw [bne_iff_ne]; exact hk
    have HF := hid (Cf.sameR_kind (a := a) (b := b) (by rw [HKX.out, HKY.out]; exact hk))
    rw [HF.out]
    clear hk
    go_enter Tryz.func42, Tryz.ntmps42
    go_upto_region 1 with fail
    rw [hw1.out]
    clear hw1
    obtain ⟨ws, hws⟩ : ∃ ws, Hid (w1.drew = ws) := ⟨_, hid rfl⟩
    rw [hws.out] at HBD
    refine wp_region_late (l := 13) (S := fun w' => w'.cell? ⟨w.heap.size, 0, none⟩ = some (.slice CA a.configs.length ca) ∧ w'.cell? ⟨w.heap.size, 1, none⟩ = some (.slice AA a.alts.length aa) ∧ w'.cell? ⟨w.heap.size, 2, none⟩ = some (.bool a.over) ∧ w'.cell? ⟨w.heap.size + 1, 0, none⟩ = some (.slice CB b.configs.length cb) ∧ w'.cell? ⟨w.heap.size + 1, 1, none⟩ = some (.slice AB b.alts.length ab) ∧ w'.cell? ⟨w.heap.size + 1, 2, none⟩ = some (.bool b.over)) (by kernel_rfl) (by rw [hws.out]; exact HST.out ws HBD.out) (fun hHeld => ?_)
    rw [hws.out] at hHeld ⊢
    clear p0 p1 p2 q0 q1 q2
    refine wpAnyF_take (i := 0) (.agg #[.slice CA a.configs.length ca, .slice AA a.alts.length aa, .bool a.over]) rfl (by kernel_rfl) (by kernel_rfl) (by kernel_rfl) (by kernel_rfl) (fun _ _ _ h => h) hHeld (by rfl) (fun w' hSw => ?_) ?_
    · obtain ⟨s0, s1, s2, s3, s4, s5⟩ := hSw; go_simp
    simp only [Act.put, List.getElem_toArray, List.getElem_cons_zero, List.setIfInBounds_toArray, List.set_cons_zero, List.set_cons_succ]
    refine wpAnyF_take (i := 2) (.agg #[.slice CB b.configs.length cb, .slice AB b.alts.length ab, .bool b.over]) rfl (by kernel_rfl) (by kernel_rfl) (by kernel_rfl) (by kernel_rfl) (fun _ _ _ h => h) hHeld (by rfl) (fun w' hSw => ?_) ?_
    · obtain ⟨s0, s1, s2, s3, s4, s5⟩ := hSw; go_simp
    try simp only [Act.put, List.getElem_toArray, List.getElem_cons_zero, List.getElem_cons_succ, List.setIfInBounds_toArray, List.set_cons_zero, List.set_cons_succ]
    refine wpAnyF_step 1 (by kernel_rfl) rfl (fun K hK => ?_)
    go_simp
    go_at_call 41
    refine (HKA.out ws HBD.out).mono ?_
    rintro e wa ⟨rfl, hba⟩
    have HBA := hid (HBD.out.trans (hba.mono HBD.out.size))
    clear hba
    dsimp only
    refine hK _ _ (HST.out _ HBA.out) (fun hHeld => ?_)
    clear hK
    clear K
    try simp only [Act.put, List.getElem_toArray, List.getElem_cons_zero, List.getElem_cons_succ, List.setIfInBounds_toArray, List.set_cons_zero, List.set_cons_succ]
    refine wpAnyF_step 3 (by kernel_rfl) rfl (fun K hK => ?_)
    go_simp
    go_at_call 41
    refine (HKB.out wa HBA.out).mono ?_
    rintro e wb ⟨rfl, hbb⟩
    have HBB := hid (HBA.out.trans (hbb.mono HBA.out.size))
    clear hbb
    dsimp only
    refine hK _ _ (HST.out _ HBB.out) (fun hHeld => ?_)
    clear hK
    clear K
    try simp only [Act.put, List.getElem_toArray, List.getElem_cons_zero, List.getElem_cons_succ, List.setIfInBounds_toArray, List.set_cons_zero, List.set_cons_succ]
    refine wpAnyF_take (i := 4) (.bool true) rfl (by kernel_rfl) (by kernel_rfl) (by kernel_rfl) (by kernel_rfl) (fun _ _ _ h => h) hHeld (by rfl) (fun w' hSw => ?_) ?_
    · obtain ⟨s0, s1, s2, s3, s4, s5⟩ := hSw; go_simp
    try simp only [Act.put, List.getElem_toArray, List.getElem_cons_zero, List.getElem_cons_succ, List.setIfInBounds_toArray, List.set_cons_zero, List.set_cons_succ]
    refine wpAnyF_take (i := 5) (.bool true) rfl (by kernel_rfl) (by kernel_rfl) (by kernel_rfl) (by kernel_rfl) (fun _ _ _ h => h) hHeld (by rfl) (fun w' hSw => ?_) ?_
    · obtain ⟨s0, s1, s2, s3, s4, s5⟩ := hSw; go_simp
    try simp only [Act.put, List.getElem_toArray, List.getElem_cons_zero, List.getElem_cons_succ, List.setIfInBounds_toArray, List.set_cons_zero, List.set_cons_succ]
    refine wpAnyF_pass (i := 6) rfl (by kernel_rfl) (by kernel_rfl) (by kernel_rfl) (by kernel_rfl) (fun _ _ _ h => h) hHeld (by rfl) ?_
    try simp only [Act.put, List.getElem_toArray, List.getElem_cons_zero, List.getElem_cons_succ, List.setIfInBounds_toArray, List.set_cons_zero, List.set_cons_succ]
    refine wpAnyF_pass (i := 7) rfl (by kernel_rfl) (by kernel_rfl) (by kernel_rfl) (by kernel_rfl) (fun _ _ _ h => h) hHeld (by rfl) ?_
    try simp only [Act.put, List.getElem_toArray, List.getElem_cons_zero, List.getElem_cons_succ, List.setIfInBounds_toArray, List.set_cons_zero, List.set_cons_succ]
    refine wpAnyF_pass (i := 8) rfl (by kernel_rfl) (by kernel_rfl) (by kernel_rfl) (by kernel_rfl) (fun _ _ _ h => h) hHeld (by rfl) ?_
    try simp only [Act.put, List.getElem_toArray, List.getElem_cons_zero, List.getElem_cons_succ, List.setIfInBounds_toArray, List.set_cons_zero, List.set_cons_succ]
    refine wpAnyF_pass (i := 9) rfl (by kernel_rfl) (by kernel_rfl) (by kernel_rfl) (by kernel_rfl) (fun _ _ _ h => h) hHeld (by rfl) ?_
    try simp only [Act.put, List.getElem_toArray, List.getElem_cons_zero, List.getElem_cons_succ, List.setIfInBounds_toArray, List.set_cons_zero, List.set_cons_succ]
    refine wpAnyF_pass (i := 10) rfl (by kernel_rfl) (by kernel_rfl) (by kernel_rfl) (by kernel_rfl) (fun _ _ _ h => h) hHeld (by rfl) ?_
    try simp only [Act.put, List.getElem_toArray, List.getElem_cons_zero, List.getElem_cons_succ, List.setIfInBounds_toArray, List.set_cons_zero, List.set_cons_succ]
    refine wpAnyF_pass (i := 11) rfl (by kernel_rfl) (by kernel_rfl) (by kernel_rfl) (by kernel_rfl) (fun _ _ _ h => h) hHeld (by rfl) ?_
    try simp only [Act.put, List.getElem_toArray, List.getElem_cons_zero, List.getElem_cons_succ, List.setIfInBounds_toArray, List.set_cons_zero, List.set_cons_succ]
    refine wpAnyF_take (i := 12) (.bool true) rfl (by kernel_rfl) (by kernel_rfl) (by kernel_rfl) (by kernel_rfl) (fun _ _ _ h => h) hHeld (by rfl) (fun w' hSw => ?_) ?_
    · obtain ⟨s0, s1, s2, s3, s4, s5⟩ := hSw; go_simp
    try simp only [Act.put, List.getElem_toArray, List.getElem_cons_zero, List.getElem_cons_succ, List.setIfInBounds_toArray, List.set_cons_zero, List.set_cons_succ]
    clear hHeld
    refine ⟨by kernel_rfl, ?_⟩
    go_wp2_with fail
    go_ret
    exact ⟨rfl, HB1.out.trans (HBB.out.mono HB1.out.size)⟩
end Go.Proofs.YtnpcjbdolmmaeaaGreatDoor
namespace Go.Proofs.YtnpcjbdolmmaeaaGreatDoor
namespace Cf
open Drv
def MkS (v : Vw) (s : St) : Prop := (∃ l, IsSet v l s) ∨ s = ⟨[], [], false⟩
theorem MkS.alts {v : Vw} {s : St} (h : MkS v s) (ho : s.over = false) : Alts s.configs s.alts := by
  rcases h with ⟨l, h⟩ | rfl
  · unfold IsSet at h
    split at h
    · rw [ho] at h
      exact absurd h.2.1 (by decide)
    · exact h.2.2
  · exact ⟨List.Pairwise.nil, fun a => by simp⟩
theorem kind0_over {s : St} (h : kindS s = 0) : s.over = false := by
  unfold kindS at h
  split at h
  · omega
  · split at h
    · omega
    · split at h
      · omega
      · next h3 =>
        cases ho : s.over with
        | false => rfl
        | true => exact absurd (.inl ho) h3
theorem sameR_eq {v : Vw} {a b : St} (ha : MkS v a) (hb : MkS v b) : sameR a b = sameS a b := by
  unfold sameR sameS
  by_cases hk : kindS a = kindS b
  · rw [decide_eq_true hk, Bool.true_and, Bool.true_and]
    by_cases h0 : kindS a = 0
    · rw [if_pos h0, if_pos h0]
      by_cases hc : a.configs = b.configs
      · have h1 := ha.alts (kind0_over h0)
        have h2 := hb.alts (kind0_over (hk ▸ h0))
        rw [← hc] at h2
        rw [decide_eq_true (h1.unique h2), Bool.true_and]
      · rw [decide_eq_false hc, Bool.and_false]
    · rw [if_neg h0, if_neg h0, Bool.and_true]
  · rw [decide_eq_false hk, Bool.false_and, Bool.false_and]
    rfl
end Cf
end Go.Proofs.YtnpcjbdolmmaeaaGreatDoor
namespace Go.Proofs.YtnpcjbdolmmaeaaGreatDoor
namespace Cf
open Drv
def AutS (l : List LSt) : Prop := ∀ y ∈ l, 0 ≤ y.kind ∧ y.kind ≤ 3 ∧ y.alts.length ≤ 1000000 ∧ y.edges.length ≤ 1000000
theorem AutS.snoc {l : List LSt} {y : LSt} (h : AutS l) (hy : 0 ≤ y.kind ∧ y.kind ≤ 3 ∧ y.alts.length ≤ 1000000 ∧ y.edges.length ≤ 1000000) : AutS (l ++ [y]) := fun x hx => by
  rcases List.mem_append.1 hx with h1 | h1
  · exact h x h1
  · rw [List.mem_singleton.1 h1]; exact hy
theorem AutS.fresh {v : Vw} {s : St} (h : OkS v s) (he : v.d.ends.length ≤ 1000000) : 0 ≤ (freshL s).kind ∧ (freshL s).kind ≤ 3 ∧ (freshL s).alts.length ≤ 1000000 ∧ (freshL s).edges.length ≤ 1000000 := by
  have hk := kindS_le s
  have hf := h.few
  unfold freshL
  dsimp only
  refine ⟨hk.1, hk.2, ?_, by simp⟩
  split
  · simp
  · omega
theorem AutS.tryAll {v : Vw} (he : v.d.ends.length ≤ 1000000) : AutS (tryAll v) := fun y hy => by
  unfold Cf.tryAll at hy
  rw [List.mem_singleton.1 hy]
  simpa using he
structure RbE (v : Vw) (s : St) (budget tokens : Nat) (sets : List St) (j : Nat) (sj : List St) (oj : List (Int × Int)) : Prop where
  run : sj.length ≤ budget → edgesF v s budget (toks tokens) sets [] = edgesF v s budget ((toks tokens).drop j) sj oj
  full : budget < sj.length → edgesF v s budget (toks tokens) sets [] = none
  pre : ∃ r, sj = sets ++ r
  len : sj.length ≤ budget + 1
  few : oj.length ≤ j
  ok : ∀ x ∈ sj, OkS v x ∧ MkS v x
theorem RbE.start {v : Vw} {s : St} {budget tokens : Nat} {sets : List St} (h : sets.length ≤ budget) (hok : ∀ x ∈ sets, OkS v x ∧ MkS v x) : RbE v s budget tokens sets 0 sets [] :=
  ⟨fun _ => by rw [List.drop_zero], fun h2 => by omega, ⟨[], by simp⟩, by omega, Nat.zero_le _, hok⟩
theorem RbE.skip {v : Vw} {s : St} {budget tokens : Nat} {sets sj : List St} {j : Nat} {oj : List (Int × Int)} (h : RbE v s budget tokens sets j sj oj) (hj : j < tokens + 1) (hb : sj.length ≤ budget) (h0 : (moveF v s ((j : Int) - 1)).alts.length = 0) : RbE v s budget tokens sets (j + 1) sj oj :=
  ⟨fun hl => by rw [h.run hl, toks_at tokens j hj, edgesF_cons, if_pos h0], fun h2 => by omega, h.pre, h.len, Nat.le_succ_of_le h.few, h.ok⟩
theorem RbE.old {v : Vw} {s : St} {budget tokens : Nat} {sets sj : List St} {j k : Nat} {oj : List (Int × Int)} (h : RbE v s budget tokens sets j sj oj) (hj : j < tokens + 1) (hb : sj.length ≤ budget) (h0 : ¬ (moveF v s ((j : Int) - 1)).alts.length = 0) (hf : findS sj (moveF v s ((j : Int) - 1)) = some k) : RbE v s budget tokens sets (j + 1) sj (oj ++ [((j : Int) - 1, (k : Int))]) :=
  ⟨fun hl => by rw [h.run hl, toks_at tokens j hj, edgesF_cons, if_neg h0, hf], fun h2 => by omega, h.pre, h.len, by rw [List.length_append]; have := h.few; simp; omega, h.ok⟩
theorem RbE.push {v : Vw} {s : St} {budget tokens : Nat} {sets sj : List St} {j : Nat} {oj : List (Int × Int)} (h : RbE v s budget tokens sets j sj oj) (hj : j < tokens + 1) (hb : sj.length ≤ budget) (h0 : ¬ (moveF v s ((j : Int) - 1)).alts.length = 0) (hf : findS sj (moveF v s ((j : Int) - 1)) = none) (hx : OkS v (moveF v s ((j : Int) - 1)) ∧ MkS v (moveF v s ((j : Int) - 1))) : RbE v s budget tokens sets (j + 1) (sj ++ [moveF v s ((j : Int) - 1)]) (oj ++ [((j : Int) - 1, (sj.length : Int))]) := by
  have hl : (sj ++ [moveF v s ((j : Int) - 1)]).length = sj.length + 1 := by simp
  refine ⟨fun h2 => ?_, fun h2 => ?_, ?_, by omega, by rw [List.length_append]; have := h.few; simp; omega, fun x hx2 => ?_⟩
  · rw [h.run hb, toks_at tokens j hj, edgesF_cons, if_neg h0, hf]
    simp only
    rw [if_neg (by omega)]
  · rw [h.run hb, toks_at tokens j hj, edgesF_cons, if_neg h0, hf]
    simp only
    rw [if_pos (by omega)]
  · obtain ⟨r, hr⟩ := h.pre
    exact ⟨r ++ [moveF v s ((j : Int) - 1)], by rw [hr, List.append_assoc]⟩
  · rcases List.mem_append.1 hx2 with h3 | h3
    · exact h.ok x h3
    · rw [List.mem_singleton.1 h3]; exact hx
theorem RbE.done {v : Vw} {s : St} {budget tokens : Nat} {sets sj : List St} {j : Nat} {oj : List (Int × Int)} (h : RbE v s budget tokens sets j sj oj) (hj : j = tokens + 1) (hb : sj.length ≤ budget) : edgesF v s budget (toks tokens) sets [] = some (sj, oj) := by
  rw [h.run hb, hj, toks_end]; rfl
structure RbB (v : Vw) (budget tokens i : Nat) (sets : List St) (done : List LSt) : Prop where
  run : sets.length ≤ budget → buildF v budget (toks tokens) (budget + 1) 0 [startF v] [] = buildF v budget (toks tokens) (budget + 1 - i) i sets done
  full : budget < sets.length → buildF v budget (toks tokens) (budget + 1) 0 [startF v] [] = none
  dl : done.length = i
  le : i ≤ sets.length
  len : sets.length ≤ budget + 1
  ok : ∀ x ∈ sets, OkS v x ∧ MkS v x
  small : AutS done
theorem RbB.next {v : Vw} {budget tokens i j : Nat} {sets sj : List St} {done : List LSt} {oj : List (Int × Int)} (h : RbB v budget tokens i sets done) (hi : i < sets.length) (hb : sets.length ≤ budget) (hk : kindS sets[i] = 0) (e : RbE v sets[i] budget tokens sets j sj oj) (hj : sj.length ≤ budget → j = tokens + 1) (hj2 : oj.length ≤ 1000000) : RbB v budget tokens (i + 1) sj (done ++ [⟨0, [], oj⟩]) := by
  obtain ⟨r, hr⟩ := e.pre
  have hls : sets.length ≤ sj.length := by rw [hr, List.length_append]; omega
  have hs : buildF v budget (toks tokens) (budget + 1 - i) i sets done = (match edgesF v sets[i] budget (toks tokens) sets [] with
        | none => none
        | some (sets', out) => buildF v budget (toks tokens) (budget + 1 - (i + 1)) (i + 1) sets' (done ++ [⟨0, [], out⟩])) := by
    rw [show budget + 1 - i = (budget + 1 - (i + 1)) + 1 by omega, buildF_at (List.getElem?_eq_getElem hi), if_pos hk]
    cases edgesF v sets[i] budget (toks tokens) sets [] <;> rfl
  refine ⟨fun h2 => ?_, fun h2 => ?_, by rw [List.length_append, h.dl]; rfl, by omega, e.len, e.ok, h.small.snoc ⟨Int.le_refl _, by show (0 : Int) ≤ 3; decide, Nat.zero_le _, hj2⟩⟩
  · rw [h.run hb, hs, e.done (hj h2) h2]
  · rw [h.run hb, hs, e.full h2]
theorem RbB.skip {v : Vw} {budget tokens i : Nat} {sets : List St} {done : List LSt} (h : RbB v budget tokens i sets done) (hi : i < sets.length) (hb : sets.length ≤ budget) (hk : ¬ kindS sets[i] = 0) (he : v.d.ends.length ≤ 1000000) : RbB v budget tokens (i + 1) sets (done ++ [freshL sets[i]]) := by
  refine ⟨fun _ => ?_, fun h2 => by omega, by rw [List.length_append, h.dl]; rfl, hi, h.len, h.ok, h.small.snoc (AutS.fresh (h.ok _ (List.getElem_mem hi)).1 he)⟩
  rw [h.run hb, show budget + 1 - i = (budget + 1 - (i + 1)) + 1 by omega, buildF_at (List.getElem?_eq_getElem hi), if_neg hk]
theorem RbB.auto_full {v : Vw} {budget tokens i : Nat} {sets : List St} {done : List LSt} (h : RbB v budget tokens i sets done) (hb : budget < sets.length) : autoF v budget tokens = tryAll v := by
  unfold autoF
  rw [h.full hb]; rfl
theorem RbB.auto_done {v : Vw} {budget tokens i : Nat} {sets : List St} {done : List LSt} (h : RbB v budget tokens i sets done) (hb : sets.length ≤ budget) (hi : ¬ i < sets.length) : autoF v budget tokens = done := by
  unfold autoF
  rw [h.run hb, buildF_end (by omega)]; rfl
end Cf
end Go.Proofs.YtnpcjbdolmmaeaaGreatDoor
namespace Go.Proofs.YtnpcjbdolmmaeaaGreatDoor
open Go.RowKit
set_option maxRecDepth 100000
def RsVs (w : World) (S : Nat → Prop) : List Cf.St → List Value → Prop
  | [], vs => vs = []
  | s :: l, vs => ∃ CA ca AA aa b, vs = (cellsR CA AA ca aa s).toList ++ b ∧ CfR w S CA s.configs ∧ RO w S 1 AA s.alts.length (s.alts.map (Value.int .i64)) ∧ RsVs w S l b
theorem RsVs.only {w w' : World} {S S' : Nat → Prop} (ho : Only S w w') (hS : ∀ b, b < w.heap.size → S' b → S b) : ∀ {l : List Cf.St} {vs : List Value}, RsVs w S l vs → RsVs w' S' l vs
  | [], _, h => h
  | _ :: _, _, h => by
    obtain ⟨CA, ca, AA, aa, b, e, h1, h2, h3⟩ := h
    exact ⟨CA, ca, AA, aa, b, e, h1.only ho hS, h2.only ho hS, RsVs.only ho hS h3⟩
theorem RsVs.snoc {w : World} {S : Nat → Prop} {s : Cf.St} {CA AA : Option Addr} {ca aa : Nat} (h1 : CfR w S CA s.configs) (h2 : RO w S 1 AA s.alts.length (s.alts.map (Value.int .i64))) : ∀ {l : List Cf.St} {vs : List Value}, RsVs w S l vs → RsVs w S (l ++ [s]) (vs ++ (cellsR CA AA ca aa s).toList)
  | [], _, h => ⟨CA, ca, AA, aa, [], by rw [show _ = ([] : List Value) from h]; simp, h1, h2, rfl⟩
  | _ :: _, _, h => by
    obtain ⟨C1, c1, A1, a1, b, e, k1, k2, k3⟩ := h
    exact ⟨C1, c1, A1, a1, b ++ (cellsR CA AA ca aa s).toList, by rw [e, List.append_assoc], k1, k2, RsVs.snoc h1 h2 k3⟩
theorem RsVs.at {w : World} {S : Nat → Prop} : ∀ {l : List Cf.St} {vs : List Value}, RsVs w S l vs → ∀ (i : Nat) (hi : i < l.length), ∃ CA ca AA aa, CfR w S CA l[i].configs ∧ RO w S 1 AA l[i].alts.length (l[i].alts.map (Value.int .i64)) ∧ vs[i*3]? = some (.slice CA l[i].configs.length ca) ∧ vs[i*3+1]? = some (.slice AA l[i].alts.length aa) ∧ vs[i*3+2]? = some (.bool l[i].over)
  | [], _, _, _, hi => absurd hi (Nat.not_lt_zero _)
  | s :: l, vs, h, i, hi => by
    obtain ⟨CA, ca, AA, aa, b, e, h1, h2, h3⟩ := h
    cases i with
    | zero => exact ⟨CA, ca, AA, aa, h1, h2, by rw [e]; rfl, by rw [e]; rfl, by rw [e]; rfl⟩
    | succ i =>
      obtain ⟨C', c', A', a', k1, k2, k4, k5, k6⟩ := h3.at i (by simpa using hi)
      have hx : ∀ k, vs[(i + 1) * 3 + k]? = b[i * 3 + k]? := fun k => by
        rw [e, List.getElem?_append_right (by show 3 ≤ _; omega)]
        rw [show (i + 1) * 3 + k - ((cellsR CA AA ca aa s).toList).length = i * 3 + k by show (i + 1) * 3 + k - 3 = _; omega]
      exact ⟨C', c', A', a', k1, k2, by have := hx 0; rw [Nat.add_zero, Nat.add_zero] at this; rw [this]; exact k4, by rw [hx 1]; exact k5, by rw [hx 2]; exact k6⟩
def LsR (w : World) (B E : Nat) (x : Drv.LSt) (vs : List Value) : Prop := ∃ AA ac EA ec, vs = [.int .i64 x.kind, .slice AA x.alts.length ac, .slice EA x.edges.length ec] ∧ OwnC w B 3 1 (.slice AA x.alts.length ac) x.alts.length (x.alts.map (Value.int .i64)) ∧ OwnC w B 121 2 (.slice EA x.edges.length ec) x.edges.length (flat encL2 x.edges) ∧ ∀ k, (Value.slice EA x.edges.length ec).ownBlock = some k → k < E
def LsRs (w : World) (B E : Nat) : List Drv.LSt → List Value → Prop
  | [], vs => vs = []
  | x :: l, vs => ∃ a b, vs = a ++ b ∧ LsR w B E x a ∧ LsRs w B E l b
theorem LsRs.only {w w' : World} {B E E' : Nat} {S : Nat → Prop} (ho : Only S w w') (hS : ∀ k, S k → (∀ cs, w.heap[k]? ≠ some (.cells cs 3 (0, 0))) ∧ (E ≤ k ∨ ∀ cs, w.heap[k]? ≠ some (.cells cs 121 (0, 0)))) (hE : E ≤ E') : ∀ {l : List Drv.LSt} {vs : List Value}, LsRs w B E l vs → LsRs w' B E' l vs
  | [], _, h => h
  | _ :: _, _, h => by
    obtain ⟨a, b, e, ⟨AA, ac, EA, ec, ea, h1, h2, h3⟩, h4⟩ := h
    refine ⟨a, b, e, ⟨AA, ac, EA, ec, ea, ownC_only h1 ho (fun k hk hs => ?_), ownC_only h2 ho (fun k hk hs => ?_), fun k hk => Nat.lt_of_lt_of_le (h3 k hk) hE⟩, LsRs.only ho hS hE h4⟩
    · obtain ⟨c1, e1⟩ := ownC_cells h1 hk
      exact (hS k hs).1 c1 e1
    · obtain ⟨c1, e1⟩ := ownC_cells h2 hk
      have := h3 k hk
      rcases (hS k hs).2 with h5 | h5
      · omega
      · exact h5 c1 e1
theorem LsRs.snoc {w : World} {B E : Nat} {x : Drv.LSt} {vx : List Value} (hx : LsR w B E x vx) : ∀ {l : List Drv.LSt} {vs : List Value}, LsRs w B E l vs → LsRs w B E (l ++ [x]) (vs ++ vx)
  | [], _, h => ⟨vx, [], by rw [show _ = ([] : List Value) from h]; simp, hx, rfl⟩
  | _ :: _, _, h => by
    obtain ⟨a, b, e, h1, h2⟩ := h
    exact ⟨a, b ++ vx, by rw [e, List.append_assoc], h1, LsRs.snoc hx h2⟩
def AutR (w : World) (B : Nat) (A : Option Addr) (c : Nat) (l : List Drv.LSt) : Prop := ∃ vs E, OwnC w B 119 3 (.slice A l.length c) l.length vs ∧ LsRs w B E l vs
end Go.Proofs.YtnpcjbdolmmaeaaGreatDoor
namespace Go.Proofs.YtnpcjbdolmmaeaaGreatDoor
namespace Cf
theorem findS_at {l : List St} {x : St} {k : Nat} (hk : k < l.length) (h1 : sameS l[k] x = true) (h2 : ∀ j (hj : j < k), sameS (l[j]'(by omega)) x = false) : findS l x = some k := by
  unfold findS
  rw [List.findIdx?_eq_some_iff_getElem]
  exact ⟨hk, h1, fun j hj => by rw [h2 j hj]; decide⟩
theorem findS_no {l : List St} {x : St} (h : ∀ j (hj : j < l.length), sameS l[j] x = false) : findS l x = none := by
  unfold findS
  rw [List.findIdx?_eq_none_iff]
  intro s hs
  obtain ⟨j, hj, rfl⟩ := List.getElem_of_mem hs
  exact h j hj
end Cf
open Go.RowKit
set_option maxRecDepth 100000
def SB (O X : Nat) (sv av ev : Value) : Nat → Prop := fun k => k = O ∨ k = X ∨ sv.ownBlock = some k ∨ av.ownBlock = some k ∨ ev.ownBlock = some k
theorem LsRs.own {w : World} {B E : Nat} : ∀ {l : List Drv.LSt} {vs : List Value}, LsRs w B E l vs → LsRs w B w.heap.size l vs
  | [], _, h => h
  | _ :: _, _, h => by
    obtain ⟨a, b, e, ⟨AA, ac, EA, ec, ea, h1, h2, h3⟩, h4⟩ := h
    exact ⟨a, b, e, ⟨AA, ac, EA, ec, ea, h1, h2, fun k hk => (ownC_lt h2 k hk).2⟩, LsRs.own h4⟩
theorem LsRs.base {w : World} {B B' E : Nat} (hB : B' ≤ B) : ∀ {l : List Drv.LSt} {vs : List Value}, LsRs w B E l vs → LsRs w B' E l vs
  | [], _, h => h
  | _ :: _, _, h => by
    obtain ⟨a, b, e, ⟨AA, ac, EA, ec, ea, k1, k2, k3⟩, h4⟩ := h
    exact ⟨a, b, e, ⟨AA, ac, EA, ec, ea, k1.base hB, k2.base hB, k3⟩, LsRs.base hB h4⟩
structure RbW (w : World) (B O X E : Nat) (sv av ev : Value) (sets : List Cf.St) (done : List Drv.LSt) : Prop where
  blk : w.heap[O]? = some (.cells #[av] 62 (0, 0))
  sown : ∃ ss, w.ownsRow B 47 3 sv sets.length ss ∧ RsVs w (SB O X sv av ev) sets ss
  aown : ∃ rs, w.ownsRow B 119 3 av done.length rs ∧ LsRs w B E done rs
  lt : ∀ k, SB O X sv av ev k → k < w.heap.size
  ge : B ≤ O
  hB : B ≤ w.heap.size
theorem notC {w : World} {k : Nat} {cs : Array Value} {T T' : TypeId} (h : w.heap[k]? = some (.cells cs T (0, 0))) (hne : T ≠ T') : ∀ c2, w.heap[k]? ≠ some (.cells c2 T' (0, 0)) := fun _ e => hne (type_eq h e)
section
variable {w w' : World} {B O X E : Nat} {sv av ev : Value} {sets : List Cf.St} {done : List Drv.LSt}
theorem RbW.turn {X' : Nat} {ev' : Value} {T : Nat → Prop} (h : RbW w B O X E sv av ev sets done) (ho : Only T w w') (hT : ∀ k, T k → SB O X sv av ev k ∧ k ≠ O ∧ sv.ownBlock ≠ some k ∧ av.ownBlock ≠ some k ∧ (∀ cs, w.heap[k]? ≠ some (.cells cs 3 (0, 0))) ∧ (E ≤ k ∨ ∀ cs, w.heap[k]? ≠ some (.cells cs 121 (0, 0))))
    (hS : ∀ b, b < w.heap.size → SB O X' sv av ev' b → SB O X sv av ev b) (hl : ∀ k, k = X' ∨ ev'.ownBlock = some k → k < w'.heap.size) : RbW w' B O X' E sv av ev' sets done := by
  obtain ⟨ss, h1, h2⟩ := h.sown
  obtain ⟨rs, h3, h4⟩ := h.aown
  refine ⟨(ho.block _ (heap_lt h.blk) (fun e => (hT _ e).2.1 rfl)).trans h.blk, ⟨ss, ownsRow_only h1 ho (fun k hk e => (hT k e).2.2.1 hk), h2.only (ho.more fun k _ e => (hT k e).1) hS⟩, ⟨rs, ownsRow_only h3 ho (fun k hk e => (hT k e).2.2.2.1 hk), h4.only ho (fun k e => (hT k e).2.2.2.2) (Nat.le_refl _)⟩, ?_, h.ge, Nat.le_trans h.hB ho.size⟩
  intro k hk
  rcases hk with e | e | e | e | e
  · exact Nat.lt_of_lt_of_le (h.lt k (.inl e)) ho.size
  · exact hl k (.inl e)
  · exact Nat.lt_of_lt_of_le (h.lt k (.inr (.inr (.inl e)))) ho.size
  · exact Nat.lt_of_lt_of_le (h.lt k (.inr (.inr (.inr (.inl e))))) ho.size
  · exact hl k (.inr e)
theorem RbW.below (h : RbW w B O X E sv av ev sets done) (hb : Below w.heap.size w w') : RbW w' B O X E sv av ev sets done :=
  h.turn (Only.of_below (S := fun _ => False) hb) (fun _ e => e.elim) (fun _ _ e => e) fun k e => Nat.lt_of_lt_of_le (h.lt k (e.elim (fun e => .inr (.inl e)) fun e => .inr (.inr (.inr (.inr e))))) hb.size
theorem RbW.begin (h : RbW w B O O E sv av (.slice none 0 0) sets done) (hb : Below w.heap.size w w') {x : Nat} (hx : w.heap.size ≤ x) (hx' : x < w'.heap.size) : RbW w' B O x w.heap.size sv av (.slice none 0 0) sets done := by
  obtain ⟨rs, h3, h4⟩ := h.aown
  have h' : RbW w B O O w.heap.size sv av (.slice none 0 0) sets done := ⟨h.blk, h.sown, ⟨rs, h3, h4.own⟩, h.lt, h.ge, h.hB⟩
  refine h'.turn (Only.of_below (S := fun _ => False) hb) (fun _ e => e.elim) (fun b hb e => ?_) fun k e => ?_
  · rcases e with e | e | e | e | e
    · exact .inl e
    · omega
    · exact .inr (.inr (.inl e))
    · exact .inr (.inr (.inr (.inl e)))
    · exact .inr (.inr (.inr (.inr e)))
  · rcases e with e | e
    · omega
    · cases e
theorem RbW.setX (h : RbW w B O X E sv av ev sets done) {cs : Array Value} (hx : w.heap[X]? = some (.cells cs 119 (0, 0))) (hn : av.ownBlock ≠ some X) (ho : Only (fun k => k = X) w w') : RbW w' B O X E sv av ev sets done := by
  obtain ⟨ss, h1, _⟩ := h.sown
  refine h.turn ho (fun k e => ?_) (fun _ _ e => e) fun k e => Nat.lt_of_lt_of_le (h.lt k (e.elim (fun e => .inr (.inl e)) fun e => .inr (.inr (.inr (.inr e))))) ho.size
  subst e
  exact ⟨.inr (.inl rfl), fun e => by have hb := h.blk; rw [← e] at hb; exact absurd (type_eq hx hb) (by decide), fun e => by
    obtain ⟨c1, e1⟩ := own_type h1 e
    exact absurd (type_eq hx e1) (by decide), hn, notC hx (by decide), .inr (notC hx (by decide))⟩
theorem RbW.edge (h : RbW w B O X E sv av ev sets done) {n : Nat} {xs : List Value} (hown : w.ownsRow E 121 2 ev n xs) (ho : Only (fun k => ev.ownBlock = some k) w w') {g c m : Nat} (hg : ev.ownBlock = some g ∨ w.heap.size < g) (hg' : g < w'.heap.size) : RbW w' B O X E sv av (.slice (some ⟨g, 0, none⟩) m c) sets done := by
  obtain ⟨ss, h1, _⟩ := h.sown
  obtain ⟨rs, h3, _⟩ := h.aown
  refine h.turn ho (fun k e => ?_) (fun b hb e => ?_) fun k e => ?_
  · obtain ⟨c1, e1⟩ := own_type hown e
    refine ⟨.inr (.inr (.inr (.inr e))), fun e2 => ?_, fun e2 => ?_, fun e2 => ?_, notC e1 (by decide), .inl (hown.lt k e).1⟩
    · subst e2; exact absurd (type_eq e1 h.blk) (by decide)
    · obtain ⟨c2, e3⟩ := own_type h1 e2
      exact absurd (type_eq e1 e3) (by decide)
    · obtain ⟨c2, e3⟩ := own_type h3 e2
      exact absurd (type_eq e1 e3) (by decide)
  · rcases e with e | e | e | e | e
    · exact .inl e
    · exact .inr (.inl e)
    · exact .inr (.inr (.inl e))
    · exact .inr (.inr (.inr (.inl e)))
    · injection e with e
      have e : g = b := e
      subst e
      rcases hg with hg | hg
      · exact .inr (.inr (.inr (.inr hg)))
      · omega
  · rcases e with e | e
    · exact Nat.lt_of_lt_of_le (h.lt k (.inr (.inl e))) ho.size
    · injection e with e
      have e : g = k := e
      omega
theorem RbW.pushS (h : RbW w B O X E sv av ev sets done) {ss : List Value} (hown0 : w.ownsRow B 47 3 sv sets.length ss) (hvs : RsVs w (SB O X sv av ev) sets ss) {x : Cf.St} {CA AA : Option Addr} {ca aa : Nat} (h1 : CfR w (SB O X sv av ev) CA x.configs) (h2 : RO w (SB O X sv av ev) 1 AA x.alts.length (x.alts.map (Value.int .i64)))
    (ho : Only (fun k => sv.ownBlock = some k) w w') {g c : Nat} (hg : sv.ownBlock = some g ∨ w.heap.size < g) (hown : w'.ownsRow B 47 3 (.slice (some ⟨g, 0, none⟩) (sets.length + 1) c) (sets.length + 1) (ss ++ (cellsR CA AA ca aa x).toList)) :
    RbW w' B O X E (.slice (some ⟨g, 0, none⟩) (sets.length + 1) c) av ev (sets ++ [x]) done := by
  obtain ⟨rs, h3, h4⟩ := h.aown
  have hS : ∀ b, b < w.heap.size → SB O X (.slice (some ⟨g, 0, none⟩) (sets.length + 1) c) av ev b → SB O X sv av ev b := fun b hb e => by
    rcases e with e | e | e | e | e
    · exact .inl e
    · exact .inr (.inl e)
    · injection e with e
      have e : g = b := e
      subst e
      rcases hg with hg | hg
      · exact .inr (.inr (.inl hg))
      · omega
    · exact .inr (.inr (.inr (.inl e)))
    · exact .inr (.inr (.inr (.inr e)))
  have hgl := (hown.lt g rfl).2
  refine ⟨(ho.block _ (heap_lt h.blk) (fun e => ?_)).trans h.blk, ⟨ss ++ (cellsR CA AA ca aa x).toList, by rw [List.length_append]; exact hown, RsVs.only (ho.more fun k _ e => .inr (.inr (.inl e))) hS (RsVs.snoc h1 h2 hvs)⟩, ⟨rs, ownsRow_only h3 ho (fun k hk e => ?_), h4.only ho (fun k e => ?_) (Nat.le_refl _)⟩, fun k hk => ?_, h.ge, Nat.le_trans h.hB ho.size⟩
  · obtain ⟨c1, e1⟩ := own_type hown0 e
    exact absurd (type_eq e1 h.blk) (by decide)
  · obtain ⟨c1, e1⟩ := own_type hown0 e
    obtain ⟨c2, e2⟩ := own_type h3 hk
    exact absurd (type_eq e1 e2) (by decide)
  · obtain ⟨c1, e1⟩ := own_type hown0 e
    exact ⟨notC e1 (by decide), .inr (notC e1 (by decide))⟩
  · rcases hk with e | e | e | e | e
    · exact Nat.lt_of_lt_of_le (h.lt k (.inl e)) ho.size
    · exact Nat.lt_of_lt_of_le (h.lt k (.inr (.inl e))) ho.size
    · injection e with e
      have e : g = k := e
      omega
    · exact Nat.lt_of_lt_of_le (h.lt k (.inr (.inr (.inr (.inl e))))) ho.size
    · exact Nat.lt_of_lt_of_le (h.lt k (.inr (.inr (.inr (.inr e))))) ho.size
theorem RbW.pushA (h : RbW w B O X E sv av ev sets done) {rs : List Value} (hown0 : w.ownsRow B 119 3 av done.length rs) (hvs : LsRs w B E done rs) {x : Drv.LSt} {vx : List Value} {E' : Nat} (hx : LsR w B E' x vx) (hE : E ≤ E')
    (ho : Only (fun k => av.ownBlock = some k) w w') {g c : Nat} (hg : av.ownBlock = some g ∨ w.heap.size < g) (hown : w'.ownsRow B 119 3 (.slice (some ⟨g, 0, none⟩) (done.length + 1) c) (done.length + 1) (rs ++ vx)) :
    RbW (w'.setCell ⟨O, 0, none⟩ (.slice (some ⟨g, 0, none⟩) (done.length + 1) c)) B O O E' sv (.slice (some ⟨g, 0, none⟩) (done.length + 1) c) (.slice none 0 0) sets (done ++ [x]) := by
  obtain ⟨ss, h1, h2⟩ := h.sown
  have hO : w'.heap[O]? = some (.cells #[av] 62 (0, 0)) := (ho.block _ (heap_lt h.blk) (fun e => by
    obtain ⟨c1, e1⟩ := own_type hown0 e
    exact absurd (type_eq e1 h.blk) (by decide))).trans h.blk
  have ho2 := Only.of_set w' O 0 (.slice (some ⟨g, 0, none⟩) (done.length + 1) c)
  have hO2 := heap_setCell_same w' O 0 _ _ (.slice (some ⟨g, 0, none⟩) (done.length + 1) c) hO
  have ho3 : Only (fun k => k = O ∨ av.ownBlock = some k) w (w'.setCell ⟨O, 0, none⟩ (.slice (some ⟨g, 0, none⟩) (done.length + 1) c)) := (ho.more (S' := fun k => k = O ∨ av.ownBlock = some k) fun _ _ e => .inr e).trans ho2 fun _ _ e => .inl e
  have hgl := (hown.lt g rfl).2
  have hnot : ∀ k, k = O ∨ av.ownBlock = some k → ∃ cs T, w.heap[k]? = some (.cells cs T (0, 0)) ∧ T ≠ 3 ∧ T ≠ 121 ∧ T ≠ 47 := fun k e => by
    rcases e with e | e
    · subst e; exact ⟨_, _, h.blk, by decide, by decide, by decide⟩
    · obtain ⟨c1, e1⟩ := own_type hown0 e
      exact ⟨_, _, e1, by decide, by decide, by decide⟩
  refine ⟨hO2, ⟨ss, ownsRow_only h1 ho3 (fun k hk e => ?_), h2.only (ho3.more fun k _ e => ?_) (fun b hb e => ?_)⟩, ⟨rs ++ vx, ?_, ?_⟩, fun k hk => ?_, h.ge, Nat.le_trans h.hB ho3.size⟩
  · obtain ⟨c1, T, e1, _, _, e2⟩ := hnot k e
    obtain ⟨c2, e3⟩ := own_type h1 hk
    exact e2 (type_eq e1 e3)
  · rcases e with e | e
    · exact .inl e
    · exact .inr (.inr (.inr (.inl e)))
  · rcases e with e | e | e | e | e
    · exact .inl e
    · exact .inl e
    · exact .inr (.inr (.inl e))
    · injection e with e
      have e : g = b := e
      subst e
      rcases hg with hg | hg
      · exact .inr (.inr (.inr (.inl hg)))
      · omega
    · cases e
  · rw [List.length_append]
    exact ownsRow_only hown ho2 (fun k hk e => by
      obtain ⟨c1, e1⟩ := own_type hown hk
      rw [e] at e1
      exact absurd (type_eq e1 hO) (by decide))
  · refine LsRs.snoc ?_ (hvs.only ho3 (fun k e => ?_) hE)
    · obtain ⟨AA, ac, EA, ec, ea, k1, k2, k3⟩ := hx
      refine ⟨AA, ac, EA, ec, ea, ownC_only k1 ho3 (fun k hk e => ?_), ownC_only k2 ho3 (fun k hk e => ?_), k3⟩
      · obtain ⟨c1, T, e1, e2, _⟩ := hnot k e
        obtain ⟨c2, e3⟩ := ownC_cells k1 hk
        exact e2 (type_eq e1 e3)
      · obtain ⟨c1, T, e1, _, e2, _⟩ := hnot k e
        obtain ⟨c2, e3⟩ := ownC_cells k2 hk
        exact e2 (type_eq e1 e3)
    · obtain ⟨c1, T, e1, e2, e3, _⟩ := hnot k e
      exact ⟨notC e1 e2, .inr (notC e1 e3)⟩
  · have hs := ho3.size
    have hs2 := ho2.size
    rcases hk with e | e | e | e | e
    · exact Nat.lt_of_lt_of_le (h.lt k (.inl e)) hs
    · exact Nat.lt_of_lt_of_le (h.lt k (.inl e)) hs
    · exact Nat.lt_of_lt_of_le (h.lt k (.inr (.inr (.inl e)))) hs
    · injection e with e
      have e : g = k := e
      omega
    · cases e
end
structure RbX (w2 w : World) (B O X E : Nat) (sv av ev : Value) (sets : List Cf.St) (done : List Drv.LSt) (oj : List (Int × Int)) : Prop where
  st : RbW w B O X E sv av ev sets done
  xb : w.heap[X]? = some (.cells #[.int .i64 0, .slice none 0 0, ev] 119 (0, 0))
  row : w.ownsRow E 121 2 ev oj.length (flat encL2 oj)
  bel : Below B w2 w
  nx : av.ownBlock ≠ some X
  hE : B ≤ E
  hX : E ≤ X
theorem flatL3_snoc (l : List (Int × Int)) (a b : Int) : flat encL2 (l ++ [(a, b)]) = flat encL2 l ++ [.int .i64 a, .int .i64 b] := by rw [flat_snoc]; rfl
section
variable {w2 w w' : World} {B O X E : Nat} {sv av ev : Value} {sets : List Cf.St} {done : List Drv.LSt} {oj : List (Int × Int)}
theorem RbX.below (h : RbX w2 w B O X E sv av ev sets done oj) (hb : Below w.heap.size w w') : RbX w2 w' B O X E sv av ev sets done oj :=
  ⟨h.st.below hb, (hb.block _ (heap_lt h.xb)).trans h.xb, ownsRow_below h.row hb (Nat.le_refl _), h.bel.trans (hb.mono h.st.hB), h.nx, h.hE, h.hX⟩
theorem RbX.xkeep (h : RbX w2 w B O X E sv av ev sets done oj) (ho : Only (fun k => ev.ownBlock = some k) w w') : w'.heap[X]? = some (.cells #[.int .i64 0, .slice none 0 0, ev] 119 (0, 0)) :=
  (ho.block _ (heap_lt h.xb) (fun e => by
    obtain ⟨c1, e1⟩ := own_type h.row e
    exact absurd (type_eq e1 h.xb) (by decide))).trans h.xb
theorem RbX.edge (h : RbX w2 w B O X E sv av ev sets done oj) (ho : Only (fun k => ev.ownBlock = some k) w w') {g c : Nat} (hg : ev.ownBlock = some g ∨ w.heap.size < g) {t k : Int} (hown : w'.ownsRow E 121 2 (.slice (some ⟨g, 0, none⟩) (oj.length + 1) c) (oj.length + 1) (flat encL2 oj ++ [.int .i64 t, .int .i64 k])) :
    RbX w2 (w'.setCell ⟨X, 2, none⟩ (.slice (some ⟨g, 0, none⟩) (oj.length + 1) c)) B O X E sv av (.slice (some ⟨g, 0, none⟩) (oj.length + 1) c) sets done (oj ++ [(t, k)]) := by
  have hgl := (hown.lt g rfl).2
  have h1 := h.st.edge (m := oj.length + 1) (c := c) h.row ho hg hgl
  have hx1 : w'.heap[X]? = some (.cells #[.int .i64 0, .slice none 0 0, ev] 119 (0, 0)) := (ho.block _ (heap_lt h.xb) (fun e => by
    obtain ⟨c1, e1⟩ := own_type h.row e
    exact absurd (type_eq e1 h.xb) (by decide))).trans h.xb
  have ho2 := Only.of_set w' X 2 (.slice (some ⟨g, 0, none⟩) (oj.length + 1) c)
  have hx2 := heap_setCell_same w' X 2 _ _ (.slice (some ⟨g, 0, none⟩) (oj.length + 1) c) hx1
  have hEX := h.hX
  have hBE := h.hE
  refine ⟨h1.setX hx1 h.nx ho2, hx2, ?_, (h.bel.trans (ho.below' (fun k e => Nat.le_trans hBE (h.row.lt k e).1) h.st.hB)).trans (ho2.below' (fun k e => by omega) h1.hB), h.nx, hBE, hEX⟩
  rw [List.length_append, flatL3_snoc]
  exact ownsRow_only hown ho2 (fun k hk e => by
    obtain ⟨c1, e1⟩ := own_type hown hk
    rw [e] at e1
    exact absurd (type_eq e1 hx1) (by decide))
theorem RbX.pushS (h : RbX w2 w B O X E sv av ev sets done oj) {ss : List Value} (hown0 : w.ownsRow B 47 3 sv sets.length ss) (hvs : RsVs w (SB O X sv av ev) sets ss) {x : Cf.St} {CA AA : Option Addr} {ca aa : Nat} (h1 : CfR w (SB O X sv av ev) CA x.configs) (h2 : RO w (SB O X sv av ev) 1 AA x.alts.length (x.alts.map (Value.int .i64)))
    (ho : Only (fun k => sv.ownBlock = some k) w w') {g c : Nat} (hg : sv.ownBlock = some g ∨ w.heap.size < g) (hown : w'.ownsRow B 47 3 (.slice (some ⟨g, 0, none⟩) (sets.length + 1) c) (sets.length + 1) (ss ++ (cellsR CA AA ca aa x).toList)) :
    RbX w2 w' B O X E (.slice (some ⟨g, 0, none⟩) (sets.length + 1) c) av ev (sets ++ [x]) done oj :=
  ⟨h.st.pushS hown0 hvs h1 h2 ho hg hown, (ho.block _ (heap_lt h.xb) (fun e => by
    obtain ⟨c1, e1⟩ := own_type hown0 e
    exact absurd (type_eq e1 h.xb) (by decide))).trans h.xb, ownsRow_only h.row ho (fun k hk e => by
    obtain ⟨c1, e1⟩ := own_type hown0 e
    obtain ⟨c2, e2⟩ := own_type h.row hk
    exact absurd (type_eq e1 e2) (by decide)), h.bel.trans (ho.below' (fun k e => (hown0.lt k e).1) h.st.hB), h.nx, h.hE, h.hX⟩
theorem RbX.lsr (h : RbX w2 w B O X E sv av ev sets done oj) : LsR w B w.heap.size ⟨0, [], oj⟩ [.int .i64 0, .slice none 0 0, ev] := by
  obtain ⟨A, c, rfl⟩ := row_form h.row
  exact ⟨none, 0, A, c, rfl, ⟨rfl, .inl ⟨rfl, rfl⟩⟩, OwnC.base (OwnC.of h.row) h.hE, fun k hk => (h.row.lt k hk).2⟩
end
end Go.Proofs.YtnpcjbdolmmaeaaGreatDoor
