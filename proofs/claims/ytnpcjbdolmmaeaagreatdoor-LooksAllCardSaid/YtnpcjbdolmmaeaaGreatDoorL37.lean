/-
  Looks: the document builds an automaton (harbingerref15.Build): the walk.
-/
import Derived.Test.YtnpcjbdolmmaeaaGreatDoorL25
import Derived.Test.YtnpcjbdolmmaeaaGreatDoorL28
import Derived.Test.YtnpcjbdolmmaeaaGreatDoorL35
import Derived.Test.YtnpcjbdolmmaeaaGreatDoorL36
namespace Go.Proofs.YtnpcjbdolmmaeaaGreatDoor
open Go.RowKit Go.Maps
open Go.Sort (grow)
set_option maxRecDepth 100000
def RBuP (n : Drv.NNet) (d b budget tokens : Int) (w : World) (e : Ending) (w' : World) : Prop :=
  (Cf.autoQ n d b budget tokens = none ∧ e = .returned (.tuple #[.agg #[.slice none 0 0], .int .i64 1]) ∧ Below w.heap.size w w') ∨
  ∃ l A c, Cf.autoQ n d b budget tokens = some l ∧ e = .returned (.tuple #[.agg #[.slice A l.length c], .int .i64 0]) ∧ AutR w' w.heap.size A c l ∧ l.length ≤ 4096 ∧ Cf.AutS l ∧ Below w.heap.size w w'
theorem infoRSt : (Tryz.prog.info? 119).map (fun i => (i.zero, i.size, i.bytes)) = some (some (.agg #[.int .i64 0, .slice none 0 0, .slice none 0 0]), 3, 56) := by kernel_rfl
theorem infoRSe : (Tryz.prog.info? 47).map (fun i => (i.zero, i.size, i.bytes)) = some (some (.agg #[.slice none 0 0, .slice none 0 0, .bool false]), 3, 56) := by kernel_rfl
theorem infoREd : (Tryz.prog.info? 121).map (fun i => (i.zero, i.size, i.bytes)) = some (some (.agg #[.int .i64 0, .int .i64 0]), 2, 16) := by kernel_rfl
set_option maxHeartbeats 16000000 in
theorem rbuild_all (n : Drv.NNet) (d b budget tokens : Int) (SA TA UA QA DA : Option Addr) (sc tc uc qc dc : Nat) (w : World) (h : NetRf w w.heap.size SA TA UA QA DA n) (hs : NetS n) (hf : Cf.fewN n) (hT : PT w) :
    Calls Tryz.prog 22 #[netAgg SA TA UA QA DA sc tc uc qc dc n, .int .i64 d, .int .i64 b, .int .i64 budget, .int .i64 tokens] w (RBuP n d b budget tokens w) := by
  have z1 : (w.alloc (.cells #[.slice SA n.states.length sc, .slice TA n.starts.length tc, .slice UA n.stops.length uc, .slice QA n.preds.length qc, .slice DA n.decs.length dc] 38)).heap.size = w.heap.size + 1 := by simp
  obtain ⟨w1, hw1⟩ : ∃ w1, Hid ((w.alloc (.cells #[.slice SA n.states.length sc, .slice TA n.starts.length tc, .slice UA n.stops.length uc, .slice QA n.preds.length qc, .slice DA n.decs.length dc] 38)).alloc (.cells #[.slice none 0 0] 62) = w1) := ⟨_, hid rfl⟩
  have hb1 : Below w.heap.size w w1 := by rw [← hw1.out]; exact (below_new _ _).alloc (by omega) _
  have h0 : w1.heap[w.heap.size]? = some (.cells #[.slice SA n.states.length sc, .slice TA n.starts.length tc, .slice UA n.stops.length uc, .slice QA n.preds.length qc, .slice DA n.decs.length dc] 38 (0, 0)) := by
    rw [← hw1.out, Below.heap_alloc _ _ _ (by omega)]; exact heap_alloc_new _ _
  have h1 : w1.heap[w.heap.size + 1]? = some (.cells #[.slice none 0 0] 62 (0, 0)) := by rw [← hw1.out, ← z1]; exact heap_alloc_new _ _
  have n0 : w1.cell? ⟨w.heap.size, 0, none⟩ = some (.slice SA n.states.length sc) := by rw [Lib.cell_of_heap h0]; rfl
  have n1 : w1.cell? ⟨w.heap.size, 1, none⟩ = some (.slice TA n.starts.length tc) := by rw [Lib.cell_of_heap h0]; rfl
  have n2 : w1.cell? ⟨w.heap.size, 2, none⟩ = some (.slice UA n.stops.length uc) := by rw [Lib.cell_of_heap h0]; rfl
  have n3 : w1.cell? ⟨w.heap.size, 3, none⟩ = some (.slice QA n.preds.length qc) := by rw [Lib.cell_of_heap h0]; rfl
  have n4 : w1.cell? ⟨w.heap.size, 4, none⟩ = some (.slice DA n.decs.length dc) := by rw [Lib.cell_of_heap h0]; rfl
  have hnw := rnew_any n d b SA TA UA QA DA sc tc uc qc dc w1 ⟨stsRf_more (h.below hb1).sts hb1.size, (h.below hb1).starts.more hb1.size, (h.below hb1).stops.more hb1.size, (h.below hb1).preds.more hb1.size, (h.below hb1).decs.more hb1.size⟩ hs hf
  have HN := hid h
  have HNW := hid hnw
  have HF := hid hf
  have HS := hid hs
  have HB1 := hid hb1
  have HH0 := hid h0
  have HH1 := hid h1
  have HPT := hid hT
  have hwl1 := heap_lt h1
  clear h hnw hs hf hb1 h0 h1 hT z1
  unfold netAgg at HNW ⊢
  go_enter Tryz.func22, Tryz.ntmps22
  go_wp2_with fail
  rw [hw1.out]
  go_wp2_with fail
  go_at_call 9
  refine HNW.out.mono ?_
  rintro e2 w2 (⟨hnv, rfl, hb2⟩ | ⟨v, V, a, hnv, rfl, hva, hV, hb2⟩)
  · have HB2 := hid (HB1.out.trans (hb2.mono HB1.out.size))
    have HQ := hid (show Cf.autoQ n d b budget tokens = none by unfold Cf.autoQ; rw [hnv])
    have q1 := (hb2.block _ (heap_lt HH1.out)).trans HH1.out
    have qc : w2.cell? ⟨w.heap.size + 1, 0, none⟩ = some (.slice none 0 0) := by rw [Lib.cell_of_heap q1]; rfl
    have qz : w2.frozen? ⟨w.heap.size + 1, 0, none⟩ = false := Lib.frozen_of_heap q1 0
    have ho := Only.of_set w2 (w.heap.size + 1) 0 (.slice none 0 0)
    have HBo := hid (HB2.out.trans (ho.below' (fun k e => by omega) HB2.out.size))
    have ec : (w2.setCell ⟨w.heap.size + 1, 0, none⟩ (.slice none 0 0)).cell? ⟨w.heap.size + 1, 0, none⟩ = some (.slice none 0 0) := by
      rw [Lib.cell_of_heap (heap_setCell_same w2 (w.heap.size + 1) 0 _ _ _ q1)]; rfl
    clear hb2 hnv q1 ho
    go_wp2_with fail
    simp [bodyPost, results, Tryz.results22, go_sem, ec]
    exact .inl ⟨HQ.out, rfl, HBo.out⟩
  · have HB2 := hid (HB1.out.trans (hb2.mono HB1.out.size))
    have q1 := (hb2.block _ (heap_lt HH1.out)).trans HH1.out
    have HB12 := hid hb2
    by_cases hgood : 1 ≤ budget ∧ budget ≤ 4096 ∧ 0 ≤ tokens ∧ tokens ≤ 64
    · have HQ := hid (show Cf.autoQ n d b budget tokens = some (Cf.autoF v budget.toNat tokens.toNat) by unfold Cf.autoQ; rw [hnv]; dsimp only; rw [if_pos hgood])
      obtain ⟨bn, rfl⟩ : ∃ bn : Nat, budget = (bn : Int) := ⟨budget.toNat, by omega⟩
      obtain ⟨tn, rfl⟩ : ∃ tn : Nat, tokens = (tn : Int) := ⟨tokens.toNat, by omega⟩
      rw [Int.toNat_natCast, Int.toNat_natCast] at HQ
      have hbn : bn ≤ 4096 := by omega
      have hb1n : 1 ≤ bn := by omega
      have htn : tn ≤ 64 := by omega
      have f1 : decide ((bn : Int) < 1) = false := decide_eq_false (by omega)
      have f2 : decide ((4096 : Int) < (bn : Int)) = false := decide_eq_false (by omega)
      have f2' : decide (4096 < bn) = false := decide_eq_false (by omega)
      have f3 : decide ((tn : Int) < 0) = false := decide_eq_false (by omega)
      have f4 : decide ((64 : Int) < (tn : Int)) = false := decide_eq_false (by omega)
      have f4' : decide (64 < tn) = false := decide_eq_false (by omega)
      obtain ⟨hW, hdm, hvn, hee⟩ := Cf.newV_ok hnv HF.out
      have hdl : v.d.ends.length ≤ 700 := by rw [hvn] at hdm; exact (HF.out.2.2.2.2.2 _ hdm).2
      have HV := hid hva
      have HX2 := hid q1
      have HNV := hid hnv
      have HWK := hid (And.intro hW hdm)
      have hxl := heap_lt q1
      have HST := hid (rstart_of (fun k => k = w.heap.size + 1) v a V w2 hva (rvok_of hnv HF.out) (Cf.start_has hW hdm hee) (fun k e => by omega))
      clear hb2 hnv q1 hW hdm hvn hee hgood hva
      go_wp2_with fail
      go_at_call 13
      refine HST.out.mono ?_
      rintro _ w3 ⟨s, CA, ca, AA, aa, rfl, his, hsb, hcf, hal, hb3⟩
      unfold setAggR
      dsimp only
      obtain ⟨w4, hw4⟩ : ∃ w4, Hid ((w3.alloc (.cells #[.slice CA s.configs.length ca, .slice AA s.alts.length aa, .bool s.over] 47)).alloc (.cells #[.slice none 0 0] 62) = w4) := ⟨_, hid rfl⟩
      have z4 : (w3.alloc (.cells #[.slice CA s.configs.length ca, .slice AA s.alts.length aa, .bool s.over] 47)).heap.size = w3.heap.size + 1 := by simp
      have hb4 : Below w3.heap.size w3 w4 := by rw [← hw4.out]; exact (below_new _ _).alloc (by omega) _
      have h4 : w4.heap[w3.heap.size + 1]? = some (.cells #[.slice none 0 0] 62 (0, 0)) := by rw [← hw4.out, ← z4]; exact heap_alloc_new _ _
      have hs23 := hb3.size
      have hro4 : w4.ownsRow w2.heap.size 47 3 (.slice (some ⟨w3.heap.size, 0, none⟩) 1 1) 1 [.slice CA s.configs.length ca, .slice AA s.alts.length aa, .bool s.over] := by
        rw [← hw4.out]
        exact (World.ownsRow_lit (base := w2.heap.size) (size := 3) (e := 47) w3 #[.slice CA s.configs.length ca, .slice AA s.alts.length aa, .bool s.over] 1 hs23 (by decide) rfl).alloc _
      have hl4 := heap_lt h4
      have hno : ∀ b, b < w3.heap.size → SB (w3.heap.size + 1) (w3.heap.size + 1) (.slice (some ⟨w3.heap.size, 0, none⟩) 1 1) (.slice none 0 0) (.slice none 0 0) b → b = w.heap.size + 1 := fun b hb e => by
        rcases e with e | e | e | e | e
        · omega
        · omega
        · injection e with e
          have e : w3.heap.size = b := e
          omega
        · cases e
        · cases e
      have HB24 := hid (hb3.trans (hb4.mono hs23))
      have hlt4 : ∀ k, SB (w3.heap.size + 1) (w3.heap.size + 1) (.slice (some ⟨w3.heap.size, 0, none⟩) 1 1) (.slice none 0 0) (.slice none 0 0) k → k < w4.heap.size := fun k e => by
        rcases e with e | e | e | e | e
        · omega
        · omega
        · injection e with e
          have e : w3.heap.size = k := e
          omega
        · cases e
        · cases e
      have HW4 := hid (show RbW w4 w2.heap.size (w3.heap.size + 1) (w3.heap.size + 1) w4.heap.size (.slice (some ⟨w3.heap.size, 0, none⟩) 1 1) (.slice none 0 0) (.slice none 0 0) [s] [] from
        ⟨h4, ⟨_, hro4, ⟨CA, ca, AA, aa, [], rfl, hcf.only (Only.of_below (S := fun k => k = w.heap.size + 1) hb4) hno, hal.only (Only.of_below (S := fun k => k = w.heap.size + 1) hb4) hno, rfl⟩⟩, ⟨[], World.ownsRow_nil _ _ _ _, rfl⟩, hlt4, by omega, HB24.out.size⟩)
      have HRB := hid (show Cf.RbB v bn tn 0 [s] [] from ⟨fun _ => by rw [show Cf.startF v = s from Cf.setF_eq his]; rfl, fun h2 => by simp at h2; omega, rfl, Nat.zero_le _, by simp, fun y hy => by rw [List.mem_singleton.1 hy]; exact ⟨Cf.OkS.of his hsb, .inl ⟨_, his⟩⟩, fun y hy => (by cases hy)⟩)
      clear his hsb hcf hal hb3 hb4 h4 hro4 hno z4 hlt4
      go_upto_region 6 with fail
      rw [hw4.out]
      clear hw4
      go_wp2_with fail
      go_loopw [14, 16] (fun sv' iv wr => ∃ (i E : Nat) (sv av : Value) (sets : List Cf.St) (done : List Drv.LSt), sv = sv' ∧ iv = .int .i64 (i : Int) ∧ Hid (RbW wr w2.heap.size (w3.heap.size + 1) (w3.heap.size + 1) E sv av (.slice none 0 0) sets done ∧ Cf.RbB v bn tn i sets done ∧ Below w2.heap.size w2 wr ∧ i ≤ bn)) (fun _ iv _ => bn + 1 - (intOf iv).toNat)
      case atStart => exact ⟨0, _, _, _, _, _, rfl, rfl, hid ⟨HW4.out, HRB.out, HB24.out, Nat.zero_le _⟩⟩
      case round =>
        obtain ⟨i, E, sv, av, sets, done, rfl, rfl, HI⟩ := hrel
        obtain ⟨ss, hso, hsv⟩ := HI.out.1.sown
        obtain ⟨SV, sc, rfl⟩ := row_form hso
        obtain ⟨sn, hn⟩ : ∃ sn, sets.length = sn := ⟨_, rfl⟩
        have HN := hid hn
        have hnb : sn ≤ bn + 1 := by have := HI.out.2.1.len; omega
        have hin1 : i ≤ bn := HI.out.2.2.2
        have hlei : i ≤ sn := by have := HI.out.2.1.le; omega
        have hwsz := HI.out.2.2.1.size
        by_cases hb : sn ≤ bn
        · by_cases hlt : i < sn
          ·
            have hin : i < sets.length := by omega
            obtain ⟨CX, cx, AX, ax, hcx, hax, e0, e1, e2⟩ := hsv.at i hin
            obtain ⟨gs, hgs⟩ : ∃ g, SV = some ⟨g, 0, none⟩ := by
              rcases hso.2 with ⟨_, h0⟩ | ⟨g, c, cur, hv, _⟩
              · omega
              · injection hv with hv _ _
                exact ⟨g, hv⟩
            subst hgs
            have d0 := hso.cells (g := gs) rfl (i * 3) _ e0
            have d1 := hso.cells (g := gs) rfl (i * 3 + 1) _ e1
            have d2 := hso.cells (g := gs) rfl (i * 3 + 2) _ e2
            rw [addr_off, Nat.zero_add] at d0 d1 d2
            have hgsl := (World.ownsRow.lt hso gs rfl).2
            have HOKX := hid (HI.out.2.1.ok _ (List.getElem_mem hin))
            obtain ⟨x, hx⟩ : ∃ x, sets[i] = x := ⟨_, rfl⟩
            have HXI := hid hx
            rw [hx] at hcx hax d0 d1 d2 HOKX
            have hlx : x.configs.length ≤ 1000000 := by have := HOKX.out.1.b.few; omega
            have hla : x.alts.length ≤ 1000000 := Nat.le_trans HOKX.out.1.few (by omega)
            have hkc := rkind_any x CX AX cx ax wr (hcx.only (Only.refl _ _) fun _ _ e => e.elim) hlx
            obtain ⟨kx, hkx⟩ : ∃ kx, Cf.kindS x = kx := ⟨_, rfl⟩
            rw [hkx] at hkc
            unfold setAggR at hkc
            have HKC := hid hkc
            have HKX := hid hkx
            have HAX := hid hax
            have HCX := hid hcx
            obtain ⟨na, hna⟩ : ∃ na, x.alts.length = na := ⟨_, rfl⟩
            obtain ⟨nc, hnc⟩ : ∃ nc, x.configs.length = nc := ⟨_, rfl⟩
            have HNA := hid hna
            rw [hna] at d1 HKC hla
            rw [hnc] at d0 HKC
            have hltI : (i : Int) < (sn : Int) := by omega
            have hbI : (sn : Int) ≤ (bn : Int) := by omega
            have g1 : decide ((i : Int) < (sn : Int)) = true := decide_eq_true hltI
            have g1' : decide (i < sn) = true := decide_eq_true hlt
            have g2 : decide ((sn : Int) ≤ (bn : Int)) = true := decide_eq_true hbI
            have g2' : decide (sn ≤ bn) = true := decide_eq_true hb
            have hwr1 : IntKind.i64.wrap ((i : Int) + 1) = (i : Int) + 1 := w64 (by omega) (by omega)
            rw [hn]
            clear hso hsv hcx hax e0 e1 e2 hx hkc hkx hna hnc hn
            go_wp2_with fail
            go_at_call 41
            refine HKC.out.mono ?_
            rintro _ w5 ⟨rfl, hb5⟩
            clear g1 g1' g2 g2'
            obtain ⟨w6, hw6⟩ : ∃ w6, Hid (w5.alloc (.cells #[.int .i64 kx, .slice none 0 0, .slice none 0 0] 119) = w6) := ⟨_, hid rfl⟩
            have hb56 : Below w5.heap.size w5 w6 := by rw [← hw6.out]; exact below_new _ _
            have h6 : w6.heap[w5.heap.size]? = some (.cells #[.int .i64 kx, .slice none 0 0, .slice none 0 0] 119 (0, 0)) := by rw [← hw6.out]; exact heap_alloc_new _ _
            have hb6 := hb5.trans (hb56.mono hb5.size)
            have HB6 := hid hb6
            have HX6 := hid h6
            have hx5 := hb5.size
            have hx6 := heap_lt h6
            have HW6 := hid (HI.out.1.begin hb6 hx5 hx6)
            have hsz6 := hb6.size
            have q1 := (hb6.cell (p := ⟨gs, i * 3 + 1, none⟩) hgsl).trans d1
            have HD0 := hid d0
            have HD1 := hid d1
            have HD2 := hid d2
            clear hb5 hb56 h6 hb6 d0 d1 d2
            go_upto_region 10 with fail
            rw [hw6.out]
            clear hw6
            obtain ⟨x0, x1, x2⟩ := cells3 HX6.out
            have xz := fun k => Lib.frozen_of_heap HX6.out k
            have HB26 := hid (HI.out.2.2.1.trans (HB6.out.mono hwsz))
            by_cases hk : kx = 0
            ·
              subst hk
              have HRX0 := hid (show RbX w2 w6 w2.heap.size (w3.heap.size + 1) w5.heap.size wr.heap.size (.slice (some ⟨gs, 0, none⟩) sets.length sc) av (.slice none 0 0) sets done [] from
                ⟨HW6.out, HX6.out, World.ownsRow_nil _ _ _ _, HB26.out, fun e => by
                  obtain ⟨rs, hao, _⟩ := HI.out.1.aown
                  have := (hao.lt _ e).2
                  omega, hwsz, hx5⟩)
              have HRE0 := hid (Cf.RbE.start (v := v) (s := x) (budget := bn) (tokens := tn) (sets := sets) (by have := HN.out; omega) HI.out.2.1.ok)
              have hB6' := hsz6
              obtain ⟨wa, hwa⟩ : ∃ wa, wa = wr := ⟨_, rfl⟩
              subst hwa
              clear q1 HAX HCX HKC hlx hla HNA hgsl
              go_wp2_with fail
              clear x0 x1 x2 xz
              go_loopw [14, 18] (fun sv' tv wr => ∃ (j : Nat) (t : Int) (sv ev : Value) (sj : List Cf.St) (oj : List (Int × Int)), sv = sv' ∧ tv = .int .i64 t ∧ Hid (t = (j : Int) - 1 ∧ j ≤ tn + 1) ∧ Hid (RbX w2 wr w2.heap.size (w3.heap.size + 1) w5.heap.size wa.heap.size sv av ev sj done oj ∧ Cf.RbE v x bn tn sets j sj oj)) (fun _ tv _ => tn + 2 - (intOf tv + 1).toNat)
              case atStart => exact ⟨0, -1, _, _, sets, [], by rw [HN.out], rfl, hid ⟨by omega, by omega⟩, hid ⟨HRX0.out, HRE0.out⟩⟩
              case round =>
                obtain ⟨j, t, sv, ev, sj, oj, rfl, rfl, HJ, HJI⟩ := hrel
                clear HRX0 HRE0
                have hj65 : j ≤ 65 := by have := HJ.out; omega
                have ht1 : -1 ≤ t := by have := HJ.out.1; omega
                have ht2 : t ≤ (tn : Int) := by have := HJ.out; omega
                have hwrt : IntKind.i64.wrap (t + 1) = t + 1 := w64 (by omega) (by omega)
                obtain ⟨sj_s, hso, hsv⟩ := HJI.out.1.st.sown
                obtain ⟨SV, svc, rfl⟩ := row_form hso
                obtain ⟨jn, hjn⟩ : ∃ jn, sj.length = jn := ⟨_, rfl⟩
                have HJN := hid hjn
                have hjnb : jn ≤ bn + 1 := by have := HJI.out.2.len; omega
                obtain ⟨x0, x1, x2⟩ := cells3 HJI.out.1.xb
                by_cases hlt2 : t < (tn : Int)
                · have g3 : decide (t < (tn : Int)) = true := decide_eq_true hlt2
                  by_cases hb2 : jn ≤ bn
                  ·
                    have g4 : decide ((jn : Int) ≤ (bn : Int)) = true := decide_eq_true (by omega)
                    have g4' : decide (jn ≤ bn) = true := decide_eq_true hb2
                    obtain ⟨r, hr⟩ := HJI.out.2.pre
                    have hin2 : i < sj.length := by rw [hr, List.length_append]; have := HN.out; omega
                    have hsjx : sj[i] = x := by
                      have h1 : sj[i]? = some x := by
                        rw [hr, List.getElem?_append_left (by have := HN.out; omega)]
                        rw [List.getElem?_eq_getElem (by have := HN.out; omega), HXI.out]
                      rw [List.getElem?_eq_getElem hin2] at h1
                      injection h1
                    obtain ⟨CY, cy, AY, ay, hcy, hay, e0, e1, e2⟩ := hsv.at i hin2
                    rw [hsjx] at hcy hay e0 e1 e2
                    obtain ⟨gj, hgj⟩ : ∃ g, SV = some ⟨g, 0, none⟩ := by
                      rcases hso.2 with ⟨_, h0⟩ | ⟨g, c, cur, hv, _⟩
                      · omega
                      · injection hv with hv _ _
                        exact ⟨g, hv⟩
                    subst hgj
                    have d0 := hso.cells (g := gj) rfl (i * 3) _ e0
                    have d1 := hso.cells (g := gj) rfl (i * 3 + 1) _ e1
                    have d2 := hso.cells (g := gj) rfl (i * 3 + 2) _ e2
                    rw [addr_off, Nat.zero_add] at d0 d1 d2
                    have hijI : (i : Int) < (jn : Int) := by omega
                    have HVR := hid ((HV.out.below HJI.out.1.bel).more HJI.out.1.bel.size)
                    have hmv := rmove_of (SB (w3.heap.size + 1) w5.heap.size (.slice (some ⟨gj, 0, none⟩) sj.length svc) av ev) v a V x CY AY cy ay t wr HVR.out (rvok_of HNV.out HF.out) HOKX.out.1.b hcy HJI.out.1.st.lt (Cf.move_has HWK.out.1 HOKX.out.1.b t)
                    unfold setAggR at hmv
                    have HMV := hid hmv
                    rw [hjn]
                    clear hso hsv hcy hay e0 e1 e2 hr hmv hsjx hjn hin2
                    go_wp2_with fail
                    go_at_call 18
                    refine HMV.out.mono ?_
                    rintro _ w8 ⟨y, CT, ct, AT, at_, rfl, hif, hysb, hcft, halt, hb8⟩
                    clear d0 d1 d2 g3 g4 g4'
                    have HYE := hid (Cf.moveF_eq hif)
                    have HYO := hid (Cf.OkS.move hif hysb)
                    have HYM := hid (show Cf.MkS v y by
                      split at hif
                      · exact .inr hif
                      · exact .inl ⟨_, hif⟩)
                    unfold setAggR
                    dsimp only
                    have hb89 := below_new w8 (.cells #[.slice CT y.configs.length ct, .slice AT y.alts.length at_, .bool y.over] 47)
                    have h9 := heap_alloc_new w8 (.cells #[.slice CT y.configs.length ct, .slice AT y.alts.length at_, .bool y.over] 47)
                    obtain ⟨w9, hw9⟩ : ∃ w9, Hid (w8.alloc (.cells #[.slice CT y.configs.length ct, .slice AT y.alts.length at_, .bool y.over] 47) = w9) := ⟨_, hid rfl⟩
                    rw [hw9.out] at hb89 h9
                    have hb9 := hb8.trans (hb89.mono hb8.size)
                    have hlt8 : ∀ k, SB (w3.heap.size + 1) w5.heap.size (.slice (some ⟨gj, 0, none⟩) sj.length svc) av ev k → k < w8.heap.size := fun k hk => Nat.lt_of_lt_of_le (HJI.out.1.st.lt k hk) hb8.size
                    have HCT := hid (hcft.only (Only.of_below hb89) (fun _ _ e => e))
                    have HAT := hid (halt.only (Only.of_below hb89) (fun _ _ e => e))
                    have HB9 := hid hb9
                    have HX9 := hid (HJI.out.1.below hb9)
                    have HY9 := hid h9
                    have hyla : y.alts.length ≤ 1000000 := Nat.le_trans HYO.out.few (by omega)
                    have hylc : y.configs.length ≤ 1000000 := by have := HYO.out.b.few; omega
                    have hwy := heap_lt h9
                    have hb89s := hb8.size
                    clear hif hysb hcft halt hb8 hb89 h9 hb9 hlt8 HMV
                    go_upto_region 16 with fail
                    rw [hw9.out]
                    clear hw9
                    obtain ⟨ny, hny⟩ : ∃ ny, y.alts.length = ny := ⟨_, rfl⟩
                    have HNY := hid hny
                    obtain ⟨y0, y1, y2⟩ := cells3 HY9.out
                    rw [hny] at y1 hyla
                    clear hny
                    by_cases h0 : ny = 0
                    · have HES := hid (HJI.out.2.skip (by have := HJ.out; omega) (by have := HJN.out; omega) (by rw [← HJ.out.1, HYE.out, HNY.out]; exact h0))
                      subst h0
                      go_wp2_with fail
                      go_roundw
                      case rel => exact ⟨j + 1, t + 1, _, ev, sj, oj, by rw [HJN.out], rfl, hid ⟨by have := HJ.out; omega, by have := HJ.out; omega⟩, hid ⟨HX9.out, HES.out⟩⟩
                      case measure => simp only [intOf]; omega
                    · have f0 : ((ny : Int) == 0) = false := by rw [beq_eq_false_iff_ne]; omega
                      have HNZ := hid h0
                      clear h0
                      have hylx := Cf.SetB.stk HWK.out.1 HYO.out.b
                      obtain ⟨wb, hwb⟩ : ∃ wb, wb = wr := ⟨_, rfl⟩
                      subst hwb
                      clear x0 x1 x2
                      go_wp2_with fail
                      go_loopw [20] (fun kv wz => ∃ k : Nat, k ≤ jn ∧ kv = .int .i64 (k : Int) ∧ Hid (Below w9.heap.size w9 wz ∧ ∀ q (hq : q < sj.length), q < k → Cf.sameS sj[q] y = false)) (fun kv _ => jn - (intOf kv).toNat)
                      case atStart => exact ⟨0, Nat.zero_le _, rfl, hid ⟨Below.refl _ _, fun q _ h => absurd h (Nat.not_lt_zero _)⟩⟩
                      case round =>
                        clear y0 y1 y2
                        obtain ⟨k, hkj, rfl, HZ⟩ := hrel
                        have HXZ := hid (HX9.out.below HZ.out.1)
                        obtain ⟨ss3, hso, hsv⟩ := HXZ.out.st.sown
                        have hYz := (HZ.out.1.block _ hwy).trans HY9.out
                        have HYZ := hid hYz
                        have HCZ := hid (HCT.out.only (Only.of_below HZ.out.1) (fun _ _ e => e))
                        have HAZ := hid (HAT.out.only (Only.of_below HZ.out.1) (fun _ _ e => e))
                        have hwrk : IntKind.i64.wrap ((k : Int) + 1) = (k : Int) + 1 := w64 (by omega) (by omega)
                        obtain ⟨y0, y1, y2⟩ := cells3 hYz
                        rw [HNY.out] at y1
                        have hszz := HZ.out.1.size
                        have hwyz : w8.heap.size < wr.heap.size := by omega
                        by_cases hlt3 : k < jn
                        · have hks : k < sj.length := by have := HJN.out; omega
                          obtain ⟨CK, ck, AK, ak, hck, hak, e0, e1, e2⟩ := hsv.at k hks
                          have d0 := hso.cells (g := gj) rfl (k * 3) _ e0
                          have d1 := hso.cells (g := gj) rfl (k * 3 + 1) _ e1
                          have d2 := hso.cells (g := gj) rfl (k * 3 + 2) _ e2
                          rw [addr_off, Nat.zero_add] at d0 d1 d2
                          have HOKK := hid (HJI.out.2.ok _ (List.getElem_mem hks))
                          have HSQ := hid (Cf.sameR_eq HOKK.out.2 HYM.out)
                          have HSN := hid (show ∀ (bq : Bool), Cf.sameS sj[k] y = bq → (bq = false → ∀ q (hq : q < sj.length), q < k + 1 → Cf.sameS sj[q] y = false) ∧ (bq = true → Cf.findS sj y = some k) from fun bq hbq => ⟨fun e q hq hqk => by
                            rcases Nat.lt_or_ge q k with h1 | h1
                            · exact HZ.out.2 q hq h1
                            · obtain rfl : q = k := by omega
                              rw [hbq, e], fun e => Cf.findS_at hks (by rw [hbq, e]) fun q hq => HZ.out.2 q (by omega) hq⟩)
                          have hkl := HOKK.out.1.b.few
                          have hka : sj[k].alts.length ≤ 1000000 := Nat.le_trans HOKK.out.1.few (by omega)
                          have hkx2 := Cf.SetB.stk HWK.out.1 HOKK.out.1.b
                          have hsm := fun (u : World) (hb : Below wr.heap.size wr u) => rsame_any sj[k] y CK AK CT AT ck ak ct at_ u (hck.only (Only.of_below hb) fun _ _ e => e.elim) ((hak.only (S' := fun _ => False) (Only.of_below hb) fun _ _ e => e.elim).reads) (HCZ.out.only (Only.of_below hb) fun _ _ e => e.elim) ((HAZ.out.only (S' := fun _ => False) (Only.of_below hb) fun _ _ e => e.elim).reads) (by omega) hka hkx2 hylc (by have := HNY.out; omega) hylx
                          rw [HSQ.out] at hsm
                          obtain ⟨bq, hbq⟩ : ∃ bq, Cf.sameS sj[k] y = bq := ⟨_, rfl⟩
                          have HBQ := hid (HSN.out bq hbq)
                          rw [hbq] at hsm
                          unfold setAggR at hsm
                          rw [HNY.out] at hsm
                          generalize sj[k].configs.length = nk at d0 hsm
                          generalize sj[k].alts.length = nka at d1 hsm
                          generalize sj[k].over = nko at d2 hsm
                          generalize y.configs.length = nyc at y0 hsm
                          generalize y.over = nyo at y2 hsm
                          have ca1 : ∀ (dd : Nat) (o : Array Obj), Calls Tryz.prog 42 #[.agg #[.slice CK nk ck, .slice AK nka ak, .bool nko], .agg #[.slice CT nyc ct, .slice AT ny at_, .bool nyo]] (grow (redrawn wr dd) o) fun e w'' => e = .returned (.bool bq) ∧ ∃ p : Regrown, w'' = grow (redrawn wr p.d) p.os := fun dd o => Calls.regrown_of (hsm _ (below_regrown wr dd o))
                          have q0 := fun dd os => cell_regrown d0 dd os
                          have q1 := fun dd os => cell_regrown d1 dd os
                          have q2 := fun dd os => cell_regrown d2 dd os
                          have t0 := fun dd os => cell_regrown y0 dd os
                          have t1 := fun dd os => cell_regrown y1 dd os
                          have t2 := fun dd os => cell_regrown y2 dd os
                          have hkI : (k : Int) < (jn : Int) := by omega
                          clear hso hsv hYz hck hak e0 e1 e2 d0 d1 d2 y0 y1 y2 HSQ HSN hkl hka hkx2 hsm hbq
                          go_upto_region 18 with fail
                          refine wp_region_quiet_below (by kernel_rfl) (by kernel_rfl) ?_
                          repeat (quiet_step (exact ca1 _ _))
                          clear ca1 q0 q1 q2 t0 t1 t2
                          refine wpQuiet_nil ?_
                          rintro _ ⟨⟨dq, osq⟩, rfl⟩
                          have hbq := below_regrown wr dq osq
                          generalize grow (redrawn wr dq) osq = wq at hbq ⊢
                          have HB9q := hid (HZ.out.1.trans (hbq.mono hszz))
                          clear hbq
                          cases bq with
                          | false =>
                            go_wp2_with fail
                            go_roundw
                            case rel => exact ⟨k + 1, hlt3, by go_num, hid ⟨HB9q.out, HBQ.out.1 rfl⟩⟩
                            case measure => simp only [intOf]; omega
                          | true =>
                            have HXQ := hid (HX9.out.below HB9q.out)
                            have HNE := hid (HJI.out.2.old (by have := HJ.out; omega) (by have := HJN.out; omega) (by rw [← HJ.out.1, HYE.out, HNY.out]; exact HNZ.out) (k := k) (by rw [← HJ.out.1, HYE.out]; exact HBQ.out.2 rfl))
                            rw [← HJ.out.1] at HNE
                            have fne : ((k : Int) == (jn : Int)) = false := by rw [beq_eq_false_iff_ne]; omega
                            go_upto_region 22 with fail
                            have hfew := HJI.out.2.few
                            obtain ⟨EV, evc, rfl⟩ := row_form HXQ.out.row
                            obtain ⟨ol, hol⟩ : ∃ ol, oj.length = ol := ⟨_, rfl⟩
                            have HOL := hid hol
                            have hxo := HXQ.out
                            rw [hol] at hxo hfew
                            have HXO := hid hxo
                            have hrow := hxo.row
                            rw [hol] at hrow
                            obtain ⟨x0, x1, x2⟩ := cells3 hxo.xb
                            have hbase : wa.heap.size ≤ wq.heap.size := by have := hxo.hX; have := heap_lt hxo.xb; omega
                            obtain ⟨iE, hiE, hzE, hsE, hyE⟩ := info_of infoREd
                            clear hxo hol
                            go_wp2_with (at_builtin; refine wpList_push4 wq rfl _ _ 117 rfl wa.heap.size 121 iE _ 2 16 Tryz.underlying117 hiE hzE hsE hyE rfl (by omega) (.slice EV ol evc) ol _ rfl hrow [.int .i64 t, .int .i64 (k : Int)] 1 wq.heap.size rfl rfl rfl (by simp [Value.oneCell']) Nat.zero_lt_one (by simp only [maxLen]; omega) (by omega) hbase ?_; intro g7 c7 w7 hown7 hg7 ho7; have hx7 := HXO.out.xkeep ho7; obtain ⟨z0, z1, z2⟩ := cells3 hx7; have zz := fun k => Lib.frozen_of_heap hx7 k)
                            go_roundw
                            case rel =>
                              have h10 := HXO.out.edge ho7 hg7 (t := t) (k := (k : Int)) (c := c7) (by rw [HOL.out]; exact hown7)
                              rw [HOL.out] at h10
                              exact ⟨j + 1, t + 1, _, _, sj, oj ++ [(t, (k : Int))], by rw [HJN.out], rfl, hid ⟨by have := HJ.out; omega, by have := HJ.out; omega⟩, hid ⟨h10, HNE.out⟩⟩
                            case measure => simp only [intOf]; omega
                        · have hke : k = jn := by omega
                          subst hke
                          have HNF := hid (Cf.findS_no (l := sj) (x := y) fun q hq => HZ.out.2 q hq (by have := HJN.out; omega))
                          have g5 : decide ((k : Int) < (k : Int)) = false := decide_eq_false (by omega)
                          have g5' : decide (k < k) = false := decide_eq_false (by omega)
                          clear hso hsv hYz y0 y1 y2
                          go_upto_region 18 with fail
                          go_quiet (fail)
                          have hdr : Below wr.heap.size wr (wr.drewN nq) := below_drewN (Below.refl _ _) _
                          generalize wr.drewN nq = wq at hdr ⊢
                          have HXQ := hid (HXZ.out.below hdr)
                          have hYq := (hdr.block _ hwyz).trans HYZ.out
                          obtain ⟨y0, y1, y2⟩ := cells3 hYq
                          rw [HNY.out] at y1
                          have HCQ := hid (HCZ.out.only (Only.of_below hdr) (fun _ _ e => e))
                          have HAQ := hid (HAZ.out.only (Only.of_below hdr) (fun _ _ e => e))
                          obtain ⟨ss4, hso, hsv⟩ := HXQ.out.st.sown
                          have HSO := hid hso
                          have HSV := hid hsv
                          rw [HJN.out] at hso
                          have hB2q := HXQ.out.st.hB
                          obtain ⟨iS, hiS, hzS, hsS, hyS⟩ := info_of infoRSe
                          obtain ⟨nyc, hnyc⟩ : ∃ nyc, y.configs.length = nyc := ⟨_, rfl⟩
                          have HNYC := hid hnyc
                          rw [hnyc] at y0
                          clear hsv hdr hYq hnyc
                          go_upto_region 22 with (at_builtin; refine wpList_push4 wq rfl _ _ 115 rfl w2.heap.size 47 iS _ 3 56 Tryz.underlying115 hiS hzS hsS hyS rfl (by omega) (.slice (some ⟨gj, 0, none⟩) k svc) k ss4 rfl hso [.slice CT nyc ct, .slice AT ny at_, .bool y.over] 1 wq.heap.size rfl rfl rfl (by simp [Value.oneCell']) Nat.zero_lt_one (by simp only [maxLen]; omega) (by omega) hB2q ?_; intro g8 c8 ws hown8 hg8 ho8)
                          have HXS := hid (HXQ.out.pushS HSO.out HSV.out HCQ.out HAQ.out (ca := ct) (aa := at_) ho8 hg8 (by rw [HJN.out]; unfold cellsR; rw [HNYC.out, HNY.out]; exact hown8))
                          have HNE := hid (HJI.out.2.push (by have := HJ.out; omega) (by have := HJN.out; omega) (by rw [← HJ.out.1, HYE.out, HNY.out]; exact HNZ.out) (by rw [← HJ.out.1, HYE.out]; exact HNF.out) (by rw [← HJ.out.1, HYE.out]; exact ⟨HYO.out, HYM.out⟩))
                          rw [← HJ.out.1, HYE.out, HJN.out] at HNE
                          clear y0 y1 y2 hso hown8 hg8 ho8
                          have hfew := HJI.out.2.few
                          obtain ⟨EV, evc, rfl⟩ := row_form HXS.out.row
                          obtain ⟨ol, hol⟩ : ∃ ol, oj.length = ol := ⟨_, rfl⟩
                          have HOL := hid hol
                          have hxo := HXS.out
                          rw [hol] at hxo hfew
                          have HXO := hid hxo
                          have hrow := hxo.row
                          rw [hol] at hrow
                          obtain ⟨x0, x1, x2⟩ := cells3 hxo.xb
                          have hbase : wa.heap.size ≤ ws.heap.size := by have := hxo.hX; have := heap_lt hxo.xb; omega
                          obtain ⟨iE, hiE, hzE, hsE, hyE⟩ := info_of infoREd
                          clear hxo hol
                          go_wp2_with (at_builtin; refine wpList_push4 ws rfl _ _ 117 rfl wa.heap.size 121 iE _ 2 16 Tryz.underlying117 hiE hzE hsE hyE rfl (by omega) (.slice EV ol evc) ol _ rfl hrow [.int .i64 t, .int .i64 (k : Int)] 1 ws.heap.size rfl rfl rfl (by simp [Value.oneCell']) Nat.zero_lt_one (by simp only [maxLen]; omega) (by omega) hbase ?_; intro g7 c7 w7 hown7 hg7 ho7; have hx7 := HXO.out.xkeep ho7; obtain ⟨z0, z1, z2⟩ := cells3 hx7; have zz := fun k => Lib.frozen_of_heap hx7 k)
                          go_roundw
                          case rel =>
                            have h10 := HXO.out.edge ho7 hg7 (t := t) (k := (k : Int)) (c := c7) (by rw [HOL.out]; exact hown7)
                            rw [HOL.out] at h10
                            exact ⟨j + 1, t + 1, _, _, (sj ++ [y]), oj ++ [(t, (k : Int))], by rw [HJN.out], rfl, hid ⟨by have := HJ.out; omega, by have := HJ.out; omega⟩, hid ⟨h10, HNE.out⟩⟩
                          case measure => simp only [intOf]; omega
                  ·
                    have hcl : ¬ (jn ≤ bn) ∨ ¬ t < (tn : Int) := .inl hb2
                    have HCL := hid hcl
                    obtain ⟨EVA, evc, rfl⟩ := row_form HJI.out.1.row
                    have HRX := hid HJI.out.1
                    have HNXT := hid (show Cf.RbB v bn tn (i + 1) sj (done ++ [⟨0, [], oj⟩]) from HI.out.2.1.next (by have := HN.out; omega) (by have := HN.out; omega) (by rw [HXI.out]; exact HKX.out) (by rw [HXI.out]; exact HJI.out.2) (fun h2 => by have := HJ.out; have := HJN.out; rcases HCL.out with h3 | h3 <;> omega) (by have := HJI.out.2.few; omega))
                    have HRW := hid HJI.out.1.st
                    rw [hjn]
                    clear hso hsv x0 x1 x2 hcl
                    have g4 : decide ((jn : Int) ≤ (bn : Int)) = false := decide_eq_false (by omega)
                    have g4' : decide (jn ≤ bn) = false := decide_eq_false hb2
                    obtain ⟨rs9, hao9, hav9⟩ := HRW.out.aown
                    have hob9 := HRW.out.blk
                    have hX9 := HRX.out.xb
                    have o9 : wr.cell? ⟨w3.heap.size + 1, 0, none⟩ = some av := by rw [Lib.cell_of_heap hob9]; rfl
                    have HAO9 := hid hao9
                    have HAV9 := hid hav9
                    have HOB9 := hid hob9
                    have HX9 := hid hX9
                    have hBW9 := HRW.out.hB
                    obtain ⟨AV, avc, rfl⟩ := row_form hao9
                    obtain ⟨dn, hdn⟩ : ∃ dn, done.length = dn := ⟨_, rfl⟩
                    have HDN := hid hdn
                    rw [hdn] at hao9 o9
                    have hdn4 : dn ≤ 4096 := by have := HI.out.2.1.dl; have := HI.out.2.2.2; omega
                    obtain ⟨iT, hiT, hzT, hsT, hyT⟩ := info_of infoRSt
                    obtain ⟨k0, k1, k2⟩ := cells3 hX9
                    have kz := fun i => Lib.frozen_of_heap hX9 i
                    clear hav9 hob9 hX9 hdn
                    go_wp2_with (at_builtin; refine wpList_push4 wr rfl _ _ 60 rfl w2.heap.size 119 iT _ 3 56 Tryz.underlying60 hiT hzT hsT hyT rfl (by omega) (.slice AV dn avc) dn rs9 rfl hao9 [.int .i64 0, .slice none 0 0, .slice EVA oj.length evc] 1 wr.heap.size rfl rfl rfl (by simp [Value.oneCell']) Nat.zero_lt_one (by simp only [maxLen]; omega) (by omega) hBW9 ?_; intro g9 c9 w9 hown9 hg9 ho9; have hO9 := (ho9.block _ (heap_lt HOB9.out) (fun e => absurd (type_eq (own_type hao9 e).choose_spec HOB9.out) (by decide))).trans HOB9.out; have oc : w9.cell? ⟨w3.heap.size + 1, 0, none⟩ = some (.slice AV dn avc) := (by rw [Lib.cell_of_heap hO9, ← HDN.out]; rfl); have oz : w9.frozen? ⟨w3.heap.size + 1, 0, none⟩ = false := Lib.frozen_of_heap hO9 0)
                    go_roundw
                    case rel =>
                      rw [← HDN.out] at hown9 ho9 hg9 ⊢
                      have hs9 := ho9.size
                      have hOB := HRW.out.ge
                      exact ⟨i + 1, wr.heap.size, _, _, _, done ++ [⟨0, [], oj⟩], by rw [HJN.out], by go_num, hid ⟨HRW.out.pushA HAO9.out HAV9.out (HRX.out.lsr) ((by have := HRX.out.bel.size; have := HRX.out.st.hB; exact Nat.le_of_lt_succ (by have := (heap_lt HRX.out.xb); have := HRX.out.hX; omega))) ho9 hg9 hown9, HNXT.out, (HRX.out.bel.trans (ho9.below' (fun k e => (HAO9.out.lt k e).1) hBW9)).trans ((Only.of_set w9 (w3.heap.size + 1) 0 _).below' (fun k e => by omega) (by omega)), by have := HI.out.2.2.2; omega⟩⟩
                    case measure => simp only [intOf]; omega
                ·
                  have hcl : ¬ (jn ≤ bn) ∨ ¬ t < (tn : Int) := .inr hlt2
                  have HCL := hid hcl
                  obtain ⟨EVA, evc, rfl⟩ := row_form HJI.out.1.row
                  have HRX := hid HJI.out.1
                  have HNXT := hid (show Cf.RbB v bn tn (i + 1) sj (done ++ [⟨0, [], oj⟩]) from HI.out.2.1.next (by have := HN.out; omega) (by have := HN.out; omega) (by rw [HXI.out]; exact HKX.out) (by rw [HXI.out]; exact HJI.out.2) (fun h2 => by have := HJ.out; have := HJN.out; rcases HCL.out with h3 | h3 <;> omega) (by have := HJI.out.2.few; omega))
                  have HRW := hid HJI.out.1.st
                  rw [hjn]
                  clear hso hsv x0 x1 x2 hcl
                  have g3 : decide (t < (tn : Int)) = false := decide_eq_false hlt2
                  obtain ⟨rs9, hao9, hav9⟩ := HRW.out.aown
                  have hob9 := HRW.out.blk
                  have hX9 := HRX.out.xb
                  have o9 : wr.cell? ⟨w3.heap.size + 1, 0, none⟩ = some av := by rw [Lib.cell_of_heap hob9]; rfl
                  have HAO9 := hid hao9
                  have HAV9 := hid hav9
                  have HOB9 := hid hob9
                  have HX9 := hid hX9
                  have hBW9 := HRW.out.hB
                  obtain ⟨AV, avc, rfl⟩ := row_form hao9
                  obtain ⟨dn, hdn⟩ : ∃ dn, done.length = dn := ⟨_, rfl⟩
                  have HDN := hid hdn
                  rw [hdn] at hao9 o9
                  have hdn4 : dn ≤ 4096 := by have := HI.out.2.1.dl; have := HI.out.2.2.2; omega
                  obtain ⟨iT, hiT, hzT, hsT, hyT⟩ := info_of infoRSt
                  obtain ⟨k0, k1, k2⟩ := cells3 hX9
                  have kz := fun i => Lib.frozen_of_heap hX9 i
                  clear hav9 hob9 hX9 hdn
                  go_wp2_with (at_builtin; refine wpList_push4 wr rfl _ _ 60 rfl w2.heap.size 119 iT _ 3 56 Tryz.underlying60 hiT hzT hsT hyT rfl (by omega) (.slice AV dn avc) dn rs9 rfl hao9 [.int .i64 0, .slice none 0 0, .slice EVA oj.length evc] 1 wr.heap.size rfl rfl rfl (by simp [Value.oneCell']) Nat.zero_lt_one (by simp only [maxLen]; omega) (by omega) hBW9 ?_; intro g9 c9 w9 hown9 hg9 ho9; have hO9 := (ho9.block _ (heap_lt HOB9.out) (fun e => absurd (type_eq (own_type hao9 e).choose_spec HOB9.out) (by decide))).trans HOB9.out; have oc : w9.cell? ⟨w3.heap.size + 1, 0, none⟩ = some (.slice AV dn avc) := (by rw [Lib.cell_of_heap hO9, ← HDN.out]; rfl); have oz : w9.frozen? ⟨w3.heap.size + 1, 0, none⟩ = false := Lib.frozen_of_heap hO9 0)
                  go_roundw
                  case rel =>
                    rw [← HDN.out] at hown9 ho9 hg9 ⊢
                    have hs9 := ho9.size
                    have hOB := HRW.out.ge
                    exact ⟨i + 1, wr.heap.size, _, _, _, done ++ [⟨0, [], oj⟩], by rw [HJN.out], by go_num, hid ⟨HRW.out.pushA HAO9.out HAV9.out (HRX.out.lsr) ((by have := HRX.out.bel.size; have := HRX.out.st.hB; exact Nat.le_of_lt_succ (by have := (heap_lt HRX.out.xb); have := HRX.out.hX; omega))) ho9 hg9 hown9, HNXT.out, (HRX.out.bel.trans (ho9.below' (fun k e => (HAO9.out.lt k e).1) hBW9)).trans ((Only.of_set w9 (w3.heap.size + 1) 0 _).below' (fun k e => by omega) (by omega)), by have := HI.out.2.2.2; omega⟩⟩
                  case measure => simp only [intOf]; omega
            ·
              have f1 : (kx != 0) = true := by rw [bne_iff_ne]; exact hk
              have f1' : (kx == 0) = false := by rw [beq_eq_false_iff_ne]; exact hk
              obtain ⟨i0, hi0, gz0, gz1, gz2⟩ := info_of infoZ
              have hrd := (HAX.out.only (Only.of_below (S := SB (w3.heap.size + 1) (w3.heap.size + 1) (.slice (some ⟨gs, 0, none⟩) sets.length sc) av (.slice none 0 0)) HB6.out) (S' := fun _ => False) fun _ _ e => e.elim).reads
              rw [HNA.out] at hrd
              have HK := hid hk
              clear hk
              go_wp2_with (at_builtin; refine wpList_append_reads w6 rfl _ _ 23 rfl w6.heap.size 3 i0 _ 1 8 Tryz.underlying23 hi0 gz0 gz1 gz2 rfl (by omega) _ _ _ rfl (World.ownsRow_nil _ _ _ _) _ _ _ _ _ rfl hrd (by simp [Value.oneCell']) (by simp only [maxLen]; omega) (by omega) (Nat.le_refl _) ?_; intro v7 w7 hown7 hsz7 hB7; rw [Nat.zero_add, List.nil_append] at hown7; obtain ⟨A7, c7, rfl⟩ := row_form hown7; have hb7 := hB7 w6 (Below.refl _ _); have xq1 := (hb7.cell (p := ⟨w5.heap.size, 1, none⟩) hx6).trans x1; have xq2 := (hb7.block w5.heap.size hx6).trans HX6.out; have xqz := fun k => Lib.frozen_of_heap xq2 k)
              have hx7 := heap_lt xq2
              have HX7 := hid xq2
              obtain ⟨w8, hw8⟩ : ∃ w8, Hid (w7.setCell ⟨w5.heap.size, 1, none⟩ (.slice A7 na c7) = w8) := ⟨_, hid rfl⟩
              have ho8 := Only.of_set w7 w5.heap.size 1 (.slice A7 na c7)
              have h8 := heap_setCell_same w7 w5.heap.size 1 _ _ (.slice A7 na c7) xq2
              rw [hw8.out] at ho8 h8 ⊢
              have hnx : av.ownBlock ≠ some w5.heap.size := fun e => by
                obtain ⟨rs, hao, _⟩ := HI.out.1.aown
                have := (hao.lt _ e).2
                omega
              have hb7 := hB7 w6 (Below.refl _ _)
              have HW8 := hid ((HW6.out.below hb7).setX xq2 hnx ho8)
              have hsz8 := ho8.size
              have HLS := hid (show LsR w8 w2.heap.size w8.heap.size (Cf.freshL x) [.int .i64 kx, .slice A7 na c7, .slice none 0 0] by
                unfold Cf.freshL
                rw [HKX.out, if_neg HK.out]
                refine ⟨A7, c7, none, 0, by dsimp only; rw [HNA.out]; rfl, ?_, ⟨rfl, .inl ⟨rfl, rfl⟩⟩, fun k hk => by cases hk⟩
                dsimp only
                rw [HNA.out]
                exact OwnC.base (ownC_only (OwnC.of hown7) ho8 fun k hk e => by
                  obtain ⟨c1, e1⟩ := own_type hown7 hk
                  rw [e] at e1
                  exact absurd (type_eq e1 xq2) (by decide)) (by omega))
              have HB28 := hid ((HB26.out.trans (hb7.mono (by omega))).trans (ho8.below' (B := w2.heap.size) (fun k e => by omega) (by omega)))
              have HH8 := hid h8
              have HNXT := hid (show Cf.RbB v bn tn (i + 1) sets (done ++ [Cf.freshL x]) by
                have h9 := HI.out.2.1.skip (by have := HN.out; omega) (by have := HN.out; omega) (by rw [HXI.out, HKX.out]; exact HK.out) (by omega)
                rw [HXI.out] at h9
                exact h9)
              have hEE : wr.heap.size ≤ w8.heap.size := by omega
              obtain ⟨wa, hwa⟩ : ∃ wa, wa = wr := ⟨_, rfl⟩
              subst hwa
              clear xq1 xq2 xqz x0 x1 x2 xz ho8 h8 hnx hb7 hown7 hsz7 hB7 q1
              go_wp2_with fail
              go_loopw [14, 18] (fun sv' tv wz => sv' = .slice (some ⟨gs, 0, none⟩) sn sc ∧ tv = .int .i64 (-1) ∧ Hid (wz = w8)) (fun _ _ _ => 0)
              case atStart => exact ⟨rfl, rfl, hid rfl⟩
              case round =>
                obtain ⟨rfl, rfl, hz⟩ := hrel
                have hz := hz.out
                subst hz
                have k0 : wr.cell? ⟨w5.heap.size, 0, none⟩ = some (.int .i64 kx) := by rw [Lib.cell_of_heap HH8.out]; rfl
                have g3 : decide ((-1 : Int) < (tn : Int)) = true := decide_eq_true (by omega)
                have g3I : (-1 : Int) < (tn : Int) := by omega
                obtain ⟨rs9, hao9, hav9⟩ := HW8.out.aown
                have hob9 := HW8.out.blk
                have hX9 := HH8.out
                have o9 : wr.cell? ⟨w3.heap.size + 1, 0, none⟩ = some av := by rw [Lib.cell_of_heap hob9]; rfl
                have HAO9 := hid hao9
                have HAV9 := hid hav9
                have HOB9 := hid hob9
                have HX9 := hid hX9
                have hBW9 := HW8.out.hB
                obtain ⟨AV, avc, rfl⟩ := row_form hao9
                obtain ⟨dn, hdn⟩ : ∃ dn, done.length = dn := ⟨_, rfl⟩
                have HDN := hid hdn
                rw [hdn] at hao9 o9
                have hdn4 : dn ≤ 4096 := by have := HI.out.2.1.dl; have := HI.out.2.2.2; omega
                obtain ⟨iT, hiT, hzT, hsT, hyT⟩ := info_of infoRSt
                obtain ⟨k0, k1, k2⟩ := cells3 hX9
                have kz := fun i => Lib.frozen_of_heap hX9 i
                clear hav9 hob9 hX9 hdn
                go_wp2_with (at_builtin; refine wpList_push4 wr rfl _ _ 60 rfl w2.heap.size 119 iT _ 3 56 Tryz.underlying60 hiT hzT hsT hyT rfl (by omega) (.slice AV dn avc) dn rs9 rfl hao9 [.int .i64 kx, .slice A7 na c7, .slice none 0 0] 1 wr.heap.size rfl rfl rfl (by simp [Value.oneCell']) Nat.zero_lt_one (by simp only [maxLen]; omega) (by omega) hBW9 ?_; intro g9 c9 w9 hown9 hg9 ho9; have hO9 := (ho9.block _ (heap_lt HOB9.out) (fun e => absurd (type_eq (own_type hao9 e).choose_spec HOB9.out) (by decide))).trans HOB9.out; have oc : w9.cell? ⟨w3.heap.size + 1, 0, none⟩ = some (.slice AV dn avc) := (by rw [Lib.cell_of_heap hO9, ← HDN.out]; rfl); have oz : w9.frozen? ⟨w3.heap.size + 1, 0, none⟩ = false := Lib.frozen_of_heap hO9 0)
                go_roundw
                case rel =>
                  rw [← HDN.out] at hown9 ho9 hg9 ⊢
                  have hs9 := ho9.size
                  have hOB := HW8.out.ge
                  exact ⟨i + 1, wr.heap.size, _, _, _, done ++ [Cf.freshL x], by rw [HN.out], by go_num, hid ⟨HW8.out.pushA HAO9.out HAV9.out (HLS.out) (hEE) ho9 hg9 hown9, HNXT.out, (HB28.out.trans (ho9.below' (fun k e => (HAO9.out.lt k e).1) hBW9)).trans ((Only.of_set w9 (w3.heap.size + 1) 0 _).below' (fun k e => by omega) (by omega)), by have := HI.out.2.2.2; omega⟩⟩
                case measure => simp only [intOf]; omega
          ·
            have hltI : ¬ (i : Int) < (sn : Int) := by omega
            have g1 : decide ((i : Int) < (sn : Int)) = false := decide_eq_false hltI
            have g1' : decide (i < sn) = false := decide_eq_false hlt
            have g2 : decide ((sn : Int) ≤ (bn : Int)) = true := decide_eq_true (by omega)
            have g2' : decide (sn ≤ bn) = true := decide_eq_true hb
            have g2I : (sn : Int) ≤ (bn : Int) := by omega
            obtain ⟨rs, hao, hav⟩ := HI.out.1.aown
            obtain ⟨AV, avc, rfl⟩ := row_form hao
            have hob := HI.out.1.blk
            have o0 : wr.cell? ⟨w3.heap.size + 1, 0, none⟩ = some (.slice AV done.length avc) := by rw [Lib.cell_of_heap hob]; rfl
            have q1 := (HI.out.2.2.1.block (w.heap.size + 1) hxl).trans HX2.out
            have qc : wr.cell? ⟨w.heap.size + 1, 0, none⟩ = some (.slice none 0 0) := by rw [Lib.cell_of_heap q1]; rfl
            have qz : wr.frozen? ⟨w.heap.size + 1, 0, none⟩ = false := Lib.frozen_of_heap q1 0
            have ho := Only.of_set wr (w.heap.size + 1) 0 (.slice AV done.length avc)
            have ec : (wr.setCell ⟨w.heap.size + 1, 0, none⟩ (.slice AV done.length avc)).cell? ⟨w.heap.size + 1, 0, none⟩ = some (.slice AV done.length avc) := by
              rw [Lib.cell_of_heap (heap_setCell_same wr (w.heap.size + 1) 0 _ _ _ q1)]; rfl
            have HQ2 := hid (show Cf.autoF v bn tn = done from HI.out.2.1.auto_done (by omega) (by omega))
            have hdl := HI.out.2.1.dl
            have hsz2 := HB2.out.size
            have HFIN := hid (show RBuP n d b bn tn w (.returned (.tuple #[.agg #[.slice AV done.length avc], .int .i64 0])) (wr.setCell ⟨w.heap.size + 1, 0, none⟩ (.slice AV done.length avc)) from
              .inr ⟨done, AV, avc, by rw [HQ.out, HQ2.out], rfl, ⟨rs, E, OwnC.base (ownC_only (OwnC.of hao) ho fun k hk e => by have := (hao.lt k hk).1; omega) hsz2, (hav.only (E' := E) ho (fun k e => by rw [e]; exact ⟨notC q1 (by decide), .inr (notC q1 (by decide))⟩) (Nat.le_refl _)).base hsz2⟩, by omega, HI.out.2.1.small, ((HB2.out.trans (HI.out.2.2.1.mono hsz2)).trans (ho.below' (fun k e => by omega) (by omega)))⟩)
            generalize done.length = dn at *
            rw [hn]
            clear hso hsv hao hav hob q1 ho hdl hlt hb
            go_wp2_with fail
            simp [bodyPost, results, Tryz.results22, go_sem, ec]
            exact HFIN.out
        · have hlt : i < sn := by omega
          have hltI : (i : Int) < (sn : Int) := by omega
          have g1 : decide ((i : Int) < (sn : Int)) = true := decide_eq_true hltI
          have g1' : decide (i < sn) = true := decide_eq_true hlt
          have g2 : decide ((sn : Int) ≤ (bn : Int)) = false := decide_eq_false (by omega)
          have g2' : decide (sn ≤ bn) = false := decide_eq_false hb
          have HQ2 := hid (show Cf.autoF v bn tn = Cf.tryAll v from HI.out.2.1.auto_full (by omega))
          have hsz2 := HB2.out.size
          have hbw5 := below_new wr (.cells #[.int .i64 3, .slice none 0 0, .slice none 0 0] 119)
          have h5 := heap_alloc_new wr (.cells #[.int .i64 3, .slice none 0 0, .slice none 0 0] 119)
          obtain ⟨w5, hw5⟩ : ∃ w5, Hid (wr.alloc (.cells #[.int .i64 3, .slice none 0 0, .slice none 0 0] 119) = w5) := ⟨_, hid rfl⟩
          rw [hw5.out] at hbw5 h5
          have HB5 := hid hbw5
          have HY5 := hid h5
          have hy5 := heap_lt h5
          obtain ⟨en, hen⟩ : ∃ en, v.d.ends.length = en := ⟨_, rfl⟩
          have HEN := hid hen
          rw [hen] at hdl
          rw [hn]
          obtain ⟨wa, hwa⟩ : ∃ wa, wa = wr := ⟨_, rfl⟩
          subst hwa
          clear hso hsv hbw5 h5 hlt hb hen hn
          go_upto_region 27 with fail
          rw [hw5.out]
          clear hw5 g1 g1' g2 g2'
          go_wp2_with fail
          go_loopw [22] (fun av' wr => ∃ (m : Nat) (u : Value), m ≤ en ∧ av' = .int .i64 (m : Int) ∧ Hid (wr.heap[wa.heap.size]? = some (.cells #[.int .i64 3, u, .slice none 0 0] 119 (0, 0)) ∧ wr.ownsRow w5.heap.size 3 1 u m (((List.range m).map fun i : Nat => (i : Int)).map (Value.int .i64)) ∧ Below wa.heap.size wa wr ∧ w5.heap.size ≤ wr.heap.size)) (fun av' _ => en - (intOf av').toNat)
          case atStart => exact ⟨0, _, Nat.zero_le _, rfl, hid ⟨HY5.out, World.ownsRow_nil _ _ _ _, HB5.out, Nat.le_refl _⟩⟩
          case round =>
            obtain ⟨m, u, hm, rfl, HM⟩ := hrel
            have HBM := hid (HI.out.2.2.1.trans (HM.out.2.2.1.mono hwsz))
            have hvr := (HV.out.below HBM.out).blk
            have v7 : wr.cell? ⟨V, 7, none⟩ = some (.slice a.XA en a.xc) := by rw [Lib.cell_of_heap hvr, ← HEN.out]; rfl
            have hmy := HM.out.1
            obtain ⟨y0, y1, y2⟩ := cells3 hmy
            have hrow := HM.out.2.1
            have hMsz := HM.out.2.2.2
            clear hvr hmy
            by_cases hlt : m < en
            · have hwrm : IntKind.i64.wrap ((m : Int) + 1) = (m : Int) + 1 := w64 (by omega) (by omega)
              have hltI : (m : Int) < (en : Int) := by omega
              obtain ⟨AU, uc, rfl⟩ := row_form hrow
              obtain ⟨i0, hi0, gz0, gz1, gz2⟩ := info_of infoZ
              have HROW := hid hrow
              go_wp2_with (at_builtin; refine wpList_push4 wr rfl _ _ 23 rfl w5.heap.size 3 i0 _ 1 8 Tryz.underlying23 hi0 gz0 gz1 gz2 rfl (by omega) (.slice AU m uc) m _ rfl hrow [.int .i64 (m : Int)] 1 wr.heap.size rfl rfl rfl (by simp [Value.oneCell']) Nat.zero_lt_one (by simp only [maxLen]; omega) (by omega) hMsz ?_; intro g7 c7 w7 hown7 hg7 ho7; have hx7 := (ho7.block _ (heap_lt HM.out.1) (fun e => by have := (HROW.out.lt _ e).1; omega)).trans HM.out.1; obtain ⟨z0, z1, z2⟩ := cells3 hx7; have zz := fun k => Lib.frozen_of_heap hx7 k)
              go_roundw
              case rel =>
                have ho8 := Only.of_set w7 wa.heap.size 1 (.slice (some ⟨g7, 0, none⟩) (m + 1) c7)
                have hx8 := heap_setCell_same w7 wa.heap.size 1 _ _ (.slice (some ⟨g7, 0, none⟩) (m + 1) c7) hx7
                have hs7 := ho7.size
                have hs8 := ho8.size
                refine ⟨m + 1, _, hlt, by go_num, hid ⟨hx8, ?_, (HM.out.2.2.1.trans (ho7.below' (fun k e => by have := (HROW.out.lt _ e).1; omega) (by omega))).trans (ho8.below' (fun k e => by omega) (by omega)), by omega⟩⟩
                rw [List.range_succ, List.map_append, List.map_append]
                exact ownsRow_only hown7 ho8 (fun k hk e => by have := (hown7.lt _ hk).1; omega)
              case measure => simp only [intOf]; omega
            · have hme : m = en := by omega
              subst hme
              obtain ⟨AU, uc, rfl⟩ := row_form hrow
              have q1 := (HBM.out.block (w.heap.size + 1) hxl).trans HX2.out
              have hwm := HBM.out.size
              have hbl := below_new wr (.cells #[.int .i64 3, .slice AU m uc, .slice none 0 0] 119)
              have h7 := heap_alloc_new wr (.cells #[.int .i64 3, .slice AU m uc, .slice none 0 0] 119)
              have hown7 := World.ownsRow_lit (base := w2.heap.size) (size := 3) (e := 119) wr #[.int .i64 3, .slice AU m uc, .slice none 0 0] 1 hwm (by decide) rfl
              have hrow7 := ownsRow_below hrow hbl (Nat.le_refl _)
              obtain ⟨w7, hw7⟩ : ∃ w7, Hid (wr.alloc (.cells #[.int .i64 3, .slice AU m uc, .slice none 0 0] 119) = w7) := ⟨_, hid rfl⟩
              rw [hw7.out] at hbl h7 hown7 hrow7
              have q7 := (hbl.block (w.heap.size + 1) (by omega)).trans q1
              have qc : w7.cell? ⟨w.heap.size + 1, 0, none⟩ = some (.slice none 0 0) := by rw [Lib.cell_of_heap q7]; rfl
              have qz : w7.frozen? ⟨w.heap.size + 1, 0, none⟩ = false := Lib.frozen_of_heap q7 0
              have ho := Only.of_set w7 (w.heap.size + 1) 0 (.slice (some ⟨wr.heap.size, 0, none⟩) 1 1)
              have ec : (w7.setCell ⟨w.heap.size + 1, 0, none⟩ (.slice (some ⟨wr.heap.size, 0, none⟩) 1 1)).cell? ⟨w.heap.size + 1, 0, none⟩ = some (.slice (some ⟨wr.heap.size, 0, none⟩) 1 1) := by
                rw [Lib.cell_of_heap (heap_setCell_same w7 (w.heap.size + 1) 0 _ _ _ q7)]; rfl
              have hs5 := HB5.out.size
              have HFIN := hid (show RBuP n d b bn tn w (.returned (.tuple #[.agg #[.slice (some ⟨wr.heap.size, 0, none⟩) 1 1], .int .i64 0])) (w7.setCell ⟨w.heap.size + 1, 0, none⟩ (.slice (some ⟨wr.heap.size, 0, none⟩) 1 1)) from
                .inr ⟨[⟨3, (List.range m).map fun i : Nat => (i : Int), []⟩], _, 1, by rw [HQ.out, HQ2.out]; unfold Cf.tryAll; rw [HEN.out], rfl, ⟨[.int .i64 3, .slice AU m uc, .slice none 0 0], w7.heap.size, OwnC.base (ownC_only (OwnC.of hown7) ho fun k hk e => by have := (hown7.lt k hk).1; omega) hsz2, ⟨[.int .i64 3, .slice AU m uc, .slice none 0 0], [], rfl, ⟨AU, uc, none, 0, by simp, by
                  simp only [List.length_map, List.length_range]
                  exact OwnC.base (ownC_only (OwnC.of hrow7) ho fun k hk e => by have := (hrow7.lt k hk).1; omega) (by omega), ⟨rfl, .inl ⟨rfl, rfl⟩⟩, fun k hk => by cases hk⟩, rfl⟩⟩, by simp, by have h9 := Cf.AutS.tryAll (v := v) (by rw [HEN.out]; omega); unfold Cf.tryAll at h9; rw [HEN.out] at h9; exact h9, ((HB2.out.trans (HBM.out.mono hsz2)).trans (hbl.mono (by omega))).trans (ho.below' (fun k e => by omega) (by have := hbl.size; omega))⟩)
              have hltI : ¬ (m : Int) < (m : Int) := by omega
              clear hrow hbl h7 hown7 hrow7 q1 q7 ho hlt
              rw [← hw7.out] at qc qz ec
              go_wp2_with fail
              simp [bodyPost, results, Tryz.results22, go_sem, ec]
              rw [hw7.out]
              exact HFIN.out
    · have HQ := hid (show Cf.autoQ n d b budget tokens = none by unfold Cf.autoQ; rw [hnv]; dsimp only; rw [if_neg hgood])
      have qc : w2.cell? ⟨w.heap.size + 1, 0, none⟩ = some (.slice none 0 0) := by rw [Lib.cell_of_heap q1]; rfl
      have qz : w2.frozen? ⟨w.heap.size + 1, 0, none⟩ = false := Lib.frozen_of_heap q1 0
      have ho := Only.of_set w2 (w.heap.size + 1) 0 (.slice none 0 0)
      have HBo := hid (HB2.out.trans (ho.below' (fun k e => by omega) HB2.out.size))
      have ec : (w2.setCell ⟨w.heap.size + 1, 0, none⟩ (.slice none 0 0)).cell? ⟨w.heap.size + 1, 0, none⟩ = some (.slice none 0 0) := by
        rw [Lib.cell_of_heap (heap_setCell_same w2 (w.heap.size + 1) 0 _ _ _ q1)]; rfl
      clear hb2 hnv q1 ho hva
      rcases bad_cases budget tokens hgood with f1 | ⟨f1, f2⟩ | ⟨f1, f2, f3⟩ | ⟨f1, f2, f3, f4⟩
      all_goals
        clear hgood
        go_wp2_with fail
        simp [bodyPost, results, Tryz.results22, go_sem, ec]
        exact .inl ⟨HQ.out, rfl, HBo.out⟩
end Go.Proofs.YtnpcjbdolmmaeaaGreatDoor
