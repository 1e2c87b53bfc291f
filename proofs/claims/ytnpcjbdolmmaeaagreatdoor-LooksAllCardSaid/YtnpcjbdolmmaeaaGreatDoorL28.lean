/-
  A view is made, as the document has it (harbingerref14.New): the walk. Printed by gen_cfrw.py out of CfNw.
-/
import Derived.Test.YtnpcjbdolmmaeaaGreatDoorL25
import Derived.Test.YtnpcjbdolmmaeaaGreatDoorL27
namespace Go.Proofs.YtnpcjbdolmmaeaaGreatDoor
open Go.RowKit
set_option maxRecDepth 100000
def RnwP (n : Drv.NNet) (d b : Int) (w : World) (e : Ending) (w' : World) : Prop :=
  (Cf.newV n d b = none ∧ e = .returned (.tuple #[.pointer none, .int .i64 1]) ∧ Below w.heap.size w w') ∨
  ∃ v V a, Cf.newV n d b = some v ∧ e = .returned (.tuple #[.pointer (some ⟨V, 0, none⟩), .int .i64 0]) ∧ RvAt w' w'.heap.size V a v ∧ w.heap.size ≤ V ∧ Below w.heap.size w w'
set_option maxHeartbeats 8000000 in
theorem rnew_any (n : Drv.NNet) (d b : Int) (SA TA UA QA DA : Option Addr) (sc tc uc qc dc : Nat) (w : World) (h : NetRf w w.heap.size SA TA UA QA DA n) (hs : NetS n) (hf : Cf.fewN n) :
    Calls Tryz.prog 9 #[netAgg SA TA UA QA DA sc tc uc qc dc n, .int .i64 d, .int .i64 b] w (RnwP n d b w) := by
  obtain ⟨w1, hw1⟩ : ∃ w1, Hid (w.alloc (.cells #[.slice SA n.states.length sc, .slice TA n.starts.length tc, .slice UA n.stops.length uc, .slice QA n.preds.length qc, .slice DA n.decs.length dc] 38) = w1) := ⟨_, hid rfl⟩
  have hb1 : Below w.heap.size w w1 := by rw [← hw1.out]; exact below_new _ _
  have h1 : w1.heap[w.heap.size]? = some (.cells #[.slice SA n.states.length sc, .slice TA n.starts.length tc, .slice UA n.stops.length uc, .slice QA n.preds.length qc, .slice DA n.decs.length dc] 38 (0, 0)) := by rw [← hw1.out]; exact heap_alloc_new _ _
  have hmay := rnetMay_any w1 n SA TA UA QA DA sc tc uc qc dc ⟨stsRf_more (h.below hb1).sts hb1.size, (h.below hb1).starts.more hb1.size, (h.below hb1).stops.more hb1.size, (h.below hb1).preds.more hb1.size, (h.below hb1).decs.more hb1.size⟩ hs
  unfold netAgg at hmay ⊢
  have n0 : w1.cell? ⟨w.heap.size, 0, none⟩ = some (.slice SA n.states.length sc) := by rw [Lib.cell_of_heap h1]; rfl
  have n1 : w1.cell? ⟨w.heap.size, 1, none⟩ = some (.slice TA n.starts.length tc) := by rw [Lib.cell_of_heap h1]; rfl
  have n2 : w1.cell? ⟨w.heap.size, 2, none⟩ = some (.slice UA n.stops.length uc) := by rw [Lib.cell_of_heap h1]; rfl
  have n3 : w1.cell? ⟨w.heap.size, 3, none⟩ = some (.slice QA n.preds.length qc) := by rw [Lib.cell_of_heap h1]; rfl
  have n4 : w1.cell? ⟨w.heap.size, 4, none⟩ = some (.slice DA n.decs.length dc) := by rw [Lib.cell_of_heap h1]; rfl
  have HN := hid h
  have HM := hid hmay
  have HF := hid hf
  have HB1 := hid hb1
  have HH1 := hid h1
  obtain ⟨q, hq⟩ : ∃ q, Drv.mayNet n = q := ⟨_, rfl⟩
  rw [hq] at HM
  have HQ := hid hq
  clear h hmay hf hb1 h1 hq
  have hno : (q = false ∨ d < 0 ∨ (n.decs.length : Int) ≤ d ∨ b < 1 ∨ 8 < b) → Cf.newV n d b = none := fun hc => by
    unfold Cf.newV
    rw [if_neg]
    rintro ⟨a1, a2, a3, a4, a5⟩
    rw [HQ.out] at a1
    rcases hc with hc | hc | hc | hc | hc
    · rw [hc] at a1; cases a1
    · omega
    · omega
    · omega
    · omega
  have HNO := hid hno
  clear hno
  cases q with
  | false =>
    go_enter Tryz.func9, Tryz.ntmps9
    go_wp2_with fail
    rw [hw1.out]
    go_wp2_with fail
    go_at_call 29
    refine HM.out.mono ?_
    rintro _ w2 ⟨rfl, hb2⟩
    go_wp2
    go_ret2
    exact .inl ⟨HNO.out (.inl trivial), rfl, HB1.out.trans (hb2.mono HB1.out.size)⟩
  | true =>
    by_cases g1 : d < 0
    · have f1 : decide (d < 0) = true := decide_eq_true g1
      have G1 := hid g1
      clear g1
      go_enter Tryz.func9, Tryz.ntmps9
      go_wp2_with fail
      rw [hw1.out]
      go_wp2_with fail
      go_at_call 29
      refine HM.out.mono ?_
      rintro _ w2 ⟨rfl, hb2⟩
      have n4 := (hb2.cell (p := ⟨w.heap.size, 4, none⟩) (heap_lt HH1.out)).trans n4
      go_wp2
      go_ret2
      exact .inl ⟨HNO.out (.inr (.inl G1.out)), rfl, HB1.out.trans (hb2.mono HB1.out.size)⟩
    · have f1 : decide (d < 0) = false := decide_eq_false g1
      obtain ⟨dn, rfl⟩ : ∃ dn : Nat, d = (dn : Int) := ⟨d.toNat, by omega⟩
      clear g1
      by_cases g2 : (n.decs.length : Int) ≤ (dn : Int)
      · have f2 : decide ((n.decs.length : Int) ≤ (dn : Int)) = true := decide_eq_true g2
        have f2n : decide (n.decs.length ≤ dn) = true := decide_eq_true (by omega)
        have G2 := hid g2
        clear g2
        go_enter Tryz.func9, Tryz.ntmps9
        go_wp2_with fail
        rw [hw1.out]
        go_wp2_with fail
        go_at_call 29
        refine HM.out.mono ?_
        rintro _ w2 ⟨rfl, hb2⟩
        have n4 := (hb2.cell (p := ⟨w.heap.size, 4, none⟩) (heap_lt HH1.out)).trans n4
        go_wp2
        go_ret2
        exact .inl ⟨HNO.out (.inr (.inr (.inl G2.out))), rfl, HB1.out.trans (hb2.mono HB1.out.size)⟩
      · have f2 : decide ((n.decs.length : Int) ≤ (dn : Int)) = false := decide_eq_false g2
        have f2n : decide (n.decs.length ≤ dn) = false := decide_eq_false (by omega)
        have hdl : dn < n.decs.length := by omega
        clear g2
        by_cases g3 : b < 1
        · have f3 : decide (b < 1) = true := decide_eq_true g3
          have G3 := hid g3
          clear g3
          go_enter Tryz.func9, Tryz.ntmps9
          go_wp2_with fail
          rw [hw1.out]
          go_wp2_with fail
          go_at_call 29
          refine HM.out.mono ?_
          rintro _ w2 ⟨rfl, hb2⟩
          have n4 := (hb2.cell (p := ⟨w.heap.size, 4, none⟩) (heap_lt HH1.out)).trans n4
          go_wp2
          go_ret2
          exact .inl ⟨HNO.out (.inr (.inr (.inr (.inl G3.out)))), rfl, HB1.out.trans (hb2.mono HB1.out.size)⟩
        · have f3 : decide (b < 1) = false := decide_eq_false g3
          have hb1' : 1 ≤ b := by omega
          clear g3
          by_cases g4 : 8 < b
          · have f4 : decide (8 < b) = true := decide_eq_true g4
            have G4 := hid g4
            clear g4
            go_enter Tryz.func9, Tryz.ntmps9
            go_wp2_with fail
            rw [hw1.out]
            go_wp2_with fail
            go_at_call 29
            refine HM.out.mono ?_
            rintro _ w2 ⟨rfl, hb2⟩
            have n4 := (hb2.cell (p := ⟨w.heap.size, 4, none⟩) (heap_lt HH1.out)).trans n4
            go_wp2
            go_ret2
            exact .inl ⟨HNO.out (.inr (.inr (.inr (.inr G4.out)))), rfl, HB1.out.trans (hb2.mono HB1.out.size)⟩
          · have f4 : decide (8 < b) = false := decide_eq_false g4
            have hb8 : b ≤ 8 := by omega
            clear g4
            have hmf := Cf.mayF HQ.out
            obtain ⟨k, hk, e1, e2, e3⟩ := Cf.dec_at hmf hdl
            have hnv : Cf.newV n (dn : Int) b = some ⟨n, n.states[k], b⟩ := by
              unfold Cf.newV
              rw [if_pos ⟨HQ.out, by omega, by omega, hb1', hb8⟩, Int.toNat_natCast, e3]
            obtain ⟨s, hsk⟩ : ∃ s, n.states[k] = s := ⟨_, rfl⟩
            rw [hsk] at hnv
            have hde : n.decs[dn]? = some (k : Int) := by
              rw [← e1, List.getD_eq_getElem?_getD, List.getElem?_eq_getElem hdl]; rfl
            go_enter Tryz.func9, Tryz.ntmps9
            go_wp2_with fail
            rw [hw1.out]
            go_wp2_with fail
            go_at_call 29
            refine HM.out.mono ?_
            rintro _ w2 ⟨rfl, hb2⟩
            have hb02 := HB1.out.trans (hb2.mono HB1.out.size)
            have hn2 := HN.out.below hb02
            have hh2 := (hb2.block w.heap.size (heap_lt HH1.out)).trans HH1.out
            obtain ⟨sb, so, EA, ec, XA, xc, hSA, hsl, m0, m1, m2, rE, rX⟩ := hn2.sts.at hk
            rw [hsk] at m0 m1 m2 rE rX
            obtain ⟨db, dof, hDA, hdb, hdc⟩ := hn2.decs.2 (by omega)
            have md := hdc dn (.int .i64 (k : Int)) (by rw [List.getElem?_map, hde]; rfl)
            have n0 : w2.cell? ⟨w.heap.size, 0, none⟩ = some (.slice SA n.states.length sc) := by rw [Lib.cell_of_heap hh2]; rfl
            have n1 : w2.cell? ⟨w.heap.size, 1, none⟩ = some (.slice TA n.starts.length tc) := by rw [Lib.cell_of_heap hh2]; rfl
            have n2 : w2.cell? ⟨w.heap.size, 2, none⟩ = some (.slice UA n.stops.length uc) := by rw [Lib.cell_of_heap hh2]; rfl
            have n3 : w2.cell? ⟨w.heap.size, 3, none⟩ = some (.slice QA n.preds.length qc) := by rw [Lib.cell_of_heap hh2]; rfl
            have n4 : w2.cell? ⟨w.heap.size, 4, none⟩ = some (.slice DA n.decs.length dc) := by rw [Lib.cell_of_heap hh2]; rfl
            have hw2 : w.heap.size < w2.heap.size := heap_lt hh2
            rw [hSA] at n0
            rw [hDA] at n4
            go_upto_region 3 with fail
            have HB02 := hid hb02
            have HN2 := hid hn2
            have HSA := hid hSA
            have HDA := hid hDA
            have HRE := hid rE
            have HRX := hid rX
            have HNV := hid hnv
            have HMF := hid hmf
            clear hb02 hn2 hSA hDA rE rX hnv hmf hsk hde e1 e2 e3 hdc hh2 hb2
            have hS3 : ∀ o : Obj, (w2.alloc o).drew.cell? ⟨w.heap.size, 0, none⟩ = some (.slice (some ⟨sb, so, none⟩) n.states.length sc) ∧ (w2.alloc o).drew.cell? ⟨w.heap.size, 1, none⟩ = some (.slice TA n.starts.length tc) ∧ (w2.alloc o).drew.cell? ⟨w.heap.size, 2, none⟩ = some (.slice UA n.stops.length uc) ∧ (w2.alloc o).drew.cell? ⟨w.heap.size, 3, none⟩ = some (.slice QA n.preds.length qc) ∧ (w2.alloc o).drew.cell? ⟨w.heap.size, 4, none⟩ = some (.slice (some ⟨db, dof, none⟩) n.decs.length dc) ∧ (w2.alloc o).drew.cell? ⟨db, dof + dn, none⟩ = some (.int .i64 (k : Int)) ∧ (w2.alloc o).drew.cell? ⟨sb, so + k * 3, none⟩ = some (.int .i64 s.rule) ∧ (w2.alloc o).drew.cell? ⟨sb, so + k * 3 + 1, none⟩ = some (.slice EA s.edges.length ec) ∧ (w2.alloc o).drew.cell? ⟨sb, so + k * 3 + 2, none⟩ = some (.slice XA s.ends.length xc) := fun o => by
              have hn : ∀ (b i : Nat), b < w2.heap.size → (w2.alloc o).drew.cell? ⟨b, i, none⟩ = w2.cell? ⟨b, i, none⟩ := fun b i hb => (below_new w2 o).drew.cell (p := ⟨b, i, none⟩) hb
              have := HB02.out.size
              exact ⟨(hn _ _ (by omega)).trans n0, (hn _ _ (by omega)).trans n1, (hn _ _ (by omega)).trans n2, (hn _ _ (by omega)).trans n3, (hn _ _ (by omega)).trans n4, (hn _ _ (by omega)).trans md, (hn _ _ (by omega)).trans m0, (hn _ _ (by omega)).trans m1, (hn _ _ (by omega)).trans m2⟩
            go_region_held3 (fun w' => w'.cell? ⟨w.heap.size, 0, none⟩ = some (.slice (some ⟨sb, so, none⟩) n.states.length sc) ∧ w'.cell? ⟨w.heap.size, 1, none⟩ = some (.slice TA n.starts.length tc) ∧ w'.cell? ⟨w.heap.size, 2, none⟩ = some (.slice UA n.stops.length uc) ∧ w'.cell? ⟨w.heap.size, 3, none⟩ = some (.slice QA n.preds.length qc) ∧ w'.cell? ⟨w.heap.size, 4, none⟩ = some (.slice (some ⟨db, dof, none⟩) n.decs.length dc) ∧ w'.cell? ⟨db, dof + dn, none⟩ = some (.int .i64 (k : Int)) ∧ w'.cell? ⟨sb, so + k * 3, none⟩ = some (.int .i64 s.rule) ∧ w'.cell? ⟨sb, so + k * 3 + 1, none⟩ = some (.slice EA s.edges.length ec) ∧ w'.cell? ⟨sb, so + k * 3 + 2, none⟩ = some (.slice XA s.ends.length xc)) (first | assumption | exact ⟨n0, n1, n2, n3, n4, md, m0, m1, m2⟩ | exact hS3 _) (fail)
            obtain ⟨w3, hw3⟩ : ∃ w3, (w2.alloc (.cells #[.slice (some ⟨sb, so, none⟩) n.states.length sc, .slice TA n.starts.length tc, .slice UA n.stops.length uc, .slice QA n.preds.length qc, .slice (some ⟨db, dof, none⟩) n.decs.length dc, .int .i64 s.rule, .slice EA s.edges.length ec, .slice XA s.ends.length xc, .int .i64 b] 99)).drew = w3 := ⟨_, rfl⟩
            have hv3 : w3.heap[w2.heap.size]? = some (.cells #[.slice (some ⟨sb, so, none⟩) n.states.length sc, .slice TA n.starts.length tc, .slice UA n.stops.length uc, .slice QA n.preds.length qc, .slice (some ⟨db, dof, none⟩) n.decs.length dc, .int .i64 s.rule, .slice EA s.edges.length ec, .slice XA s.ends.length xc, .int .i64 b] 99 (0, 0)) := by
              rw [← hw3]; exact heap_alloc_new _ _
            have hb3 : Below w2.heap.size w2 w3 := by rw [← hw3]; exact (below_new w2 _).drew
            rw [hw3]
            clear hw3 hS3 md m0 m1 m2 n0 n1 n2 n3 n4
            have hz3 := heap_lt hv3
            have hbr := HB02.out.trans (hb3.mono HB02.out.size)
            have hnr := HN.out.below hbr
            have hE2 := HRE.out.below (hb3.mono HB02.out.size)
            have hX2 := HRX.out.below (hb3.mono HB02.out.size)
            have hs2 := HB02.out.size
            have hVA : RvAt w3 w3.heap.size w2.heap.size ⟨SA, TA, UA, QA, DA, EA, XA, none, sc, tc, uc, qc, dc, ec, xc, 0⟩ ⟨n, s, b⟩ :=
              ⟨by rw [hv3, HSA.out, HDA.out]; rfl, by omega, ⟨stsRf_more hnr.sts (by omega), hnr.starts.more (by omega), hnr.stops.more (by omega), hnr.preds.more (by omega), hnr.decs.more (by omega)⟩, hE2.more (by omega), hX2.more (by omega)⟩
            have HVA := hid hVA
            have HBR := hid hbr
            clear hVA hbr hnr hE2 hX2 hv3 hb3
            go_wp2
            go_ret2
            exact .inr ⟨_, _, _, HNV.out, rfl, HVA.out, by omega, HBR.out⟩
end Go.Proofs.YtnpcjbdolmmaeaaGreatDoor
