/-
  Where a decision begins, as the document has it (harbingerref14.View.Start): the walk.
-/
import Derived.Test.YtnpcjbdolmmaeaaGreatDoorCfRc
namespace Go.Proofs.YtnpcjbdolmmaeaaGreatDoor
open Go.RowKit
set_option maxRecDepth 100000
theorem stsRf_more {w : World} {B B' : Nat} {A : Option Addr} {l : List Drv.NSt} (h : StsRf w B A l) (hb : B ≤ B') : StsRf w B' A l := by
  obtain ⟨vs, h1, h2⟩ := h
  refine ⟨vs, h1.more hb, fun i hi => ?_⟩
  obtain ⟨EA, ec, XA, xc, e0, e1, e2, r0, r1⟩ := h2 i hi
  exact ⟨EA, ec, XA, xc, e0, e1, e2, r0.more hb, r1.more hb⟩
theorem RvAt.more {w : World} {B B' V : Nat} {a : VwA} {v : Cf.Vw} (h : RvAt w B V a v) (hb : B ≤ B') : RvAt w B' V a v :=
  ⟨h.blk, Nat.lt_of_lt_of_le h.lt hb, ⟨stsRf_more h.net.sts hb, h.net.starts.more hb, h.net.stops.more hb, h.net.preds.more hb, h.net.decs.more hb⟩, h.edges.more hb, h.ends.more hb⟩
/-- the set is stored in the result's cell -/
theorem rcl_store {v : Cf.Vw} {l : List Cf.Cfg} {w w1 w2 w3 : World} {s : Cf.St} {CA AA : Option Addr} {ca aa : Nat} (hI : Cf.IsSet v l s) (hB : Cf.SetB v s) (hc : CfR w2 (fun _ => False) CA s.configs) (hr : Reads w2 w2.heap.size 1 AA s.alts.length (s.alts.map (Value.int .i64)))
    (hn : NoInt w2 w.heap.size) (hb : Below w.heap.size w w1) (h12 : Below w1.heap.size w1 w2) (ho : Only (fun k => k = w.heap.size) w2 w3) : RclP v l w (.returned (setAggR CA ca AA aa s)) w3 := by
  have h2 := hb.trans (h12.mono hb.size)
  have ha : RO w2 (fun _ => False) 1 AA s.alts.length (s.alts.map (Value.int .i64)) := RO.of_reads hr (Nat.le_refl _) (fun _ e => e.elim)
  exact ⟨s, CA, ca, AA, aa, rfl, hI, hB, (hc.not_at hn).only ho (fun _ _ e => e.elim), ((ha.not_at hn).only (S' := fun _ => False) ho (fun _ _ e => e.elim)).reads, h2.trans (ho.below' (fun k e => by omega) h2.size)⟩
theorem startL_at (v : Cf.Vw) (j : Nat) (h : j < (Cf.startL v).length) (h2 : j < v.d.edges.length) : (Cf.startL v)[j] = ⟨(j : Int), v.d.edges[j].to, [], true, false⟩ := by
  have : (Cf.startL v)[j]? = some ⟨(j : Int), v.d.edges[j].to, [], true, false⟩ := by
    unfold Cf.startL
    rw [List.getElem?_map, List.getElem?_zipIdx, List.getElem?_eq_getElem h2]
    simp
  rw [List.getElem?_eq_getElem h] at this
  injection this
/-- what the document's view is, of what may be -/
structure RvOk (v : Cf.Vw) : Prop where
  W : Cf.OkW v
  kind : ∀ s ∈ v.n.states, ∀ e ∈ s.edges, 0 ≤ e.kind ∧ e.kind ≤ 3
  stops : v.n.stops.length ≤ 100000
  ends : v.d.ends.length ≤ 1000000
  dec : v.d ∈ v.n.states
set_option maxHeartbeats 4000000 in
theorem rstart_any (v : Cf.Vw) (a : VwA) (V : Nat) (w : World) (hv : RvAt w w.heap.size V a v) (K : RvOk v) (hh : ∀ x ∈ Cf.startL v, Cf.has v x = true) :
    Calls Tryz.prog 13 #[.pointer (some ⟨V, 0, none⟩)] w (RclP v (Cf.startL v) w) := by
  obtain ⟨w1, hw1⟩ : ∃ w1, Hid (w.alloc (.cells #[.slice none 0 0, .slice none 0 0, .bool false] 47) = w1) := ⟨_, hid rfl⟩
  have hb1 : Below w.heap.size w w1 := by rw [← hw1.out]; exact below_new _ _
  have h1 : w1.heap[w.heap.size]? = some (.cells #[.slice none 0 0, .slice none 0 0, .bool false] 47 (0, 0)) := by rw [← hw1.out]; exact heap_alloc_new _ _
  have z1 : w1.heap.size = w.heap.size + 1 := by rw [← hw1.out]; simp
  obtain ⟨iC, hiC, hzC, hsC, hyC⟩ := info_of infoRC
  have HV := hid hv
  have HB1 := hid hb1
  have HH1 := hid h1
  have HK := hid K
  have HHS := hid hh
  have hel := K.W.edges _ K.dec
  have hsl := startL_len v
  have HSL := hid hsl
  have hVl := hv.lt
  clear hv hb1 h1 hh hsl K
  go_enter Tryz.func13, Tryz.ntmps13
  go_upto_block 0 with fail
  rw [hw1.out]
  clear hw1
  go_wp2_with fail
  go_loopw [3, 4] (fun o i wr => ∃ (j : Nat) (u : Value), u = o ∧ j ≤ v.d.edges.length ∧ i = .int .i64 (j : Int) ∧ Hid (FI w1 (fun _ => False) u ((Cf.startL v).take j) wr)) (fun _ i _ => v.d.edges.length - (intOf i).toNat)
  case atStart => exact ⟨0, _, rfl, Nat.zero_le _, rfl, hid (FI.start w1 _)⟩
  case round =>
    obtain ⟨j, u, rfl, hj, rfl, HI⟩ := hrel
    have HBR := hid (HB1.out.trans (HI.out.more.mono HB1.out.size))
    have hvr := (HV.out.below HBR.out).blk
    have v6 : wr.cell? ⟨V, 6, none⟩ = some (.slice a.EA v.d.edges.length a.ec) := by rw [Lib.cell_of_heap hvr]; rfl
    clear hvr
    by_cases hlt : j < v.d.edges.length
    · obtain ⟨eb, eo, hEA, hel2, _, _, k2⟩ := edge_atf (HV.out.below HBR.out).edges hlt
      have HX := hid (startL_at v j (by rw [HSL.out]; exact hlt) hlt)
      have HTK := hid (show (Cf.startL v).take (j + 1) = (Cf.startL v).take j ++ [(Cf.startL v)[j]'(by rw [HSL.out]; exact hlt)] from List.take_succ_eq_append_getElem _)
      rw [HX.out] at HTK
      generalize v.d.edges[j].to = q at k2 HTK
      rw [hEA] at v6
      clear hEA HX
      have htl : ((Cf.startL v).take j).length = j := by rw [List.length_take, HSL.out]; omega
      have HTL := hid htl
      obtain ⟨vs, hown6, hcv6, hbw6⟩ := HI.out
      have HOW6 := hid hown6
      have HCV6 := hid hcv6
      have HBW6 := hid hbw6
      rw [htl] at hown6
      have hsz := hbw6.size
      have hcs := cf_one ⟨(j : Int), q, [], true, false⟩ none 0
      clear htl hcv6 hbw6
      go_wp2_with (at_builtin; refine wpList_push4 wr rfl _ _ 45 rfl w1.heap.size 103 iC _ 5 48 Tryz.underlying45 hiC hzC hsC hyC rfl (by omega) u j vs rfl hown6 [.int .i64 (j : Int), .int .i64 q, .slice none 0 0, .bool true, .bool false] 1 wr.heap.size rfl rfl rfl hcs Nat.zero_lt_one (by simp only [maxLen]; omega) (by omega) hsz ?_; intro g7 cg w7 hown7 hg7 ho7)
      go_roundw
      case rel =>
        refine ⟨j + 1, _, rfl, hlt, by go_num, hid ?_⟩
        rw [HTK.out]
        have hpu := FI.push (S := fun _ => False) (y := ⟨(j : Int), q, [], true, false⟩) (A := none) (c := 0) (g := g7) (cg := cg) HOW6.out HCV6.out HBW6.out (Nat.le_refl _) ⟨rfl, fun h => absurd h (Nat.lt_irrefl 0)⟩ ho7 (hg7.imp id Nat.le_of_lt) (by rw [HTL.out]; exact hown7)
        rw [HTL.out] at hpu
        exact hpu
      case measure => simp [intOf]; omega
    · have hje : j = v.d.edges.length := by omega
      subst hje
      rw [← HSL.out, List.take_length] at HI
      obtain ⟨vs, hown, hcv, hb9⟩ := HI.out
      obtain ⟨AO, co, rfl⟩ := row_form hown
      have hcr : CfR wr (fun _ => False) AO (Cf.startL v) := ⟨vs, RO.of_reads (Reads.of_own hown) (Nat.le_refl _) (fun _ e => e.elim), hcv.only (Only.refl _ _) (fun _ _ e => e.elim)⟩
      have hbd := Cf.start_bd HK.out.W HK.out.dec
      have hc32 := rclosed_any (Cf.startL v) v a V AO co wr ((HV.out.below HBR.out).more HBR.out.size) HK.out.W HK.out.kind HK.out.stops HK.out.ends hbd.1 HHS.out (by omega) hcr
      have HC32 := hid hc32
      have HB9 := hid hb9
      clear hc32 hcr hown hcv hb9 hbd
      go_wp2_with fail
      go_at_call 32
      refine HC32.out.mono ?_
      rintro _ w2 ⟨s, CA, ca, AA, aa, rfl, hI, hSB, hc, hr, hb2⟩
      unfold setAggR
      have hsz9 := HB9.out.size
      have hq2 := (hb2.block w.heap.size (by omega)).trans ((HB9.out.block w.heap.size (by omega)).trans HH1.out)
      have z2 : ∀ i, w2.frozen? ⟨w.heap.size, i, none⟩ = false := fun i => Lib.frozen_of_heap hq2 i
      obtain ⟨r0, r1, r2⟩ := cells3 hq2
      have hno := NoInt.of hq2
      obtain ⟨hq3, ho3⟩ := set3 hq2 (.slice CA s.configs.length ca) (.slice AA s.alts.length aa) (.bool s.over)
      obtain ⟨w3, hw3⟩ : ∃ w3, Hid (((w2.setCell ⟨w.heap.size, 0, none⟩ (.slice CA s.configs.length ca)).setCell ⟨w.heap.size, 1, none⟩ (.slice AA s.alts.length aa)).setCell ⟨w.heap.size, 2, none⟩ (.bool s.over) = w3) := ⟨_, hid rfl⟩
      rw [hw3.out] at hq3 ho3
      have HQ3 := hid hq3
      have HFIN := hid (rcl_store (ca := ca) (aa := aa) hI hSB hc hr hno HBR.out hb2 ho3)
      clear hq2 hq3 ho3 hno hI hSB hc hr hb2
      go_wp2_with fail
      rw [hw3.out]
      refine bodyPost_ret (results_cell_row rfl _ _ w.heap.size 47 _ _ _ rfl HQ3.out Tryz.underlying47 rfl infoRSet) rfl ?_
      exact HFIN.out
end Go.Proofs.YtnpcjbdolmmaeaaGreatDoor

/-
  Is a set done, as the document has it (harbingerref14.Set.Done): the walk.
-/
namespace Go.Proofs.YtnpcjbdolmmaeaaGreatDoor
open Go.RowKit
set_option maxRecDepth 100000
theorem all_at {α : Type} (p : α → Bool) (l : List α) (j : Nat) (h : j < l.length) : (l.take (j + 1)).all p = ((l.take j).all p && p l[j]) := by
  rw [List.take_succ_eq_append_getElem h, List.all_append]; simp
set_option maxHeartbeats 2000000 in
theorem rdone_any (s : Cf.St) (CA AA : Option Addr) (ca aa : Nat) (w : World) (hr : CfR w (fun _ => False) CA s.configs) (hl : s.configs.length ≤ 1000000) :
    Calls Tryz.prog 16 #[setAggR CA ca AA aa s] w (fun e w' => e = .returned (.bool (Cf.doneS s)) ∧ Below w.heap.size w w') := by
  unfold setAggR
  have hb := below_new w (.cells #[.slice CA s.configs.length ca, .slice AA s.alts.length aa, .bool s.over] 47)
  have hx := heap_alloc_new w (.cells #[.slice CA s.configs.length ca, .slice AA s.alts.length aa, .bool s.over] 47)
  obtain ⟨w1, hw1⟩ : ∃ w1, Hid (w.alloc (.cells #[.slice CA s.configs.length ca, .slice AA s.alts.length aa, .bool s.over] 47) = w1) := ⟨_, hid rfl⟩
  rw [hw1.out] at hb hx
  obtain ⟨s0, s1, s2⟩ := cells3 hx
  have HR := hid (hr.below hb)
  have HB := hid hb
  have hD : Cf.doneS s = (!s.over && s.configs.all fun x => x.ended) := rfl
  generalize s.configs = l at s0 hw1 HR hl hD
  have HD := hid hD
  have hwl := heap_lt hx
  clear hb hx hr hD
  go_enter Tryz.func16, Tryz.ntmps16
  go_upto_block 0 with fail
  rw [hw1.out]
  clear hw1
  go_wp2_with fail
  go_loopw [3] (fun i wr => ∃ j : Nat, j ≤ l.length ∧ i = .int .i64 (j : Int) ∧ Hid ((l.take j).all (fun x => x.ended) = true ∧ Below w1.heap.size w1 wr)) (fun i _ => l.length - (intOf i).toNat)
  case atStart => exact ⟨0, Nat.zero_le _, rfl, hid ⟨rfl, Below.refl _ _⟩⟩
  case round =>
    obtain ⟨j, hj, rfl, HI⟩ := hrel
    have s0 := (HI.out.2.cell (p := ⟨w.heap.size, 0, none⟩) hwl).trans s0
    have s2 := (HI.out.2.cell (p := ⟨w.heap.size, 2, none⟩) hwl).trans s2
    have HBW := hid (HB.out.trans (HI.out.2.mono HB.out.size))
    by_cases hlt : j < l.length
    · obtain ⟨b, off, B, cb, hA, hbl, hcap, hfar⟩ := HR.out.far j hlt
      obtain ⟨hro, r0, r1, r2, r3, r4⟩ := hfar wr HI.out.2
      have HA := hid (all_at (fun x : Cf.Cfg => x.ended) l j hlt)
      rw [HI.out.1, Bool.true_and] at HA
      have HM := hid (List.getElem_mem hlt)
      generalize l[j] = x at r0 r1 r2 r3 r4 HA HM
      clear hro hfar hcap r0 r1 r2 r3
      rw [hA] at s0
      clear hA
      rcases Bool.eq_false_or_eq_true x.ended with he | he
      · rw [he] at r4
        have HE := hid he
        clear he
        go_wp2_with fail
        go_roundw
        case rel => exact ⟨j + 1, hlt, by go_num, hid ⟨by rw [HA.out, HE.out], HI.out.2⟩⟩
        case measure => simp [intOf]; omega
      · rw [he] at r4
        have HF := hid (show Cf.doneS s = false by
          rw [HD.out]
          have : (l.all fun x => x.ended) = false := by
            rw [List.all_eq_false]
            exact ⟨x, HM.out, by rw [he]; decide⟩
          rw [this, Bool.and_false])
        clear he
        go_wp2_with fail
        go_ret
        exact ⟨by rw [HF.out]; rfl, HBW.out⟩
    · have hje : j = l.length := by omega
      subst hje
      rw [List.take_length] at HI
      have HF := hid (show Cf.doneS s = !s.over by rw [HD.out, HI.out.1, Bool.and_true])
      go_wp2_with fail
      go_ret
      exact ⟨by rw [HF.out]; rfl, HBW.out⟩
end Go.Proofs.YtnpcjbdolmmaeaaGreatDoor
