/-
  Looks: CfRs, CfRv (texts joined).
-/
import Derived.Test.YtnpcjbdolmmaeaaGreatDoorL06
import Derived.Test.YtnpcjbdolmmaeaaGreatDoorL19
import Derived.Test.YtnpcjbdolmmaeaaGreatDoorL24
namespace Go.Proofs.YtnpcjbdolmmaeaaGreatDoor
open Go.RowKit
set_option maxRecDepth 100000
theorem stsRf_more {w : World} {B B' : Nat} {A : Option Addr} {l : List Drv.NSt} (h : StsRf w B A l) (hb : B ≤ B') : StsRf w B' A l := by
  obtain ⟨vs, h1, h2⟩ := h
  refine ⟨vs, h1.more hb, fun i hi => ?_⟩
  obtain ⟨EA, ec, XA, xc, e0, e1, e2, r0, r1⟩ := h2 i hi
  exact ⟨EA, ec, XA, xc, e0, e1, e2, r0.more hb, r1.more hb⟩
theorem RvAt.more {w : World} {B B' V : Nat} {a : VwA} {v : Cf.Vw} (h : RvAt w B V a v) (hb : B ≤ B') : RvAt w B' V a v :=
  ⟨h.blk, Nat.lt_of_lt_of_le h.lt hb, ⟨stsRf_more h.net.sts hb, h.net.starts.more hb, h.net.stops.more hb, h.net.preds.more hb, h.net.decs.more hb⟩, h.edges.more hb, h.ends.more hb⟩
theorem rcl_storeS {S0 : Nat → Prop} {v : Cf.Vw} {l : List Cf.Cfg} {w w1 w2 w3 : World} {s : Cf.St} {CA AA : Option Addr} {ca aa : Nat} (hI : Cf.IsSet v l s) (hB : Cf.SetB v s) (hc : CfR w2 S0 CA s.configs) (ha : RO w2 S0 1 AA s.alts.length (s.alts.map (Value.int .i64)))
    (hn : NoInt w2 w.heap.size) (hb : Below w.heap.size w w1) (h12 : Below w1.heap.size w1 w2) (ho : Only (fun k => k = w.heap.size) w2 w3) : RclS S0 v l w (.returned (setAggR CA ca AA aa s)) w3 := by
  have h2 := hb.trans (h12.mono hb.size)
  exact ⟨s, CA, ca, AA, aa, rfl, hI, hB, (hc.not_or hn).only (ho.more fun _ _ e => .inl e) (fun _ _ e => .inr e), (ha.not_or hn).only (ho.more fun _ _ e => .inl e) (fun _ _ e => .inr e), h2.trans (ho.below' (fun k e => by omega) h2.size)⟩
theorem startL_at (v : Cf.Vw) (j : Nat) (h : j < (Cf.startL v).length) (h2 : j < v.d.edges.length) : (Cf.startL v)[j] = ⟨(j : Int), v.d.edges[j].to, [], true, false⟩ := by
  have : (Cf.startL v)[j]? = some ⟨(j : Int), v.d.edges[j].to, [], true, false⟩ := by
    unfold Cf.startL
    rw [List.getElem?_map, List.getElem?_zipIdx, List.getElem?_eq_getElem h2]
    simp
  rw [List.getElem?_eq_getElem h] at this
  injection this
structure RvOk (v : Cf.Vw) : Prop where
  W : Cf.OkW v
  kind : ∀ s ∈ v.n.states, ∀ e ∈ s.edges, 0 ≤ e.kind ∧ e.kind ≤ 3
  stops : v.n.stops.length ≤ 100000
  ends : v.d.ends.length ≤ 1000000
  dec : v.d ∈ v.n.states
set_option maxHeartbeats 4000000 in
theorem rstart_of (S0 : Nat → Prop) (v : Cf.Vw) (a : VwA) (V : Nat) (w : World) (hv : RvAt w w.heap.size V a v) (K : RvOk v) (hh : ∀ x ∈ Cf.startL v, Cf.has v x = true) (hS0 : ∀ b, S0 b → b < w.heap.size) :
    Calls Tryz.prog 13 #[.pointer (some ⟨V, 0, none⟩)] w (RclS S0 v (Cf.startL v) w) := by
  have HS0 := hid hS0
  clear hS0
  obtain ⟨w1, hw1⟩ : ∃ w1, Hid (w.alloc (.cells #[.slice none 0 0, .slice none 0 0, .bool false] 47) = w1) := ⟨_, hid rfl⟩
  have hb1 : Below w.heap.size w w1 := by rw [← hw1.out]; exact below_new _ _
  have h1 : w1.heap[w.heap.size]? = some (.cells #[.slice none 0 0, .slice none 0 0, .bool false] 47 (0, 0)) := by rw [← hw1.out]; exact heap_alloc_new _ _
  have z1 : w1.heap.size = w.heap.size + 1 := by rw [← hw1.out]; simp
  obtain ⟨iC, hiC, hzC, hsC, hyC⟩ := info_of infoRC
  have HV := hid hv
  have HB1 := hid hb1
  have HH1 := hid h1
  have HK := hid K
  have HHS := hid hh
  have hel := K.W.edges _ K.dec
  have hsl := startL_len v
  have HSL := hid hsl
  have hVl := hv.lt
  clear hv hb1 h1 hh hsl K
  go_enter Tryz.func13, Tryz.ntmps13
  go_upto_block 0 with fail
  rw [hw1.out]
  clear hw1
  go_wp2_with fail
  go_loopw [3, 4] (fun o i wr => ∃ (j : Nat) (u : Value), u = o ∧ j ≤ v.d.edges.length ∧ i = .int .i64 (j : Int) ∧ Hid (FI w1 S0 u ((Cf.startL v).take j) wr)) (fun _ i _ => v.d.edges.length - (intOf i).toNat)
  case atStart => exact ⟨0, _, rfl, Nat.zero_le _, rfl, hid (FI.start w1 _)⟩
  case round =>
    obtain ⟨j, u, rfl, hj, rfl, HI⟩ := hrel
    have HBR := hid (HB1.out.trans (HI.out.more.mono HB1.out.size))
    have hvr := (HV.out.below HBR.out).blk
    have v6 : wr.cell? ⟨V, 6, none⟩ = some (.slice a.EA v.d.edges.length a.ec) := by rw [Lib.cell_of_heap hvr]; rfl
    clear hvr
    by_cases hlt : j < v.d.edges.length
    · obtain ⟨eb, eo, hEA, hel2, _, _, k2⟩ := edge_atf (HV.out.below HBR.out).edges hlt
      have HX := hid (startL_at v j (by rw [HSL.out]; exact hlt) hlt)
      have HTK := hid (show (Cf.startL v).take (j + 1) = (Cf.startL v).take j ++ [(Cf.startL v)[j]'(by rw [HSL.out]; exact hlt)] from List.take_succ_eq_append_getElem _)
      rw [HX.out] at HTK
      generalize v.d.edges[j].to = q at k2 HTK
      rw [hEA] at v6
      clear hEA HX
      have htl : ((Cf.startL v).take j).length = j := by rw [List.length_take, HSL.out]; omega
      have HTL := hid htl
      obtain ⟨vs, hown6, hcv6, hbw6⟩ := HI.out
      have HOW6 := hid hown6
      have HCV6 := hid hcv6
      have HBW6 := hid hbw6
      rw [htl] at hown6
      have hsz := hbw6.size
      have hcs := cf_one ⟨(j : Int), q, [], true, false⟩ none 0
      clear htl hcv6 hbw6
      go_wp2_with (at_builtin; refine wpList_push4 wr rfl _ _ 45 rfl w1.heap.size 103 iC _ 5 48 Tryz.underlying45 hiC hzC hsC hyC rfl (by omega) u j vs rfl hown6 [.int .i64 (j : Int), .int .i64 q, .slice none 0 0, .bool true, .bool false] 1 wr.heap.size rfl rfl rfl hcs Nat.zero_lt_one (by simp only [maxLen]; omega) (by omega) hsz ?_; intro g7 cg w7 hown7 hg7 ho7)
      go_roundw
      case rel =>
        refine ⟨j + 1, _, rfl, hlt, by go_num, hid ?_⟩
        rw [HTK.out]
        have hpu := FI.push (S := S0) (y := ⟨(j : Int), q, [], true, false⟩) (A := none) (c := 0) (g := g7) (cg := cg) HOW6.out HCV6.out HBW6.out (Nat.le_refl _) ⟨rfl, fun h => absurd h (Nat.lt_irrefl 0)⟩ ho7 (hg7.imp id Nat.le_of_lt) (by rw [HTL.out]; exact hown7)
        rw [HTL.out] at hpu
        exact hpu
      case measure => simp [intOf]; omega
    · have hje : j = v.d.edges.length := by omega
      subst hje
      rw [← HSL.out, List.take_length] at HI
      obtain ⟨vs, hown, hcv, hb9⟩ := HI.out
      obtain ⟨AO, co, rfl⟩ := row_form hown
      have hcr : CfR wr S0 AO (Cf.startL v) := ⟨vs, RO.of_own0 hown (fun b e => by have := HS0.out b e; omega), hcv.only (Only.refl _ _) (fun b _ e => .inl ⟨e, by have := HS0.out b e; omega⟩)⟩
      have hbd := Cf.start_bd HK.out.W HK.out.dec
      have hc32 := rclosed_of S0 (Cf.startL v) v a V AO co wr ((HV.out.below HBR.out).more HBR.out.size) HK.out.W HK.out.kind HK.out.stops HK.out.ends hbd.1 HHS.out (by omega) (fun b e => Nat.lt_of_lt_of_le (HS0.out b e) HBR.out.size) hcr
      have HC32 := hid hc32
      have HB9 := hid hb9
      clear hc32 hcr hown hcv hb9 hbd
      go_wp2_with fail
      go_at_call 32
      refine HC32.out.mono ?_
      rintro _ w2 ⟨s, CA, ca, AA, aa, rfl, hI, hSB, hc, hr, hb2⟩
      unfold setAggR
      have hsz9 := HB9.out.size
      have hq2 := (hb2.block w.heap.size (by omega)).trans ((HB9.out.block w.heap.size (by omega)).trans HH1.out)
      have z2 : ∀ i, w2.frozen? ⟨w.heap.size, i, none⟩ = false := fun i => Lib.frozen_of_heap hq2 i
      obtain ⟨r0, r1, r2⟩ := cells3 hq2
      have hno := NoInt.of hq2
      obtain ⟨hq3, ho3⟩ := set3 hq2 (.slice CA s.configs.length ca) (.slice AA s.alts.length aa) (.bool s.over)
      obtain ⟨w3, hw3⟩ : ∃ w3, Hid (((w2.setCell ⟨w.heap.size, 0, none⟩ (.slice CA s.configs.length ca)).setCell ⟨w.heap.size, 1, none⟩ (.slice AA s.alts.length aa)).setCell ⟨w.heap.size, 2, none⟩ (.bool s.over) = w3) := ⟨_, hid rfl⟩
      rw [hw3.out] at hq3 ho3
      have HQ3 := hid hq3
      have HFIN := hid (rcl_storeS (ca := ca) (aa := aa) hI hSB hc hr hno HBR.out hb2 ho3)
      clear hq2 hq3 ho3 hno hI hSB hc hr hb2
      go_wp2_with fail
      rw [hw3.out]
      refine bodyPost_ret (results_cell_row rfl _ _ w.heap.size 47 _ _ _ rfl HQ3.out Tryz.underlying47 rfl infoRSet) rfl ?_
      exact HFIN.out
end Go.Proofs.YtnpcjbdolmmaeaaGreatDoor
namespace Go.Proofs.YtnpcjbdolmmaeaaGreatDoor
open Go.RowKit
set_option maxRecDepth 100000
theorem all_at {α : Type} (p : α → Bool) (l : List α) (j : Nat) (h : j < l.length) : (l.take (j + 1)).all p = ((l.take j).all p && p l[j]) := by
  rw [List.take_succ_eq_append_getElem h, List.all_append]; simp
set_option maxHeartbeats 2000000 in
theorem rdone_any (s : Cf.St) (CA AA : Option Addr) (ca aa : Nat) (w : World) (hr : CfR w (fun _ => False) CA s.configs) (hl : s.configs.length ≤ 1000000) :
    Calls Tryz.prog 16 #[setAggR CA ca AA aa s] w (fun e w' => e = .returned (.bool (Cf.doneS s)) ∧ Below w.heap.size w w') := by
  unfold setAggR
  have hb := below_new w (.cells #[.slice CA s.configs.length ca, .slice AA s.alts.length aa, .bool s.over] 47)
  have hx := heap_alloc_new w (.cells #[.slice CA s.configs.length ca, .slice AA s.alts.length aa, .bool s.over] 47)
  obtain ⟨w1, hw1⟩ : ∃ w1, Hid (w.alloc (.cells #[.slice CA s.configs.length ca, .slice AA s.alts.length aa, .bool s.over] 47) = w1) := ⟨_, hid rfl⟩
  rw [hw1.out] at hb hx
  obtain ⟨s0, s1, s2⟩ := cells3 hx
  have HR := hid (hr.below hb)
  have HB := hid hb
  have hD : Cf.doneS s = (!s.over && s.configs.all fun x => x.ended) := rfl
  generalize s.configs = l at s0 hw1 HR hl hD
  have HD := hid hD
  have hwl := heap_lt hx
  clear hb hx hr hD
  go_enter Tryz.func16, Tryz.ntmps16
  go_upto_block 0 with fail
  rw [hw1.out]
  clear hw1
  go_wp2_with fail
  go_loopw [3] (fun i wr => ∃ j : Nat, j ≤ l.length ∧ i = .int .i64 (j : Int) ∧ Hid ((l.take j).all (fun x => x.ended) = true ∧ Below w1.heap.size w1 wr)) (fun i _ => l.length - (intOf i).toNat)
  case atStart => exact ⟨0, Nat.zero_le _, rfl, hid ⟨rfl, Below.refl _ _⟩⟩
  case round =>
    obtain ⟨j, hj, rfl, HI⟩ := hrel
    have s0 := (HI.out.2.cell (p := ⟨w.heap.size, 0, none⟩) hwl).trans s0
    have s2 := (HI.out.2.cell (p := ⟨w.heap.size, 2, none⟩) hwl).trans s2
    have HBW := hid (HB.out.trans (HI.out.2.mono HB.out.size))
    by_cases hlt : j < l.length
    · obtain ⟨b, off, B, cb, hA, hbl, hcap, hfar⟩ := HR.out.far j hlt
      obtain ⟨hro, r0, r1, r2, r3, r4⟩ := hfar wr HI.out.2
      have HA := hid (all_at (fun x : Cf.Cfg => x.ended) l j hlt)
      rw [HI.out.1, Bool.true_and] at HA
      have HM := hid (List.getElem_mem hlt)
      generalize l[j] = x at r0 r1 r2 r3 r4 HA HM
      clear hro hfar hcap r0 r1 r2 r3
      rw [hA] at s0
      clear hA
      rcases Bool.eq_false_or_eq_true x.ended with he | he
      · rw [he] at r4
        have HE := hid he
        clear he
        go_wp2_with fail
        go_roundw
        case rel => exact ⟨j + 1, hlt, by go_num, hid ⟨by rw [HA.out, HE.out], HI.out.2⟩⟩
        case measure => simp [intOf]; omega
      · rw [he] at r4
        have HF := hid (show Cf.doneS s = false by
          rw [HD.out]
          have : (l.all fun x => x.ended) = false := by
            rw [List.all_eq_false]
            exact ⟨x, HM.out, by rw [he]; decide⟩
          rw [this, Bool.and_false])
        clear he
        go_wp2_with fail
        go_ret
        exact ⟨by rw [HF.out]; rfl, HBW.out⟩
    · have hje : j = l.length := by omega
      subst hje
      rw [List.take_length] at HI
      have HF := hid (show Cf.doneS s = !s.over by rw [HD.out, HI.out.1, Bool.and_true])
      go_wp2_with fail
      go_ret
      exact ⟨by rw [HF.out]; rfl, HBW.out⟩
end Go.Proofs.YtnpcjbdolmmaeaaGreatDoor
namespace Go.Proofs.YtnpcjbdolmmaeaaGreatDoor
open Go.RowKit
set_option maxRecDepth 100000
def RmvP (v : Cf.Vw) (s : Cf.St) (tok : Int) (w : World) (e : Ending) (w' : World) : Prop :=
  ∃ t CA ca AA aa, e = .returned (setAggR CA ca AA aa t) ∧ (if s.over = true then t = ⟨[], [], false⟩ else Cf.IsSet v (Cf.moveL v s tok) t) ∧ Cf.SetB v t ∧ CfR w' (fun _ => False) CA t.configs ∧ Reads w' w'.heap.size 1 AA t.alts.length (t.alts.map (Value.int .i64)) ∧ Below w.heap.size w w'
def RmvS (S0 : Nat → Prop) (v : Cf.Vw) (s : Cf.St) (tok : Int) (w : World) (e : Ending) (w' : World) : Prop :=
  ∃ t CA ca AA aa, e = .returned (setAggR CA ca AA aa t) ∧ (if s.over = true then t = ⟨[], [], false⟩ else Cf.IsSet v (Cf.moveL v s tok) t) ∧ Cf.SetB v t ∧ CfR w' S0 CA t.configs ∧ RO w' S0 1 AA t.alts.length (t.alts.map (Value.int .i64)) ∧ Below w.heap.size w w'
theorem rcl_moveS {S0 : Nat → Prop} {v : Cf.Vw} {s : Cf.St} {tok : Int} {w w' : World} {e : Ending} (h : RclS S0 v (Cf.moveL v s tok) w e w') (ho : s.over = false) : RmvS S0 v s tok w e w' := by
  obtain ⟨t, CA, ca, AA, aa, h1, h2, h3, h4, h5, h6⟩ := h
  exact ⟨t, CA, ca, AA, aa, h1, by rw [if_neg (by rw [ho]; decide)]; exact h2, h3, h4, h5, h6⟩
theorem rcl_store1S {S0 : Nat → Prop} {v : Cf.Vw} {l : List Cf.Cfg} {w w1 w2 w3 : World} {s : Cf.St} {CA AA : Option Addr} {ca aa b : Nat} (hI : Cf.IsSet v l s) (hB : Cf.SetB v s) (hc : CfR w2 S0 CA s.configs) (ha : RO w2 S0 1 AA s.alts.length (s.alts.map (Value.int .i64)))
    (hn : NoInt w2 b) (hwb : w.heap.size ≤ b) (hb : Below w.heap.size w w1) (h12 : Below w1.heap.size w1 w2) (ho : Only (fun k => k = b) w2 w3) : RclS S0 v l w (.returned (setAggR CA ca AA aa s)) w3 := by
  have h2 := hb.trans (h12.mono hb.size)
  exact ⟨s, CA, ca, AA, aa, rfl, hI, hB, (hc.not_or hn).only (ho.more fun _ _ e => .inl e) (fun _ _ e => .inr e), (ha.not_or hn).only (ho.more fun _ _ e => .inl e) (fun _ _ e => .inr e), h2.trans (ho.below' (fun k e => by omega) h2.size)⟩
set_option maxHeartbeats 8000000 in
theorem rmove_of (S0 : Nat → Prop) (v : Cf.Vw) (a : VwA) (V : Nat) (s : Cf.St) (CA AA : Option Addr) (ca aa : Nat) (tok : Int) (w : World) (hv : RvAt w w.heap.size V a v) (K : RvOk v) (hS : Cf.SetB v s) (hr : CfR w S0 CA s.configs) (hS0 : ∀ b, S0 b → b < w.heap.size) (hML : ∀ x ∈ Cf.moveL v s tok, Cf.has v x = true) :
    Calls Tryz.prog 18 #[.pointer (some ⟨V, 0, none⟩), setAggR CA ca AA aa s, .int .i64 tok] w (RmvS S0 v s tok w) := by
  have HS0 := hid hS0
  clear hS0
  unfold setAggR
  obtain ⟨w0, hw0⟩ : ∃ w0, Hid (w.alloc (.cells #[.slice CA s.configs.length ca, .slice AA s.alts.length aa, .bool s.over] 47) = w0) := ⟨_, hid rfl⟩
  have hb0 : Below w.heap.size w w0 := by rw [← hw0.out]; exact below_new _ _
  have h0 : w0.heap[w.heap.size]? = some (.cells #[.slice CA s.configs.length ca, .slice AA s.alts.length aa, .bool s.over] 47 (0, 0)) := by rw [← hw0.out]; exact heap_alloc_new _ _
  have z0 : w0.heap.size = w.heap.size + 1 := by rw [← hw0.out]; simp
  obtain ⟨w1, hw1⟩ : ∃ w1, Hid (w0.alloc (.cells #[.slice none 0 0, .slice none 0 0, .bool false] 47) = w1) := ⟨_, hid rfl⟩
  have hb01 : Below w0.heap.size w0 w1 := by rw [← hw1.out]; exact below_new _ _
  have h1 : w1.heap[w.heap.size + 1]? = some (.cells #[.slice none 0 0, .slice none 0 0, .bool false] 47 (0, 0)) := by rw [← hw1.out, ← z0]; exact heap_alloc_new _ _
  have z1 : w1.heap.size = w.heap.size + 2 := by rw [← hw1.out]; simp [z0]
  have h0 := (hb01.block w.heap.size (by omega)).trans h0
  have hb1 := hb0.trans (hb01.mono hb0.size)
  have hb1' := hb1
  obtain ⟨s0, s1, s2⟩ := cells3 h0
  obtain ⟨iC, hiC, hzC, hsC, hyC⟩ := info_of infoRC
  have HV := hid hv
  have HK := hid K
  have HS := hid hS
  have HR := hid (hr.only (Only.of_below hb1' : Only S0 w w1) (fun _ _ e => e))
  have HB1 := hid hb1
  have HH0 := hid h0
  have HH1 := hid h1
  have HML := hid hML
  have hVl := hv.lt
  clear hv K hS hr hb0 hb01 hb1 hb1' h0 h1 hML
  rcases Bool.eq_false_or_eq_true s.over with ho | ho
  · rw [ho] at s2 hw0
    rw [ho]
    obtain ⟨r0, r1, r2⟩ := cells3 HH1.out
    have z9 : ∀ i, w1.frozen? ⟨w.heap.size + 1, i, none⟩ = false := fun i => Lib.frozen_of_heap HH1.out i
    obtain ⟨hq3, ho3⟩ := set3 HH1.out (.slice none 0 0) (.slice none 0 0) (.bool false)
    obtain ⟨w3, hw3⟩ : ∃ w3, Hid (((w1.setCell ⟨w.heap.size + 1, 0, none⟩ (.slice none 0 0)).setCell ⟨w.heap.size + 1, 1, none⟩ (.slice none 0 0)).setCell ⟨w.heap.size + 1, 2, none⟩ (.bool false) = w3) := ⟨_, hid rfl⟩
    rw [hw3.out] at hq3 ho3
    have HQ3 := hid hq3
    have HO3 := hid ho3
    have HOV := hid ho
    clear hq3 ho3 ho
    go_enter Tryz.func18, Tryz.ntmps18
    go_upto_region 1 with fail
    rw [hw0.out, hw1.out]
    go_wp2_with fail
    rw [hw3.out]
    refine bodyPost_ret (results_cell_row rfl _ _ (w.heap.size + 1) 47 _ _ _ rfl HQ3.out Tryz.underlying47 rfl infoRSet) rfl ?_
    exact ⟨⟨[], [], false⟩, none, 0, none, 0, rfl, by rw [if_pos HOV.out], ⟨fun _ h => (by cases h), Nat.zero_le _⟩, ⟨[], ⟨rfl, fun h => absurd h (Nat.lt_irrefl 0)⟩, rfl⟩, ⟨rfl, fun h => absurd h (Nat.lt_irrefl 0)⟩, HB1.out.trans (HO3.out.below' (fun k e => by omega) HB1.out.size)⟩
  · rw [ho] at s2 hw0
    rw [ho]
    have HOV := hid ho
    clear ho
    go_enter Tryz.func18, Tryz.ntmps18
    go_upto_region 1 with fail
    rw [hw0.out, hw1.out]
    clear hw0 hw1
    go_upto_block 0 with fail
    go_wp2_with fail
    go_loopw [7, 8] (fun o i wr => ∃ (j : Nat) (u : Value), u = o ∧ j ≤ s.configs.length ∧ i = .int .i64 (j : Int) ∧ Hid (FI w1 S0 u ((s.configs.take j).flatMap (mvG v tok)) wr)) (fun _ i _ => s.configs.length - (intOf i).toNat)
    case atStart => exact ⟨0, _, rfl, Nat.zero_le _, rfl, hid (FI.start w1 _)⟩
    case round =>
      obtain ⟨j, u, rfl, hj, rfl, HI⟩ := hrel
      have HBR := hid HI.out.more
      have HBW := hid (HB1.out.trans (HBR.out.mono HB1.out.size))
      have s0 := (HBR.out.cell (p := ⟨w.heap.size, 0, none⟩) (heap_lt HH0.out)).trans s0
      have hsr := HBR.out.size
      have hjl : j ≤ 4000 := by have := HS.out.few; omega
      have HLT := hid (show ((s.configs.take j).flatMap (mvG v tok)).length ≤ 2800000 by
        have h1 := Cf.flatMap_len (mvG v tok) 700 (s.configs.take j) (fun x hx => mvG_len HK.out.W tok (HS.out.ok x (List.mem_of_mem_take hx)).2)
        rw [List.length_take] at h1
        omega)
      by_cases hlt : j < s.configs.length
      · obtain ⟨b, off, B, cb, hA, hbl, hcap, hfar⟩ := HR.out.farS j hlt
        obtain ⟨hro, r0, r1, r2, r3, r4⟩ := hfar wr HBR.out
        have HFT := hid (flat_take (mvG v tok) s.configs j hlt)
        have HOK := hid (HS.out.ok s.configs[j] (List.getElem_mem hlt))
        generalize s.configs[j] = x at hcap hro r0 r1 r2 r3 r4 HFT HOK hfar
        generalize (s.configs.take j).flatMap (mvG v tok) = L at HI HFT HLT
        have HFAR := hid hfar
        have HCAP := hid hcap
        obtain ⟨w5, hw5⟩ : ∃ w5, Hid (wr.alloc (.cells #[.int .i64 x.alt, .int .i64 x.state, .slice B x.stack.length cb, .bool x.exact, .bool x.ended] 103) = w5) := ⟨_, hid rfl⟩
        have hb5 : Below wr.heap.size wr w5 := by rw [← hw5.out]; exact below_new _ _
        have h5 : w5.heap[wr.heap.size]? = some (.cells #[.int .i64 x.alt, .int .i64 x.state, .slice B x.stack.length cb, .bool x.exact, .bool x.ended] 103 (0, 0)) := by rw [← hw5.out]; exact heap_alloc_new _ _
        have HB5 := hid hb5
        have HH5 := hid h5
        have HBW5 := hid (HBW.out.trans (hb5.mono HBW.out.size))
        have hc37 := rhas_any x B cb w5 w.heap.size V a v (HV.out.below HBW5.out) HBW5.out.size
        rw [HOK.out.2] at hc37
        have HC37 := hid hc37
        clear hro hfar hcap hb5 h5 hc37
        rw [hA] at s0
        clear hA
        go_upto_region 8 with fail
        rw [hw5.out]
        clear hw5 r0 r1 r2 r3 r4
        have k0 : w5.cell? ⟨wr.heap.size, 0, none⟩ = some (.int .i64 x.alt) := by rw [Lib.cell_of_heap HH5.out]; rfl
        have k1 : w5.cell? ⟨wr.heap.size, 1, none⟩ = some (.int .i64 x.state) := by rw [Lib.cell_of_heap HH5.out]; rfl
        have k2 : w5.cell? ⟨wr.heap.size, 2, none⟩ = some (.slice B x.stack.length cb) := by rw [Lib.cell_of_heap HH5.out]; rfl
        have k3 : w5.cell? ⟨wr.heap.size, 3, none⟩ = some (.bool x.exact) := by rw [Lib.cell_of_heap HH5.out]; rfl
        have k4 : w5.cell? ⟨wr.heap.size, 4, none⟩ = some (.bool x.ended) := by rw [Lib.cell_of_heap HH5.out]; rfl
        go_wp2_with fail
        go_at_call 37
        refine HC37.out.mono ?_
        rintro _ w6 ⟨rfl, hb6⟩
        have hwr5 : wr.heap.size < w5.heap.size := heap_lt HH5.out
        have HH6 := hid ((hb6.block _ hwr5).trans HH5.out)
        have HB6 := hid (HB5.out.trans (hb6.mono HB5.out.size))
        have k0 : w6.cell? ⟨wr.heap.size, 0, none⟩ = some (.int .i64 x.alt) := by rw [Lib.cell_of_heap HH6.out]; rfl
        have k1 : w6.cell? ⟨wr.heap.size, 1, none⟩ = some (.int .i64 x.state) := by rw [Lib.cell_of_heap HH6.out]; rfl
        have k2 : w6.cell? ⟨wr.heap.size, 2, none⟩ = some (.slice B x.stack.length cb) := by rw [Lib.cell_of_heap HH6.out]; rfl
        have k3 : w6.cell? ⟨wr.heap.size, 3, none⟩ = some (.bool x.exact) := by rw [Lib.cell_of_heap HH6.out]; rfl
        have k4 : w6.cell? ⟨wr.heap.size, 4, none⟩ = some (.bool x.ended) := by rw [Lib.cell_of_heap HH6.out]; rfl
        have HI6 := hid (HI.out.stay (wr := wr) (w2 := w6) HB6.out)
        have HBR6 := hid HI6.out.more
        clear hb6
        rcases Bool.eq_false_or_eq_true x.ended with he | he
        · rw [he] at k4
          have HG := hid (show mvG v tok x = [x] by unfold mvG; rw [if_pos he])
          have HE := hid he
          obtain ⟨vs, hown6, hcv6, hbw6⟩ := HI6.out
          obtain ⟨hro, _⟩ := HFAR.out w6 HBR6.out
          have HRO := hid (hro.weak (S' := fun b => (S0 b ∧ b < w1.heap.size) ∨ u.ownBlock = some b) fun k _ e => by
            rcases e with e | e
            · exact .inl e.1
            · exact .inr (hown6.lt k e).1)
          have HOW6 := hid hown6
          have HCV6 := hid hcv6
          have HBW6 := hid hbw6
          have hsz := hbw6.size
          have hll := HLT.out
          have hcs := cf_one ⟨x.alt, x.state, x.stack, x.exact, true⟩ B cb
          clear hro hcv6 hbw6 he
          go_wp2_with (at_builtin; refine wpList_push4 w6 rfl _ _ 45 rfl w1.heap.size 103 iC _ 5 48 Tryz.underlying45 hiC hzC hsC hyC rfl (by omega) u L.length vs rfl hown6 [.int .i64 x.alt, .int .i64 x.state, .slice B x.stack.length cb, .bool x.exact, .bool true] 1 w6.heap.size rfl rfl rfl hcs Nat.zero_lt_one (by simp only [maxLen]; omega) (by omega) hsz ?_; intro g7 cg w7 hown7 hg7 ho7)
          go_roundw
          case rel =>
            refine ⟨j + 1, _, rfl, hlt, by go_num, hid ?_⟩
            rw [HFT.out, HG.out]
            exact FI.push (S := S0) (y := x) HOW6.out HCV6.out HBW6.out HCAP.out HRO.out ho7 (hg7.imp id Nat.le_of_lt) (by rw [HE.out]; exact hown7)
          case measure => simp [intOf]; omega
        · rw [he] at k4
          have hst := Cf.has_state HOK.out.2
          obtain ⟨i, hi⟩ : ∃ i : Nat, x.state = (i : Int) := ⟨x.state.toNat, by omega⟩
          have hil : i < v.n.states.length := by omega
          obtain ⟨st, hse⟩ : ∃ st, v.n.states[i] = st := ⟨_, rfl⟩
          have hso : Cf.stOf v x = st := by
            unfold Cf.stOf
            rw [hi, List.getD_eq_getElem?_getD, Int.toNat_natCast, List.getElem?_eq_getElem hil]
            exact hse
          have HG := hid (show mvG v tok x = st.edges.filterMap (mvF tok x) by unfold mvG; rw [if_neg (by rw [he]; decide), hso])
          have hsm : st ∈ v.n.states := by rw [← hse]; exact List.getElem_mem _
          have hel := HK.out.W.edges _ hsm
          have hvw6 := HV.out.below (HBW.out.trans (HB6.out.mono HBW.out.size))
          obtain ⟨sb, so, EA, ec, XA, xc, hSA, hsl, n0, n1, n2, rE, rX⟩ := hvw6.net.sts.at hil
          rw [hse] at n0 n1 n2 rE rX
          have v0 : w6.cell? ⟨V, 0, none⟩ = some (.slice (some ⟨sb, so, none⟩) v.n.states.length a.sc) := by rw [Lib.cell_of_heap hvw6.blk, ← hSA]; rfl
          rw [hi] at k1
          have HRE := hid rE
          have HSI := hid hi
          clear hst hso hsm hvw6 hSA hse rE rX n0 n2 he hi k0 k2 k3
          go_upto_region 11 with fail
          go_quiet (fail)
          go_upto_block 2 with fail
          have HB7 := hid (show Below w6.heap.size w6 (w6.drewN nq) from below_drewN (Below.refl _ _) _)
          generalize w6.drewN nq = w7 at HB7 ⊢
          have HI7 := hid (HI6.out.stay (wr := w6) (w2 := w7) HB7.out)
          have HBR7 := hid HI7.out.more
          have HRE7 := hid (HRE.out.below (HB7.out.mono (by have := HBW.out.size; have := HB6.out.size; omega)))
          have HH7 := hid ((HB7.out.block _ (heap_lt HH6.out)).trans HH6.out)
          clear n1 v0 k1 k4
          go_wp2_with fail
          obtain ⟨wo, hwo⟩ : ∃ wo, wo = wr := ⟨_, rfl⟩
          subst hwo
          go_loopw [7, 11] (fun o p wi => ∃ (q : Nat) (u : Value), u = o ∧ q ≤ st.edges.length ∧ p = .int .i64 (q : Int) ∧ Hid (FI w1 S0 u (L ++ (st.edges.take q).filterMap (mvF tok x)) wi ∧ Below w1.heap.size w7 wi ∧ wi.heap[wo.heap.size]? = some (.cells #[.int .i64 x.alt, .int .i64 x.state, .slice B x.stack.length cb, .bool x.exact, .bool x.ended] 103 (0, 0)) ∧ u.ownBlock ≠ some wo.heap.size)) (fun _ p _ => st.edges.length - (intOf p).toNat)
          case atStart => exact ⟨0, _, rfl, Nat.zero_le _, rfl, hid ⟨by rw [List.take_zero, List.filterMap_nil, List.append_nil]; exact HI7.out, Below.refl _ _, HH7.out, fun e => by have := HI.out.lt _ e; omega⟩⟩
          case round =>
            rename World => wi
            obtain ⟨q, u, rfl, hq, rfl, HJ⟩ := hrel
            have HJB := hid HJ.out.2.1
            have HBX := hid HJ.out.2.2.2
            have HH9 := hid HJ.out.2.2.1
            have hwz : w.heap.size ≤ w1.heap.size := HB1.out.size
            have hwz2 : w1.heap.size ≤ wi.heap.size := HJ.out.1.more.size
            by_cases hql : q < st.edges.length
            · obtain ⟨eb, eo, hEA, hebl, e0, e1, e2⟩ := edge_atf (HRE7.out.below (HJB.out.mono hwz)) hql
              have HF2 := hid (fm_take (mvF tok x) st.edges q hql)
              have HL2 := hid (show (L ++ (st.edges.take q).filterMap (mvF tok x)).length ≤ 2801000 by
                rw [List.length_append]
                have h1 := List.length_filterMap_le (mvF tok x) (st.edges.take q)
                rw [List.length_take] at h1
                have := HLT.out
                omega)
              generalize st.edges[q] = ed at e0 e1 e2 HF2
              have k0 : wi.cell? ⟨wo.heap.size, 0, none⟩ = some (.int .i64 x.alt) := by rw [Lib.cell_of_heap HH9.out]; rfl
              have k2 : wi.cell? ⟨wo.heap.size, 2, none⟩ = some (.slice B x.stack.length cb) := by rw [Lib.cell_of_heap HH9.out]; rfl
              have k3 : wi.cell? ⟨wo.heap.size, 3, none⟩ = some (.bool x.exact) := by rw [Lib.cell_of_heap HH9.out]; rfl
              rw [hEA]
              clear hEA
              by_cases hk : ed.kind = 1 ∧ ed.what = tok
              · have f1 : (ed.kind == 1) = true := by rw [hk.1]; rfl
                have f2 : (ed.what == tok) = true := by rw [hk.2]; exact beq_self_eq_true _
                have HFE := hid (show mvF tok x ed = some ⟨x.alt, ed.to, x.stack, x.exact, false⟩ by unfold mvF Cf.atC; rw [if_pos hk, Bool.and_true])
                generalize (st.edges.take q).filterMap (mvF tok x) = L3 at HJ HF2 HL2
                obtain ⟨L4, hL4⟩ : ∃ L4, L4 = L ++ L3 := ⟨_, rfl⟩
                have HL4 := hid hL4
                rw [← hL4] at HJ HL2
                clear hk hL4
                go_upto_region 16 with fail
                obtain ⟨ws, hws⟩ : ∃ ws, Hid (wi.drew = ws) := ⟨_, hid rfl⟩
                have hbs : Below wi.heap.size wi ws := by rw [← hws.out]; exact (Below.refl _ _).drew
                have hFS := HJ.out.1.stay hbs
                obtain ⟨vs, hown5, hcv5, hbw5⟩ := hFS
                have hHs := (hbs.block _ (heap_lt HH9.out)).trans HH9.out
                have d0 : ws.cell? ⟨wo.heap.size, 0, none⟩ = some (.int .i64 x.alt) := by rw [Lib.cell_of_heap hHs]; rfl
                have d2 : ws.cell? ⟨wo.heap.size, 2, none⟩ = some (.slice B x.stack.length cb) := by rw [Lib.cell_of_heap hHs]; rfl
                have d3 : ws.cell? ⟨wo.heap.size, 3, none⟩ = some (.bool x.exact) := by rw [Lib.cell_of_heap hHs]; rfl
                have hebi : eb < wi.heap.size := Nat.lt_of_lt_of_le hebl (Nat.le_trans hwz hwz2)
                have d4 : ws.cell? ⟨eb, eo + q * 3 + 2, none⟩ = some (.int .i64 ed.to) := (hbs.cell (p := ⟨eb, eo + q * 3 + 2, none⟩) hebi).trans e2
                have hwos : wo.heap.size < ws.heap.size := heap_lt hHs
                have hebs : eb < ws.heap.size := Nat.lt_of_lt_of_le hebi hbs.size
                have HST := hid (fun (uu : World) (hb : Below ws.heap.size ws uu) => (show uu.cell? ⟨wo.heap.size, 0, none⟩ = some (.int .i64 x.alt) ∧ uu.cell? ⟨wo.heap.size, 2, none⟩ = some (.slice B x.stack.length cb) ∧ uu.cell? ⟨wo.heap.size, 3, none⟩ = some (.bool x.exact) ∧ uu.cell? ⟨eb, eo + q * 3 + 2, none⟩ = some (.int .i64 ed.to) from
                  ⟨(hb.cell (p := ⟨wo.heap.size, 0, none⟩) hwos).trans d0, (hb.cell (p := ⟨wo.heap.size, 2, none⟩) hwos).trans d2, (hb.cell (p := ⟨wo.heap.size, 3, none⟩) hwos).trans d3, (hb.cell (p := ⟨eb, eo + q * 3 + 2, none⟩) hebs).trans d4⟩))
                have hbn := below_new ws (.cells #[.int .i64 x.alt, .int .i64 ed.to, .slice B x.stack.length cb, .bool x.exact, .bool false] 103)
                have hxn := heap_alloc_new ws (.cells #[.int .i64 x.alt, .int .i64 ed.to, .slice B x.stack.length cb, .bool x.exact, .bool false] 103)
                obtain ⟨wn, hwn⟩ : ∃ wn, Hid (ws.alloc (.cells #[.int .i64 x.alt, .int .i64 ed.to, .slice B x.stack.length cb, .bool x.exact, .bool false] 103) = wn) := ⟨_, hid rfl⟩
                rw [hwn.out] at hbn hxn
                have hown6 := ownsRow_below hown5 hbn (Nat.le_refl _)
                have hcv6 := hcv5.only (S' := fun b => (S0 b ∧ b < w1.heap.size) ∨ u.ownBlock = some b) (Only.of_below hbn) (fun _ _ e => e)
                have hbw6 := hbw5.trans (hbn.mono hbw5.size)
                have HBS := hid (hbs.trans (hbn.mono hbs.size))
                have HOW6 := hid hown6
                have HCV6 := hid hcv6
                have HBW6 := hid hbw6
                have hsz6 := hbw6.size
                have HSTN := hid (HST.out wn hbn)
                have hbxo : ¬ u.ownBlock = some wo.heap.size := HBX.out
                have HUL := hid (fun k (hk : u.ownBlock = some k) => (hown6.lt k hk).1)
                obtain ⟨hro, _⟩ := HFAR.out wn hbw6
                have HRO := hid (hro.weak (S' := fun b => (S0 b ∧ b < w1.heap.size) ∨ u.ownBlock = some b) fun k _ e => by
                  rcases e with e | e
                  · exact .inl e.1
                  · exact .inr (hown6.lt k e).1)
                have HSO := hid (fun (uu : World) (ho : Only (fun k => u.ownBlock = some k) wn uu) => (show uu.cell? ⟨wo.heap.size, 0, none⟩ = some (.int .i64 x.alt) ∧ uu.cell? ⟨wo.heap.size, 2, none⟩ = some (.slice B x.stack.length cb) ∧ uu.cell? ⟨wo.heap.size, 3, none⟩ = some (.bool x.exact) ∧ uu.cell? ⟨eb, eo + q * 3 + 2, none⟩ = some (.int .i64 ed.to) from by
                  have hz := hbn.size
                  have hne : ¬ u.ownBlock = some eb := fun e => by have := HUL.out eb e; omega
                  obtain ⟨g0, g2, g3, g4⟩ := HSTN.out
                  exact ⟨(ho.cell (b := wo.heap.size) (o := 0) (by omega) hbxo).trans g0, (ho.cell (b := wo.heap.size) (o := 2) (by omega) hbxo).trans g2, (ho.cell (b := wo.heap.size) (o := 3) (by omega) hbxo).trans g3, (ho.cell (b := eb) (o := eo + q * 3 + 2) (by omega) hne).trans g4⟩))
                have HXB := hid ((hbn.block _ hwos).trans hHs)
                have HXN := hid hxn
                have hcs := cf_one ⟨x.alt, ed.to, x.stack, x.exact, false⟩ B cb
                have hll := HL2.out
                have hwn1 : wo.heap.size < wn.heap.size := Nat.lt_of_lt_of_le hwos hbn.size
                clear hro hown5 hcv5 hbw5 hHs hbn hxn hcv6 hbw6 k0 k2 k3 e0 e1 e2 hbs f1 f2
                refine wp_region_late (l := 16) (S := fun w' => w'.cell? ⟨wo.heap.size, 0, none⟩ = some (.int .i64 x.alt) ∧ w'.cell? ⟨wo.heap.size, 2, none⟩ = some (.slice B x.stack.length cb) ∧ w'.cell? ⟨wo.heap.size, 3, none⟩ = some (.bool x.exact) ∧ w'.cell? ⟨eb, eo + q * 3 + 2, none⟩ = some (.int .i64 ed.to)) (by kernel_rfl) (by rw [hws.out]; exact HST.out ws (Below.refl _ _)) (fun hHeld => ?_)
                rw [hws.out] at hHeld ⊢
                clear d0 d2 d3 d4
                refine wpAnyF_take (i := 0) (u) rfl (by kernel_rfl) (by kernel_rfl) (by kernel_rfl) (by kernel_rfl) (fun _ _ _ h => h) hHeld (by rfl) (fun w' hSw => ?_) ?_
                · obtain ⟨p0, p2, p3, p4⟩ := hSw; go_simp
                simp only [Act.put, List.getElem_toArray, List.getElem_cons_zero, List.setIfInBounds_toArray, List.set_cons_zero, List.set_cons_succ]
                refine wpAnyF_take (i := 1) (.pointer (some ⟨wo.heap.size, 0, none⟩)) rfl (by kernel_rfl) (by kernel_rfl) (by kernel_rfl) (by kernel_rfl) (fun _ _ _ h => h) hHeld (by rfl) (fun w' hSw => ?_) ?_
                · obtain ⟨p0, p2, p3, p4⟩ := hSw; go_simp
                try simp only [Act.put, List.getElem_toArray, List.getElem_cons_zero, List.getElem_cons_succ, List.setIfInBounds_toArray, List.set_cons_zero, List.set_cons_succ]
                refine wpAnyF_take (i := 2) (.int .i64 x.alt) rfl (by kernel_rfl) (by kernel_rfl) (by kernel_rfl) (by kernel_rfl) (fun _ _ _ h => h) hHeld (by rfl) (fun w' hSw => ?_) ?_
                · obtain ⟨p0, p2, p3, p4⟩ := hSw; go_simp
                try simp only [Act.put, List.getElem_toArray, List.getElem_cons_zero, List.getElem_cons_succ, List.setIfInBounds_toArray, List.set_cons_zero, List.set_cons_succ]
                refine wpAnyF_take (i := 3) (.slice (some ⟨eb, eo, none⟩) st.edges.length ec) rfl (by kernel_rfl) (by kernel_rfl) (by kernel_rfl) (by kernel_rfl) (fun _ _ _ h => h) hHeld (by rfl) (fun w' hSw => ?_) ?_
                · obtain ⟨p0, p2, p3, p4⟩ := hSw; go_simp
                try simp only [Act.put, List.getElem_toArray, List.getElem_cons_zero, List.getElem_cons_succ, List.setIfInBounds_toArray, List.set_cons_zero, List.set_cons_succ]
                refine wpAnyF_take (i := 4) (.int .i64 (q : Int)) rfl (by kernel_rfl) (by kernel_rfl) (by kernel_rfl) (by kernel_rfl) (fun _ _ _ h => h) hHeld (by rfl) (fun w' hSw => ?_) ?_
                · obtain ⟨p0, p2, p3, p4⟩ := hSw; go_simp
                try simp only [Act.put, List.getElem_toArray, List.getElem_cons_zero, List.getElem_cons_succ, List.setIfInBounds_toArray, List.set_cons_zero, List.set_cons_succ]
                refine wpAnyF_take (i := 5) (.pointer (some ⟨eb, eo + q * 3, none⟩)) rfl (by kernel_rfl) (by kernel_rfl) (by kernel_rfl) (by kernel_rfl) (fun _ _ _ h => h) hHeld (by rfl) (fun w' hSw => ?_) ?_
                · obtain ⟨p0, p2, p3, p4⟩ := hSw; go_simp
                try simp only [Act.put, List.getElem_toArray, List.getElem_cons_zero, List.getElem_cons_succ, List.setIfInBounds_toArray, List.set_cons_zero, List.set_cons_succ]
                refine wpAnyF_take (i := 6) (.pointer (some ⟨eb, eo + q * 3 + 2, none⟩)) rfl (by kernel_rfl) (by kernel_rfl) (by kernel_rfl) (by kernel_rfl) (fun _ _ _ h => h) hHeld (by rfl) (fun w' hSw => ?_) ?_
                · obtain ⟨p0, p2, p3, p4⟩ := hSw; go_simp
                try simp only [Act.put, List.getElem_toArray, List.getElem_cons_zero, List.getElem_cons_succ, List.setIfInBounds_toArray, List.set_cons_zero, List.set_cons_succ]
                refine wpAnyF_take (i := 7) (.int .i64 ed.to) rfl (by kernel_rfl) (by kernel_rfl) (by kernel_rfl) (by kernel_rfl) (fun _ _ _ h => h) hHeld (by rfl) (fun w' hSw => ?_) ?_
                · obtain ⟨p0, p2, p3, p4⟩ := hSw; go_simp
                try simp only [Act.put, List.getElem_toArray, List.getElem_cons_zero, List.getElem_cons_succ, List.setIfInBounds_toArray, List.set_cons_zero, List.set_cons_succ]
                refine wpAnyF_take (i := 8) (.pointer (some ⟨wo.heap.size, 2, none⟩)) rfl (by kernel_rfl) (by kernel_rfl) (by kernel_rfl) (by kernel_rfl) (fun _ _ _ h => h) hHeld (by rfl) (fun w' hSw => ?_) ?_
                · obtain ⟨p0, p2, p3, p4⟩ := hSw; go_simp
                try simp only [Act.put, List.getElem_toArray, List.getElem_cons_zero, List.getElem_cons_succ, List.setIfInBounds_toArray, List.set_cons_zero, List.set_cons_succ]
                refine wpAnyF_take (i := 9) (.slice B x.stack.length cb) rfl (by kernel_rfl) (by kernel_rfl) (by kernel_rfl) (by kernel_rfl) (fun _ _ _ h => h) hHeld (by rfl) (fun w' hSw => ?_) ?_
                · obtain ⟨p0, p2, p3, p4⟩ := hSw; go_simp
                try simp only [Act.put, List.getElem_toArray, List.getElem_cons_zero, List.getElem_cons_succ, List.setIfInBounds_toArray, List.set_cons_zero, List.set_cons_succ]
                refine wpAnyF_take (i := 10) (.pointer (some ⟨wo.heap.size, 3, none⟩)) rfl (by kernel_rfl) (by kernel_rfl) (by kernel_rfl) (by kernel_rfl) (fun _ _ _ h => h) hHeld (by rfl) (fun w' hSw => ?_) ?_
                · obtain ⟨p0, p2, p3, p4⟩ := hSw; go_simp
                try simp only [Act.put, List.getElem_toArray, List.getElem_cons_zero, List.getElem_cons_succ, List.setIfInBounds_toArray, List.set_cons_zero, List.set_cons_succ]
                refine wpAnyF_take (i := 11) (.bool x.exact) rfl (by kernel_rfl) (by kernel_rfl) (by kernel_rfl) (by kernel_rfl) (fun _ _ _ h => h) hHeld (by rfl) (fun w' hSw => ?_) ?_
                · obtain ⟨p0, p2, p3, p4⟩ := hSw; go_simp
                try simp only [Act.put, List.getElem_toArray, List.getElem_cons_zero, List.getElem_cons_succ, List.setIfInBounds_toArray, List.set_cons_zero, List.set_cons_succ]
                refine wpAnyF_take (i := 12) (.agg #[.int .i64 x.alt, .int .i64 ed.to, .slice B x.stack.length cb, .bool x.exact, .bool false]) rfl (by kernel_rfl) (by kernel_rfl) (by kernel_rfl) (by kernel_rfl) (fun _ _ _ h => h) hHeld (by rfl) (fun w' hSw => ?_) ?_
                · obtain ⟨p0, p2, p3, p4⟩ := hSw; go_simp
                try simp only [Act.put, List.getElem_toArray, List.getElem_cons_zero, List.getElem_cons_succ, List.setIfInBounds_toArray, List.set_cons_zero, List.set_cons_succ]
                refine wpAnyF_step 13 (by kernel_rfl) rfl (fun K hK => ?_)
                go_simp
                rw [hwn.out]
                refine hK _ _ HSTN.out (fun hHeld => ?_)
                clear hK
                clear K
                try simp only [Act.put, List.getElem_toArray, List.getElem_cons_zero, List.getElem_cons_succ, List.setIfInBounds_toArray, List.set_cons_zero, List.set_cons_succ]
                refine wpAnyF_step 14 (by kernel_rfl) rfl (fun K hK => ?_)
                refine step_pushG wn rfl _ _ 45 rfl w1.heap.size 103 iC _ 5 48 Tryz.underlying45 hiC hzC hsC hyC rfl (by omega) u L4.length vs rfl hown6 [.int .i64 x.alt, .int .i64 ed.to, .slice B x.stack.length cb, .bool x.exact, .bool false] 1 ws.heap.size rfl rfl (fun j5 u5 hj5 => by
                  rw [show (⟨ws.heap.size, 0, none⟩ : Addr).add j5 = ⟨ws.heap.size, j5, none⟩ by unfold Addr.add; by_cases h : j5 = 0 <;> simp [h]]
                  rw [Lib.cell_of_heap HXN.out]; simpa using hj5) hcs Nat.zero_lt_one (by simp only [maxLen]; omega) (by omega) hsz6 ?_
                intro g cg w9 hown9 hg9 ho9
                refine hK _ _ (HSO.out _ ho9) (fun hHeld => ?_)
                clear hK
                clear K
                try simp only [Act.put, List.getElem_toArray, List.getElem_cons_zero, List.getElem_cons_succ, List.setIfInBounds_toArray, List.set_cons_zero, List.set_cons_succ]
                refine wpAnyF_take (i := 15) (.slice (some ⟨g, 0, none⟩) (L4.length + 1) cg) rfl (by kernel_rfl) (by kernel_rfl) (by kernel_rfl) (by kernel_rfl) (fun _ _ _ h => h) hHeld (by rfl) (fun w' hSw => ?_) ?_
                · obtain ⟨p0, p2, p3, p4⟩ := hSw; go_simp
                try simp only [Act.put, List.getElem_toArray, List.getElem_cons_zero, List.getElem_cons_succ, List.setIfInBounds_toArray, List.set_cons_zero, List.set_cons_succ]
                refine ⟨by kernel_rfl, ?_⟩
                clear hHeld
                go_wp2_with fail
                go_roundw
                case rel =>
                  have hFP := FI.push (S := S0) (y := ⟨x.alt, ed.to, x.stack, x.exact, false⟩) HOW6.out HCV6.out HBW6.out (A := B) (c := cb) HCAP.out HRO.out ho9 hg9 hown9
                  have h19 : Below w1.heap.size wn w9 := ho9.below' (fun k hk => HUL.out k hk) hsz6
                  refine ⟨q + 1, _, rfl, hql, by go_num, hid ⟨?_, HJB.out.trans ((HBS.out.mono hwz2).trans h19), (ho9.block _ hwn1 HBX.out).trans HXB.out, fun e => ?_⟩⟩
                  · rw [HF2.out, HFE.out, ← List.append_assoc, ← HL4.out]
                    exact hFP
                  · have e : g = wo.heap.size := by injection e
                    rcases hg9 with h | h
                    · exact HBX.out (by rw [h, e])
                    · omega
                case measure => simp [intOf]; omega
              · have HFE := hid (show mvF tok x ed = none by unfold mvF; rw [if_neg hk])
                by_cases hk1 : ed.kind = 1
                · have f1 : (ed.kind == 1) = true := by rw [hk1]; rfl
                  have f2 : (ed.what == tok) = false := by rw [beq_eq_false_iff_ne]; exact fun e => hk ⟨hk1, e⟩
                  clear hk hk1
                  go_wp2_with fail
                  go_roundw
                  case rel => exact ⟨q + 1, _, rfl, hql, by go_num, hid (by rw [HF2.out, HFE.out, Option.toList_none, List.append_nil]; exact HJ.out)⟩
                  case measure => simp [intOf]; omega
                · have f1 : (ed.kind == 1) = false := by rw [beq_eq_false_iff_ne]; exact hk1
                  clear hk hk1
                  go_wp2_with fail
                  go_roundw
                  case rel => exact ⟨q + 1, _, rfl, hql, by go_num, hid (by rw [HF2.out, HFE.out, Option.toList_none, List.append_nil]; exact HJ.out)⟩
                  case measure => simp [intOf]; omega
            · have hqe : q = st.edges.length := by omega
              subst hqe
              have hfi := HJ.out.1
              rw [List.take_length, ← HG.out, ← HFT.out] at hfi
              have HFI2 := hid hfi
              clear hfi
              go_wp2_with fail
              go_roundw
              case rel => exact ⟨j + 1, _, rfl, hlt, by go_num, HFI2⟩
              case measure => simp [intOf]; omega
      · have hje : j = s.configs.length := by omega
        subst hje
        rw [List.take_length, ← moveL_eq (fun x hx => (HS.out.ok x hx).2)] at HI
        obtain ⟨vs, hown, hcv, hb9⟩ := HI.out
        obtain ⟨AO, co, rfl⟩ := row_form hown
        have hcr : CfR wr S0 AO (Cf.moveL v s tok) := ⟨vs, RO.of_own0 hown (fun b e => by have := HS0.out b e; omega), hcv.only (Only.refl _ _) (fun b _ e => .inl ⟨e, by have := HS0.out b e; omega⟩)⟩
        have hbd := Cf.move_bd HK.out.W HS.out tok
        have hc32 := rclosed_of S0 (Cf.moveL v s tok) v a V AO co wr ((HV.out.below HBW.out).more HBW.out.size) HK.out.W HK.out.kind HK.out.stops HK.out.ends hbd.1 HML.out (by omega) (fun b e => Nat.lt_of_lt_of_le (HS0.out b e) HBW.out.size) hcr
        have HC32 := hid hc32
        have HB9 := hid hb9
        clear hc32 hcr hown hcv hb9 hbd
        go_wp2_with fail
        go_at_call 32
        refine HC32.out.mono ?_
        rintro _ w2 ⟨t, CA2, ca2, AA2, aa2, rfl, hI, hSB, hc, hr, hb2⟩
        unfold setAggR
        have hsz9 := HB9.out.size
        have hwl1 := heap_lt HH1.out
        have hq2 := (hb2.block (w.heap.size + 1) (by omega)).trans ((HB9.out.block (w.heap.size + 1) (by omega)).trans HH1.out)
        have z2 : ∀ i, w2.frozen? ⟨w.heap.size + 1, i, none⟩ = false := fun i => Lib.frozen_of_heap hq2 i
        obtain ⟨r0, r1, r2⟩ := cells3 hq2
        have hno := NoInt.of hq2
        obtain ⟨hq3, ho3⟩ := set3 hq2 (.slice CA2 t.configs.length ca2) (.slice AA2 t.alts.length aa2) (.bool t.over)
        obtain ⟨w3, hw3⟩ : ∃ w3, Hid (((w2.setCell ⟨w.heap.size + 1, 0, none⟩ (.slice CA2 t.configs.length ca2)).setCell ⟨w.heap.size + 1, 1, none⟩ (.slice AA2 t.alts.length aa2)).setCell ⟨w.heap.size + 1, 2, none⟩ (.bool t.over) = w3) := ⟨_, hid rfl⟩
        rw [hw3.out] at hq3 ho3
        have HQ3 := hid hq3
        have HFIN := hid (rcl_moveS (rcl_store1S (ca := ca2) (aa := aa2) hI hSB hc hr hno (Nat.le_succ _) HBW.out hb2 ho3) HOV.out)
        clear hq2 hq3 ho3 hno hI hSB hc hr hb2
        go_wp2_with fail
        rw [hw3.out]
        refine bodyPost_ret (results_cell_row rfl _ _ (w.heap.size + 1) 47 _ _ _ rfl HQ3.out Tryz.underlying47 rfl infoRSet) rfl ?_
        exact HFIN.out
end Go.Proofs.YtnpcjbdolmmaeaaGreatDoor
