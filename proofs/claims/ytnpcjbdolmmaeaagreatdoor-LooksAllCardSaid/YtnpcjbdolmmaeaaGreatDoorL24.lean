/-
  The document's closing (harbingerref14.View.Closed): the walk.
-/
import Derived.Deep.CutBlock
import Derived.Deep.CutRange
import Derived.Deep.LoopGhost
import Derived.Test.YtnpcjbdolmmaeaaGreatDoorL23
namespace Go.Proofs.YtnpcjbdolmmaeaaGreatDoor
open Go.RowKit Go.Maps
open Go.Sort (grow)
set_option maxRecDepth 100000
def setAggR (CA : Option Addr) (ca : Nat) (AA : Option Addr) (aa : Nat) (s : Cf.St) : Value := .agg #[.slice CA s.configs.length ca, .slice AA s.alts.length aa, .bool s.over]
def RclP (v : Cf.Vw) (l : List Cf.Cfg) (w : World) (e : Ending) (w' : World) : Prop := ∃ s CA ca AA aa, e = .returned (setAggR CA ca AA aa s) ∧ Cf.IsSet v l s ∧ Cf.SetB v s ∧ CfR w' (fun _ => False) CA s.configs ∧ Reads w' w'.heap.size 1 AA s.alts.length (s.alts.map (Value.int .i64)) ∧ Below w.heap.size w w'
def RclS (S0 : Nat → Prop) (v : Cf.Vw) (l : List Cf.Cfg) (w : World) (e : Ending) (w' : World) : Prop := ∃ s CA ca AA aa, e = .returned (setAggR CA ca AA aa s) ∧ Cf.IsSet v l s ∧ Cf.SetB v s ∧ CfR w' S0 CA s.configs ∧ RO w' S0 1 AA s.alts.length (s.alts.map (Value.int .i64)) ∧ Below w.heap.size w w'
theorem infoRSet : (Tryz.prog.info? 47).map (·.size) = some 3 := by kernel_rfl
theorem sm_of {v : Cf.Vw} {x : Cf.Cfg} (h : Cf.Sz v x) (hE : v.d.ends.length ≤ 1000000) (W : Cf.OkW v) : Sm x := by
  obtain ⟨h1, h2, h3, h4⟩ := Cf.has_state h.1
  have := W.states
  have := h.2
  exact ⟨⟨h1, by omega⟩, ⟨h3, by omega⟩, by omega⟩
theorem sz_of {v : Cf.Vw} {x : Cf.Cfg} (h : Cf.has v x = true) (hb : Cf.Bd v x) (W : Cf.OkW v) : Cf.Sz v x := ⟨h, Nat.le_succ_of_le (hb.len W)⟩
theorem cf_one (x : Cf.Cfg) (A : Option Addr) (c : Nat) : ∀ u ∈ [Value.int .i64 x.alt, .int .i64 x.state, .slice A x.stack.length c, .bool x.exact, .bool x.ended], u.oneCell' = true := fun u hu => by
  simp only [List.mem_cons, List.mem_nil_iff, or_false] at hu
  rcases hu with rfl | rfl | rfl | rfl | rfl <;> rfl
theorem take_fold {α β : Type} (f : β → α → β) (b : β) (l : List α) (j : Nat) (h : j < l.length) : (l.take (j + 1)).foldl f b = f ((l.take j).foldl f b) l[j] := by
  rw [List.take_succ_eq_append_getElem h, List.foldl_append]; rfl
theorem from_uni {v : Cf.Vw} {x : Cf.Cfg} {S : Nat → Prop} {w w' : World} {e : Ending} (h : FromP v x S w e w') : ∃ (L : List Cf.Cfg) (A : Option Addr) (c : Nat) (st fl : Bool), e = .returned (.tuple #[.slice A L.length c, .bool st, .bool fl]) ∧ CfR w' (fun b => S b ∧ b < w.heap.size) A L ∧ Below w.heap.size w w' ∧ fl = Cf.fullOf v x ∧ (fl = true → L = [] ∧ st = false) ∧ (fl = false → L = Cf.comeOf v x ∧ st = Cf.staysOf v x) := by
  obtain ⟨hb, ⟨hf, rfl⟩ | ⟨hf, A, c, rfl, hc⟩⟩ := h
  · exact ⟨[], none, 0, false, true, rfl, ⟨[], ⟨rfl, fun h => absurd h (by decide)⟩, rfl⟩, hb, hf.symm, fun _ => ⟨rfl, rfl⟩, fun h => by cases h⟩
  · exact ⟨_, A, c, _, false, rfl, hc, hb, hf.symm, fun h => (by cases h), fun _ => ⟨rfl, rfl⟩⟩
theorem come_all (v : Cf.Vw) (x : Cf.Cfg) (W : Cf.OkW v) (h : Cf.has v x = true) : (Cf.comeOf v x).length ≤ 700 + v.n.stops.length := by
  unfold Cf.comeOf Cf.backs
  rw [List.length_append]
  have h1 := come_few v x (Cf.stOf v x).edges
  have h2 := back_few x v.n.stops
  have hs := Cf.has_state h
  have h3 := W.edges _ (Cf.stOf_mem ⟨hs.2.2.1, hs.2.2.2⟩)
  omega
set_option maxHeartbeats 8000000 in
theorem rclosed_of (S0 : Nat → Prop) (l : List Cf.Cfg) (v : Cf.Vw) (a : VwA) (V : Nat) (A : Option Addr) (c : Nat) (w : World) (hv : RvAt w w.heap.size V a v) (W : Cf.OkW v) (hk : ∀ s ∈ v.n.states, ∀ e ∈ s.edges, 0 ≤ e.kind ∧ e.kind ≤ 3) (hU : v.n.stops.length ≤ 100000) (hE : v.d.ends.length ≤ 1000000) (hl : ∀ x ∈ l, Cf.Bd v x) (hh : ∀ x ∈ l, Cf.has v x = true) (hln : l.length ≤ 3000000)
    (hS0 : ∀ b, S0 b → b < w.heap.size) (hr : CfR w S0 A l) : Calls Tryz.prog 32 #[.pointer (some ⟨V, 0, none⟩), .slice A l.length c] w (RclS S0 v l w) := by
  have HS0 := hid hS0
  clear hS0
  obtain ⟨w1, hw1⟩ : ∃ w1, Hid (w.alloc (.cells #[.slice none 0 0, .slice none 0 0, .bool false] 47) = w1) := ⟨_, hid rfl⟩
  have hb1 : Below w.heap.size w w1 := by rw [← hw1.out]; exact below_new _ _
  have h1 : w1.heap[w.heap.size]? = some (.cells #[.slice none 0 0, .slice none 0 0, .bool false] 47 (0, 0)) := by rw [← hw1.out]; exact heap_alloc_new _ _
  have z1 : w1.heap.size = w.heap.size + 1 := by rw [← hw1.out]; simp
  obtain ⟨iC, hiC, hzC, hsC, hyC⟩ := info_of infoRC
  have HV := hid hv
  have HW := hid W
  have HK := hid hk
  have HL := hid hl
  have HHS := hid hh
  have HR := hid hr
  have HB1 := hid hb1
  have HH1 := hid h1
  clear hv W hk hl hh hr hb1 h1
  go_enter Tryz.func32, Tryz.ntmps32
  go_upto_block 0 with fail
  rw [hw1.out]
  clear hw1
  go_cut [5, 6, 8, 9, 10, 11] from 25 to 62 (fun o5 o6 o8 _ _ _ wx => ∃ um uq uh : Value, um = o5 ∧ uq = o6 ∧ uh = o8 ∧ Hid (RcR S0 wx w1.heap.size um (.slice none 0 0) uh uq (l.foldl (Cf.pushR v) ([], [])).1 [] l (l.foldl (Cf.pushR v) ([], [])).2 ∧ Below w1.heap.size w1 wx))
  case first =>
    go_wp2_with fail
    go_loopw [5, 6, 8, 9] (fun o5 o6 o8 i wr => ∃ (j : Nat) (um uq uh : Value), um = o5 ∧ uq = o6 ∧ uh = o8 ∧ j ≤ l.length ∧ i = .int .i64 (j : Int) ∧ Hid (RcR S0 wr w1.heap.size um (.slice none 0 0) uh uq ((l.take j).foldl (Cf.pushR v) ([], [])).1 [] (l.take j) ((l.take j).foldl (Cf.pushR v) ([], [])).2 ∧ Below w1.heap.size w1 wr)) (fun _ _ _ i _ => l.length - (intOf i).toNat)
    case atStart => exact ⟨0, _, _, _, rfl, rfl, rfl, Nat.zero_le _, rfl, hid ⟨RcR.start _ _ _, Below.refl _ _⟩⟩
    case round =>
      obtain ⟨j, um, uq, uh, rfl, rfl, rfl, hj, rfl, HI⟩ := hrel
      by_cases hlt : j < l.length
      · obtain ⟨b, off, B, cb, hA, hbl, hcap, hfar⟩ := HR.out.farS j hlt
        have hhx := HHS.out l[j] (List.getElem_mem hlt)
        have hbx := HL.out l[j] (List.getElem_mem hlt)
        have HFT := hid (show (l.take (j + 1)).foldl (Cf.pushR v) ([], []) = Cf.pushR v ((l.take j).foldl (Cf.pushR v) ([], [])) l[j] ∧ l.take (j + 1) = l.take j ++ [l[j]] by
          rw [List.take_succ_eq_append_getElem hlt, List.foldl_append]; exact ⟨rfl, rfl⟩)
        have HPU := hid ((Cf.PuI.start v).take (l.take j) fun x hx => Nat.le_succ_of_le ((HL.out x (List.mem_of_mem_take hx)).len HW.out))
        have htl : (l.take j).length = j := by rw [List.length_take]; omega
        rw [htl] at HPU
        generalize l[j] = x at hcap hfar hhx hbx HFT
        generalize (l.take j).foldl (Cf.pushR v) ([], []) = p at HI HFT HPU
        generalize l.take j = lj at HI HFT htl
        have HTL := hid htl
        have hbr := HI.out.2
        have HBR := hid (HB1.out.trans (hbr.mono HB1.out.size))
        have hsr := hbr.size
        obtain ⟨hro, r0, r1, r2, r3, r4⟩ := hfar wr HBR.out
        have hc37 := rhas_any x B cb wr w.heap.size V a v (HV.out.below HBR.out) HBR.out.size
        rw [hhx] at hc37
        have HC37 := hid hc37
        have HFAR := hid hfar
        have HX := hid (sm_of (sz_of hhx hbx HW.out) hE HW.out)
        have HHX := hid hhx
        have HCAP := hid hcap
        clear hro hc37 hfar hhx hbx hcap htl hbr
        rw [hA]
        clear hA
        go_wp2_with fail
        go_at_call 37
        refine HC37.out.mono ?_
        rintro _ w2 ⟨rfl, hb2⟩
        have HB2 := hid (HI.out.2.trans (hb2.mono HI.out.2.size))
        have HR2 := hid (HI.out.1.below hb2)
        have hs2 := HB2.out.size
        obtain ⟨hro, r0, r1, r2, r3, r4⟩ := HFAR.out w2 (HBR.out.trans (hb2.mono HBR.out.size))
        have HRO2 := hid (HR2.out.weak hro (by omega))
        obtain ⟨vs, hown, hcv⟩ := HR2.out.h
        rw [HTL.out] at hown
        have HOWN := hid hown
        have HCV := hid hcv
        have hcs := cf_one x B cb
        clear hro hb2 hcv
        go_upto_region 7 with (at_builtin; refine wpList_push4 w2 rfl _ _ 45 rfl w1.heap.size 103 iC _ 5 48 Tryz.underlying45 hiC hzC hsC hyC rfl (by omega) uh j vs rfl hown [.int .i64 x.alt, .int .i64 x.state, .slice B x.stack.length cb, .bool x.exact, .bool x.ended] 1 w2.heap.size rfl rfl rfl hcs Nat.zero_lt_one (by simp only [maxLen]; omega) (by omega) hs2 ?_; intro g cg w3 hown3 hg3 ho3)
        have HR3 := hid (HR2.out.push_h HCV.out HCAP.out HRO2.out ho3 hg3 (by rw [HTL.out]; exact hown3))
        have HB3 := hid (HB2.out.trans (HR2.out.stay hs2 ho3 fun k e => .inr (.inr (.inl e))))
        have hs3 := HB3.out.size
        rw [HTL.out] at HR3
        obtain ⟨hro, r0, r1, r2, r3, r4⟩ := HFAR.out w3 (HB1.out.trans (HB3.out.mono HB1.out.size))
        have HRO3 := hid (HR3.out.weak hro (by omega))
        obtain ⟨vm, hownm, hcvm⟩ := HR3.out.m
        have hc62 := put_any p.1 x _ w1.heap.size um vm B cb w3 hownm hcvm (fun k e => .inl e) (by have := HPU.out.m; omega) (fun y hy => sm_of (HPU.out.sm y hy) hE HW.out) HX.out HCAP.out HRO3.out hs3
        have HC62 := hid hc62
        clear hown hown3 hg3 ho3 hro hownm hcvm hc62 hs2 hcs
        go_wp2_with fail
        go_at_call 62
        refine HC62.out.mono ?_
        rintro _ w4 ⟨um', vm', rfl, hown4, hcv4, ho4, hg4⟩
        have HR4 := hid (HR3.out.put_m hown4 hcv4 ho4 hg4)
        have HB4 := hid (HB3.out.trans (HR3.out.stay hs3 ho4 fun k e => .inl e))
        have hs4 := HB4.out.size
        have HPP := hid (show (l.take (j + 1)).foldl (Cf.pushR v) ([], []) = ((Cf.putL p.1 x).1, if (Cf.putL p.1 x).2 = true then p.2 ++ [x] else p.2) by
          rw [HFT.out.1]; unfold Cf.pushR; rw [if_neg (by rw [HHX.out]; decide)])
        clear hown4 hcv4 ho4 hg4
        cases hp : (Cf.putL p.1 x).2 with
        | false =>
          rw [hp, if_neg (by decide)] at HPP
          clear hp r0 r1 r2 r3 r4
          go_wp2_with fail
          go_roundw
          case rel => exact ⟨j + 1, _, _, _, rfl, rfl, rfl, hlt, by go_num, hid ⟨by rw [HPP.out, HFT.out.2]; exact HR4.out, HB4.out⟩⟩
          case measure => simp [intOf]; omega
        | true =>
          rw [hp, if_pos rfl] at HPP
          clear hp
          obtain ⟨hro, r0, r1, r2, r3, r4⟩ := HFAR.out w4 (HB1.out.trans (HB4.out.mono HB1.out.size))
          have HRO4 := hid (HR4.out.weak hro (by omega))
          obtain ⟨vq, hownq, hcvq⟩ := HR4.out.q
          have HCVQ := hid hcvq
          have hcs := cf_one x B cb
          have hpl : p.2.length + 1 ≤ 1000000000 := by have := HPU.out.q; omega
          clear hro hcvq hs3
          go_wp2_with (at_builtin; refine wpList_pushQ5 w4 rfl _ _ rfl w1.heap.size uq p.2.length vq rfl hownq [.int .i64 x.alt, .int .i64 x.state, .slice B x.stack.length cb, .bool x.exact, .bool x.ended] w4.heap.size rfl rfl rfl hcs hpl hs4 ?_; intro uq' w5 hown5 hg5 ho5)
          have HR5 := hid (HR4.out.push_q HCVQ.out HCAP.out HRO4.out ho5 hg5 hown5)
          have HB5 := hid (HB4.out.trans (HR4.out.stay hs4 ho5 fun k e => .inr (.inr (.inr (.inl e)))))
          clear hown5 hg5 ho5 hownq hcs
          go_roundw
          case rel => exact ⟨j + 1, _, _, _, rfl, rfl, rfl, hlt, by go_num, hid ⟨by rw [HPP.out, HFT.out.2]; exact HR5.out, HB5.out⟩⟩
          case measure => simp [intOf]; omega
      · have hje : j = l.length := by omega
        subst hje
        rw [List.take_length] at HI
        go_wp2_with fail
        go_meet
        exact ⟨_, _, _, rfl, rfl, rfl, HI⟩
  case rest =>
    obtain ⟨um0, uq0, uh, rfl, rfl, rfl, HC⟩ := hcut
    have HI0 := hid (Cf.RcI.start (v := v) (l := l) HL.out)
    generalize l.foldl (Cf.pushR v) ([], []) = p at HC HI0
    obtain ⟨vm0, hown0, _⟩ := HC.out.1.m
    obtain ⟨Am, cm, rfl⟩ := row_form hown0
    obtain ⟨ov, hov⟩ : ∃ ov, decide (2000 < p.1.length) = ov := ⟨_, rfl⟩
    rw [hov] at HI0
    have f1 : decide ((2000 : Int) < (p.1.length : Int)) = ov := by rw [← hov]; exact decide_eq_decide.2 (by omega)
    clear hown0
    go_upto_block 2 with fail
    clear f1 hov
    go_cut [5, 6, 7, 12, 13, 14, 15, 16, 17, 18, 19] from 66 to 164 (fun o5 o6 o7 o12 _ _ _ _ _ _ _ wr => ∃ (n : Nat) (c' : Cf.Cl) (met q kept : List Cf.Cfg) (over : Bool) (um uq uk : Value), um = o5 ∧ uq = o6 ∧ uk = o7 ∧ o12 = .bool over ∧ Hid (RcR S0 wr w1.heap.size um uk uh uq met kept l q ∧ Below w1.heap.size w1 wr ∧ Cf.RcI v l n c' met q kept over ∧ (over = true ∨ q = [])))
    case first =>
      go_wp2_with fail
      go_loopg [5, 6, 7, 12] 2003 (fun m o5 o6 o7 o12 wr => ∃ (n : Nat) (c' : Cf.Cl) (met q kept : List Cf.Cfg) (over : Bool) (um uq uk : Value), um = o5 ∧ uq = o6 ∧ uk = o7 ∧ o12 = .bool over ∧ m + n = 2003 ∧ Hid (RcR S0 wr w1.heap.size um uk uh uq met kept l q ∧ Below w1.heap.size w1 wr ∧ Cf.RcI v l n c' met q kept over))
      case atStart => exact ⟨0, _, p.1, p.2, [], ov, _, _, _, rfl, rfl, rfl, rfl, rfl, hid ⟨HC.out.1, HC.out.2, HI0.out⟩⟩
      case round =>
        obtain ⟨n, c', met, q, kept, over, um, uq, uk, rfl, rfl, rfl, rfl, hmn, H⟩ := hrel
        obtain ⟨vq, hq, hcvq⟩ := H.out.1.q
        cases q with
        | nil =>
          obtain ⟨Aq, cq, rfl⟩ := hq.form
          clear hq hcvq
          go_wp2_with fail
          go_meet
          exact ⟨n, c', met, [], kept, over, _, _, _, rfl, rfl, rfl, rfl, hid ⟨H.out.1, H.out.2.1, H.out.2.2, .inr rfl⟩⟩
        | cons x q' =>
          obtain ⟨b, off, cq, rfl, hbl, hcq, hcm, hcells, htail⟩ := hq.tail
          have fq : decide ((0 : Int) < ((q'.length + 1 : Nat) : Int)) = true := decide_eq_true (by omega)
          cases over with
          | true =>
            clear hq hcvq hcells htail
            go_wp2_with fail
            go_meet
            exact ⟨n, c', met, _, kept, true, _, _, _, rfl, rfl, rfl, rfl, hid ⟨H.out.1, H.out.2.1, H.out.2.2, .inl rfl⟩⟩
          | false =>
            obtain ⟨va, vb, rfl, ⟨Ax, cx, rfl, hcx, hrx⟩, hcvb⟩ := hcvq
            have r0 : wr.cell? ⟨b, off, none⟩ = some (.int .i64 x.alt) := hcells 0 _ rfl
            have r1 := hcells 1 _ rfl
            have r2 := hcells 2 _ rfl
            have r3 := hcells 3 _ rfl
            have r4 := hcells 4 _ rfl
            have htail2 : QAt wr w1.heap.size _ q'.length vb := htail
            obtain ⟨hbx, hhx⟩ := H.out.2.2.qb x (by simp)
            obtain ⟨uq', huq⟩ : ∃ uq', Value.slice (if cq = 1 then some ⟨b, off, none⟩ else some ⟨b, off + 5, none⟩) q'.length (cq - 1) = uq' := ⟨_, rfl⟩
            rw [huq] at htail2
            have hgq : Gr wr (.slice (some ⟨b, off, none⟩) (q'.length + 1) cq) uq' := .inl (by rw [← huq]; split <;> rfl)
            have hrs := rs_gr (S0 := S0) (w := wr) (um := um) (uk := uk) (uh := uh) (.inl rfl) (.inl rfl) (.inl rfl) (.inr hgq)
            have HRQ := hid (H.out.1.turn_q (Only.refl _ _) hgq ⟨vb, htail2, hcvb.only (Only.refl _ _) hrs⟩)
            have HRX := hid (hrx.weak hrs)
            obtain ⟨w2, hw2⟩ : ∃ w2, Hid (wr.alloc (.cells #[.int .i64 x.alt, .int .i64 x.state, .slice Ax x.stack.length cx, .bool x.exact, .bool x.ended] 103) = w2) := ⟨_, hid rfl⟩
            have hb2 : Below wr.heap.size wr w2 := by rw [← hw2.out]; exact below_new _ _
            have h2 : w2.heap[wr.heap.size]? = some (.cells #[.int .i64 x.alt, .int .i64 x.state, .slice Ax x.stack.length cx, .bool x.exact, .bool x.ended] 103 (0, 0)) := by rw [← hw2.out]; exact heap_alloc_new _ _
            have HXB := hid (And.intro hbx hhx)
            have HB2 := hid hb2
            have HH2 := hid h2
            have HCX := hid hcx
            obtain ⟨ln, hln⟩ : ∃ ln, q'.length = ln := ⟨_, rfl⟩
            rw [hln] at huq hcq fq ⊢
            have HLN := hid hln
            have hln1 : ln + 1 ≤ 2000 := by have := H.out.2.2.len.2.2.1; rw [List.length_cons] at this; omega
            clear hq hcvb hcells htail htail2 hbx hhx hgq hrs hrx hb2 h2 hln hcx
            go_upto_region 15 with fail
            rw [hw2.out]
            clear hw2 huq r0 r1 r2 r3 r4
            have HBW2 := hid (H.out.2.1.trans (HB2.out.mono H.out.2.1.size))
            have HEND := hid (show Cf.ends1 v x = (decide (x.stack.length = 0) && decide (x.state = v.d.ends.getD x.alt.toNat 0)) by
              unfold Cf.ends1
              congr 1
              exact decide_eq_decide.2 (by rw [List.length_eq_zero_iff]))
            have hwr : wr.heap.size < w2.heap.size := heap_lt HH2.out
            have HVW := hid (HB1.out.trans (HBW2.out.mono HB1.out.size))
            have hVl := HV.out.lt
            go_cut [100] from 78 to 99 (fun o wx => o = .bool (!x.ended && Cf.ends1 v x) ∧ Hid (Below w2.heap.size w2 wx))
            case first =>
              have c4 : w2.cell? ⟨wr.heap.size, 4, none⟩ = some (.bool x.ended) := by rw [Lib.cell_of_heap HH2.out]; rfl
              rcases Bool.eq_false_or_eq_true x.ended with he | he
              · rw [he] at c4
                have HE0 := hid (show (!x.ended && Cf.ends1 v x) = false by rw [he]; rfl)
                clear he
                go_quiet (fail)
                go_wp2_with fail
                go_meet
                exact ⟨by rw [HE0.out], hid (below_drewN (Below.refl _ _) _)⟩
              · rw [he] at c4
                have HE1 := hid (show (!x.ended && Cf.ends1 v x) = Cf.ends1 v x by rw [he]; rfl)
                clear he
                have c2 : w2.cell? ⟨wr.heap.size, 2, none⟩ = some (.slice Ax x.stack.length cx) := by rw [Lib.cell_of_heap HH2.out]; rfl
                by_cases hz : x.stack.length = 0
                · have HE2 := hid (show (!x.ended && Cf.ends1 v x) = decide (x.state = v.d.ends.getD x.alt.toNat 0) by rw [HE1.out, HEND.out, decide_eq_true hz, Bool.true_and])
                  have g1 : ((x.stack.length : Int) == 0) = true := by rw [hz]; rfl
                  rw [hz] at c2
                  have hst := Cf.has_state HXB.out.2
                  obtain ⟨ia, hia⟩ : ∃ ia : Nat, x.alt = (ia : Int) := ⟨x.alt.toNat, by omega⟩
                  have hil : ia < v.d.ends.length := by omega
                  have hvw := (HV.out.below HVW.out).blk
                  have v7 : w2.cell? ⟨V, 7, none⟩ = some (.slice a.XA v.d.ends.length a.xc) := by rw [Lib.cell_of_heap hvw]; rfl
                  obtain ⟨xb, xo, hXA, hxb, hxc⟩ := reads_atZ (HV.out.below HVW.out).ends ia hil
                  rw [hXA] at v7
                  have hgd : v.d.ends.getD x.alt.toNat 0 = v.d.ends[ia] := by rw [hia, List.getD_eq_getElem?_getD, Int.toNat_natCast, List.getElem?_eq_getElem hil]; rfl
                  rw [hgd] at HE2
                  have c1 : w2.cell? ⟨wr.heap.size, 1, none⟩ = some (.int .i64 x.state) := by rw [Lib.cell_of_heap HH2.out]; rfl
                  have c0 : w2.cell? ⟨wr.heap.size, 0, none⟩ = some (.int .i64 (ia : Int)) := by rw [Lib.cell_of_heap HH2.out, ← hia]; rfl
                  generalize v.d.ends[ia] = en at hxc HE2
                  clear hXA hgd hz hst hvw hia
                  by_cases hs : x.state = en
                  · have g2 : (x.state == en) = true := by rw [beq_iff_eq]; exact hs
                    rw [decide_eq_true hs] at HE2
                    clear hs
                    go_quiet (fail)
                    go_wp2_with fail
                    go_meet
                    exact ⟨by rw [HE2.out], hid (below_drewN (Below.refl _ _) _)⟩
                  · have g2 : (x.state == en) = false := by rw [beq_eq_false_iff_ne]; exact hs
                    rw [decide_eq_false hs] at HE2
                    clear hs
                    go_quiet (fail)
                    go_wp2_with fail
                    go_meet
                    exact ⟨by rw [HE2.out], hid (below_drewN (Below.refl _ _) _)⟩
                · have HE2 := hid (show (!x.ended && Cf.ends1 v x) = false by rw [HE1.out, HEND.out, decide_eq_false hz, Bool.false_and])
                  have g1 : ((x.stack.length : Int) == 0) = false := by rw [beq_eq_false_iff_ne]; omega
                  clear hz
                  go_quiet (fail)
                  go_wp2_with fail
                  go_meet
                  exact ⟨by rw [HE2.out], hid (below_drewN (Below.refl _ _) _)⟩
            case rest =>
              obtain ⟨rfl, HB3⟩ := hcut
              have HH3 := hid ((HB3.out.block _ hwr).trans HH2.out)
              have HBC := hid (HB2.out.trans (HB3.out.mono HB2.out.size))
              cases hte : (!x.ended && Cf.ends1 v x) with
              | true =>
                have HTU := hid (show Cf.turnR v x = ⟨x.alt, x.state, x.stack, x.exact, true⟩ by
                  unfold Cf.turnR
                  rw [Bool.and_eq_true] at hte
                  rw [if_pos ⟨by simpa using hte.1, hte.2⟩])
                clear hte
                have zf := Lib.frozen_of_heap HH3.out 4
                have k4 : wc.cell? ⟨wr.heap.size, 4, none⟩ = some (.bool x.ended) := by rw [Lib.cell_of_heap HH3.out]; rfl
                go_upto_region 17 with fail
                obtain ⟨w4, hw4⟩ : ∃ w4, Hid (wc.setCell ⟨wr.heap.size, 4, none⟩ (.bool true) = w4) := ⟨_, hid rfl⟩
                rw [hw4.out]
                have HH4 := hid (show w4.heap[wr.heap.size]? = some (.cells #[.int .i64 x.alt, .int .i64 x.state, .slice Ax x.stack.length cx, .bool x.exact, .bool true] 103 (0, 0)) by
                  rw [← hw4.out]; exact heap_setCell_same wc wr.heap.size 4 _ _ (.bool true) HH3.out)
                have HB4 := hid (show Below wr.heap.size wr w4 by
                  rw [← hw4.out]; exact (Only.of_set wc wr.heap.size 4 (.bool true)).below (fun b e => by omega) HBC.out HBC.out.size)
                have HBW4 := hid (H.out.2.1.trans (HB4.out.mono H.out.2.1.size))
                clear hw4 k4 zf
                have hs4 : w1.heap.size ≤ w4.heap.size := HBW4.out.size
                have HR4 := hid (HRQ.out.below (by have := HB4.out; exact this))
                have HRX4 := hid (RcR.ro (S0 := S0) (HRX.out) (Only.of_below HB4.out : Only (fun _ => False) wr w4) (fun _ e => e.elim) (fun _ _ e => e))
                have k0 : w4.cell? ⟨wr.heap.size, 0, none⟩ = some (.int .i64 x.alt) := by rw [Lib.cell_of_heap HH4.out]; rfl
                have k1 : w4.cell? ⟨wr.heap.size, 1, none⟩ = some (.int .i64 x.state) := by rw [Lib.cell_of_heap HH4.out]; rfl
                have k2 : w4.cell? ⟨wr.heap.size, 2, none⟩ = some (.slice Ax x.stack.length cx) := by rw [Lib.cell_of_heap HH4.out]; rfl
                have k3 : w4.cell? ⟨wr.heap.size, 3, none⟩ = some (.bool x.exact) := by rw [Lib.cell_of_heap HH4.out]; rfl
                have k4 : w4.cell? ⟨wr.heap.size, 4, none⟩ = some (.bool true) := by rw [Lib.cell_of_heap HH4.out]; rfl
                obtain ⟨vk, hownk, hcvk⟩ := HR4.out.k
                have hc62 := put_any kept ⟨x.alt, x.state, x.stack, x.exact, true⟩ _ w1.heap.size uk vk Ax cx w4 hownk hcvk (fun k e => .inr (.inl e)) (by have := H.out.2.2.klen; omega) (fun y hy => sm_of (H.out.2.2.ksz HW.out y hy) hE HW.out) (sm_of (v := v) (x := ⟨x.alt, x.state, x.stack, x.exact, true⟩) ⟨HXB.out.2, Nat.le_succ_of_le (HXB.out.1.len HW.out)⟩ hE HW.out) HCX.out HRX4.out hs4
                have HC62 := hid hc62
                clear hownk hcvk hc62
                go_wp2_with fail
                go_at_call 62
                refine HC62.out.mono ?_
                rintro _ w5 ⟨uk', vk', rfl, hown5, hcv5, ho5, hg5⟩
                have HR5 := hid (HR4.out.put_k hown5 hcv5 ho5 hg5)
                have HB5 := hid (HBW4.out.trans (HR4.out.stay hs4 ho5 fun k e => .inr (.inl e)))
                have HNX := hid (H.out.2.2.end_ HW.out (by rw [HTU.out]))
                rw [HTU.out] at HNX
                have hn2 := H.out.2.2.len.2.2.2
                clear hown5 hcv5 ho5 hg5 k0 k1 k2 k3 k4
                go_wp2_with fail
                go_roundg (2002 - n)
                case measure => omega
                case rel => exact ⟨n + 1, _, met, q', _, false, _, _, _, rfl, rfl, rfl, rfl, by omega, hid ⟨HR5.out, HB5.out, HNX.out⟩⟩
              | false =>
                rcases Bool.eq_false_or_eq_true x.ended with he | he
                · have HTU := hid (show Cf.turnR v x = ⟨x.alt, x.state, x.stack, x.exact, true⟩ by
                    unfold Cf.turnR
                    rw [if_neg (fun h => by rw [he] at h; cases h.1), ← he])
                  have HH4 := hid (show wc.heap[wr.heap.size]? = some (.cells #[.int .i64 x.alt, .int .i64 x.state, .slice Ax x.stack.length cx, .bool x.exact, .bool true] 103 (0, 0)) by rw [← he]; exact HH3.out)
                  have HBW4 := hid (H.out.2.1.trans (HBC.out.mono H.out.2.1.size))
                  have HB4 := HBC
                  clear hte he
                  go_upto_region 17 with fail
                  generalize wc = w4 at HH4 HBW4 HB4 ⊢
                  have hs4 : w1.heap.size ≤ w4.heap.size := HBW4.out.size
                  have HR4 := hid (HRQ.out.below (by have := HB4.out; exact this))
                  have HRX4 := hid (RcR.ro (S0 := S0) (HRX.out) (Only.of_below HB4.out : Only (fun _ => False) wr w4) (fun _ e => e.elim) (fun _ _ e => e))
                  have k0 : w4.cell? ⟨wr.heap.size, 0, none⟩ = some (.int .i64 x.alt) := by rw [Lib.cell_of_heap HH4.out]; rfl
                  have k1 : w4.cell? ⟨wr.heap.size, 1, none⟩ = some (.int .i64 x.state) := by rw [Lib.cell_of_heap HH4.out]; rfl
                  have k2 : w4.cell? ⟨wr.heap.size, 2, none⟩ = some (.slice Ax x.stack.length cx) := by rw [Lib.cell_of_heap HH4.out]; rfl
                  have k3 : w4.cell? ⟨wr.heap.size, 3, none⟩ = some (.bool x.exact) := by rw [Lib.cell_of_heap HH4.out]; rfl
                  have k4 : w4.cell? ⟨wr.heap.size, 4, none⟩ = some (.bool true) := by rw [Lib.cell_of_heap HH4.out]; rfl
                  obtain ⟨vk, hownk, hcvk⟩ := HR4.out.k
                  have hc62 := put_any kept ⟨x.alt, x.state, x.stack, x.exact, true⟩ _ w1.heap.size uk vk Ax cx w4 hownk hcvk (fun k e => .inr (.inl e)) (by have := H.out.2.2.klen; omega) (fun y hy => sm_of (H.out.2.2.ksz HW.out y hy) hE HW.out) (sm_of (v := v) (x := ⟨x.alt, x.state, x.stack, x.exact, true⟩) ⟨HXB.out.2, Nat.le_succ_of_le (HXB.out.1.len HW.out)⟩ hE HW.out) HCX.out HRX4.out hs4
                  have HC62 := hid hc62
                  clear hownk hcvk hc62
                  go_wp2_with fail
                  go_at_call 62
                  refine HC62.out.mono ?_
                  rintro _ w5 ⟨uk', vk', rfl, hown5, hcv5, ho5, hg5⟩
                  have HR5 := hid (HR4.out.put_k hown5 hcv5 ho5 hg5)
                  have HB5 := hid (HBW4.out.trans (HR4.out.stay hs4 ho5 fun k e => .inr (.inl e)))
                  have HNX := hid (H.out.2.2.end_ HW.out (by rw [HTU.out]))
                  rw [HTU.out] at HNX
                  have hn2 := H.out.2.2.len.2.2.2
                  clear hown5 hcv5 ho5 hg5 k0 k1 k2 k3 k4
                  go_wp2_with fail
                  go_roundg (2002 - n)
                  case measure => omega
                  case rel => exact ⟨n + 1, _, met, q', _, false, _, _, _, rfl, rfl, rfl, rfl, by omega, hid ⟨HR5.out, HB5.out, HNX.out⟩⟩
                · have HTU := hid (show Cf.turnR v x = x ∧ (Cf.turnR v x).ended = false by
                    have : Cf.turnR v x = x := by
                      unfold Cf.turnR
                      rw [if_neg (fun h => by rw [he, h.2] at hte; cases hte)]
                    exact ⟨this, by rw [this]; exact he⟩)
                  have HH4 := hid (show wc.heap[wr.heap.size]? = some (.cells #[.int .i64 x.alt, .int .i64 x.state, .slice Ax x.stack.length cx, .bool x.exact, .bool false] 103 (0, 0)) by rw [← he]; exact HH3.out)
                  have HBW4 := hid (H.out.2.1.trans (HBC.out.mono H.out.2.1.size))
                  have HB4 := HBC
                  generalize wc = w4 at HH4 HBW4 HB4 HBC HB3 HH3 ⊢
                  have hs4 : w1.heap.size ≤ w4.heap.size := HBW4.out.size
                  have HR4 := hid (HRQ.out.below HB4.out)
                  have HRX4 := hid (RcR.ro (S0 := S0) (HRX.out) (Only.of_below HB4.out : Only (fun _ => False) wr w4) (fun _ e => e.elim) (fun _ _ e => e))
                  have k0 : w4.cell? ⟨wr.heap.size, 0, none⟩ = some (.int .i64 x.alt) := by rw [Lib.cell_of_heap HH4.out]; rfl
                  have k1 : w4.cell? ⟨wr.heap.size, 1, none⟩ = some (.int .i64 x.state) := by rw [Lib.cell_of_heap HH4.out]; rfl
                  have k2 : w4.cell? ⟨wr.heap.size, 2, none⟩ = some (.slice Ax x.stack.length cx) := by rw [Lib.cell_of_heap HH4.out]; rfl
                  have k3 : w4.cell? ⟨wr.heap.size, 3, none⟩ = some (.bool x.exact) := by rw [Lib.cell_of_heap HH4.out]; rfl
                  have k4 : w4.cell? ⟨wr.heap.size, 4, none⟩ = some (.bool false) := by rw [Lib.cell_of_heap HH4.out]; rfl
                  have hvw4 := HB1.out.trans (HBW4.out.mono HB1.out.size)
                  have hst := Cf.has_state HXB.out.2
                  have hlen := HXB.out.1.len HW.out
                  have hc63 := from_any v x (RS S0 um uk uh uq') Ax cx w4 w.heap.size V a (HV.out.below hvw4) hvw4.size HW.out HXB.out.2 (HK.out _ (Cf.stOf_mem ⟨hst.2.2.1, hst.2.2.2⟩)) (by omega) HCX.out (by omega) HRX4.out
                  rw [he] at hc63
                  have HC63 := hid hc63
                  have HLT4 := hid (HR4.out.ltS (fun b e => Nat.lt_of_lt_of_le (HS0.out b e) hvw4.size))
                  clear hte he hc63 hvw4 hst hlen
                  go_wp2_with fail
                  go_at_call 63
                  refine HC63.out.mono ?_
                  intro e w5 hP
                  obtain ⟨L, A5, c5, st, fl, rfl, hL, hb5, hfl, hL1, hL2⟩ := from_uni hP
                  have HFL := hid (And.intro hfl (And.intro hL1 hL2))
                  have HLE := hid (show L.length ≤ 100700 ∧ ∀ y ∈ L, y.stack.length ≤ 5601 by
                    cases fl with
                    | true => rw [(hL1 rfl).1]; exact ⟨Nat.zero_le _, fun _ h => by cases h⟩
                    | false =>
                      rw [(hL2 rfl).1]
                      have h1 := come_all v x HW.out HXB.out.2
                      refine ⟨by omega, fun y hy => ?_⟩
                      have h2 := Cf.come_len hy
                      have h3 := HXB.out.1.len HW.out
                      omega)
                  have HB5 := hid (HBW4.out.trans (hb5.mono hs4))
                  have HR5 := hid (HR4.out.below hb5)
                  have HL5 := hid (hL.only (S' := RS S0 um uk uh uq') (Only.refl _ _) (fun b hb e => ⟨e, HLT4.out b e⟩))
                  have HRX5 := hid (RcR.ro (S0 := S0) (HRX4.out) (Only.of_below hb5 : Only (fun _ => False) w4 w5) (fun _ e => e.elim) (fun _ _ e => e))
                  have hwr4 : wr.heap.size < w4.heap.size := heap_lt HH4.out
                  have k0 := (hb5.cell (p := ⟨wr.heap.size, 0, none⟩) hwr4).trans k0
                  have k1 := (hb5.cell (p := ⟨wr.heap.size, 1, none⟩) hwr4).trans k1
                  have k2 := (hb5.cell (p := ⟨wr.heap.size, 2, none⟩) hwr4).trans k2
                  have k3 := (hb5.cell (p := ⟨wr.heap.size, 3, none⟩) hwr4).trans k3
                  have k4 := (hb5.cell (p := ⟨wr.heap.size, 4, none⟩) hwr4).trans k4
                  have hs5 := HB5.out.size
                  clear hP hL hb5 hfl hL1 hL2
                  go_upto_if 117 with fail
                  go_cut [7] from 118 to 123 (fun o7 wx => ∃ uk', uk' = o7 ∧ Hid (RcR S0 wx w1.heap.size um uk' uh uq' met (if st = true then (Cf.putL kept x).1 else kept) l q' ∧ Below w1.heap.size w1 wx ∧ CfR wx (RS S0 um uk' uh uq') A5 L))
                  case first =>
                    cases st with
                    | false =>
                      go_wp2_with fail
                      go_meet
                      exact ⟨_, rfl, hid ⟨HR5.out, HB5.out, HL5.out⟩⟩
                    | true =>
                      obtain ⟨vk, hownk, hcvk⟩ := HR5.out.k
                      have hc62 := put_any kept ⟨x.alt, x.state, x.stack, x.exact, false⟩ _ w1.heap.size uk vk Ax cx w5 hownk hcvk (fun k e => .inr (.inl e)) (by have := H.out.2.2.klen; omega) (fun y hy => sm_of (H.out.2.2.ksz HW.out y hy) hE HW.out) (sm_of (v := v) (x := ⟨x.alt, x.state, x.stack, x.exact, false⟩) ⟨HXB.out.2, Nat.le_succ_of_le (HXB.out.1.len HW.out)⟩ hE HW.out) HCX.out HRX5.out hs5
                      have HXE := hid (show (⟨x.alt, x.state, x.stack, x.exact, false⟩ : Cf.Cfg) = x by have := HTU.out.2; rw [HTU.out.1] at this; rw [← this])
                      have HC62 := hid hc62
                      clear hownk hcvk hc62
                      go_wp2_with fail
                      go_at_call 62
                      refine HC62.out.mono ?_
                      rintro _ w6 ⟨uk', vk', rfl, hown6, hcv6, ho6, hg6⟩
                      have HR6 := hid (HR5.out.put_k hown6 hcv6 ho6 hg6)
                      have HB6 := hid (HB5.out.trans (HR5.out.stay hs5 ho6 fun k e => .inr (.inl e)))
                      have HL6 := hid (HL5.out.only (ho6.more fun _ _ e => .inr (.inl e)) (rs_gr (S0 := S0) (w := w5) (um := um) (um' := um) (uk := uk) (uk' := uk') (uh := uh) (uh' := uh) (uq := uq') (uq' := uq') (.inl rfl) (.inr hg6) (.inl rfl) (.inl rfl)))
                      rw [HXE.out] at HR6
                      clear hown6 hcv6 ho6 hg6
                      go_wp2_with fail
                      go_meet
                      exact ⟨_, rfl, hid ⟨HR6.out, HB6.out, HL6.out⟩⟩
                  case rest =>
                    obtain ⟨uk', rfl, HC⟩ := hcut
                    have HP0 := hid (show Cf.PuI v 2000 (met, q') from ⟨H.out.2.2.len.2.1, by have := H.out.2.2.len.2.2.1; rw [List.length_cons] at this; exact Nat.le_trans (Nat.le_succ _) this, H.out.2.2.sz HW.out⟩)
                    obtain ⟨kept', hkk⟩ : ∃ k, (if st = true then (Cf.putL kept x).1 else kept) = k := ⟨_, rfl⟩
                    rw [hkk] at HC
                    have HKK := hid hkk
                    clear hkk k0 k1 k2 k3 k4
                    go_upto_block 4 with fail
                    go_wp2_with fail
                    obtain ⟨wo, hwo⟩ : ∃ wo, wo = wr := ⟨_, rfl⟩
                    subst hwo
                    go_loopw [5, 6, 17] (fun o5 o6 i wx => ∃ (j : Nat) (um' uq'' : Value), um' = o5 ∧ uq'' = o6 ∧ j ≤ L.length ∧ i = .int .i64 (j : Int) ∧ Hid (RcR S0 wx w1.heap.size um' uk' uh uq'' ((L.take j).foldl (Cf.pushR v) (met, q')).1 kept' l ((L.take j).foldl (Cf.pushR v) (met, q')).2 ∧ Below w1.heap.size w1 wx ∧ CfR wx (RS S0 um' uk' uh uq'') A5 L)) (fun _ _ i _ => L.length - (intOf i).toNat)
                    case atStart => exact ⟨0, _, _, rfl, rfl, Nat.zero_le _, rfl, HC⟩
                    case round =>
                      obtain ⟨j, um', uq'', rfl, rfl, hj, rfl, HI⟩ := hrel
                      have HPU := hid (HP0.out.take (L.take j) fun y hy => HLE.out.2 y (List.mem_of_mem_take hy))
                      have htl : (L.take j).length ≤ 100700 := by have := HLE.out.1; rw [List.length_take]; omega
                      have hLL := HLE.out.1
                      by_cases hlt : j < L.length
                      · skip
                        obtain ⟨b5, of5, rfl⟩ := HI.out.2.2.some j hlt
                        have HFT := hid (take_fold (Cf.pushR v) (met, q') L j hlt)
                        have hyl := HLE.out.2 _ (List.getElem_mem hlt)
                        obtain ⟨y, hy⟩ : ∃ y, L[j] = y := ⟨_, rfl⟩
                        rw [hy] at HFT hyl
                        generalize (L.take j).foldl (Cf.pushR v) (met, q') = p at HI HFT HPU
                        have HY := hid hy
                        have hc := HI.out.2.2.lit j hlt
                        rw [hy] at hc
                        obtain ⟨B1, c1, hbl1, hcap1, hro1, r0, r1, r2, r3, r4⟩ := hc
                        have HBR := hid (HB1.out.trans (HI.out.2.1.mono HB1.out.size))
                        have hsr := HI.out.2.1.size
                        have hc37 := rhas_any y B1 c1 wr w.heap.size V a v (HV.out.below HBR.out) HBR.out.size
                        clear hy hro1 hcap1
                        cases hhy : Cf.has v y with
                        | false =>
                          rw [hhy] at hc37
                          have HC37 := hid hc37
                          have HPP := hid (show Cf.pushR v p y = p by unfold Cf.pushR; rw [if_pos hhy])
                          clear hc37 hhy
                          go_wp2_with fail
                          go_at_call 37
                          refine HC37.out.mono ?_
                          rintro _ w6 ⟨rfl, hb6⟩
                          go_wp2_with fail
                          go_roundw
                          case rel => exact ⟨j + 1, _, _, rfl, rfl, hlt, by go_num, hid ⟨by rw [HFT.out, HPP.out]; exact HI.out.1.below hb6, HI.out.2.1.trans (hb6.mono HI.out.2.1.size), HI.out.2.2.only (Only.of_below hb6) (fun _ _ e => e)⟩⟩
                          case measure => simp [intOf]; omega
                        | true =>
                          rw [hhy] at hc37
                          have HC37 := hid hc37
                          have HHY := hid hhy
                          clear hc37 hhy
                          go_wp2_with fail
                          go_at_call 37
                          refine HC37.out.mono ?_
                          rintro _ w6 ⟨rfl, hb6⟩
                          have HR6 := hid (HI.out.1.below hb6)
                          have HB6 := hid (HI.out.2.1.trans (hb6.mono HI.out.2.1.size))
                          have HL6 := hid (HI.out.2.2.only (Only.of_below hb6) (fun _ _ e => e))
                          have hs6 := HB6.out.size
                          have hc := HL6.out.lit j hlt
                          rw [HY.out] at hc
                          obtain ⟨B2, c2, hbl2, hcap2, hro2, r0, r1, r2, r3, r4⟩ := hc
                          obtain ⟨vm, hownm, hcvm⟩ := HR6.out.m
                          have hc62 := put_any p.1 y _ w1.heap.size um' vm B2 c2 w6 hownm hcvm (fun k e => .inl e) (by have := HPU.out.m; omega) (fun z hz => sm_of (HPU.out.sm z hz) hE HW.out) (sm_of ⟨HHY.out, hyl⟩ hE HW.out) hcap2 hro2 hs6
                          have HC62 := hid hc62
                          clear hb6 hro2 hcap2 hownm hcvm hc62
                          go_wp2_with fail
                          go_at_call 62
                          refine HC62.out.mono ?_
                          rintro _ w7 ⟨um2, vm2, rfl, hown7, hcv7, ho7, hg7⟩
                          have HR7 := hid (HR6.out.put_m hown7 hcv7 ho7 hg7)
                          have HB7 := hid (HB6.out.trans (HR6.out.stay hs6 ho7 fun k e => .inl e))
                          have HL7 := hid (HL6.out.only (ho7.more fun _ _ e => .inl e) (rs_gr (S0 := S0) (w := w6) (um := um') (um' := um2) (uk := uk') (uk' := uk') (uh := uh) (uh' := uh) (uq := uq'') (uq' := uq'') (.inr hg7) (.inl rfl) (.inl rfl) (.inl rfl)))
                          have hs7 := HB7.out.size
                          have HPP := hid (show (L.take (j + 1)).foldl (Cf.pushR v) (met, q') = ((Cf.putL p.1 y).1, if (Cf.putL p.1 y).2 = true then p.2 ++ [y] else p.2) by
                            rw [HFT.out]; unfold Cf.pushR; rw [if_neg (by rw [HHY.out]; decide)])
                          clear hown7 hcv7 ho7 hg7
                          cases hp : (Cf.putL p.1 y).2 with
                          | false =>
                            rw [hp, if_neg (by decide)] at HPP
                            clear hp r0 r1 r2 r3 r4
                            go_wp2_with fail
                            go_roundw
                            case rel => exact ⟨j + 1, _, _, rfl, rfl, hlt, by go_num, hid ⟨by rw [HPP.out]; exact HR7.out, HB7.out, HL7.out⟩⟩
                            case measure => simp [intOf]; omega
                          | true =>
                            rw [hp, if_pos rfl] at HPP
                            clear hp
                            have hc := HL7.out.lit j hlt
                            rw [HY.out] at hc
                            obtain ⟨B3, c3, hbl3, hcap3, hro3, r0, r1, r2, r3, r4⟩ := hc
                            obtain ⟨vq3, hownq, hcvq3⟩ := HR7.out.q
                            have HCVQ := hid hcvq3
                            have HRO3 := hid hro3
                            have HCAP3 := hid hcap3
                            have hcs := cf_one y B3 c3
                            have hpl : p.2.length + 1 ≤ 1000000000 := by have := HPU.out.q; omega
                            clear hcvq3 hro3 hcap3
                            go_wp2_with (at_builtin; refine wpList_pushQ5 w7 rfl _ _ rfl w1.heap.size uq'' p.2.length vq3 rfl hownq [.int .i64 y.alt, .int .i64 y.state, .slice B3 y.stack.length c3, .bool y.exact, .bool y.ended] w7.heap.size rfl rfl rfl hcs hpl hs7 ?_; intro uq3 w8 hown8 hg8 ho8)
                            have HR8 := hid (HR7.out.push_q HCVQ.out HCAP3.out HRO3.out ho8 hg8 hown8)
                            have HB8 := hid (HB7.out.trans (HR7.out.stay hs7 ho8 fun k e => .inr (.inr (.inr (.inl e)))))
                            have HL8 := hid (HL7.out.only (ho8.more fun _ _ e => .inr (.inr (.inr (.inl e)))) (rs_gr (S0 := S0) (w := w7) (um := um2) (um' := um2) (uk := uk') (uk' := uk') (uh := uh) (uh' := uh) (uq := uq'') (uq' := uq3) (.inl rfl) (.inl rfl) (.inl rfl) (.inr hg8)))
                            clear hown8 hg8 ho8 hownq hcs
                            go_roundw
                            case rel => exact ⟨j + 1, _, _, rfl, rfl, hlt, by go_num, hid ⟨by rw [HPP.out]; exact HR8.out, HB8.out, HL8.out⟩⟩
                            case measure => simp [intOf]; omega
                      · skip
                        have hje : j = L.length := by omega
                        subst hje
                        rw [List.take_length] at HI
                        obtain ⟨vm0', hown0', _⟩ := HI.out.1.m
                        obtain ⟨Am', cm', rfl⟩ := row_form hown0'
                        clear hown0'
                        have hn2 := H.out.2.2.len.2.2.2
                        cases fl with
                        | true =>
                          have HNX := hid (H.out.2.2.full HW.out HTU.out.2 HFL.out.1.symm (L.foldl (Cf.pushR v) (met, q')).1 (L.foldl (Cf.pushR v) (met, q')).2 kept')
                          go_wp2_with fail
                          go_roundg (2002 - n)
                          case measure => omega
                          case rel => exact ⟨n + 1, _, _, _, _, true, _, _, _, rfl, rfl, rfl, rfl, by omega, hid ⟨HI.out.1, HI.out.2.1, HNX.out⟩⟩
                        | false =>
                          have HNX := H.out.2.2.more HW.out HTU.out.2 HFL.out.1.symm
                          obtain ⟨e1, e2⟩ := HFL.out.2.2 rfl
                          rw [← e1, ← e2, HKK.out] at HNX
                          have HNX := hid HNX
                          clear e1 e2
                          generalize L.foldl (Cf.pushR v) (met, q') = p3 at HI HNX ⊢
                          obtain ⟨ov3, hov3⟩ : ∃ ov, decide (2000 < p3.1.length) = ov := ⟨_, rfl⟩
                          rw [hov3] at HNX
                          have f1 : decide ((2000 : Int) < (p3.1.length : Int)) = ov3 := by rw [← hov3]; exact decide_eq_decide.2 (by omega)
                          go_wp2_with fail
                          go_roundg (2002 - n)
                          case measure => omega
                          case rel => exact ⟨n + 1, _, _, _, _, ov3, _, _, _, rfl, rfl, rfl, rfl, by omega, hid ⟨HI.out.1, HI.out.2.1, HNX.out⟩⟩
    case rest =>
      obtain ⟨n, c', met, q, kept, over, um, uq, uk, rfl, rfl, rfl, rfl, H⟩ := hcut
      have hbwc := HB1.out.trans (H.out.2.1.mono HB1.out.size)
      have HBC := hid hbwc
      have hq1 := (H.out.2.1.block w.heap.size (by omega)).trans HH1.out
      have HQ1 := hid hq1
      have hwc : w.heap.size + 1 ≤ wc.heap.size := by have := H.out.2.1.size; omega
      clear hbwc hq1
      cases over with
      | true =>
        obtain ⟨vh, hownh, hcvh⟩ := H.out.1.h
        obtain ⟨Ah, ch, rfl⟩ := row_form hownh
        have hcr : CfR wc (fun _ => False) Ah l := ⟨vh, RO.of_reads (Reads.of_own hownh) (Nat.le_refl _) (fun _ e => e.elim), hcvh.only (Only.refl _ _) (fun _ _ e => e.elim)⟩
        have hc64 := ralts_any l (fun _ => False) Ah ch wc hcr (by omega) (fun x hx => by have := sm_of (v := v) (sz_of (HHS.out x hx) (HL.out x hx) HW.out) hE HW.out; exact this.alt)
        have HC64 := hid hc64
        clear hc64 hcr hownh hcvh
        go_wp2_with fail
        go_at_call 64
        refine HC64.out.mono ?_
        rintro _ w2 ⟨va, rfl, hown2, hb2⟩
        obtain ⟨AA, ca, rfl⟩ := row_form hown2
        have hq2 := (hb2.block w.heap.size (by omega)).trans HQ1.out
        have z2 : ∀ i, w2.frozen? ⟨w.heap.size, i, none⟩ = false := fun i => Lib.frozen_of_heap hq2 i
        obtain ⟨r0, r1, r2⟩ := cells3 hq2
        obtain ⟨hq3, ho3⟩ := set3 hq2 (.slice none 0 0) (.slice AA (altsOf l).length ca) (.bool true)
        obtain ⟨w3, hw3⟩ : ∃ w3, Hid (((w2.setCell ⟨w.heap.size, 0, none⟩ (.slice none 0 0)).setCell ⟨w.heap.size, 1, none⟩ (.slice AA (altsOf l).length ca)).setCell ⟨w.heap.size, 2, none⟩ (.bool true) = w3) := ⟨_, hid rfl⟩
        rw [hw3.out] at hq3 ho3
        have HQ3 := hid hq3
        have HO3 := hid ho3
        have HB2 := hid hb2
        have HOW2 := hid hown2
        clear hq2 hq3 ho3 hb2 hown2
        go_wp2_with fail
        rw [hw3.out]
        refine bodyPost_ret (results_cell_row rfl _ _ w.heap.size 47 _ _ _ rfl HQ3.out Tryz.underlying47 rfl infoRSet) rfl ?_
        have hown3 := ownsRow_only HOW2.out HO3.out (fun k hk e => by have := (HOW2.out.lt k hk).1; omega)
        have hb23 := HBC.out.trans (HB2.out.mono HBC.out.size)
        have hset := H.out.2.2.1.set_over HHS.out (altsOf_alts l)
        exact ⟨⟨[], altsOf l, true⟩, none, 0, AA, ca, rfl, hset.1, hset.2, ⟨[], ⟨rfl, fun h => absurd h (Nat.lt_irrefl 0)⟩, rfl⟩, RO.of_own0 hown3 (fun b e => Nat.lt_of_lt_of_le (HS0.out b e) HBC.out.size), hb23.trans (HO3.out.below' (fun k e => by omega) hb23.size)⟩
      | false =>
        have hq0 : q = [] := by
          rcases H.out.2.2.2 with e | e
          · cases e
          · exact e
        subst hq0
        obtain ⟨vk, hownk, hcvk⟩ := H.out.1.k
        obtain ⟨Ak, ck, rfl⟩ := row_form hownk
        have HKR := hid (show CfR wc S0 Ak kept from ⟨vk, RO.of_own0 hownk (fun b e => Nat.lt_of_lt_of_le (HS0.out b e) HB1.out.size), hcvk.only (Only.refl _ _) (fun _ _ e => .inr (.inr (.inr (.inr e))))⟩)
        have HRI := hid H.out.2.2.1
        have hkl := HRI.out.klen
        have HKS := hid (fun x hx => sm_of (HRI.out.ksz HW.out x hx) hE HW.out)
        have hvc := (HV.out.below HBC.out).blk
        have v7 : wc.cell? ⟨V, 7, none⟩ = some (.slice a.XA v.d.ends.length a.xc) := by rw [Lib.cell_of_heap hvc]; rfl
        clear hownk hcvk hvc
        go_upto_block 6 with fail
        clear v7
        obtain ⟨we, hwe⟩ : ∃ we, we = wc := ⟨_, rfl⟩
        subst hwe
        go_cut [20, 21] from 175 to 206 (fun o _ wx => o = .int .i64 (Cf.sureOf v kept) ∧ Hid (Below we.heap.size we wx))
        case first =>
          go_wp2_with fail
          go_loopw [20, 21] (fun s i wr => ∃ (j : Nat) (z : Int), j ≤ kept.length ∧ s = .int .i64 z ∧ i = .int .i64 (j : Int) ∧ Hid (z = (kept.take j).foldl Cf.sureStep v.d.ends.length ∧ Below we.heap.size we wr)) (fun _ i _ => kept.length - (intOf i).toNat)
          case atStart => exact ⟨0, _, Nat.zero_le _, rfl, rfl, hid ⟨rfl, Below.refl _ _⟩⟩
          case round =>
            obtain ⟨j, z, hj, rfl, rfl, HI⟩ := hrel
            by_cases hlt : j < kept.length
            · obtain ⟨b, off, B, cb, hA, hbl, hcap, hfar⟩ := HKR.out.farS j hlt
              obtain ⟨hro, r0, r1, r2, r3, r4⟩ := hfar wr HI.out.2
              have HFT := hid (take_fold Cf.sureStep (v.d.ends.length : Int) kept j hlt)
              rw [← HI.out.1] at HFT
              generalize kept[j] = x at r0 r1 r2 r3 r4 HFT
              clear hro hfar hcap
              rw [hA]
              clear hA
              rcases Bool.eq_false_or_eq_true x.ended with he | he
              · rw [he] at r4
                rcases Bool.eq_false_or_eq_true x.exact with hx | hx
                · rw [hx] at r3
                  by_cases hz : x.alt < z
                  · have g1 : decide (x.alt < z) = true := decide_eq_true hz
                    have HS := hid (show Cf.sureStep z x = x.alt by unfold Cf.sureStep; rw [if_pos ⟨he, hx, hz⟩])
                    clear he hx hz
                    go_wp2_with fail
                    go_roundw
                    case rel => exact ⟨j + 1, _, hlt, rfl, by go_num, hid ⟨by rw [HFT.out, HS.out], HI.out.2⟩⟩
                    case measure => simp [intOf]; omega
                  · have g1 : decide (x.alt < z) = false := decide_eq_false hz
                    have HS := hid (show Cf.sureStep z x = z by unfold Cf.sureStep; rw [if_neg (fun h => hz h.2.2)])
                    clear he hx hz
                    go_wp2_with fail
                    go_roundw
                    case rel => exact ⟨j + 1, _, hlt, rfl, by go_num, hid ⟨by rw [HFT.out, HS.out], HI.out.2⟩⟩
                    case measure => simp [intOf]; omega
                · rw [hx] at r3
                  have HS := hid (show Cf.sureStep z x = z by unfold Cf.sureStep; rw [if_neg (fun h => by rw [hx] at h; cases h.2.1)])
                  clear he hx
                  go_wp2_with fail
                  go_roundw
                  case rel => exact ⟨j + 1, _, hlt, rfl, by go_num, hid ⟨by rw [HFT.out, HS.out], HI.out.2⟩⟩
                  case measure => simp [intOf]; omega
              · rw [he] at r4
                have HS := hid (show Cf.sureStep z x = z by unfold Cf.sureStep; rw [if_neg (fun h => by rw [he] at h; cases h.1)])
                clear he
                go_wp2_with fail
                go_roundw
                case rel => exact ⟨j + 1, _, hlt, rfl, by go_num, hid ⟨by rw [HFT.out, HS.out], HI.out.2⟩⟩
                case measure => simp [intOf]; omega
            · have hje : j = kept.length := by omega
              subst hje
              rw [List.take_length, ← Cf.sure_steps] at HI
              have HZ := hid HI.out.1
              go_wp2_with fail
              go_meet
              exact ⟨by rw [HZ.out], hid HI.out.2⟩
        case rest =>
          obtain ⟨rfl, HB6⟩ := hcut
          have HKR6 := hid (HKR.out.only (Only.of_below HB6.out) (fun _ _ e => e))
          have HBC6 := hid (HBC.out.trans (HB6.out.mono HBC.out.size))
          have hq6 := (HB6.out.block w.heap.size (by omega)).trans HQ1.out
          have HQ6 := hid hq6
          have hw6s : w.heap.size + 1 ≤ wc.heap.size := by have := HB6.out.size; omega
          obtain ⟨w6, hw6⟩ : ∃ w6, w6 = wc := ⟨_, rfl⟩
          subst hw6
          obtain ⟨sure, hsu⟩ : ∃ s, Cf.sureOf v kept = s := ⟨_, rfl⟩
          have HSU := hid hsu
          rw [hsu]
          have HSR := hid (And.intro (HRI.out.tl rfl).2.srt (HRI.out.tl rfl).2.dst)
          clear hsu hq6
          go_upto_block 8 with fail
          go_cut [22, 23, 24] from 207 to 248 (fun o _ _ wx => ∃ u, u = o ∧ Hid (FI w6 S0 u (Cf.outR sure kept) wx))
          case first =>
            go_wp2_with fail
            go_loopw [22, 23] (fun o i wr => ∃ (j : Nat) (u : Value), u = o ∧ j ≤ kept.length ∧ i = .int .i64 (j : Int) ∧ Hid (FI w6 S0 u (Cf.outR sure (kept.take j)) wr)) (fun _ i _ => kept.length - (intOf i).toNat)
            case atStart => exact ⟨0, _, rfl, Nat.zero_le _, rfl, hid (FI.start w6 _)⟩
            case round =>
              obtain ⟨j, u, rfl, hj, rfl, HI⟩ := hrel
              have HBR := hid HI.out.more
              by_cases hlt : j < kept.length
              · obtain ⟨b, off, B, cb, hA, hbl, hcap, hfar⟩ := HKR6.out.farS j hlt
                obtain ⟨hro, r0, r1, r2, r3, r4⟩ := hfar wr HBR.out
                have HFT := hid (Cf.outR_snoc sure kept j hlt)
                have hsx := HKS.out kept[j] (List.getElem_mem hlt)
                have HCN := hid (Cf.outR_canon (sure := sure) HSR.out.1 HSR.out.2 j (Nat.le_of_lt hlt))
                have hol := Nat.le_trans (Cf.outR_len sure (kept.take j)) (List.length_take_le j kept)
                have HMT := hid (fun y (hy : y ∈ kept.take j) => HKS.out y (List.mem_of_mem_take hy))
                generalize kept[j] = x at r0 r1 r2 r3 r4 HFT hro hcap hsx hfar
                generalize kept.take j = kj at HI HFT HCN hol HMT
                have hSm : ∀ y ∈ Cf.outR sure kj, Sm y := fun y hy => by
                  obtain ⟨z, hz, e1, e2, e3, _⟩ := HCN.out.of y hy
                  have := HMT.out z (List.mem_filter.1 hz).1
                  exact ⟨by rw [e1]; exact this.alt, by rw [e2]; exact this.state, by rw [e3]; exact this.len⟩
                have HSM := hid hSm
                have HFAR := hid hfar
                have HRO := hid hro
                have HCAP := hid hcap
                have HSX := hid hsx
                generalize Cf.outR sure kj = acc at HI HFT HSM hol
                have hA2 := hA
                rw [hA]
                have HA := hid hA2
                clear hSm hfar hro hcap hsx hA hA2
                by_cases hs : sure < x.alt
                · have g1 : decide (sure < x.alt) = true := decide_eq_true hs
                  have HS := hid (Cf.outStep_skip (acc := acc) hs)
                  clear hs
                  go_wp2_with fail
                  go_roundw
                  case rel => exact ⟨j + 1, _, rfl, hlt, by go_num, hid (by rw [HFT.out, HS.out]; exact HI.out)⟩
                  case measure => simp [intOf]; omega
                · have g1 : decide (sure < x.alt) = false := decide_eq_false hs
                  go_upto_region 45 with fail
                  rcases List.eq_nil_or_concat acc with rfl | ⟨acc', y, rfl⟩
                  · skip
                    have HS := hid (Cf.outStep_nil (s := sure) (x := x) hs)
                    obtain ⟨vs0, hown0, _, _⟩ := HI.out
                    obtain ⟨Au, cu, hu0⟩ := row_form hown0
                    have hu0 : u = .slice Au 0 cu := hu0
                    subst hu0
                    clear hs hown0
                    go_upto_region 46 with fail
                    go_quiet (fail)
                    go_upto_region 48 with fail
                    have HB3 := hid (show Below wr.heap.size wr (wr.drewN nq) from below_drewN (Below.refl _ _) _)
                    generalize wr.drewN nq = w3 at HB3 ⊢
                    clear r0 r1 r2 r3 r4
                    have HI3 := hid (HI.out.stay (wr := wr) (w2 := w3) HB3.out)
                    have HBW3 := hid HI3.out.more
                    obtain ⟨hro, r0, r1, r2, r3, r4⟩ := HFAR.out w3 HBW3.out
                    obtain ⟨vs, hown6, hcv6, hbw6⟩ := HI3.out
                    have HRO3 := hid (hro.weak (S' := fun b => (S0 b ∧ b < w6.heap.size) ∨ (Value.slice Au 0 cu).ownBlock = some b) fun k _ e => by
                      rcases e with e | e
                      · exact .inl e.1
                      · exact .inr (by have := (hown6.lt k e).1; omega))
                    have HOW6 := hid hown6
                    have HCV6 := hid hcv6
                    have HBW6 := hid hbw6
                    have hsz3 := HBW3.out.size
                    have hcs := cf_one x B cb
                    clear hro hcv6 hbw6
                    generalize Value.slice Au 0 cu = u7 at hown6 HRO3 HOW6 HCV6 ⊢
                    go_wp2_with (at_builtin; refine wpList_push4 w3 rfl _ _ 45 rfl w6.heap.size 103 iC _ 5 48 Tryz.underlying45 hiC hzC hsC hyC rfl (by omega) u7 0 vs rfl hown6 [.int .i64 x.alt, .int .i64 x.state, .slice B x.stack.length cb, .bool x.exact, .bool x.ended] 1 w3.heap.size rfl rfl rfl hcs Nat.zero_lt_one (by simp only [maxLen]; omega) (by omega) hsz3 ?_; intro g7 cg w7 hown7 hg7 ho7)
                    go_roundw
                    case rel =>
                      refine ⟨j + 1, _, rfl, hlt, by go_num, hid ?_⟩
                      rw [HFT.out, HS.out]
                      exact FI.push (S := S0) (y := x) HOW6.out HCV6.out HBW6.out HCAP.out HRO3.out ho7 (hg7.imp id Nat.le_of_lt) hown7
                    case measure => simp [intOf]; omega
                  · skip
                    rw [List.concat_eq_append] at HI HFT HSM hol
                    obtain ⟨g, c9, Ay, cy, rfl, hgl, hzf, hry, y0, y1, y2, y3, y4, _⟩ := HI.out.last
                    have hsy := HSM.out y (by simp)
                    rw [List.length_append, List.length_singleton] at hol
                    have hco := fun d os => Calls.regrown_of (orderR_any y x Ay B cy cb (grow (redrawn wr d) os) hsy HSX.out (hry.next (below_regrown wr d os)) (HRO.out.reads.next (below_regrown wr d os)))
                    have HZ := hid (ordR_sg y x)
                    generalize ordR y x = z at hco HZ
                    have HSS := hid hs
                    obtain ⟨na, hna⟩ : ∃ n, acc'.length = n := ⟨_, rfl⟩
                    rw [hna] at y0 y1 y2 y3 y4 hol HI ⊢
                    have HNA := hid hna
                    have q0 := fun d os => cell_regrown r0 d os
                    have q1 := fun d os => cell_regrown r1 d os
                    have q2 := fun d os => cell_regrown r2 d os
                    have q3 := fun d os => cell_regrown r3 d os
                    have q4 := fun d os => cell_regrown r4 d os
                    have p0 := fun d os => cell_regrown y0 d os
                    have p1 := fun d os => cell_regrown y1 d os
                    have p2 := fun d os => cell_regrown y2 d os
                    have p3 := fun d os => cell_regrown y3 d os
                    have p4 := fun d os => cell_regrown y4 d os
                    have hwn : IntKind.i64.wrap ((na : Int) + 1 - 1) = (na : Int) := by rw [Int.add_sub_cancel]; exact w64 (by omega) (by omega)
                    have hwn2 : IntKind.i64.wrap (na : Int) = (na : Int) := w64 (by omega) (by omega)
                    have gn : decide ((0 : Int) < (na : Int) + 1) = true := decide_eq_true (by omega)
                    have gi0 : (0 : Int) ≤ (na : Int) := by omega
                    have gi1 : (na : Int) < (na : Int) + 1 := by omega
                    clear hs hna r0 r1 r2 r3 r4 y0 y1 y2 y3 y4 hry hsy hzf
                    go_upto_region 46 with fail
                    refine wp_region_quiet_below (by kernel_rfl) (by kernel_rfl) ?_
                    repeat (quiet_step (exact hco _ _))
                    clear hco q0 q1 q2 q3 q4 p0 p1 p2 p3 p4
                    refine wpQuiet_nil ?_
                    rintro _ ⟨⟨dq, osq⟩, rfl⟩
                    have hb3 := below_regrown wr dq osq
                    generalize grow (redrawn wr dq) osq = w3 at hb3 ⊢
                    have HB3 := hid hb3
                    clear hb3
                    by_cases hz : z = 0
                    · have HO := hid (HZ.out.2.1 hz)
                      subst hz
                      have HS := hid (Cf.outStep_one (acc := acc') HSS.out HO.out)
                      obtain ⟨g3, c3, A3, cy3, hu3, hgl3, hzf, _, _, _, _, y3, _, hset⟩ := (HI.out.stay (wr := wr) (w2 := w3) HB3.out).last
                      injection hu3 with hu3 _ _
                      injection hu3 with hu3
                      injection hu3 with hu3 _ _
                      subst hu3
                      rw [HNA.out] at y3 hset
                      have HST := hid hset
                      clear hset
                      go_wp2_with fail
                      go_roundw
                      case rel =>
                        refine ⟨j + 1, _, rfl, hlt, by go_num, hid ?_⟩
                        rw [HFT.out, HS.out]
                        exact HST.out
                      case measure => simp [intOf]; omega
                    · have gz : (z == 0) = false := by rw [beq_eq_false_iff_ne]; exact hz
                      have HS := hid (Cf.outStep_new (acc := acc') HSS.out (fun e => hz (HZ.out.2.2 e)))
                      clear hz
                      go_upto_region 48 with fail
                      have HLA := hid (show (acc' ++ [y]).length = na + 1 by rw [List.length_append, HNA.out]; rfl)
                      have HI3 := hid (HI.out.stay (wr := wr) (w2 := w3) HB3.out)
                      have HBW3 := hid HI3.out.more
                      obtain ⟨hro, r0, r1, r2, r3, r4⟩ := HFAR.out w3 HBW3.out
                      obtain ⟨vs, hown6, hcv6, hbw6⟩ := HI3.out
                      rw [HLA.out] at hown6
                      have HRO3 := hid (hro.weak (S' := fun b => (S0 b ∧ b < w6.heap.size) ∨ (Value.slice (some ⟨g, 0, none⟩) (na + 1) c9).ownBlock = some b) fun k _ e => by
                        rcases e with e | e
                        · exact .inl e.1
                        · exact .inr (by have := (hown6.lt k e).1; omega))
                      have HOW6 := hid hown6
                      have HCV6 := hid hcv6
                      have HBW6 := hid hbw6
                      have hsz3 := HBW3.out.size
                      have hcs := cf_one x B cb
                      clear hro hcv6 hbw6
                      generalize Value.slice (some ⟨g, 0, none⟩) (na + 1) c9 = u7 at hown6 HRO3 HOW6 HCV6 ⊢
                      go_wp2_with (at_builtin; refine wpList_push4 w3 rfl _ _ 45 rfl w6.heap.size 103 iC _ 5 48 Tryz.underlying45 hiC hzC hsC hyC rfl (by omega) u7 (na + 1) vs rfl hown6 [.int .i64 x.alt, .int .i64 x.state, .slice B x.stack.length cb, .bool x.exact, .bool x.ended] 1 w3.heap.size rfl rfl rfl hcs Nat.zero_lt_one (by simp only [maxLen]; omega) (by omega) hsz3 ?_; intro g7 cg w7 hown7 hg7 ho7)
                      go_roundw
                      case rel =>
                        refine ⟨j + 1, _, rfl, hlt, by go_num, hid ?_⟩
                        rw [HFT.out, HS.out]
                        have hpu := FI.push (S := S0) (y := x) (L := acc' ++ [y]) (wr := w3) (cg := cg) (g := g7) (by rw [HLA.out]; exact HOW6.out) HCV6.out HBW6.out HCAP.out HRO3.out ho7 (hg7.imp id Nat.le_of_lt) (by rw [HLA.out]; exact hown7)
                        rw [HLA.out] at hpu
                        exact hpu
                      case measure => simp [intOf]; omega
              · have hje : j = kept.length := by omega
                subst hje
                rw [List.take_length] at HI
                go_wp2_with fail
                go_meet
                exact ⟨_, rfl, HI⟩
          case rest =>
            obtain ⟨u, rfl, HF⟩ := hcut
            obtain ⟨L, hL⟩ : ∃ L, Cf.outR sure kept = L := ⟨_, rfl⟩
            have hll := Cf.outR_len sure kept
            have HCN := hid (Cf.outR_canon (sure := sure) HSR.out.1 HSR.out.2 kept.length (Nat.le_refl _))
            rw [hL] at HF hll
            rw [List.take_length, hL] at HCN
            obtain ⟨vs, hown, hcv, hb9⟩ := HF.out
            obtain ⟨AO, co, rfl⟩ := row_form hown
            have hcs0 : CfR wc S0 AO L := ⟨vs, RO.of_own0 hown (fun b e => Nat.lt_of_lt_of_le (HS0.out b e) HBC6.out.size), hcv.only (Only.refl _ _) (fun b _ e => .inl ⟨e, Nat.lt_of_lt_of_le (HS0.out b e) HBC6.out.size⟩)⟩
            have hcr : CfR wc (fun _ => False) AO L := hcs0.only (Only.refl _ _) (fun _ _ e => e.elim)
            have hc64 := ralts_any L (fun _ => False) AO co wc hcr (by omega) (fun x hx => by
              obtain ⟨z, hz, e1, _⟩ := HCN.out.of x hx
              rw [e1]
              exact (HKS.out z (List.mem_filter.1 hz).1).alt)
            have HC64 := hid hc64
            have HCR := hid hcs0
            clear hcs0
            have HB9 := hid hb9
            have HLL := hid hL
            clear hc64 hcr hown hcv hb9 hL
            go_wp2_with fail
            go_at_call 64
            refine HC64.out.mono ?_
            rintro _ w2 ⟨va, rfl, hown2, hb2⟩
            obtain ⟨AA, ca, rfl⟩ := row_form hown2
            have hsz9 := HB9.out.size
            have hq2 := (hb2.block w.heap.size (by omega)).trans ((HB9.out.block w.heap.size (by omega)).trans HQ6.out)
            have z2 : ∀ i, w2.frozen? ⟨w.heap.size, i, none⟩ = false := fun i => Lib.frozen_of_heap hq2 i
            obtain ⟨r0, r1, r2⟩ := cells3 hq2
            have hno := NoInt.of hq2
            obtain ⟨hq3, ho3⟩ := set3 hq2 (.slice AO L.length co) (.slice AA (altsOf L).length ca) (.bool false)
            obtain ⟨w3, hw3⟩ : ∃ w3, Hid (((w2.setCell ⟨w.heap.size, 0, none⟩ (.slice AO L.length co)).setCell ⟨w.heap.size, 1, none⟩ (.slice AA (altsOf L).length ca)).setCell ⟨w.heap.size, 2, none⟩ (.bool false) = w3) := ⟨_, hid rfl⟩
            rw [hw3.out] at hq3 ho3
            have HQ3 := hid hq3
            have HO3 := hid ho3
            have HB2 := hid hb2
            have HOW2 := hid hown2
            have HNO := hid hno
            clear hq2 hq3 ho3 hb2 hown2 hno
            go_wp2_with fail
            rw [hw3.out]
            refine bodyPost_ret (results_cell_row rfl _ _ w.heap.size 47 _ _ _ rfl HQ3.out Tryz.underlying47 rfl infoRSet) rfl ?_
            have hown3 := ownsRow_only HOW2.out HO3.out (fun k hk e => by have := (HOW2.out.lt k hk).1; omega)
            have hb29 := HBC6.out.trans (HB9.out.mono HBC6.out.size)
            have hb23 := hb29.trans (HB2.out.mono hb29.size)
            have hset := HRI.out.set_end (A := altsOf L) (by rw [HSU.out, HLL.out]; exact altsOf_alts L)
            rw [HSU.out, HLL.out] at hset
            exact ⟨⟨L, altsOf L, false⟩, AO, co, AA, ca, rfl, hset.1, hset.2, ((HCR.out.only (Only.of_below HB2.out) (fun _ _ e => e)).not_or HNO.out).only (HO3.out.more fun _ _ e => .inl e) (fun _ _ e => .inr e), RO.of_own0 hown3 (fun b e => Nat.lt_of_lt_of_le (HS0.out b e) hb29.size), hb23.trans (HO3.out.below' (fun k e => by omega) hb23.size)⟩
end Go.Proofs.YtnpcjbdolmmaeaaGreatDoor
