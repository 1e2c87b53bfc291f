/-
  Looks: CfCk, CfCs (texts joined).
-/
import Derived.Deep.RegionHeld3
import Derived.Test.YtnpcjbdolmmaeaaGreatDoorL01
import Derived.Test.YtnpcjbdolmmaeaaGreatDoorL10
import Derived.Test.YtnpcjbdolmmaeaaGreatDoorL13
namespace Go.Proofs.YtnpcjbdolmmaeaaGreatDoor
open Go.RowKit
set_option maxRecDepth 100000
set_option maxHeartbeats 2000000 in
theorem cloneC_any (A : Option Addr) (n c B : Nat) (xs : List Value) (w : World) (hn : n ≤ 1000000000) (hr : Reads w B 5 A n xs) (h1 : ∀ u ∈ xs, u.oneCell' = true) :
    Calls Tryz.prog 55 #[.slice A n c] w (CloneP 89 5 n xs w) := by
  obtain ⟨i0, hi, hz0, hz1, hz2⟩ := info_of infoCfg
  have q22 : ∀ (w : World) (a : Option Addr) (n c n' c' : Nat), (binOp .eql 41 (.slice a n c) (.slice none n' c')).run Tryz.prog w = .ok (.bool a.isNone) w := fun w a n c n' c' => Lib.run_eql_slice_nil w _ _ a n c n' c' Tryz.underlying41
  cases A with
  | none =>
    have hn0 : n = 0 := by
      rcases Nat.eq_zero_or_pos n with e | e
      · exact e
      · obtain ⟨b, off, e, _⟩ := hr.2 e; cases e
    subst hn0
    have hx : xs = [] := List.length_eq_zero_iff.1 (by rw [hr.1, Nat.zero_mul])
    subst hx
    clear hr h1
    go_enter Tryz.func55, Tryz.ntmps55
    go_wp2
    go_ret
    exact ⟨none, 0, rfl, World.ownsRow_nil _ _ _ _, Below.refl _ _⟩
  | some a =>
    have hcell := reads_some hr (by decide)
    have HLn := hid hr.1
    clear hr
    have HC := hid hcell
    clear hcell
    go_enter Tryz.func55, Tryz.ntmps55
    go_wp2_with (at_builtin; refine wpList_append_own _ rfl _ _ 41 rfl w.heap.size 89 i0 _ 5 48 Tryz.underlying41 hi hz0 hz1 hz2 rfl (by decide) _ _ _ rfl (World.ownsRow_made w #[] 0 (Nat.le_refl _) (Nat.zero_le _) rfl) a n c xs rfl ?qc1 ?qc2 ?qc3 ?qc4 ?qc5 ?qc6 ?_)
    case qc1 => exact HLn.out
    case qc2 =>
      intro j u hj
      exact Lib.cell?_alloc_some _ (HC.out j u hj)
    case qc3 => exact h1
    case qc4 => unfold maxLen; omega
    case qc5 => omega
    case qc6 => simp
    intro v' w1 hown hgrow hnil
    go_wp2
    go_ret
    have hown : w1.ownsRow w.heap.size 89 5 v' n xs := by simpa using hown
    obtain ⟨A', c', rfl⟩ := row_form hown
    exact ⟨A', c', rfl, hown, ((Below.refl _ w).alloc (Nat.le_refl _) _).grown hgrow (by simp) (by intro k hk; simp [Value.ownBlock] at hk; omega)⟩
theorem clipC_any (A : Option Addr) (n c : Nat) (w : World) (hc : n ≤ c) : Calls Tryz.prog 61 #[.slice A n c] w fun e w' => e = .returned (.slice A n n) ∧ w' = w := by
  go_enter Tryz.func61, Tryz.ntmps61
  go_wp2
  go_ret
  exact ⟨rfl, rfl⟩
set_option maxHeartbeats 1600000 in
theorem deleteNone_any {α : Type} (g : Nat) (cb : Array Value) (q : α → Bool) (eg : ∀ args w, (callFunc g args).run Tryz.prog w = .ok (.enter g args) w)
   (A : Option Addr) (c B : Nat) (l : List α) (vs : List Value) (w : World) (hm : l.length ≤ 1000000000) (hB : B ≤ w.heap.size) (hr : Reads w B 5 A l.length vs) (hp : PredC5 g cb q l vs w) (hn : ∀ x ∈ l, q x = false) :
   Calls Tryz.prog 54 #[.slice A l.length c, .func (.func g) #[] cb] w fun e w' => e = .returned (.slice A l.length c) ∧ Below w.heap.size w w' := by
  have HP := hid hp
  have HI := hid (idxI_miss q l fun j hj => hn _ (List.getElem_mem hj))
  clear hp
  go_enter Tryz.func54, Tryz.ntmps54
  go_wp2_with fail
  go_at_call 66
  refine (indexCf_any g cb q eg A c B l vs w hm hB hr HP.out).mono ?_
  rintro _ w2 ⟨rfl, hb⟩
  rw [HI.out]
  go_wp2
  go_ret
  exact ⟨rfl, hb⟩
end Go.Proofs.YtnpcjbdolmmaeaaGreatDoor
namespace Go.Proofs.YtnpcjbdolmmaeaaGreatDoor
open Go.RowKit Go.Maps
open Go.Sort (grow)
set_option maxRecDepth 100000
theorem okc_of {v : Cf.Vw} (W : Cf.OkW v) {x : Cf.Cfg} (h : Cf.Bd v x) : OkC x :=
  ⟨h.alt, h.state, fun n hn => Cf.state64 W (h.stk n hn), by have := h.len W; omega⟩
theorem clsz_of {v : Cf.Vw} (W : Cf.OkW v) {c : Cf.Cl} {m k : Nat} (h : Cf.ClB v c m k) (hm : m ≤ 100000000) (hk : k ≤ 100000000) : ClSz c :=
  ⟨Nat.le_trans h.m hm, Nat.le_trans h.k hk, fun x hx => okc_of W (h.wait x hx), fun x hx => okc_of W (h.kept x hx)⟩
theorem edok_of {v : Cf.Vw} (W : Cf.OkW v) {s : Drv.NSt} (hs : s ∈ v.n.states) {e : Drv.Ed} (he : e ∈ s.edges) : EdOk v e := ⟨Cf.state64 W (W.to s hs e he), W.what s hs e he⟩
theorem ends1_decs (v : Cf.Vw) (x : Cf.Cfg) : Cf.ends1 v x = (decide (x.stack = []) && decide (x.state = v.d.ends.getD x.alt.toNat 0)) := rfl
theorem drop_last_map {α β : Type} (f : α → β) (l : List α) : l.dropLast.map f = (l.map f).take (l.length - 1) := by
  rw [List.dropLast_eq_take, List.map_take]
theorem RO.cut {w : World} {S : Nat → Prop} {A : Option Addr} {n m : Nat} {xs : List Value} (h : RO w S 1 A n xs) (hm : m ≤ n) : RO w S 1 A m (xs.take m) := by
  refine ⟨by rw [List.length_take, h.1]; omega, fun hp => ?_⟩
  obtain ⟨b, off, e, h1, h2, h3⟩ := h.2 (by omega)
  exact ⟨b, off, e, h1, h2, fun j u hj => h3 j u (by rw [List.getElem?_take] at hj; split at hj; exact hj; cases hj)⟩
theorem edge_at {w : World} {B : Nat} {A : Option Addr} {l : List Drv.Ed} (h : Reads w B 3 A l.length (flat encEd l)) {j : Nat} (hj : j < l.length) : ∃ b off, A = some ⟨b, off, none⟩ ∧ b < B ∧
    w.cell? ⟨b, off + j * 3, none⟩ = some (.int .u8 l[j].kind) ∧ w.cell? ⟨b, off + j * 3 + 1, none⟩ = some (.int .i64 l[j].what) ∧ w.cell? ⟨b, off + j * 3 + 2, none⟩ = some (.int .i64 l[j].to) := by
  obtain ⟨b, off, hA, hb, hc⟩ := h.2 (by omega)
  refine ⟨b, off, hA, hb, ?_, ?_, ?_⟩
  · have := hc (j * 3) _ (by have := flat_get encEd 3 (fun _ => rfl) l j hj 0 (by omega); rw [Nat.add_zero] at this; exact this); exact this
  · have := hc (j * 3 + 1) _ (flat_get encEd 3 (fun _ => rfl) l j hj 1 (by omega)); rwa [← Nat.add_assoc] at this
  · have := hc (j * 3 + 2) _ (flat_get encEd 3 (fun _ => rfl) l j hj 2 (by omega)); rwa [← Nat.add_assoc] at this
theorem fold_take {α β : Type} (f : β → α → β) (l : List α) (b : β) (j : Nat) (h : j < l.length) : (l.take (j + 1)).foldl f b = f ((l.take j).foldl f b) l[j] := by
  rw [List.take_succ_eq_append_getElem h, List.foldl_append]; rfl
set_option maxHeartbeats 8000000 in
theorem close_any (f : ClF) (c : Cf.Cl) (x : Cf.Cfg) (m k : Nat) (A : Option Addr) (cx : Nat) (w : World) (h : ClAt w f c) (W : Cf.OkW f.v) (hb : Cf.ClB f.v c m k) (hm : m ≤ 90000000) (hk : k ≤ 90000000) (hx : Cf.Bd f.v x) (hh : Cf.has f.v x = true) (hcx : x.stack.length ≤ cx) (hr : RO w (ClS w f) 1 A x.stack.length (x.stack.map (Value.int .i64))) :
    Calls Tryz.prog 52 #[.pointer (some ⟨f.C, 0, none⟩), .agg #[.int .i64 x.alt, .int .i64 x.state, .slice A x.stack.length cx, .bool x.exact, .bool x.ended]] w (MtP f (Cf.close1 f.v c x) w) := by
  obtain ⟨xa, xs, xst, xe, xn⟩ := x
  have hst := Cf.has_state hh
  obtain ⟨i, rfl⟩ : ∃ i : Nat, xs = (i : Int) := ⟨xs.toNat, by have := hst.2.2.1; simp only at this; omega⟩
  dsimp only at hr hcx ⊢
  have HCX := hid hcx
  clear hcx
  obtain ⟨cl, hcl⟩ : ∃ cl, Cf.close1 f.v c ⟨xa, (i : Int), xst, xe, xn⟩ = cl := ⟨_, rfl⟩
  rw [hcl]
  have HCLS := hid hcl
  clear hcl
  obtain ⟨w1, hw1⟩ : ∃ w1, Hid (w.alloc (.cells #[.int .i64 xa, .int .i64 (i : Int), .slice A xst.length cx, .bool xe, .bool xn] 89) = w1) := ⟨_, hid rfl⟩
  have hb1 : Below w.heap.size w w1 := by rw [← hw1.out]; exact below_new _ _
  have h1 : w1.heap[w.heap.size]? = some (.cells #[.int .i64 xa, .int .i64 (i : Int), .slice A xst.length cx, .bool xe, .bool xn] 89 (0, 0)) := by rw [← hw1.out]; exact heap_alloc_new _ _
  have z1 : w1.heap.size = w.heap.size + 1 := by rw [← hw1.out]; simp
  have s0 : w1.cell? ⟨w.heap.size, 0, none⟩ = some (.int .i64 xa) := by rw [Lib.cell_of_heap h1]; rfl
  have s1 : w1.cell? ⟨w.heap.size, 1, none⟩ = some (.int .i64 (i : Int)) := by rw [Lib.cell_of_heap h1]; rfl
  have s2 : w1.cell? ⟨w.heap.size, 2, none⟩ = some (.slice A xst.length cx) := by rw [Lib.cell_of_heap h1]; rfl
  have s3 : w1.cell? ⟨w.heap.size, 3, none⟩ = some (.bool xe) := by rw [Lib.cell_of_heap h1]; rfl
  have s4 : w1.cell? ⟨w.heap.size, 4, none⟩ = some (.bool xn) := by rw [Lib.cell_of_heap h1]; rfl
  have hil : i < f.v.n.states.length := by have := hst.2.2.2; simp only at this; omega
  obtain ⟨s, hs⟩ : ∃ s, f.v.n.states[i] = s := ⟨_, rfl⟩
  have hsto : Cf.stOf f.v ⟨xa, (i : Int), xst, xe, xn⟩ = s := by
    unfold Cf.stOf
    rw [List.getD_eq_getElem?_getD, List.getElem?_eq_getElem (by simpa using hil)]
    simpa using hs
  have hsm : s ∈ f.v.n.states := by rw [← hs]; exact List.getElem_mem _
  obtain ⟨sb, so, EA, ec, XA, xc, hSA, hsl, n0, n1, n2, rE, rX⟩ := (h.below hb1).view.net.sts.at hil
  rw [hs] at n0 n1 n2 rE rX
  have hC1 := h.below hb1
  obtain ⟨u, vs, c0, c1, c2, c3, c4, hfz, hown, hcv⟩ := hC1.cells
  have v0 : w1.cell? ⟨f.V, 0, none⟩ = some (.slice (some ⟨sb, so, none⟩) f.v.n.states.length f.a.sc) := by rw [Lib.cell_of_heap hC1.view.blk, ← hSA]; rfl
  have hVl := h.view.lt
  have hBw := h.hw
  have HIN := hid (fun b (hk : ClS w f b) => h.s_lt hk)
  have HCW := hid h.lt
  have hCl : f.C < w.heap.size := h.lt
  have HS1 := hid (Steps.of_below h.lt hb1)
  have HR := hid (hr.only HS1.out.only HS1.out.same)
  have HX := hid hx
  have HB := hid hb
  have HCL := hid hC1
  have HHH := hid hh
  have HST := hid hsto
  have HSM := hid hsm
  have HH1 := hid h1
  have HB1 := hid hb1
  have H0 := hid h
  have HR0 := hid hr
  clear hcv hown hfz c1 c3 c4 vs u c2 h hr hx hb hC1 hh hsto hsm hSA hs h1
  go_enter Tryz.func52, Tryz.ntmps52
  go_upto_region 2 with fail
  rw [hw1.out]
  have hS2 : ∀ o : Obj, (w1.alloc o).drew.cell? ⟨f.C, 0, none⟩ = some (.pointer (some ⟨f.V, 0, none⟩)) ∧ (w1.alloc o).drew.cell? ⟨f.V, 0, none⟩ = some (.slice (some ⟨sb, so, none⟩) f.v.n.states.length f.a.sc) ∧ (w1.alloc o).drew.cell? ⟨w.heap.size, 1, none⟩ = some (.int .i64 (i : Int)) ∧ (w1.alloc o).drew.cell? ⟨sb, so + i * 3, none⟩ = some (.int .i64 s.rule) ∧ (w1.alloc o).drew.cell? ⟨sb, so + i * 3 + 1, none⟩ = some (.slice EA s.edges.length ec) ∧ (w1.alloc o).drew.cell? ⟨sb, so + i * 3 + 2, none⟩ = some (.slice XA s.ends.length xc) := fun o => by
    have hn : ∀ (b i : Nat), b < w1.heap.size → (w1.alloc o).drew.cell? ⟨b, i, none⟩ = w1.cell? ⟨b, i, none⟩ := fun b i hb => (below_new w1 o).drew.cell (p := ⟨b, i, none⟩) hb
    exact ⟨(hn _ _ (by omega)).trans c0, (hn _ _ (by omega)).trans v0, (hn _ _ (by omega)).trans s1, (hn _ _ (by omega)).trans n0, (hn _ _ (by omega)).trans n1, (hn _ _ (by omega)).trans n2⟩
  go_region_held3 (fun w' => w'.cell? ⟨f.C, 0, none⟩ = some (.pointer (some ⟨f.V, 0, none⟩)) ∧ w'.cell? ⟨f.V, 0, none⟩ = some (.slice (some ⟨sb, so, none⟩) f.v.n.states.length f.a.sc) ∧ w'.cell? ⟨w.heap.size, 1, none⟩ = some (.int .i64 (i : Int)) ∧ w'.cell? ⟨sb, so + i * 3, none⟩ = some (.int .i64 s.rule) ∧ w'.cell? ⟨sb, so + i * 3 + 1, none⟩ = some (.slice EA s.edges.length ec) ∧ w'.cell? ⟨sb, so + i * 3 + 2, none⟩ = some (.slice XA s.ends.length xc)) (first | assumption | exact ⟨c0, v0, s1, n0, n1, n2⟩ | exact hS2 _) (fail)
  have hb2 : Below w1.heap.size w1 (w1.alloc (.cells #[.int .i64 s.rule, .slice EA s.edges.length ec, .slice XA s.ends.length xc] 83)).drew := (below_new w1 _).drew
  have T2 : (w1.alloc (.cells #[.int .i64 s.rule, .slice EA s.edges.length ec, .slice XA s.ends.length xc] 83)).drew.heap[w.heap.size + 1]? = some (.cells #[.int .i64 s.rule, .slice EA s.edges.length ec, .slice XA s.ends.length xc] 83 (0, 0)) := by rw [← z1]; exact heap_alloc_new w1 _
  generalize (w1.alloc (.cells #[.int .i64 s.rule, .slice EA s.edges.length ec, .slice XA s.ends.length xc] 83)).drew = w2 at hb2 T2 ⊢
  have hw2 : w.heap.size + 1 < w2.heap.size := heap_lt T2
  have s0 := (hb2.cell (p := ⟨w.heap.size, 0, none⟩) (by show w.heap.size < w1.heap.size; omega)).trans s0
  have s1 := (hb2.cell (p := ⟨w.heap.size, 1, none⟩) (by show w.heap.size < w1.heap.size; omega)).trans s1
  have s2 := (hb2.cell (p := ⟨w.heap.size, 2, none⟩) (by show w.heap.size < w1.heap.size; omega)).trans s2
  have s3 := (hb2.cell (p := ⟨w.heap.size, 3, none⟩) (by show w.heap.size < w1.heap.size; omega)).trans s3
  have s4 := (hb2.cell (p := ⟨w.heap.size, 4, none⟩) (by show w.heap.size < w1.heap.size; omega)).trans s4
  have t1 : w2.cell? ⟨w.heap.size + 1, 1, none⟩ = some (.slice EA s.edges.length ec) := by rw [Lib.cell_of_heap T2]; rfl
  have t2 : w2.cell? ⟨w.heap.size + 1, 2, none⟩ = some (.slice XA s.ends.length xc) := by rw [Lib.cell_of_heap T2]; rfl
  have hfz4 : w2.frozen? ⟨w.heap.size, 4, none⟩ = false := Lib.frozen_of_heap ((hb2.block w.heap.size (by omega)).trans HH1.out) 4
  have HC2 := hid (HCL.out.below hb2)
  have HS2 := hid (HS1.out.trans (Steps.of_below HCL.out.lt hb2))
  have HR2 := hid (HR.out.only (Steps.of_below HCL.out.lt hb2).only (Steps.of_below HCL.out.lt hb2).same)
  have HE2 := hid (rE.below (hb2.mono (HCL.out.hw)))
  have hbw2 : Below w.heap.size w w2 := HB1.out.trans (hb2.mono (by omega))
  have HN2 := hid (fun b (hk : ClS w2 f b) => HIN.out b ((cls_of_cell (hbw2.cell (p := ⟨f.C, 2, none⟩) HCW.out) b).1 hk))
  have HBW2 := hid hbw2
  clear hb2 hbw2 rE rX n0 n1 n2 c0 v0 hS2 T2 HR HCL HS1 HH1
  cases xn with
  | true =>
    have e1 : cl = Cf.keep c ⟨xa, (i : Int), xst, xe, true⟩ := by rw [← HCLS.out]; unfold Cf.close1; rw [if_pos rfl]
    go_wp2_with fail
    go_at_call 79
    have hk := keep_any f c ⟨xa, (i : Int), xst, xe, true⟩ A cx w2 HC2.out (clsz_of W HB.out (by omega) (by omega)) (okc_of W HX.out) HR2.out
    refine hk.mono ?_
    rintro _ w3 ⟨rfl, hC3, hS3⟩
    go_wp2
    go_end0
    exact ⟨rfl, by rw [e1]; exact hC3, HS2.out.trans hS3⟩
  | false =>
    have hvb := HC2.out.view.blk
    have v7 : w2.cell? ⟨f.V, 7, none⟩ = some (.slice f.a.XA f.v.d.ends.length f.a.xc) := by rw [Lib.cell_of_heap hvb]; rfl
    obtain ⟨u, vs, c0, c1, c2, c3, c4, hfz, hown, hcv⟩ := HC2.out.cells
    have hxa := Cf.has_state HHH.out
    obtain ⟨ai, hai⟩ : ∃ ai : Nat, xa = (ai : Int) := ⟨xa.toNat, by have := hxa.1; simp only at this; omega⟩
    subst hai
    have hal : ai < f.v.d.ends.length := by have := hxa.2.1; simp only at this; omega
    obtain ⟨eb, eo, hEA, hel, hec⟩ := HC2.out.view.ends.2 (by omega)
    obtain ⟨q, hq⟩ : ∃ q, f.v.d.ends.getD ai 0 = q := ⟨_, rfl⟩
    have hqe : f.v.d.ends[ai]? = some q := by rw [← hq, List.getD_eq_getElem?_getD, List.getElem?_eq_getElem hal]; rfl
    have r9 := hec ai (.int .i64 q) (by rw [List.getElem?_map, hqe]; rfl)
    rw [hEA] at v7
    have HQ := hid hq
    have HE1 := hid (show Cf.ends1 f.v ⟨(ai : Int), (i : Int), xst, xe, false⟩ = (decide (xst = []) && decide ((i : Int) = q)) by
      rw [ends1_decs, ← HQ.out]; rfl)
    have hbD : f.B0 ≤ w2.heap.size := HC2.out.hw
    have hCl2 : f.C < w2.heap.size := HC2.out.lt
    clear hfz hown hcv c1 c2 c3 c4 vs u hvb hxa hec hEA hqe hq HQ
    go_upto_region 12 with fail
    go_cut [77] from 78 (fun v wx => v = .bool (Cf.ends1 f.v ⟨(ai : Int), (i : Int), xst, xe, false⟩) ∧ ∃ nq, wx = w2.drewN nq)
    case first =>
      cases xst with
      | nil =>
        have f1 : (((([] : List Int).length : Nat) : Int) == 0) = true := rfl
        by_cases hq : (i : Int) = q
        · have f2 : ((i : Int) == q) = true := by rw [hq]; exact beq_self_eq_true _
          have HH := hid (show Cf.ends1 f.v ⟨(ai : Int), (i : Int), [], xe, false⟩ = true by rw [HE1.out, decide_eq_true hq]; rfl)
          clear hq
          go_quiet (fail)
          go_wp2_with fail
          go_meet
          exact ⟨by rw [HH.out], _, rfl⟩
        · have f2 : ((i : Int) == q) = false := by rw [beq_eq_false_iff_ne]; exact hq
          have HH := hid (show Cf.ends1 f.v ⟨(ai : Int), (i : Int), [], xe, false⟩ = false by rw [HE1.out, decide_eq_false hq]; rfl)
          clear hq
          go_quiet (fail)
          go_wp2_with fail
          go_meet
          exact ⟨by rw [HH.out], _, rfl⟩
      | cons y ys =>
        have f1 : ((((y :: ys).length : Nat) : Int) == 0) = false := by rw [beq_eq_false_iff_ne]; simp only [List.length_cons]; omega
        have HH := hid (show Cf.ends1 f.v ⟨(ai : Int), (i : Int), y :: ys, xe, false⟩ = false by rw [HE1.out]; rfl)
        generalize ((y :: ys).length : Nat) = yn at *
        go_quiet (fail)
        go_wp2_with fail
        go_meet
        exact ⟨by rw [HH.out], _, rfl⟩
    case rest =>
      obtain ⟨rfl, nq, hwx⟩ := hcut
      have hb3 : Below w2.heap.size w2 wc := by rw [hwx]; exact below_drewN (Below.refl _ _) _
      have hbw3 : Below w.heap.size w wc := HBW2.out.trans (hb3.mono HBW2.out.size)
      have hlw : ∀ o, wc.cell? ⟨w.heap.size, o, none⟩ = w2.cell? ⟨w.heap.size, o, none⟩ := fun o => hb3.cell (p := ⟨w.heap.size, o, none⟩) (by show w.heap.size < w2.heap.size; omega)
      have hlw1 : ∀ o, wc.cell? ⟨w.heap.size + 1, o, none⟩ = w2.cell? ⟨w.heap.size + 1, o, none⟩ := fun o => hb3.cell (p := ⟨w.heap.size + 1, o, none⟩) hw2
      have s0 := (hlw 0).trans s0
      have s1 := (hlw 1).trans s1
      have s2 := (hlw 2).trans s2
      have s3 := (hlw 3).trans s3
      have s4 := (hlw 4).trans s4
      have t1 := (hlw1 1).trans t1
      have t2 := (hlw1 2).trans t2
      have hfz4 : wc.frozen? ⟨w.heap.size, 4, none⟩ = false := by rw [hwx]; exact hfz4
      have hw3 : w.heap.size + 1 < wc.heap.size := Nat.lt_of_lt_of_le hw2 hb3.size
      have HBW3 := hid hbw3
      have HC3 := hid (H0.out.below hbw3)
      have HS3 := hid (Steps.of_below HCW.out hbw3)
      have HR3 := hid (HR0.out.only HS3.out.only HS3.out.same)
      have HN3 := hid (fun b (hk : ClS wc f b) => HIN.out b ((cls_of_cell (hbw3.cell (p := ⟨f.C, 2, none⟩) HCW.out) b).1 hk))
      have HE3 := hid (HE2.out.below (hb3.mono hbD))
      clear hwx hb3 hbw3 hlw hlw1 HC2 HS2 HR2 HN2 HE2 HBW2 v7 r9 c0 hw2 HE1
      cases hE : Cf.ends1 f.v ⟨(ai : Int), (i : Int), xst, xe, false⟩ with
      | true =>
        have e1 : cl = Cf.keep c ⟨(ai : Int), (i : Int), xst, xe, true⟩ := by
          rw [← HCLS.out]; unfold Cf.close1; rw [if_neg (by simp), if_pos hE]
        have HE1 := hid e1
        clear e1 hE
        go_wp2_with fail
        go_at_call 79
        have hb4 : Below w.heap.size wc (wc.setCell ⟨w.heap.size, 4, none⟩ (.bool true)) := (Only.of_set wc w.heap.size 4 (.bool true)).below' (fun b e => by omega) (by omega)
        have hbw4 := HBW3.out.trans hb4
        generalize wc.setCell ⟨w.heap.size, 4, none⟩ (.bool true) = w4 at hb4 hbw4 ⊢
        have hS4 := Steps.of_below HCW.out hbw4
        have hr4 := HR0.out.only hS4.only hS4.same
        have hx4 : OkC ⟨(ai : Int), (i : Int), xst, xe, true⟩ := okc_of W HX.out.end
        have hk := keep_any f c ⟨(ai : Int), (i : Int), xst, xe, true⟩ A cx w4 (H0.out.below hbw4) (clsz_of W HB.out (by omega) (by omega)) hx4 hr4
        refine hk.mono ?_
        rintro _ w5 ⟨rfl, hC5, hS5⟩
        go_wp2
        go_end0
        exact ⟨rfl, by rw [HE1.out]; exact hC5, hS4.trans hS5⟩
      | false =>
        have e1 : cl = Cf.back1 f.v (s.edges.foldl (Cf.by1 f.v ⟨(ai : Int), (i : Int), xst, xe, false⟩ (decide (s.ends.length = 0))) c) ⟨(ai : Int), (i : Int), xst, xe, false⟩ := by
          rw [← HCLS.out]; unfold Cf.close1; rw [if_neg (by simp), if_neg (by rw [hE]; decide), HST.out]
        have HE1 := hid e1
        clear e1 hE
        obtain ⟨pl, hpl⟩ : ∃ pl, decide (s.ends.length = 0) = pl := ⟨_, rfl⟩
        have f5 : (((s.ends.length : Nat) : Int) == 0) = pl := by
          rw [← hpl, Bool.eq_iff_iff, beq_iff_eq, decide_eq_true_iff]; omega
        rw [hpl] at HE1
        have HPL := hid hpl
        clear hpl
        generalize hxc : (⟨(ai : Int), (i : Int), xst, xe, false⟩ : Cf.Cfg) = X at HE1 HX HHH HST
        have HXC := hid hxc
        clear hxc
        go_wp2_with fail
        go_loopw [7, 26] (fun _ p wr => ∃ j : Nat, j ≤ s.edges.length ∧ p = .int .i64 (j : Int) ∧ ClAt wr f ((s.edges.take j).foldl (Cf.by1 f.v X pl) c) ∧ Steps f wc wr) (fun _ p _ => s.edges.length - (intOf p).toNat)
        case atStart => exact ⟨0, Nat.zero_le _, rfl, HC3.out, Steps.refl _ _⟩
        case round =>
          obtain ⟨j, hj, rfl, hCj, hSj⟩ := hrel
          have hcell : ∀ b o, w.heap.size ≤ b → b ≤ w.heap.size + 1 → wr.cell? ⟨b, o, none⟩ = wc.cell? ⟨b, o, none⟩ := fun b o h1 h2 => hSj.only.cell (by omega) (fun hk => by have := HN3.out _ hk; omega)
          have s0 := (hcell w.heap.size 0 (by omega) (by omega)).trans s0
          have s1 := (hcell w.heap.size 1 (by omega) (by omega)).trans s1
          have s2 := (hcell w.heap.size 2 (by omega) (by omega)).trans s2
          have s3 := (hcell w.heap.size 3 (by omega) (by omega)).trans s3
          have s4 := (hcell w.heap.size 4 (by omega) (by omega)).trans s4
          have t2 := (hcell (w.heap.size + 1) 2 (by omega) (by omega)).trans t2
          have hBj := HC3.out.stay hSj
          have HRj := hid (HR3.out.only hSj.only hSj.same)
          have HSw := hid (HS3.out.trans hSj)
          have hwl : w.heap.size + 1 < wr.heap.size := Nat.lt_of_lt_of_le hw3 hSj.only.size
          by_cases hlt : j < s.edges.length
          · obtain ⟨eb2, eo2, hEA2, hel2, e0, e1, e2⟩ := edge_at (HE3.out.below hBj) hlt
            have hbj := Cf.ClB.fold W HX.out HSM.out pl (s.edges.take j) (fun e he => List.mem_of_mem_take he) HB.out
            rw [List.length_take, Nat.min_eq_left hj] at hbj
            have HFT := hid (fold_take (Cf.by1 f.v X pl) s.edges c j hlt)
            have HEO := hid (edok_of W HSM.out (List.getElem_mem hlt))
            have hel := W.edges _ HSM.out
            generalize s.edges[j] = ed at e0 e1 e2 HFT HEO
            generalize hcj : (s.edges.take j).foldl (Cf.by1 f.v X pl) c = cj at hCj hbj HFT
            have HCj := hid hCj
            have HBJ := hid hbj
            have HSJ := hid hSj
            clear hcj hCj hbj hSj hBj hcell
            rw [hEA2]
            have HEA := hid hEA2
            clear hEA2
            have hbn := below_new wr (.cells #[.int .u8 ed.kind, .int .i64 ed.what, .int .i64 ed.to] 86)
            have s0 := (hbn.cell (p := ⟨w.heap.size, 0, none⟩) (by show w.heap.size < wr.heap.size; omega)).trans s0
            have s1 := (hbn.cell (p := ⟨w.heap.size, 1, none⟩) (by show w.heap.size < wr.heap.size; omega)).trans s1
            have s2 := (hbn.cell (p := ⟨w.heap.size, 2, none⟩) (by show w.heap.size < wr.heap.size; omega)).trans s2
            have s3 := (hbn.cell (p := ⟨w.heap.size, 3, none⟩) (by show w.heap.size < wr.heap.size; omega)).trans s3
            have s4 := (hbn.cell (p := ⟨w.heap.size, 4, none⟩) (by show w.heap.size < wr.heap.size; omega)).trans s4
            have t2 := (hbn.cell (p := ⟨w.heap.size + 1, 2, none⟩) (by show w.heap.size + 1 < wr.heap.size; omega)).trans t2
            have HBN := hid hbn
            clear hbn
            go_wp2_with fail
            go_at_call 80
            have hbn := HBN.out
            generalize wr.alloc (.cells #[.int .u8 ed.kind, .int .i64 ed.what, .int .i64 ed.to] 86) = w5 at hbn ⊢
            have hS5 := Steps.of_below HCj.out.lt hbn
            have hby := by_any f cj X ed pl A cx w5 (HCj.out.below hbn) (clsz_of W HBJ.out (by omega) (by omega)) (okc_of W HX.out) (by have := HX.out.len W; omega) HEO.out (fun n hn => Cf.state64 W (W.starts n hn)) (by rw [← HXC.out]; exact HCX.out)
            rw [← HXC.out] at hby
            refine (hby (HRj.out.only hS5.only hS5.same)).mono ?_
            rintro _ w6 ⟨rfl, hC6, hS6⟩
            go_wp2
            go_roundw
            case rel => exact ⟨j + 1, hlt, by go_num, by rw [HFT.out, ← HXC.out]; exact hC6, (HSJ.out.trans hS5).trans hS6⟩
            case measure => simp [intOf]; omega
          · have hje : j = s.edges.length := by omega
            subst hje
            rw [List.take_length] at hCj
            have hbj := Cf.ClB.fold W HX.out HSM.out pl s.edges (fun e he => he) HB.out
            have hel := W.edges _ HSM.out
            generalize hcj : s.edges.foldl (Cf.by1 f.v X pl) c = cj at hCj hbj HE1
            have HCj := hid hCj
            have HBJ := hid hbj
            have HSJ := hid hSj
            have hvb := hCj.view.blk
            have v9 : wr.cell? ⟨f.V, 9, none⟩ = some (.slice f.a.PA f.v.n.states.length f.a.pc) := by rw [Lib.cell_of_heap hvb]; rfl
            obtain ⟨u, vs, c0, c1, c2, c3, c4, hfz, hown, hcv⟩ := hCj.cells
            obtain ⟨pb, po, hPA, hpl2, hpc⟩ := hCj.view.stops.2 (by omega)
            have r9 := hpc i (.bool (f.v.n.stops.contains (i : Int))) (by rw [List.getElem?_map, List.getElem?_range hil]; rfl)
            rw [hPA] at v9
            have hbB := hCj.hw
            have hCl3 : f.C < wr.heap.size := hCj.lt
            clear hcj hCj hbj hSj hBj hcell hfz hown hcv c1 c2 c3 c4 vs u hvb hpc hPA
            rcases List.eq_nil_or_concat xst with hst | ⟨st, q, hst⟩
            · subst hst
              have f1 : decide ((0 : Int) < ((([] : List Int).length : Nat) : Int)) = false := rfl
              have e1 : cl = cj := by rw [HE1.out, ← HXC.out]; unfold Cf.back1; rw [if_pos (.inl rfl)]
              have HE2 := hid e1
              clear e1
              go_upto_region 8 with fail
              go_quiet (fail)
              go_wp2
              go_end0
              exact ⟨rfl, by rw [HE2.out]; exact HCj.out.below (below_drewN (Below.refl _ _) _), HSw.out.trans (Steps.of_below HCj.out.lt (below_drewN (Below.refl _ _) _))⟩
            · rw [List.concat_eq_append] at hst
              have hln : xst.length = st.length + 1 := by rw [hst]; simp
              obtain ⟨pn, hpn⟩ : ∃ pn, st.length = pn := ⟨_, rfl⟩
              rw [hpn] at hln
              obtain ⟨tb, tf, hA, htl, htn, htc⟩ := HRj.out.2 (by omega)
              have r8 := htc pn (.int .i64 q) (by rw [hst, List.map_append, List.getElem?_append_right (by simp [hpn])]; simp [hpn])
              rw [hln, hA] at s2
              have f1 : decide ((0 : Int) < ((pn + 1 : Nat) : Int)) = true := decide_eq_true (by omega)
              have hxl := HX.out.len W
              rw [← HXC.out] at hxl
              dsimp only at hxl
              have w1a : IntKind.i64.wrap (((pn + 1 : Nat) : Int) - 1) = (pn : Int) := by rw [w64 (by omega) (by omega)]; omega
              have w1b : IntKind.i64.wrap ((pn : Int) + 1 - 1) = (pn : Int) := by rw [w64 (by omega) (by omega)]; omega
              have w1c : IntKind.i64.wrap (pn : Int) = (pn : Int) := w64 (by omega) (by omega)
              have b0 : (0 : Int) ≤ (pn : Int) := by omega
              have b1 : (pn : Int) < (pn : Int) + 1 := by omega
              have b2 : (pn : Int) ≤ (cx : Int) := by have := HCX.out; omega
              have HLN := hid hln
              have HA := hid hA
              have HTN := hid htn
              have HSTK := hid hst
              have HPN := hid hpn
              rw [hA, hln]
              clear htc hpn hst hln hA htn
              cases hsc : f.v.n.stops.contains (i : Int) with
              | false =>
                rw [hsc] at r9
                have e1 : cl = cj := by rw [HE1.out, ← HXC.out]; unfold Cf.back1; rw [if_pos (.inr hsc)]
                have HE2 := hid e1
                clear e1 hsc
                go_upto_region 8 with fail
                go_quiet (fail)
                go_wp2
                go_end0
                exact ⟨rfl, by rw [HE2.out]; exact HCj.out.below (below_drewN (Below.refl _ _) _), HSw.out.trans (Steps.of_below HCj.out.lt (below_drewN (Below.refl _ _) _))⟩
              | true =>
                rw [hsc] at r9
                have e1 : cl = Cf.meet f.v cj ⟨(ai : Int), q, st, xe, false⟩ := by
                  rw [HE1.out, ← HXC.out]; unfold Cf.back1
                  rw [if_neg (by simp [HSTK.out]; simpa using hsc)]
                  rw [HSTK.out]
                  simp [Cf.atC]
                have HE2 := hid e1
                clear e1 hsc
                have hxs : OkC ⟨(ai : Int), q, st, xe, false⟩ := by
                  have hbk := (HX.out.back W (by rw [← HXC.out, HSTK.out]; simp) true)
                  rw [← HXC.out, HSTK.out] at hbk
                  have := okc_of W hbk
                  simpa [Cf.atC] using this
                have HK := hid (fun (u : World) (hu : Steps f wr u) => (show (fun w' => w'.cell? ⟨w.heap.size, 0, none⟩ = some (.int .i64 (ai : Int)) ∧ w'.cell? ⟨w.heap.size, 1, none⟩ = some (.int .i64 (i : Int)) ∧ w'.cell? ⟨w.heap.size, 2, none⟩ = some (.slice (some ⟨tb, tf, none⟩) (pn + 1) cx) ∧ w'.cell? ⟨w.heap.size, 3, none⟩ = some (.bool xe) ∧ w'.cell? ⟨w.heap.size, 4, none⟩ = some (.bool false) ∧ w'.cell? ⟨tb, tf + pn, none⟩ = some (.int .i64 q)) u from
                  have hc0 : ∀ o, u.cell? ⟨w.heap.size, o, none⟩ = wr.cell? ⟨w.heap.size, o, none⟩ := fun o => hu.only.cell (by omega) (fun hk => by have := HN3.out _ (HSJ.out.same _ (by omega) hk); omega)
                  ⟨(hc0 0).trans s0, (hc0 1).trans s1, (hc0 2).trans s2, (hc0 3).trans s3, (hc0 4).trans s4, (hu.only.cell htl HTN.out).trans r8⟩))
                have hro : ∀ u, Steps f wr u → RO u (ClS u f) 1 (some ⟨tb, tf, none⟩) st.length (st.map (Value.int .i64)) := fun u hu => by
                  have h1 := (HRj.out.only hu.only hu.same).cut (m := pn) (by rw [HLN.out]; omega)
                  rw [HA.out, HSTK.out, List.map_append, List.take_left' (by rw [List.length_map]; exact HPN.out)] at h1
                  rw [HPN.out]
                  exact h1
                have HRO := hid hro
                clear hro
                go_upto_region 8 with fail
                go_quiet (fail)
                go_wp2_with fail
                have HCD := hid (HCj.out.below (show Below wr.heap.size wr (wr.drewN nq) from below_drewN (Below.refl _ _) _))
                have HSD := hid (Steps.of_below (f := f) HCj.out.lt (show Below wr.heap.size wr (wr.drewN nq) from below_drewN (Below.refl _ _) _))
                generalize wr.drewN nq = wd at HCD HSD ⊢
                have hcd2 : Below wd.heap.size wd wd.drew := (Below.refl _ _).drew
                have HCE := hid (HCD.out.below hcd2)
                have HSE := hid (HSD.out.trans (Steps.of_below HCD.out.lt hcd2))
                clear hcd2 s0 s1 s2 s3 s4 r8 HCD
                have hat := at_any ⟨(ai : Int), (i : Int), xst, xe, false⟩ A cx q (some ⟨tb, tf, none⟩) pn pn true wd.drew
                dsimp only at hat
                rw [HLN.out, HA.out] at hat
                have HAT := hid hat
                have hmt := fun w10 h1 h2 => meet_any f cj ⟨(ai : Int), q, st, xe, false⟩ (some ⟨tb, tf, none⟩) pn w10 h1 (clsz_of W HBJ.out (by omega) (by omega)) hxs (by rw [← HPN.out]; exact Nat.le_refl _) h2
                dsimp only at hmt
                rw [HPN.out] at hmt HRO
                have HMT := hid hmt
                clear hmt
                clear hat
                go_region_held3 (fun w' => w'.cell? ⟨w.heap.size, 0, none⟩ = some (.int .i64 (ai : Int)) ∧ w'.cell? ⟨w.heap.size, 1, none⟩ = some (.int .i64 (i : Int)) ∧ w'.cell? ⟨w.heap.size, 2, none⟩ = some (.slice (some ⟨tb, tf, none⟩) (pn + 1) cx) ∧ w'.cell? ⟨w.heap.size, 3, none⟩ = some (.bool xe) ∧ w'.cell? ⟨w.heap.size, 4, none⟩ = some (.bool false) ∧ w'.cell? ⟨tb, tf + pn, none⟩ = some (.int .i64 q)) (first | assumption | exact HK.out _ HSE.out | exact HK.out _ HSD.out | exact HK.out _ HS10.out | exact HK.out _ HS11.out) (first | (go_simp; go_at_call 36; refine HAT.out.mono ?_; rintro e w10 ⟨rfl, hb10⟩; have HS10 := hid (HSE.out.trans (Steps.of_below HCE.out.lt hb10)); dsimp only; rw [Bool.and_true]) | (go_simp; go_at_call 51; refine (HMT.out w10 (HCE.out.below hb10) (HRO.out w10 HS10.out)).mono ?_; rintro _ w11 ⟨rfl, hC11, hS11⟩; have HS11 := hid (HS10.out.trans hS11); dsimp only))
                go_wp2
                go_end0
                exact ⟨rfl, by rw [HE2.out]; exact hC11, HSw.out.trans HS11.out⟩
end Go.Proofs.YtnpcjbdolmmaeaaGreatDoor
