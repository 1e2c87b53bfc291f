/-
  A configuration goes by an edge (configs.closing.by): the walk.
-/
import Derived.Test.YtnpcjbdolmmaeaaGreatDoorL06
import Derived.Test.YtnpcjbdolmmaeaaGreatDoorL08
import Derived.Test.YtnpcjbdolmmaeaaGreatDoorL09
namespace Go.Proofs.YtnpcjbdolmmaeaaGreatDoor
open Go.RowKit Go.Maps
open Go.Sort (grow)
set_option maxRecDepth 100000
structure EdOk (v : Cf.Vw) (e : Drv.Ed) : Prop where
  tgt : i64 e.to
  what : e.kind = 2 → 0 ≤ e.what ∧ e.what < v.n.starts.length
theorem ClAt.over1 {w : World} {f : ClF} {c : Cf.Cl} (h : ClAt w f c) (o : Bool) : ClAt (w.setCell ⟨f.C, 4, none⟩ (.bool o)) f ⟨c.wait, c.kept, o⟩ ∧ Steps f w (w.setCell ⟨f.C, 4, none⟩ (.bool o)) := by
  obtain ⟨n1, n2, n3⟩ := h.ne
  obtain ⟨u, vs, h1, h2, h3⟩ := h.row
  have hu : w.cell? ⟨f.C, 2, none⟩ = some u := by rw [Lib.cell_of_heap h1]; rfl
  have ho := Only.of_set w f.C 4 (.bool o)
  have q := heap_setCell_same w f.C 4 _ _ (.bool o) h1
  generalize w.setCell ⟨f.C, 4, none⟩ (.bool o) = w' at ho q ⊢
  have hu' : w'.cell? ⟨f.C, 2, none⟩ = some u := by rw [Lib.cell_of_heap q]; rfl
  have hS : Steps f w w' := ⟨ho.more (fun b _ e => .inl e), fun b _ hk => (cls_of_cell (hu'.trans hu.symm) b).1 hk⟩
  have hb := h.stay hS
  obtain ⟨nm, D0, m1, m2, m3⟩ := h.met
  obtain ⟨nk, D1, k1, k2, k3⟩ := h.kept
  exact ⟨⟨⟨u, vs, q, ownsRow_only h2 ho (fun k hk e => (h.row_ne hu hk).1 e), h3.only hS.only hS.same⟩, h.view.below hb, ⟨nm, D0, m1, ownsMap_onlyH m2 ho (fun e => n1 e.symm), m3⟩, ⟨nk, D1, k1, ownsMap_onlyH k2 ho (fun e => n2 e.symm), k3.only hS.only hS.same⟩, h.pt.on hb, h.ge, h.ne, Nat.le_trans h.hw ho.size⟩, hS⟩
theorem ClAt.s_lt {w : World} {f : ClF} {c : Cf.Cl} (h : ClAt w f c) {k : Nat} (hk : ClS w f k) : k < w.heap.size := by
  obtain ⟨u, vs, _, _, c2, _⟩ := h.cells
  rcases (ClS.get c2).1 hk with e | e | e | e
  · rw [e]; exact h.lt
  · rw [e]; exact h.ltM
  · rw [e]; exact h.ltK
  · exact (h.row_ne c2 e).2.2.2.2
theorem own_cap {w : World} {base : Nat} {e : TypeId} {size n c : Nat} {A : Option Addr} {xs : List Value} (h : w.ownsRow base e size (.slice A n c) n xs) : n ≤ c := by
  obtain ⟨A', c', e1, _, h1⟩ := Reads.own h
  injection e1 with _ _ e3
  omega
theorem own_lower {w : World} {base base' : Nat} {e : TypeId} {size n : Nat} {v : Value} {xs : List Value} (h : w.ownsRow base e size v n xs) (hb : base' ≤ base) : w.ownsRow base' e size v n xs := by
  refine ⟨h.1, ?_⟩
  rcases h.2 with h2 | ⟨g, cap, cur, hv, hg, r⟩
  · exact .inl h2
  · exact .inr ⟨g, cap, cur, hv, Nat.le_trans hb hg, r⟩
theorem step_pushG {P : Program} (w : World) {ops : Array Oper} {o : Oper} {a : Act} {K : Act → World → Prop} {Q : Exit → Act → World → Prop} {E : Prop} (hgd : o.guard = none) (s x : Operand) (t : TypeId)
    (ho : o.op = .call { callee := .builtin .append, args := #[s, x], argTypes := #[t, t] })
    (base : Nat) (e : TypeId) (i : TypeInfo) (z : Value) (size bytes : Nat) (ht : P.underlying t = some (.slice e)) (hi : P.info? e = some i) (hz : i.zero = some z)
    (hsize : i.size = size) (hby : i.bytes = bytes) (hzs : z.cells.size = size) (hsz : 0 < size)
    (v : Value) (n : Nat) (xs : List Value) (hs : a.eval s = v) (hown : w.ownsRow base e size v n xs)
    (cs : List Value) (m : Nat) (b : Nat) (hx : a.eval x = .slice (some ⟨b, 0, none⟩) m m) (hl : cs.length = m * size) (hnews : ∀ (j : Nat) (u : Value), cs[j]? = some u → w.cell? ((⟨b, 0, none⟩ : Addr).add j) = some u) (h1 : ∀ u ∈ cs, u.oneCell' = true) (hm : 0 < m)
    (h63 : n + m ≤ maxLen) (hbytes : (n + m) * bytes ≤ 140737488355328) (hbase : base ≤ w.heap.size)
    (h : ∀ g c w', w'.ownsRow base e size (.slice (some ⟨g, 0, none⟩) (n + m) c) (n + m) (xs ++ cs) → (v.ownBlock = some g ∨ w.heap.size ≤ g) → Only (fun k => v.ownBlock = some k) w w' → K (a.put o.dst (.slice (some ⟨g, 0, none⟩) (n + m) c)) w') : if Region.wanted o (yielded ops a.tmps) = true then Oper.wp P o a w K Q else E := by
  have hw : Region.wanted o (yielded ops a.tmps) = true := by simp [Region.wanted, hgd]
  rw [if_pos hw]
  obtain ⟨v', w', hr, ho', hg, _, hblk⟩ := run_append_own_at (P := P) w base t o.type e i z size bytes ht hi hz hsize hby hzs hsz v n xs hown ⟨b, 0, none⟩ m m cs hl hnews h1 h63 hbytes hbase
  unfold Oper.wp execOp
  simp only [ho, resolve, invoke, builtin, Sem.run_bind, Sem.run_pure, Result.andThen_ok, List.map_toArray, List.map_cons, List.map_nil, hs, hx, hr]
  rcases ho'.2 with ⟨_, h0⟩ | ⟨g, c, cur, hv, hrest⟩
  · omega
  · subst hv
    refine h g c w' ho' ?_ ⟨hg.os, hg.tape, hg.output, hg.size, fun k hk hn => hg.block k hk (fun e => hn e.symm)⟩
    rcases hblk with h2 | h2
    · exact .inl (by rw [← h2]; rfl)
    · refine .inr ?_
      have h2 : some g = some w.heap.size := h2
      injection h2 with h2
      rw [h2]
      exact Nat.le_refl _
set_option maxHeartbeats 8000000 in
theorem by_any (f : ClF) (c : Cf.Cl) (x : Cf.Cfg) (e : Drv.Ed) (plain : Bool) (A : Option Addr) (cx : Nat) (w : World) (h : ClAt w f c) (hs : ClSz c) (hx : OkC x) (hlx : x.stack.length + 1 ≤ 1000000) (he : EdOk f.v e) (hst : ∀ n ∈ f.v.n.starts, i64 n) (hcx : x.stack.length ≤ cx) (hr : RO w (ClS w f) 1 A x.stack.length (x.stack.map (Value.int .i64))) :
    Calls Tryz.prog 80 #[.pointer (some ⟨f.C, 0, none⟩), .agg #[.int .i64 x.alt, .int .i64 x.state, .slice A x.stack.length cx, .bool x.exact, .bool x.ended], .agg #[.int .u8 e.kind, .int .i64 e.what, .int .i64 e.to], .bool plain] w (MtP f (Cf.by1 f.v x plain c e) w) := by
  have HCX := hid hcx
  clear hcx
  obtain ⟨w0, hw0⟩ : ∃ w0, w0 = w.alloc (.cells #[.int .i64 x.alt, .int .i64 x.state, .slice A x.stack.length cx, .bool x.exact, .bool x.ended] 89) := ⟨_, rfl⟩
  obtain ⟨w1, hw1⟩ : ∃ w1, w1 = w0.alloc (.cells #[.int .u8 e.kind, .int .i64 e.what, .int .i64 e.to] 86) := ⟨_, rfl⟩
  have z0 : w0.heap.size = w.heap.size + 1 := by rw [hw0]; simp
  have hb0 : Below w.heap.size w w0 := by rw [hw0]; exact below_new _ _
  have hb1 : Below w.heap.size w w1 := by rw [hw1]; exact hb0.alloc (by omega) _
  have h0 : w1.heap[w.heap.size]? = some (.cells #[.int .i64 x.alt, .int .i64 x.state, .slice A x.stack.length cx, .bool x.exact, .bool x.ended] 89 (0, 0)) := by
    rw [hw1, Below.heap_alloc _ _ _ (by omega), hw0]; exact heap_alloc_new _ _
  have h1 : w1.heap[w.heap.size + 1]? = some (.cells #[.int .u8 e.kind, .int .i64 e.what, .int .i64 e.to] 86 (0, 0)) := by
    rw [hw1, ← z0]; exact heap_alloc_new _ _
  have HW := hid (show (w.alloc (.cells #[.int .i64 x.alt, .int .i64 x.state, .slice A x.stack.length cx, .bool x.exact, .bool x.ended] 89)).alloc (.cells #[.int .u8 e.kind, .int .i64 e.what, .int .i64 e.to] 86) = w1 by rw [hw1, hw0])
  clear hw0 hw1 z0 hb0 w0
  have s0 : w1.cell? ⟨w.heap.size, 0, none⟩ = some (.int .i64 x.alt) := by rw [Lib.cell_of_heap h0]; rfl
  have s1 : w1.cell? ⟨w.heap.size, 1, none⟩ = some (.int .i64 x.state) := by rw [Lib.cell_of_heap h0]; rfl
  have s2 : w1.cell? ⟨w.heap.size, 2, none⟩ = some (.slice A x.stack.length cx) := by rw [Lib.cell_of_heap h0]; rfl
  have s3 : w1.cell? ⟨w.heap.size, 3, none⟩ = some (.bool x.exact) := by rw [Lib.cell_of_heap h0]; rfl
  have s4 : w1.cell? ⟨w.heap.size, 4, none⟩ = some (.bool x.ended) := by rw [Lib.cell_of_heap h0]; rfl
  have e0 : w1.cell? ⟨w.heap.size + 1, 0, none⟩ = some (.int .u8 e.kind) := by rw [Lib.cell_of_heap h1]; rfl
  have e1 : w1.cell? ⟨w.heap.size + 1, 1, none⟩ = some (.int .i64 e.what) := by rw [Lib.cell_of_heap h1]; rfl
  have e2 : w1.cell? ⟨w.heap.size + 1, 2, none⟩ = some (.int .i64 e.to) := by rw [Lib.cell_of_heap h1]; rfl
  have hS1 := Steps.of_below h.lt hb1
  have HIN := hid (fun b (hk : ClS w f b) => h.s_lt hk)
  have HCW := hid h.lt
  have HCL := hid (h.below hb1)
  have HS1 := hid hS1
  have HR := hid (hr.only hS1.only hS1.same)
  have HX := hid hx
  have HS := hid hs
  have HH0 := hid h0
  have HH1 := hid h1
  have HB1 := hid hb1
  clear h hS1 hr hx hs h0 h1 hb1
  by_cases k0 : e.kind = 0
  · have d0 : (e.kind == 0) = true := by rw [k0]; rfl
    have hy : Cf.by1 f.v x plain c e = Cf.meet f.v c (Cf.atC x e.to x.stack plain) := by unfold Cf.by1; rw [if_pos k0]
    rw [hy]
    clear hy
    have HK := hid k0
    clear k0
    go_enter Tryz.func80, Tryz.ntmps80
    go_wp2_with fail
    rw [HW.out]
    go_wp2_with fail
    go_at_call 36
    refine (at_any x A cx e.to A x.stack.length cx plain w1).mono ?_
    rintro _ w2 ⟨rfl, hb2⟩
    go_wp2_with fail
    go_at_call 51
    have hC2 := HCL.out.below hb2
    have hS2 := Steps.of_below HCL.out.lt hb2
    refine (meet_any f c (Cf.atC x e.to x.stack plain) A cx w2 hC2 HS.out ⟨HX.out.alt, he.tgt, HX.out.stack, HX.out.len⟩ HCX.out (HR.out.only hS2.only hS2.same)).mono ?_
    rintro _ w3 ⟨rfl, hC3, hS3⟩
    go_wp2
    go_end0
    exact ⟨rfl, hC3, (HS1.out.trans hS2).trans hS3⟩
  · have d0 : (e.kind == 0) = false := by rw [beq_eq_false_iff_ne]; exact k0
    by_cases k3 : e.kind = 3
    · have d3 : (e.kind == 3) = true := by rw [k3]; rfl
      have hy : Cf.by1 f.v x plain c e = Cf.meet f.v c ⟨x.alt, e.to, x.stack, false, false⟩ := by unfold Cf.by1; rw [if_neg k0, if_pos k3]; unfold Cf.atC; rw [Bool.and_false]
      rw [hy]
      clear hy
      have HK := hid k3
      clear k3 k0
      go_enter Tryz.func80, Tryz.ntmps80
      go_wp2_with fail
      rw [HW.out]
      go_wp2_with fail
      go_at_call 36
      refine (at_any x A cx e.to A x.stack.length cx false w1).mono ?_
      rintro _ w2 ⟨rfl, hb2⟩
      go_wp2_with fail
      go_at_call 51
      have hC2 := HCL.out.below hb2
      have hS2 := Steps.of_below HCL.out.lt hb2
      refine (meet_any f c ⟨x.alt, e.to, x.stack, false, false⟩ A cx w2 hC2 HS.out ⟨HX.out.alt, he.tgt, HX.out.stack, HX.out.len⟩ HCX.out (HR.out.only hS2.only hS2.same)).mono ?_
      rintro _ w3 ⟨rfl, hC3, hS3⟩
      go_wp2
      go_end0
      exact ⟨rfl, hC3, (HS1.out.trans hS2).trans hS3⟩
    have d3 : (e.kind == 3) = false := by rw [beq_eq_false_iff_ne]; exact k3
    by_cases k1 : e.kind = 1
    · have d1 : (e.kind == 1) = true := by rw [k1]; rfl
      have hy : Cf.by1 f.v x plain c e = Cf.keep c x := by unfold Cf.by1; rw [if_neg k0, if_neg k3, if_pos k1]
      rw [hy]
      clear hy
      have HK := hid k1
      clear k1 k3 k0
      go_enter Tryz.func80, Tryz.ntmps80
      go_wp2_with fail
      rw [HW.out]
      go_wp2_with fail
      go_at_call 79
      refine (keep_any f c x A cx w1 HCL.out HS.out HX.out HR.out).mono ?_
      rintro _ w3 ⟨rfl, hC3, hS3⟩
      go_wp2
      go_end0
      exact ⟨rfl, hC3, HS1.out.trans hS3⟩
    have d1 : (e.kind == 1) = false := by rw [beq_eq_false_iff_ne]; exact k1
    by_cases k2 : e.kind = 2
    · have d2 : (e.kind == 2) = true := by rw [k2]; rfl
      have hy : Cf.by1 f.v x plain c e = (if f.v.bound ≤ x.stack.count e.to then ⟨c.wait, c.kept, true⟩ else Cf.meet f.v c (Cf.atC x (f.v.n.starts.getD e.what.toNat 0) (x.stack ++ [e.to]) true)) := by unfold Cf.by1; rw [if_neg k0, if_neg k3, if_neg k1, if_pos k2]
      obtain ⟨cl, hcl⟩ : ∃ cl, Cf.by1 f.v x plain c e = cl := ⟨_, rfl⟩
      rw [hcl]
      rw [hy] at hcl
      have HCLS := hid hcl
      clear hy hcl
      have HWH := hid (he.what k2)
      clear k2 k1 k3 k0
      have hvb := HCL.out.view.blk
      obtain ⟨u, vs, c0, c1, c2, c3, c4, hfz, hown, hcv⟩ := HCL.out.cells
      have v1 : w1.cell? ⟨f.V, 1, none⟩ = some (.slice f.a.TA f.v.n.starts.length f.a.tc) := by rw [Lib.cell_of_heap hvb]; rfl
      have v8 : w1.cell? ⟨f.V, 8, none⟩ = some (.int .i64 f.v.bound) := by rw [Lib.cell_of_heap hvb]; rfl
      have z4 := hfz 4
      have HFZ := hid hfz
      clear hfz hown hcv c1 c2 c3 vs u hvb
      go_enter Tryz.func80, Tryz.ntmps80
      go_upto_region 1 with fail
      rw [HW.out]
      go_wp2_with fail
      go_loopw [8, 10, 44] (fun s _ i wr => ∃ j : Nat, j ≤ x.stack.length ∧ s = .int .i64 ((x.stack.take j).count e.to : Nat) ∧ i = .int .i64 j ∧ wr = w1) (fun _ _ i _ => x.stack.length - (intOf i).toNat)
      case atStart => exact ⟨0, Nat.zero_le _, by simp, rfl, rfl⟩
      case round =>
        obtain ⟨j, hj, rfl, rfl, hwr⟩ := hrel
        subst hwr
        by_cases hlt : j < x.stack.length
        · have f1 : decide ((j : Int) < (x.stack.length : Int)) = true := decide_eq_true (by omega)
          obtain ⟨b, off, hA, hbl, hns, hcell⟩ := HR.out.2 (by omega)
          have kc := hcell j (.int .i64 x.stack[j]) (by rw [List.getElem?_map, List.getElem?_eq_getElem hlt]; rfl)
          have hcnt : ((x.stack.take (j + 1)).count e.to) = (x.stack.take j).count e.to + (if x.stack[j] = e.to then 1 else 0) := by
            rw [List.take_succ_eq_append_getElem hlt, List.count_append, List.count_singleton]
            simp
          have hjc : (x.stack.take j).count e.to ≤ x.stack.length := Nat.le_trans (List.count_le_length) (by rw [List.length_take]; exact Nat.min_le_right _ _)
          have HCN := hid hcnt
          clear hcnt hcell
          have HA := hid hA
          by_cases hq : x.stack[j] = e.to
          · have f2 : (x.stack[j] == e.to) = true := by rw [hq]; exact beq_self_eq_true _
            have HQ := hid hq
            rw [hA]
            clear hq
            go_wp2
            go_roundw
            case rel => exact ⟨j + 1, hlt, by rw [HCN.out, if_pos HQ.out]; go_num, by go_num, trivial⟩
            case measure => simp [intOf]; omega
          · have f2 : (x.stack[j] == e.to) = false := by rw [beq_eq_false_iff_ne]; exact hq
            have HQ := hid hq
            rw [hA]
            clear hq
            go_wp2
            go_roundw
            case rel => exact ⟨j + 1, hlt, by rw [HCN.out, if_neg HQ.out]; rfl, by go_num, trivial⟩
            case measure => simp [intOf]; omega
        · have hje : j = x.stack.length := by omega
          subst hje
          rw [List.take_length]
          by_cases hbd : f.v.bound ≤ (x.stack.count e.to : Int)
          · have f3 : decide (f.v.bound ≤ (x.stack.count e.to : Int)) = true := decide_eq_true hbd
            have hcl := HCLS.out
            rw [if_pos hbd] at hcl
            subst hcl
            have HF := hid (HCL.out.over1 true)
            clear hbd
            go_wp2
            go_end0
            exact ⟨rfl, HF.out.1, HS1.out.trans HF.out.2⟩
          · have f3 : decide (f.v.bound ≤ (x.stack.count e.to : Int)) = false := decide_eq_false hbd
            have hcl := HCLS.out
            rw [if_neg hbd] at hcl
            subst hcl
            clear hbd
            go_upto_region 18 with fail
            have hwh := HWH.out
            obtain ⟨k, hk⟩ : ∃ k : Nat, e.what = (k : Int) := ⟨e.what.toNat, by omega⟩
            rw [hk] at e1 hwh
            have hkl : k < f.v.n.starts.length := by omega
            obtain ⟨tb, tf, hTA, htl, htc⟩ := HCL.out.view.net.starts.2 (by omega)
            obtain ⟨q, hq⟩ : ∃ q, f.v.n.starts.getD k 0 = q := ⟨_, rfl⟩
            have hqe : f.v.n.starts[k]? = some q := by rw [← hq, List.getD_eq_getElem?_getD, List.getElem?_eq_getElem hkl]; rfl
            have HQI := hid (hst q (List.mem_of_getElem? hqe))
            have r9 := htc k (.int .i64 q) (by rw [List.getElem?_map, hqe]; rfl)
            rw [hTA] at v1
            have hce : f.v.n.starts.getD e.what.toNat 0 = q := by rw [hk]; exact hq
            rw [hce]
            unfold Cf.atC
            rw [Bool.and_true]
            obtain ⟨z0, hz0, hz1, hz2, hz3⟩ := info_of infoZ
            have hmx : x.stack.length + 1 ≤ maxLen := by simp only [maxLen]; omega
            have hmy : (x.stack.length + 1) * 8 ≤ 140737488355328 := by omega
            have hlw : w.heap.size + 1 < wr.heap.size := heap_lt HH1.out
            have hST : ∀ u : World, Below wr.heap.size wr u → (fun w' => w'.cell? ⟨w.heap.size, 0, none⟩ = some (.int .i64 x.alt) ∧ w'.cell? ⟨w.heap.size, 1, none⟩ = some (.int .i64 x.state) ∧ w'.cell? ⟨w.heap.size, 2, none⟩ = some (.slice A x.stack.length cx) ∧ w'.cell? ⟨w.heap.size, 3, none⟩ = some (.bool x.exact) ∧ w'.cell? ⟨w.heap.size, 4, none⟩ = some (.bool x.ended) ∧ w'.cell? ⟨w.heap.size + 1, 1, none⟩ = some (.int .i64 (k : Int)) ∧ w'.cell? ⟨w.heap.size + 1, 2, none⟩ = some (.int .i64 e.to) ∧ w'.cell? ⟨f.C, 0, none⟩ = some (.pointer (some ⟨f.V, 0, none⟩)) ∧ w'.cell? ⟨f.V, 1, none⟩ = some (.slice (some ⟨tb, tf, none⟩) f.v.n.starts.length f.a.tc) ∧ w'.cell? ⟨tb, tf + k, none⟩ = some (.int .i64 q)) u := fun u hb =>
              ⟨(hb.cell (p := ⟨w.heap.size, 0, none⟩) (by simp only; omega)).trans s0, (hb.cell (p := ⟨w.heap.size, 1, none⟩) (by simp only; omega)).trans s1, (hb.cell (p := ⟨w.heap.size, 2, none⟩) (by simp only; omega)).trans s2, (hb.cell (p := ⟨w.heap.size, 3, none⟩) (by simp only; omega)).trans s3, (hb.cell (p := ⟨w.heap.size, 4, none⟩) (by simp only; omega)).trans s4, (hb.cell (p := ⟨w.heap.size + 1, 1, none⟩) hlw).trans e1, (hb.cell (p := ⟨w.heap.size + 1, 2, none⟩) hlw).trans e2, (hb.cell (p := ⟨f.C, 0, none⟩) HCL.out.lt).trans c0, (hb.cell (p := ⟨f.V, 1, none⟩) (heap_lt HCL.out.view.blk)).trans v1, (hb.cell (p := ⟨tb, tf + k, none⟩) (Nat.lt_of_lt_of_le htl HCL.out.hw)).trans r9⟩
            obtain ⟨ws, hws⟩ : ∃ ws, Hid (wr.drew = ws) := ⟨_, hid rfl⟩
            have hbs : Below wr.heap.size wr ws := by rw [← hws.out]; exact ⟨rfl, rfl, rfl, Nat.le_refl _, fun _ _ => rfl⟩
            have ST := hid (fun (u : World) (hb : Below ws.heap.size ws u) => hST u (hbs.trans (hb.mono hbs.size)))
            have HCS := hid (HCL.out.below hbs)
            have HSS := hid (HS1.out.trans (Steps.of_below HCL.out.lt hbs))
            have HINS := hid (fun (u : World) (hb : Below ws.heap.size ws u) (b : Nat) (hk : ClS u f b) => HIN.out b ((cls_of_cell (((HB1.out.trans (hbs.mono HB1.out.size)).trans (hb.mono (Nat.le_trans HB1.out.size hbs.size))).cell (p := ⟨f.C, 2, none⟩) HCW.out) b).1 hk))
            have HWS := hid (Nat.le_trans HB1.out.size hbs.size)
            have hsz : wr.heap.size ≤ ws.heap.size := hbs.size
            have HS8 := hid (fun (u : World) (hb : Below ws.heap.size ws u) (w8 : World) (hC8 : ClAt w8 f (Cf.meet f.v c ⟨x.alt, q, x.stack ++ [e.to], x.exact, false⟩)) (hs8 : Steps f u w8) => (show (fun w' => w'.cell? ⟨w.heap.size, 0, none⟩ = some (.int .i64 x.alt) ∧ w'.cell? ⟨w.heap.size, 1, none⟩ = some (.int .i64 x.state) ∧ w'.cell? ⟨w.heap.size, 2, none⟩ = some (.slice A x.stack.length cx) ∧ w'.cell? ⟨w.heap.size, 3, none⟩ = some (.bool x.exact) ∧ w'.cell? ⟨w.heap.size, 4, none⟩ = some (.bool x.ended) ∧ w'.cell? ⟨w.heap.size + 1, 1, none⟩ = some (.int .i64 (k : Int)) ∧ w'.cell? ⟨w.heap.size + 1, 2, none⟩ = some (.int .i64 e.to) ∧ w'.cell? ⟨f.C, 0, none⟩ = some (.pointer (some ⟨f.V, 0, none⟩)) ∧ w'.cell? ⟨f.V, 1, none⟩ = some (.slice (some ⟨tb, tf, none⟩) f.v.n.starts.length f.a.tc) ∧ w'.cell? ⟨tb, tf + k, none⟩ = some (.int .i64 q)) w8 by
              obtain ⟨y0, y1, y2, y3, y4, y5, y6, y7, y8, y9⟩ := ST.out u hb
              have hbu := hb.size
              have hCu := HCS.out.below hb
              have nb : ∀ b, (b = w.heap.size ∨ b = w.heap.size + 1 ∨ b < f.B0) → ¬ ClS u f b := fun b hb' hk => by
                have h1 := HINS.out u hb b hk
                rcases hb' with e | e | e
                · omega
                · omega
                · have := hCu.ge_s hk; omega
              have hVl := HCL.out.view.lt
              have hBw := hCu.hw
              exact ⟨(hs8.only.cell (b := w.heap.size) (o := 0) (by omega) (nb _ (.inl rfl))).trans y0, (hs8.only.cell (b := w.heap.size) (o := 1) (by omega) (nb _ (.inl rfl))).trans y1, (hs8.only.cell (b := w.heap.size) (o := 2) (by omega) (nb _ (.inl rfl))).trans y2, (hs8.only.cell (b := w.heap.size) (o := 3) (by omega) (nb _ (.inl rfl))).trans y3, (hs8.only.cell (b := w.heap.size) (o := 4) (by omega) (nb _ (.inl rfl))).trans y4, (hs8.only.cell (b := w.heap.size + 1) (o := 1) (by omega) (nb _ (.inr (.inl rfl)))).trans y5, (hs8.only.cell (b := w.heap.size + 1) (o := 2) (by omega) (nb _ (.inr (.inl rfl)))).trans y6, by obtain ⟨_, _, q0, _⟩ := hC8.cells; exact q0, (hs8.only.cell (b := f.V) (o := 1) (by omega) (nb _ (.inr (.inr hVl)))).trans y8, (hs8.only.cell (b := tb) (o := tf + k) (by omega) (nb _ (.inr (.inr htl)))).trans y9⟩))
            have HRS := hid ((HR.out.only (S' := ClS wr f) (Only.of_below hbs) (fun _ _ h => h)).reads)
            have HRS2 := hid (fun (o : Obj) => (show Reads (ws.alloc o) (ws.alloc o).heap.size 1 A x.stack.length (x.stack.map (Value.int .i64)) from (HRS.out.below (below_new ws o)).more (by simp)))
            refine wp_region_late (l := 23) (S := fun w' => w'.cell? ⟨w.heap.size, 0, none⟩ = some (.int .i64 x.alt) ∧ w'.cell? ⟨w.heap.size, 1, none⟩ = some (.int .i64 x.state) ∧ w'.cell? ⟨w.heap.size, 2, none⟩ = some (.slice A x.stack.length cx) ∧ w'.cell? ⟨w.heap.size, 3, none⟩ = some (.bool x.exact) ∧ w'.cell? ⟨w.heap.size, 4, none⟩ = some (.bool x.ended) ∧ w'.cell? ⟨w.heap.size + 1, 1, none⟩ = some (.int .i64 (k : Int)) ∧ w'.cell? ⟨w.heap.size + 1, 2, none⟩ = some (.int .i64 e.to) ∧ w'.cell? ⟨f.C, 0, none⟩ = some (.pointer (some ⟨f.V, 0, none⟩)) ∧ w'.cell? ⟨f.V, 1, none⟩ = some (.slice (some ⟨tb, tf, none⟩) f.v.n.starts.length f.a.tc) ∧ w'.cell? ⟨tb, tf + k, none⟩ = some (.int .i64 q)) (by kernel_rfl) (by rw [hws.out]; exact ST.out ws (Below.refl _ _)) (fun hHeld => ?_)
            rw [hws.out] at hHeld ⊢
            clear hST hbs s0 s1 s2 s3 s4 e0 e1 e2 c0 v1 v8 r9 c4 z4 hTA htc hqe htl hwh hce hlw
            refine wpAnyF_take (i := 0) (.pointer (some ⟨f.C, 0, none⟩)) rfl (by kernel_rfl) (by kernel_rfl) (by kernel_rfl) (by kernel_rfl) (fun _ _ _ h => h) hHeld (by rfl) (fun w' hSw => ?_) ?_
            · obtain ⟨p0, p1, p2, p3, p4, p5, p6, p7, p8, p9⟩ := hSw; go_simp
            simp only [Act.put, List.getElem_toArray, List.getElem_cons_zero, List.setIfInBounds_toArray, List.set_cons_zero, List.set_cons_succ]
            refine wpAnyF_take (i := 1) (.agg #[.int .i64 x.alt, .int .i64 x.state, .slice A x.stack.length cx, .bool x.exact, .bool x.ended]) rfl (by kernel_rfl) (by kernel_rfl) (by kernel_rfl) (by kernel_rfl) (fun _ _ _ h => h) hHeld (by rfl) (fun w' hSw => ?_) ?_
            · obtain ⟨p0, p1, p2, p3, p4, p5, p6, p7, p8, p9⟩ := hSw; go_simp
            simp only [Act.put, List.getElem_toArray, List.getElem_cons_zero, List.getElem_cons_succ, List.setIfInBounds_toArray, List.set_cons_zero, List.set_cons_succ]
            refine wpAnyF_take (i := 2) (.pointer (some ⟨f.C, 0, none⟩)) rfl (by kernel_rfl) (by kernel_rfl) (by kernel_rfl) (by kernel_rfl) (fun _ _ _ h => h) hHeld (by rfl) (fun w' hSw => ?_) ?_
            · obtain ⟨p0, p1, p2, p3, p4, p5, p6, p7, p8, p9⟩ := hSw; go_simp
            simp only [Act.put, List.getElem_toArray, List.getElem_cons_zero, List.getElem_cons_succ, List.setIfInBounds_toArray, List.set_cons_zero, List.set_cons_succ]
            refine wpAnyF_take (i := 3) (.pointer (some ⟨f.C, 0, none⟩)) rfl (by kernel_rfl) (by kernel_rfl) (by kernel_rfl) (by kernel_rfl) (fun _ _ _ h => h) hHeld (by rfl) (fun w' hSw => ?_) ?_
            · obtain ⟨p0, p1, p2, p3, p4, p5, p6, p7, p8, p9⟩ := hSw; go_simp
            simp only [Act.put, List.getElem_toArray, List.getElem_cons_zero, List.getElem_cons_succ, List.setIfInBounds_toArray, List.set_cons_zero, List.set_cons_succ]
            refine wpAnyF_take (i := 4) (.pointer (some ⟨f.C, 0, none⟩)) rfl (by kernel_rfl) (by kernel_rfl) (by kernel_rfl) (by kernel_rfl) (fun _ _ _ h => h) hHeld (by rfl) (fun w' hSw => ?_) ?_
            · obtain ⟨p0, p1, p2, p3, p4, p5, p6, p7, p8, p9⟩ := hSw; go_simp
            simp only [Act.put, List.getElem_toArray, List.getElem_cons_zero, List.getElem_cons_succ, List.setIfInBounds_toArray, List.set_cons_zero, List.set_cons_succ]
            refine wpAnyF_take (i := 5) (.pointer (some ⟨f.V, 0, none⟩)) rfl (by kernel_rfl) (by kernel_rfl) (by kernel_rfl) (by kernel_rfl) (fun _ _ _ h => h) hHeld (by rfl) (fun w' hSw => ?_) ?_
            · obtain ⟨p0, p1, p2, p3, p4, p5, p6, p7, p8, p9⟩ := hSw; go_simp
            simp only [Act.put, List.getElem_toArray, List.getElem_cons_zero, List.getElem_cons_succ, List.setIfInBounds_toArray, List.set_cons_zero, List.set_cons_succ]
            refine wpAnyF_take (i := 6) (.pointer (some ⟨f.V, 0, none⟩)) rfl (by kernel_rfl) (by kernel_rfl) (by kernel_rfl) (by kernel_rfl) (fun _ _ _ h => h) hHeld (by rfl) (fun w' hSw => ?_) ?_
            · obtain ⟨p0, p1, p2, p3, p4, p5, p6, p7, p8, p9⟩ := hSw; go_simp
            simp only [Act.put, List.getElem_toArray, List.getElem_cons_zero, List.getElem_cons_succ, List.setIfInBounds_toArray, List.set_cons_zero, List.set_cons_succ]
            refine wpAnyF_take (i := 7) (.pointer (some ⟨f.V, 0, none⟩)) rfl (by kernel_rfl) (by kernel_rfl) (by kernel_rfl) (by kernel_rfl) (fun _ _ _ h => h) hHeld (by rfl) (fun w' hSw => ?_) ?_
            · obtain ⟨p0, p1, p2, p3, p4, p5, p6, p7, p8, p9⟩ := hSw; go_simp
            simp only [Act.put, List.getElem_toArray, List.getElem_cons_zero, List.getElem_cons_succ, List.setIfInBounds_toArray, List.set_cons_zero, List.set_cons_succ]
            refine wpAnyF_take (i := 8) (.pointer (some ⟨f.V, 1, none⟩)) rfl (by kernel_rfl) (by kernel_rfl) (by kernel_rfl) (by kernel_rfl) (fun _ _ _ h => h) hHeld (by rfl) (fun w' hSw => ?_) ?_
            · obtain ⟨p0, p1, p2, p3, p4, p5, p6, p7, p8, p9⟩ := hSw; go_simp
            simp only [Act.put, List.getElem_toArray, List.getElem_cons_zero, List.getElem_cons_succ, List.setIfInBounds_toArray, List.set_cons_zero, List.set_cons_succ]
            refine wpAnyF_take (i := 9) (.slice (some ⟨tb, tf, none⟩) f.v.n.starts.length f.a.tc) rfl (by kernel_rfl) (by kernel_rfl) (by kernel_rfl) (by kernel_rfl) (fun _ _ _ h => h) hHeld (by rfl) (fun w' hSw => ?_) ?_
            · obtain ⟨p0, p1, p2, p3, p4, p5, p6, p7, p8, p9⟩ := hSw; go_simp
            simp only [Act.put, List.getElem_toArray, List.getElem_cons_zero, List.getElem_cons_succ, List.setIfInBounds_toArray, List.set_cons_zero, List.set_cons_succ]
            refine wpAnyF_take (i := 10) (.pointer (some ⟨w.heap.size + 1, 1, none⟩)) rfl (by kernel_rfl) (by kernel_rfl) (by kernel_rfl) (by kernel_rfl) (fun _ _ _ h => h) hHeld (by rfl) (fun w' hSw => ?_) ?_
            · obtain ⟨p0, p1, p2, p3, p4, p5, p6, p7, p8, p9⟩ := hSw; go_simp
            simp only [Act.put, List.getElem_toArray, List.getElem_cons_zero, List.getElem_cons_succ, List.setIfInBounds_toArray, List.set_cons_zero, List.set_cons_succ]
            refine wpAnyF_take (i := 11) (.int .i64 (k : Int)) rfl (by kernel_rfl) (by kernel_rfl) (by kernel_rfl) (by kernel_rfl) (fun _ _ _ h => h) hHeld (by rfl) (fun w' hSw => ?_) ?_
            · obtain ⟨p0, p1, p2, p3, p4, p5, p6, p7, p8, p9⟩ := hSw; go_simp
            simp only [Act.put, List.getElem_toArray, List.getElem_cons_zero, List.getElem_cons_succ, List.setIfInBounds_toArray, List.set_cons_zero, List.set_cons_succ]
            refine wpAnyF_take (i := 12) (.pointer (some ⟨tb, tf + k, none⟩)) rfl (by kernel_rfl) (by kernel_rfl) (by kernel_rfl) (by kernel_rfl) (fun _ _ _ h => h) hHeld (by rfl) (fun w' hSw => ?_) ?_
            · obtain ⟨p0, p1, p2, p3, p4, p5, p6, p7, p8, p9⟩ := hSw; go_simp
            simp only [Act.put, List.getElem_toArray, List.getElem_cons_zero, List.getElem_cons_succ, List.setIfInBounds_toArray, List.set_cons_zero, List.set_cons_succ]
            refine wpAnyF_take (i := 13) (.int .i64 q) rfl (by kernel_rfl) (by kernel_rfl) (by kernel_rfl) (by kernel_rfl) (fun _ _ _ h => h) hHeld (by rfl) (fun w' hSw => ?_) ?_
            · obtain ⟨p0, p1, p2, p3, p4, p5, p6, p7, p8, p9⟩ := hSw; go_simp
            simp only [Act.put, List.getElem_toArray, List.getElem_cons_zero, List.getElem_cons_succ, List.setIfInBounds_toArray, List.set_cons_zero, List.set_cons_succ]
            refine wpAnyF_take (i := 14) (.pointer (some ⟨w.heap.size, 2, none⟩)) rfl (by kernel_rfl) (by kernel_rfl) (by kernel_rfl) (by kernel_rfl) (fun _ _ _ h => h) hHeld (by rfl) (fun w' hSw => ?_) ?_
            · obtain ⟨p0, p1, p2, p3, p4, p5, p6, p7, p8, p9⟩ := hSw; go_simp
            simp only [Act.put, List.getElem_toArray, List.getElem_cons_zero, List.getElem_cons_succ, List.setIfInBounds_toArray, List.set_cons_zero, List.set_cons_succ]
            refine wpAnyF_take (i := 15) (.slice A x.stack.length cx) rfl (by kernel_rfl) (by kernel_rfl) (by kernel_rfl) (by kernel_rfl) (fun _ _ _ h => h) hHeld (by rfl) (fun w' hSw => ?_) ?_
            · obtain ⟨p0, p1, p2, p3, p4, p5, p6, p7, p8, p9⟩ := hSw; go_simp
            simp only [Act.put, List.getElem_toArray, List.getElem_cons_zero, List.getElem_cons_succ, List.setIfInBounds_toArray, List.set_cons_zero, List.set_cons_succ]
            refine wpAnyF_take (i := 17) (.pointer (some ⟨w.heap.size + 1, 2, none⟩)) rfl (by kernel_rfl) (by kernel_rfl) (by kernel_rfl) (by kernel_rfl) (fun _ _ _ h => h) hHeld (by rfl) (fun w' hSw => ?_) ?_
            · obtain ⟨p0, p1, p2, p3, p4, p5, p6, p7, p8, p9⟩ := hSw; go_simp
            simp only [Act.put, List.getElem_toArray, List.getElem_cons_zero, List.getElem_cons_succ, List.setIfInBounds_toArray, List.set_cons_zero, List.set_cons_succ]
            refine wpAnyF_take (i := 18) (.int .i64 e.to) rfl (by kernel_rfl) (by kernel_rfl) (by kernel_rfl) (by kernel_rfl) (fun _ _ _ h => h) hHeld (by rfl) (fun w' hSw => ?_) ?_
            · obtain ⟨p0, p1, p2, p3, p4, p5, p6, p7, p8, p9⟩ := hSw; go_simp
            simp only [Act.put, List.getElem_toArray, List.getElem_cons_zero, List.getElem_cons_succ, List.setIfInBounds_toArray, List.set_cons_zero, List.set_cons_succ]
            refine wpAnyF_two 16 19 (by kernel_rfl) rfl rfl (fun K hK => ?_) (fun K hK => ?_)
            · go_simp
              go_at_call 58
              refine (cloneZ_any A x.stack.length cx ws.heap.size _ ws (by omega) HRS.out (by simp [Value.oneCell'])).mono ?_
              rintro _ w4 ⟨A4, c4', rfl, own4, hb4⟩
              dsimp only
              refine hK _ _ (ST.out _ hb4) (fun hHeld => ?_)
              clear hK
              clear K
              try simp only [Act.put, List.getElem_toArray, List.getElem_cons_zero, List.getElem_cons_succ, List.setIfInBounds_toArray, List.set_cons_zero, List.set_cons_succ]
              refine wpAnyF_step 19 (by kernel_rfl) rfl (fun K hK => ?_)
              go_simp
              have HLA := hid (hb4.trans ((below_new w4 (.cells #[.int .i64 e.to] 3)).mono hb4.size))
              refine hK _ _ (ST.out _ HLA.out) (fun hHeld => ?_)
              clear hK
              clear K
              try simp only [Act.put, List.getElem_toArray, List.getElem_cons_zero, List.getElem_cons_succ, List.setIfInBounds_toArray, List.set_cons_zero, List.set_cons_succ]
              refine wpAnyF_step 20 (by kernel_rfl) rfl (fun K hK => ?_)
              refine step_pushG (w4.alloc (.cells #[.int .i64 e.to] 3)) rfl _ _ 23 rfl ws.heap.size 3 z0 _ 1 8 Tryz.underlying23 hz0 hz1 hz2 hz3 rfl (by omega) _ x.stack.length _ rfl (own4.alloc _) [.int .i64 e.to] 1 _ rfl rfl (fun j u hj => by rcases j with _ | j; (injection hj with hj; subst hj; rw [addr_off, cell_new]; rfl); cases hj) (by simp [Value.oneCell']) Nat.zero_lt_one hmx hmy HLA.out.size ?_
              intro gg cg w6 own6 hgg ho6
              have HL6 := hid (ho6.below (fun b hb => (World.ownsRow.lt own4 b hb).1) HLA.out HLA.out.size)
              refine hK _ _ (ST.out _ HL6.out) (fun hHeld => ?_)
              clear hK
              clear K
              try simp only [Act.put, List.getElem_toArray, List.getElem_cons_zero, List.getElem_cons_succ, List.setIfInBounds_toArray, List.set_cons_zero, List.set_cons_succ]
              refine wpAnyF_step 21 (by kernel_rfl) rfl (fun K hK => ?_)
              go_simp
              go_at_call 36
              refine (at_any x A cx q (some ⟨gg, 0, none⟩) (x.stack.length + 1) cg true _).mono ?_
              rintro _ w7 ⟨rfl, hb7⟩
              dsimp only
              rw [Bool.and_true]
              have HL7 := hid (HL6.out.trans (hb7.mono HL6.out.size))
              refine hK _ _ (ST.out _ HL7.out) (fun hHeld => ?_)
              clear hK
              clear K
              try simp only [Act.put, List.getElem_toArray, List.getElem_cons_zero, List.getElem_cons_succ, List.setIfInBounds_toArray, List.set_cons_zero, List.set_cons_succ]
              refine wpAnyF_step 22 (by kernel_rfl) rfl (fun K hK => ?_)
              go_simp
              go_at_call 51
              have hC7 := HCS.out.below HL7.out
              have hS7 := Steps.of_below HCS.out.lt HL7.out
              have hin7 := fun b hb => HINS.out w7 HL7.out b hb
              have hown7 := ownsRow_below own6 hb7 (Nat.le_refl _)
              have hge := own_ge hown7
              have hr7 : RO w7 (ClS w7 f) 1 (some ⟨gg, 0, none⟩) (x.stack ++ [e.to]).length ((x.stack ++ [e.to]).map (Value.int .i64)) := by
                have hr := Reads.of_own hown7
                rw [List.length_append, List.length_singleton, List.map_append]
                refine ⟨by simp, fun _ => ?_⟩
                obtain ⟨b, o, hA, hbl, hcc⟩ := hr.2 (by omega)
                refine ⟨b, o, hA, hbl, fun hc => ?_, hcc⟩
                injection hA with hA
                injection hA with hA
                have h1 := hin7 b hc
                have h2 := HWS.out
                omega
              have hm := meet_any f c ⟨x.alt, q, x.stack ++ [e.to], x.exact, false⟩ (some ⟨gg, 0, none⟩) cg w7 hC7 HS.out ⟨HX.out.alt, HQI.out, fun n hn => by rcases List.mem_append.1 hn with hn | hn; exact HX.out.stack n hn; rw [List.mem_singleton.1 hn]; exact he.tgt, by rw [List.length_append]; exact hlx⟩ (by rw [List.length_append]; exact own_cap hown7) hr7
              simp only [List.length_append, List.length_singleton] at hm
              refine hm.mono ?_
              rintro _ w8 ⟨rfl, hC8, hS8⟩
              dsimp only
              refine hK _ _ (HS8.out w7 HL7.out w8 hC8 hS8) (fun hHeld => ?_)
              clear hK
              clear K
              refine ⟨by kernel_rfl, ?_⟩
              clear hHeld
              go_wp2
              go_end0
              exact ⟨rfl, hC8, (HSS.out.trans hS7).trans hS8⟩
            · go_simp
              have HLA := hid (below_new ws (.cells #[.int .i64 e.to] 3))
              refine hK _ _ (ST.out _ HLA.out) (fun hHeld => ?_)
              clear hK
              clear K
              try simp only [Act.put, List.getElem_toArray, List.getElem_cons_zero, List.getElem_cons_succ, List.setIfInBounds_toArray, List.set_cons_zero, List.set_cons_succ]
              refine wpAnyF_step 16 (by kernel_rfl) rfl (fun K hK => ?_)
              go_simp
              go_at_call 58
              refine (cloneZ_any A x.stack.length cx (ws.alloc (.cells #[.int .i64 e.to] 3)).heap.size _ (ws.alloc (.cells #[.int .i64 e.to] 3)) (by omega) (HRS2.out _) (by simp [Value.oneCell'])).mono ?_
              rintro _ w5 ⟨A4, c4', rfl, own5, hb5⟩
              dsimp only
              have HLB := hid (HLA.out.trans (hb5.mono HLA.out.size))
              have hnew5 : w5.cell? ⟨ws.heap.size, 0, none⟩ = some (.int .i64 e.to) := (hb5.cell (p := ⟨ws.heap.size, 0, none⟩) (by simp)).trans (by rw [cell_new]; rfl)
              have own5 := own_lower own5 (Nat.le_of_lt (show ws.heap.size < (ws.alloc (.cells #[.int .i64 e.to] 3)).heap.size by simp))
              refine hK _ _ (ST.out _ HLB.out) (fun hHeld => ?_)
              clear hK
              clear K
              try simp only [Act.put, List.getElem_toArray, List.getElem_cons_zero, List.getElem_cons_succ, List.setIfInBounds_toArray, List.set_cons_zero, List.set_cons_succ]
              refine wpAnyF_step 20 (by kernel_rfl) rfl (fun K hK => ?_)
              refine step_pushG w5 rfl _ _ 23 rfl ws.heap.size 3 z0 _ 1 8 Tryz.underlying23 hz0 hz1 hz2 hz3 rfl (by omega) _ x.stack.length _ rfl own5 [.int .i64 e.to] 1 _ rfl rfl (fun j u hj => by rcases j with _ | j; (injection hj with hj; subst hj; rw [addr_off]; exact hnew5); cases hj) (by simp [Value.oneCell']) Nat.zero_lt_one hmx hmy HLB.out.size ?_
              intro gg cg w6 own6 hgg ho6
              have HL6 := hid (ho6.below (fun b hb => (World.ownsRow.lt own5 b hb).1) HLB.out HLB.out.size)
              refine hK _ _ (ST.out _ HL6.out) (fun hHeld => ?_)
              clear hK
              clear K
              try simp only [Act.put, List.getElem_toArray, List.getElem_cons_zero, List.getElem_cons_succ, List.setIfInBounds_toArray, List.set_cons_zero, List.set_cons_succ]
              refine wpAnyF_step 21 (by kernel_rfl) rfl (fun K hK => ?_)
              go_simp
              go_at_call 36
              refine (at_any x A cx q (some ⟨gg, 0, none⟩) (x.stack.length + 1) cg true _).mono ?_
              rintro _ w7 ⟨rfl, hb7⟩
              dsimp only
              rw [Bool.and_true]
              have HL7 := hid (HL6.out.trans (hb7.mono HL6.out.size))
              refine hK _ _ (ST.out _ HL7.out) (fun hHeld => ?_)
              clear hK
              clear K
              try simp only [Act.put, List.getElem_toArray, List.getElem_cons_zero, List.getElem_cons_succ, List.setIfInBounds_toArray, List.set_cons_zero, List.set_cons_succ]
              refine wpAnyF_step 22 (by kernel_rfl) rfl (fun K hK => ?_)
              go_simp
              go_at_call 51
              have hC7 := HCS.out.below HL7.out
              have hS7 := Steps.of_below HCS.out.lt HL7.out
              have hin7 := fun b hb => HINS.out w7 HL7.out b hb
              have hown7 := ownsRow_below own6 hb7 (Nat.le_refl _)
              have hge := own_ge hown7
              have hr7 : RO w7 (ClS w7 f) 1 (some ⟨gg, 0, none⟩) (x.stack ++ [e.to]).length ((x.stack ++ [e.to]).map (Value.int .i64)) := by
                have hr := Reads.of_own hown7
                rw [List.length_append, List.length_singleton, List.map_append]
                refine ⟨by simp, fun _ => ?_⟩
                obtain ⟨b, o, hA, hbl, hcc⟩ := hr.2 (by omega)
                refine ⟨b, o, hA, hbl, fun hc => ?_, hcc⟩
                injection hA with hA
                injection hA with hA
                have h1 := hin7 b hc
                have h2 := HWS.out
                omega
              have hm := meet_any f c ⟨x.alt, q, x.stack ++ [e.to], x.exact, false⟩ (some ⟨gg, 0, none⟩) cg w7 hC7 HS.out ⟨HX.out.alt, HQI.out, fun n hn => by rcases List.mem_append.1 hn with hn | hn; exact HX.out.stack n hn; rw [List.mem_singleton.1 hn]; exact he.tgt, by rw [List.length_append]; exact hlx⟩ (by rw [List.length_append]; exact own_cap hown7) hr7
              simp only [List.length_append, List.length_singleton] at hm
              refine hm.mono ?_
              rintro _ w8 ⟨rfl, hC8, hS8⟩
              dsimp only
              refine hK _ _ (HS8.out w7 HL7.out w8 hC8 hS8) (fun hHeld => ?_)
              clear hK
              clear K
              refine ⟨by kernel_rfl, ?_⟩
              clear hHeld
              go_wp2
              go_end0
              exact ⟨rfl, hC8, (HSS.out.trans hS7).trans hS8⟩
    have d2 : (e.kind == 2) = false := by rw [beq_eq_false_iff_ne]; exact k2
    have hy : Cf.by1 f.v x plain c e = c := by unfold Cf.by1; rw [if_neg k0, if_neg k3, if_neg k1, if_neg k2]
    rw [hy]
    clear hy k0 k1 k2 k3
    go_enter Tryz.func80, Tryz.ntmps80
    go_wp2_with fail
    rw [HW.out]
    go_wp2_with fail
    go_end0
    exact ⟨rfl, HCL.out, HS1.out⟩
end Go.Proofs.YtnpcjbdolmmaeaaGreatDoor
