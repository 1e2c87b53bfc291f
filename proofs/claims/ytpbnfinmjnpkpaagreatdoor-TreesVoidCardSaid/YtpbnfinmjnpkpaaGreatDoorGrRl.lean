/-
  Checks: all that is wrong with one rule (check.rule): the walk.
-/
import Derived.Test.YtpbnfinmjnpkpaaGreatDoorGrR3
import Derived.Deep.CutBlock
namespace Go.Proofs.YtpbnfinmjnpkpaaGreatDoor
open Go.RowKit
set_option maxRecDepth 100000
/-- a block of another type is kept where problems are told -/
theorem kpt_cells {B cb : Nat} {u u' : World} (h : KpT B (TlC cb) u u') {c0 cs : Array Value} {k : Nat} {T : TypeId} (hc : u.heap[cb]? = some (.cells c0 210 (0, 0))) (hk : u.heap[k]? = some (.cells cs T (0, 0))) (h1 : T ≠ 210) (h2 : T ≠ 215) : u'.heap[k]? = some (.cells cs T (0, 0)) := by
  refine h.2 _ _ _ hk (fun e => ?_)
  rcases e with e | e
  · rw [e, hc] at hk
    injection hk with hk
    injection hk with _ hk
    exact h1 hk.symm
  · exact h2 e
theorem MatM.kpt {B cb Wb ob n i : Nat} {rb : Nat → Nat} {F : Nat → Nat → Bool} {u u' : World} (h : MatM Wb ob n i rb F u) (hk : KpT B (TlC cb) u u') {c0 : Array Value} (hc : u.heap[cb]? = some (.cells c0 210 (0, 0))) : MatM Wb ob n i rb F u' :=
  ⟨kpt_cells hk hc h.outer (by decide) (by decide), fun j hj => ⟨kpt_cells hk hc (h.row j hj).1 (by decide) (by decide), (h.row j hj).2⟩, h.inj, h.le⟩
/-- what a check knows: what may be empty, who reaches whom -/
structure KnoR (rs : List Gr.Ru) (b1 b2 kb ob1 ob2 : Nat) (rb1 rb2 : Nat → Nat) (u : World) : Prop where
  e : u.heap[kb]? = some (.cells ((Gr.emptyR rs).map Value.bool).toArray 4 (0, 0))
  m1 : MatM b1 ob1 rs.length rs.length rb1 (Gr.reachF rs) u
  m2 : MatM b2 ob2 rs.length rs.length rb2 (Gr.roundF rs) u
theorem KnoR.kpt {B cb b1 b2 kb ob1 ob2 : Nat} {rs : List Gr.Ru} {rb1 rb2 : Nat → Nat} {u u' : World} (h : KnoR rs b1 b2 kb ob1 ob2 rb1 rb2 u) (hk : KpT B (TlC cb) u u') {c0 : Array Value} (hc : u.heap[cb]? = some (.cells c0 210 (0, 0))) : KnoR rs b1 b2 kb ob1 ob2 rb1 rb2 u' :=
  ⟨kpt_cells hk hc h.e (by decide) (by decide), h.m1.kpt hk hc, h.m2.kpt hk hc⟩
theorem KnoR.next {b1 b2 kb ob1 ob2 : Nat} {rs : List Gr.Ru} {rb1 rb2 : Nat → Nat} {u u' : World} (h : KnoR rs b1 b2 kb ob1 ob2 rb1 rb2 u) (hb : Below u.heap.size u u') : KnoR rs b1 b2 kb ob1 ob2 rb1 rb2 u' :=
  ⟨(hb.block _ (heap_lt h.e)).trans h.e, h.m1.next hb, h.m2.next hb⟩
namespace Gr
theorem findR_self {rs : List Ru} {i : Nat} (hi : i < rs.length) : ∃ j, findR rs (ruAt rs i).name = some j ∧ j ≤ i := by
  have h1 : (findR rs (ruAt rs i).name).isSome = true := by
    unfold findR
    rw [List.findIdx?_isSome, List.any_eq_true]
    exact ⟨rs[i], List.getElem_mem hi, by rw [ruAt_eq hi]; simp⟩
  obtain ⟨j, hj⟩ := Option.isSome_iff_exists.1 h1
  refine ⟨j, hj, ?_⟩
  obtain ⟨_, _, h2⟩ := List.findIdx?_eq_some_iff_getElem.1 hj
  rcases Nat.lt_or_ge i j with h | h
  · have := h2 i h
    rw [ruAt_eq hi] at this
    simp at this
  · exact h
/-- the seven kinds of problems of a rule -/
def p1 (rs : List Ru) (i : Nat) : List Pb := if decide ((findR rs (ruAt rs i).name).getD 0 < i) then [⟨1, i, (ruAt rs i).name⟩] else []
def p4 (rs : List Ru) (i : Nat) : List Pb := if (ruAt rs i).sort == 0 && reachF rs i i then [⟨4, i, (ruAt rs i).name⟩] else []
def p5 (rs : List Ru) (i : Nat) : List Pb := if roundF rs i i then [⟨5, i, (ruAt rs i).name⟩] else []
def p7 (rs : List Ru) (i : Nat) : List Pb := if (emptyR rs).getD i false && ((ruAt rs i).sort == 1 || (ruAt rs i).sort == 3) then [⟨7, i, (ruAt rs i).name⟩] else []
end Gr
theorem ruleP_eq (rs : List Gr.Ru) (i : Nat) : Gr.ruleP rs i = Gr.p1 rs i ++ Gr.nodesP (Gr.ruAt rs i) i 2 (noneB rs) false ++ Gr.nodesP (Gr.ruAt rs i) i 3 (sortB rs (Gr.ruAt rs i)) false ++ Gr.p4 rs i ++ Gr.p5 rs i ++ Gr.nodesP (Gr.ruAt rs i) i 6 (loopB rs i) true ++ Gr.p7 rs i := by
  have e : loopB rs i = fun n => (n.kind == 3 || n.kind == 4) && (match n.subs with
    | [] => false
    | x :: _ => Gr.mayN rs (Gr.emptyR rs) (Gr.isTok (Gr.ruAt rs i)) x) := by
    funext nd
    unfold loopB headB
    cases nd.subs <;> rfl
  rw [e]
  rfl
section
variable {w0 : World} {B : Nat} {rs : List Gr.Ru} {gn : List UInt8} {bd sta : Int} {RA : Option Addr} {rc cb : Nat}
/-- amid a rule -/
def RlI (B : Nat) (rs : List Gr.Ru) (gn : List UInt8) (bd sta : Int) (RA : Option Addr) (rc cb kb ob1 ob2 : Nat) (W3 : World) (out : List Gr.Pb) (u : World) : Prop :=
  OutR B cb (Gr.strV gn) (.int .i64 bd) (.int .i64 sta) (.slice RA rs.length rc) (.slice (some ⟨kb, 0, none⟩) rs.length rs.length) (.slice (some ⟨ob1, 0, none⟩) rs.length rs.length) (.slice (some ⟨ob2, 0, none⟩) rs.length rs.length) out u ∧ KpT B (TlC cb) W3 u
theorem nodes_rl {kb ob1 ob2 : Nat} {W3 u : World} {O : List Gr.Pb} {i code : Nat} {own : Bool} {wf : Nat} {lb : Array Value} {wr : Gr.Nd → Bool} (h : RlI B rs gn bd sta RA rc cb kb ob1 ob2 W3 O u) (hcb : B ≤ cb) (hB : B ≤ u.heap.size) (hr : RsAt w0 B RA rs) (hb : Below B w0 u) (hi : i < rs.length)
    (hl : O.length + (Gr.ndT (Gr.ruAt rs i).body).length ≤ 1000000000) (hown : own = (code == 6)) (eg : ∀ args w, (callFunc wf args).run Tryz.prog w = .ok (.enter wf args) w)
    (hw : ∀ (x : NdIt w0 B) (u' : World), KpT B (TlC cb) u u' → (∃ O', OutR B cb (Gr.strV gn) (.int .i64 bd) (.int .i64 sta) (.slice RA rs.length rc) (.slice (some ⟨kb, 0, none⟩) rs.length rs.length) (.slice (some ⟨ob1, 0, none⟩) rs.length rs.length) (.slice (some ⟨ob2, 0, none⟩) rs.length rs.length) O' u') → Calls Tryz.prog wf (#[.agg x.cs.toArray] ++ lb) u' fun e u'' => e = .returned (.bool (wr x.n)) ∧ Below u'.heap.size u' u'') :
    Calls Tryz.prog 162 #[.pointer (some ⟨cb, 0, none⟩), .int .i64 (i : Int), .int .u8 (code : Int), .func (.func wf) #[] lb] u fun e u' => (∃ v, e = .returned v) ∧ RlI B rs gn bd sta RA rc cb kb ob1 ob2 W3 (O ++ Gr.nodesP (Gr.ruAt rs i) i code wr own) u' := by
  have h1 := nodes_any cb gn bd sta RA rc _ _ _ O i code own wf lb wr u h.1 hcb hB hr hb hi hl hown eg hw
  exact h1.mono fun e u' h9 => ⟨h9.1, h9.2.1, h.2.trans h9.2.2⟩
set_option maxHeartbeats 16000000 in
theorem rule_of (kb ob1 ob2 b1 b2 : Nat) (rb1 rb2 : Nat → Nat) (out : List Gr.Pb) (i : Nat) (W : World)
    (h : OutR B cb (Gr.strV gn) (.int .i64 bd) (.int .i64 sta) (.slice RA rs.length rc) (.slice (some ⟨kb, 0, none⟩) rs.length rs.length) (.slice (some ⟨ob1, 0, none⟩) rs.length rs.length) (.slice (some ⟨ob2, 0, none⟩) rs.length rs.length) out W)
    (hkn : KnoR rs b1 b2 kb ob1 ob2 rb1 rb2 W) (hcb : B ≤ cb) (hbs : B ≤ W.heap.size) (hr : RsAt w0 B RA rs) (hb : Below B w0 W) (hi : i < rs.length) (hlen : out.length ≤ 100000000) (hln : (Gr.ndT (Gr.ruAt rs i).body).length ≤ 100000000) :
    Calls Tryz.prog 129 #[.pointer (some ⟨cb, 0, none⟩), .int .i64 (i : Int)] W fun e W' => (∃ v, e = .returned v) ∧ RlI B rs gn bd sta RA rc cb kb ob1 ob2 W (out ++ Gr.ruleP rs i) W' := by
  obtain ⟨xs, hr1, hr2⟩ := hr.r
  obtain ⟨b, o, u0, u1, u2, u3, u4, u5, u6, u7, u8, u9, hRA, hbB, hru, c0, c1, c2, c3, c4, c5, c6, c7, c8, c9⟩ := readsRu hr1 hr2 i hi
  obtain ⟨xk, xm, xt, xSA, xa, xsc, xUA, xb, xuc, z0, z1, z2, hv, hnd⟩ := hru.form
  have hui : rs[i] = Gr.ruAt rs i := (ruAt_eq hi).symm
  injection hv with hv0 hv
  injection hv with hv1 hv
  injection hv with hv2 hv
  injection hv with hv3 hv
  injection hv with hv4 hv
  injection hv with hv5 hv
  injection hv with hv6 hv
  injection hv with hv7 hv
  injection hv with hv8 hv
  injection hv with hv9 hv
  subst hv0 hv1 hv2 hv3 hv4 hv5 hv6 hv7 hv8 hv9
  rw [hui] at hru hnd c0 c1
  have hokr := hr.ok rs[i] (List.getElem_mem hi)
  rw [hui] at hokr
  obtain ⟨rnm, hrnm⟩ : ∃ x, (Gr.ruAt rs i).name = x := ⟨_, rfl⟩
  obtain ⟨rk, hrk⟩ : ∃ x, (Gr.ruAt rs i).sort = x := ⟨_, rfl⟩
  rw [hrnm, hrk] at hru
  rw [hrnm] at c0
  rw [hrk] at c1
  have HRNM := hid (And.intro hrnm hrk)
  have HRU := hid hru
  have HRUU : Hid (RuR w0 B (Gr.ruAt rs i) [.string ⟨rnm.toArray⟩, .int .u8 (rk : Int), .int .u8 xk, .string xm, .string xt, .slice xSA xa xsc, .slice xUA xb xuc, .int .i64 z0, .int .i64 z1, .int .i64 z2]) := hid hru
  have HRA := hid hRA
  unfold Gr.strV at c0
  have e0 := (hb.cell (p := ⟨b, o + i * 10, none⟩) hbB).trans c0
  have e1 := (hb.cell (p := ⟨b, o + i * 10 + 1, none⟩) hbB).trans c1
  have e2 := (hb.cell (p := ⟨b, o + i * 10 + 2, none⟩) hbB).trans c2
  have e3 := (hb.cell (p := ⟨b, o + i * 10 + 3, none⟩) hbB).trans c3
  have e4 := (hb.cell (p := ⟨b, o + i * 10 + 4, none⟩) hbB).trans c4
  have e5 := (hb.cell (p := ⟨b, o + i * 10 + 5, none⟩) hbB).trans c5
  have e6 := (hb.cell (p := ⟨b, o + i * 10 + 6, none⟩) hbB).trans c6
  have e7 := (hb.cell (p := ⟨b, o + i * 10 + 7, none⟩) hbB).trans c7
  have e8 := (hb.cell (p := ⟨b, o + i * 10 + 8, none⟩) hbB).trans c8
  have e9 := (hb.cell (p := ⟨b, o + i * 10 + 9, none⟩) hbB).trans c9
  have h' := h
  obtain ⟨ov, hC, _⟩ := h'
  have g3 : W.cell? ⟨cb, 3, none⟩ = some (.slice RA rs.length rc) := by rw [Lib.cell_of_heap hC]; rfl
  have hcl := heap_lt hC
  have hbl : b < W.heap.size := by omega
  obtain ⟨n, hn⟩ : ∃ n, rs.length = n := ⟨_, rfl⟩
  rw [hRA, hn] at g3
  have hiI : (i : Int) < (n : Int) := by omega
  have hi0 : (0 : Int) ≤ (i : Int) := by omega
  have HN := hid hn
  have HST := hid (And.intro hkn (And.intro hr (And.intro hb (And.intro hi (And.intro hlen hln)))))
  have HH := hid h
  have y1 : (W.alloc (.cells #[.pointer (some ⟨cb, 0, none⟩)] 208)).heap.size = W.heap.size + 1 := by simp
  have hb1 : Below W.heap.size W ((W.alloc (.cells #[.pointer (some ⟨cb, 0, none⟩)] 208)).alloc (.cells #[.int .i64 (i : Int)] 3)) := (below_new _ _).alloc (by omega) _
  have hh0 : ((W.alloc (.cells #[.pointer (some ⟨cb, 0, none⟩)] 208)).alloc (.cells #[.int .i64 (i : Int)] 3)).heap[W.heap.size]? = some (.cells #[.pointer (some ⟨cb, 0, none⟩)] 208 (0, 0)) := by rw [Below.heap_alloc _ _ _ (by omega)]; exact heap_alloc_new _ _
  have hh1 : ((W.alloc (.cells #[.pointer (some ⟨cb, 0, none⟩)] 208)).alloc (.cells #[.int .i64 (i : Int)] 3)).heap[W.heap.size + 1]? = some (.cells #[.int .i64 (i : Int)] 3 (0, 0)) := by rw [← y1]; exact heap_alloc_new _ _
  obtain ⟨W1, hW1⟩ : ∃ W1, Hid (((W.alloc (.cells #[.pointer (some ⟨cb, 0, none⟩)] 208)).alloc (.cells #[.int .i64 (i : Int)] 3)) = W1) := ⟨_, hid rfl⟩
  rw [hW1.out] at hb1 hh0 hh1
  have hl1 : W.heap.size + 1 < W1.heap.size := heap_lt hh1
  have hbl1 : b < W1.heap.size := by omega
  have hcl1 : cb < W1.heap.size := by omega
  have hxl1 : W.heap.size < W1.heap.size := by omega
  have f0 := (hb1.cell (p := ⟨b, o + i * 10, none⟩) hbl).trans e0
  have t0 := fun ob : Obj => ((below_new W1 ob).cell (p := ⟨b, o + i * 10, none⟩) hbl1).trans f0
  have f1 := (hb1.cell (p := ⟨b, o + i * 10 + 1, none⟩) hbl).trans e1
  have t1 := fun ob : Obj => ((below_new W1 ob).cell (p := ⟨b, o + i * 10 + 1, none⟩) hbl1).trans f1
  have f2 := (hb1.cell (p := ⟨b, o + i * 10 + 2, none⟩) hbl).trans e2
  have t2 := fun ob : Obj => ((below_new W1 ob).cell (p := ⟨b, o + i * 10 + 2, none⟩) hbl1).trans f2
  have f3 := (hb1.cell (p := ⟨b, o + i * 10 + 3, none⟩) hbl).trans e3
  have t3 := fun ob : Obj => ((below_new W1 ob).cell (p := ⟨b, o + i * 10 + 3, none⟩) hbl1).trans f3
  have f4 := (hb1.cell (p := ⟨b, o + i * 10 + 4, none⟩) hbl).trans e4
  have t4 := fun ob : Obj => ((below_new W1 ob).cell (p := ⟨b, o + i * 10 + 4, none⟩) hbl1).trans f4
  have f5 := (hb1.cell (p := ⟨b, o + i * 10 + 5, none⟩) hbl).trans e5
  have t5 := fun ob : Obj => ((below_new W1 ob).cell (p := ⟨b, o + i * 10 + 5, none⟩) hbl1).trans f5
  have f6 := (hb1.cell (p := ⟨b, o + i * 10 + 6, none⟩) hbl).trans e6
  have t6 := fun ob : Obj => ((below_new W1 ob).cell (p := ⟨b, o + i * 10 + 6, none⟩) hbl1).trans f6
  have f7 := (hb1.cell (p := ⟨b, o + i * 10 + 7, none⟩) hbl).trans e7
  have t7 := fun ob : Obj => ((below_new W1 ob).cell (p := ⟨b, o + i * 10 + 7, none⟩) hbl1).trans f7
  have f8 := (hb1.cell (p := ⟨b, o + i * 10 + 8, none⟩) hbl).trans e8
  have t8 := fun ob : Obj => ((below_new W1 ob).cell (p := ⟨b, o + i * 10 + 8, none⟩) hbl1).trans f8
  have f9 := (hb1.cell (p := ⟨b, o + i * 10 + 9, none⟩) hbl).trans e9
  have t9 := fun ob : Obj => ((below_new W1 ob).cell (p := ⟨b, o + i * 10 + 9, none⟩) hbl1).trans f9
  have s0 : W1.cell? ⟨W.heap.size, 0, none⟩ = some (.pointer (some ⟨cb, 0, none⟩)) := by rw [Lib.cell_of_heap hh0]; rfl
  have s1 : W1.cell? ⟨W.heap.size + 1, 0, none⟩ = some (.int .i64 (i : Int)) := by rw [Lib.cell_of_heap hh1]; rfl
  have s3 := (hb1.cell (p := ⟨cb, 3, none⟩) hcl).trans g3
  have t10 := fun ob : Obj => ((below_new W1 ob).cell (p := ⟨W.heap.size, 0, none⟩) hxl1).trans s0
  have t11 := fun ob : Obj => ((below_new W1 ob).cell (p := ⟨W.heap.size + 1, 0, none⟩) hl1).trans s1
  have t12 := fun ob : Obj => ((below_new W1 ob).cell (p := ⟨cb, 3, none⟩) hcl1).trans s3
  have HB1 := hid hb1
  have HHH := hid (And.intro hh0 hh1)
  clear hb1 hh0 hh1 y1 c0 c1 c2 c3 c4 c5 c6 c7 c8 c9 e0 e1 e2 e3 e4 e5 e6 e7 e8 e9 g3 hC h hkn hr hb hlen hln hr1 hr2 hn hokr hru hRA hrnm hrk hui hv
  go_enter Tryz.func129, Tryz.ntmps129
  go_upto_region 1 with fail
  rw [hW1.out]
  clear hW1
  go_region
  have hb3 := (below_new W1 (.cells #[.string ⟨rnm.toArray⟩, .int .u8 (rk : Int), .int .u8 xk, .string xm, .string xt, .slice xSA xa xsc, .slice xUA xb xuc, .int .i64 z0, .int .i64 z1, .int .i64 z2] 80)).drew
  have hh3 : (W1.alloc (.cells #[.string ⟨rnm.toArray⟩, .int .u8 (rk : Int), .int .u8 xk, .string xm, .string xt, .slice xSA xa xsc, .slice xUA xb xuc, .int .i64 z0, .int .i64 z1, .int .i64 z2] 80)).drew.heap[W1.heap.size]? = some (.cells #[.string ⟨rnm.toArray⟩, .int .u8 (rk : Int), .int .u8 xk, .string xm, .string xt, .slice xSA xa xsc, .slice xUA xb xuc, .int .i64 z0, .int .i64 z1, .int .i64 z2] 80 (0, 0)) := heap_alloc_new W1 _
  generalize (W1.alloc (.cells #[.string ⟨rnm.toArray⟩, .int .u8 (rk : Int), .int .u8 xk, .string xm, .string xt, .slice xSA xa xsc, .slice xUA xb xuc, .int .i64 z0, .int .i64 z1, .int .i64 z2] 80)).drew = W3 at hb3 hh3 ⊢
  have hw03 : Below W.heap.size W W3 := HB1.out.trans (hb3.mono HB1.out.size)
  have q0 := (hb3.block _ hxl1).trans HHH.out.1
  have q1 := (hb3.block _ hl1).trans HHH.out.2
  have HBX := hid (fun (u : World) (h : KpT B (TlC cb) W3 u) => (show u.heap[W.heap.size]? = some (.cells #[.pointer (some ⟨cb, 0, none⟩)] 208 (0, 0)) ∧ u.heap[W.heap.size + 1]? = some (.cells #[.int .i64 (i : Int)] 3 (0, 0)) ∧ u.heap[W1.heap.size]? = some (.cells #[.string ⟨rnm.toArray⟩, .int .u8 (rk : Int), .int .u8 xk, .string xm, .string xt, .slice xSA xa xsc, .slice xUA xb xuc, .int .i64 z0, .int .i64 z1, .int .i64 z2] 80 (0, 0)) from
    ⟨h.2 _ _ _ q0 (fun e => e.elim (fun e => by omega) (fun e => absurd e (by decide))), h.2 _ _ _ q1 (fun e => e.elim (fun e => by omega) (fun e => absurd e (by decide))), h.2 _ _ _ hh3 (fun e => e.elim (fun e => by omega) (fun e => absurd e (by decide)))⟩))
  have HK03 : Hid (KpT B (TlC cb) W W3) := hid (KpT.of hw03 hbs)
  have HB03 := hid hw03
  have HR0 : Hid (RlI B rs gn bd sta RA rc cb kb ob1 ob2 W3 out W3) := hid ⟨HH.out.next hw03, KpT.refl _ _ _⟩
  have HCK := hid (fun (u : World) (O : List Gr.Pb) (h : RlI B rs gn bd sta RA rc cb kb ob1 ob2 W3 O u) => (show ChkR w0 B rs gn bd sta RA rc cb W.heap.size u ∧ KnoR rs b1 b2 kb ob1 ob2 rb1 rb2 u from by
    have hk := HK03.out.trans h.2
    obtain ⟨ov, h1, _⟩ := h.1
    obtain ⟨_, h3, _⟩ := HH.out
    exact ⟨⟨HST.out.2.2.1.trans hk.1, Nat.le_trans hbs hk.1.size, HST.out.2.1, (HBX.out u h.2).1, _, _, _, ov, h1⟩, HST.out.1.kpt hk h3⟩))
  clear f0 f1 f2 f3 f4 f5 f6 f7 f8 f9 t0 t1 t2 t3 t4 t5 t6 t7 t8 t9 t10 t11 t12 s0 s1 s3 hb3 hh3 hw03 q0 q1
  obtain ⟨j, hj, hji⟩ := Gr.findR_self HST.out.2.2.2.1
  rw [HRNM.out.1] at hj
  obtain ⟨tb, htb⟩ : ∃ t, decide (j < i) = t := ⟨_, rfl⟩
  have HP1 := hid (show Gr.p1 rs i = if tb = true then [⟨1, (i : Int), rnm⟩] else [] by unfold Gr.p1; rw [HRNM.out.1, hj, ← htb]; rfl)
  have htb2 : decide ((j : Int) < (i : Int)) = tb := by rw [← htb]; exact decide_eq_decide.2 (by omega)
  have HTB := hid (And.intro htb htb2)
  have hck := HCK.out _ _ HR0.out
  obtain ⟨_, _, _, hX, x4, x5, x6, ov, hC⟩ := hck.1
  obtain ⟨_, hI, hRl⟩ := HBX.out W3 HR0.out.2
  have hFN := fun (d : Nat) (os : Array Obj) => Calls.regrown_of (find_any rs gn rnm bd sta RA rc (Sort.grow (redrawn W3 d) os) HST.out.2.1 (hck.1.b.trans ((below_regrown W3 d os).mono hck.1.hB)) (Nat.le_trans hck.1.hB (below_regrown W3 d os).size))
  rw [hj] at hFN
  unfold idxAns at hFN
  unfold Gr.strV at hFN hC
  have HFN := hid hFN
  have s0 : W3.cell? ⟨W.heap.size, 0, none⟩ = some (.pointer (some ⟨cb, 0, none⟩)) := by rw [Lib.cell_of_heap hX]; rfl
  have s1 : W3.cell? ⟨W.heap.size + 1, 0, none⟩ = some (.int .i64 (i : Int)) := by rw [Lib.cell_of_heap hI]; rfl
  have a0 : W3.cell? ⟨cb, 0, none⟩ = some (.string ⟨gn.toArray⟩) := by rw [Lib.cell_of_heap hC]; rfl
  have a1 : W3.cell? ⟨cb, 1, none⟩ = some (.int .i64 bd) := by rw [Lib.cell_of_heap hC]; rfl
  have a2 : W3.cell? ⟨cb, 2, none⟩ = some (.int .i64 sta) := by rw [Lib.cell_of_heap hC]; rfl
  have a3 : W3.cell? ⟨cb, 3, none⟩ = some (.slice RA rs.length rc) := by rw [Lib.cell_of_heap hC]; rfl
  have r0 : W3.cell? ⟨W1.heap.size, 0, none⟩ = some (.string ⟨rnm.toArray⟩) := by rw [Lib.cell_of_heap hRl]; rfl
  have S0 := fun d os => cell_regrown s0 d os
  have S1 := fun d os => cell_regrown s1 d os
  have A0 := fun d os => cell_regrown a0 d os
  have A1 := fun d os => cell_regrown a1 d os
  have A2 := fun d os => cell_regrown a2 d os
  have A3 := fun d os => cell_regrown a3 d os
  have R0 := fun d os => cell_regrown r0 d os
  clear s0 s1 a0 a1 a2 a3 r0 hX hC hI hRl hck hFN hj htb
  go_upto_region 2 with fail
  refine wp_region_quiet_below (by kernel_rfl) (by kernel_rfl) ?_
  refine Boxd.out ?_
  repeat (refine wpQuiet_step4 (fun K hK => ?_); go_simp; (first | (refine hK _ ?_; clear hK K) | (apply Exists.intro; refine ⟨fun _ => ?_, hK _ ?_⟩; (with_reducible exact HFN.out _ _); clear hK K)))
  refine ⟨wpQuiet_nil ?_⟩
  rintro _ ⟨⟨dq, osq⟩, rfl⟩
  have hb4 := below_regrown W3 dq osq
  clear S0 S1 A0 A1 A2 A3 R0 HFN
  generalize Sort.grow (redrawn W3 dq) osq = W4 at hb4 ⊢
  have HR4 : Hid (RlI B rs gn bd sta RA rc cb kb ob1 ob2 W3 out W4) := hid ⟨HR0.out.1.next hb4, HR0.out.2.trans (KpT.of hb4 (Nat.le_trans hbs HB03.out.size))⟩
  clear hb4 htb2
  have HTELL := hid (fun (u : World) (O : List Gr.Pb) (code : Nat) (h : RlI B rs gn bd sta RA rc cb kb ob1 ob2 W3 O u) (hl : O.length ≤ 1000000000) => (show Calls Tryz.prog 130 #[.pointer (some ⟨cb, 0, none⟩), .int .u8 (code : Int), .int .i64 (i : Int), .string ⟨rnm.toArray⟩] u fun e u' => (∃ v, e = .returned v) ∧ RlI B rs gn bd sta RA rc cb kb ob1 ob2 W3 (O ++ [⟨code, (i : Int), rnm⟩]) u' from
    (tell_any B cb _ _ _ _ _ _ _ O code (i : Int) rnm u h.1 hcb (HCK.out u O h).1.hB hl).mono fun e u' h9 => ⟨h9.1, h9.2.1, h.2.trans h9.2.2.1⟩))
  have HBXC := hid (fun (u : World) (O : List Gr.Pb) (h : RlI B rs gn bd sta RA rc cb kb ob1 ob2 W3 O u) => (show u.cell? ⟨W.heap.size, 0, none⟩ = some (.pointer (some ⟨cb, 0, none⟩)) ∧ u.cell? ⟨W.heap.size + 1, 0, none⟩ = some (.int .i64 (i : Int)) ∧ u.cell? ⟨W1.heap.size, 0, none⟩ = some (.string ⟨rnm.toArray⟩) from by
    obtain ⟨h1, h2, h3⟩ := HBX.out u h.2
    exact ⟨by rw [Lib.cell_of_heap h1]; rfl, by rw [Lib.cell_of_heap h2]; rfl, by rw [Lib.cell_of_heap h3]; rfl⟩))
  have HLEN := hid (show out.length ≤ 100000000 ∧ (Gr.ndT (Gr.ruAt rs i).body).length ≤ 100000000 from HST.out.2.2.2.2)
  go_upto_if 21 with fail
  rw [HTB.out.1]
  clear HTB
  go_cut [] from 22 to 26 (fun wx => Hid (RlI B rs gn bd sta RA rc cb kb ob1 ob2 W3 (out ++ Gr.p1 rs i) wx))
  case first =>
    have HL9 := hid (show (out).length ≤ 1000000000 from by have := HLEN.out.1; omega)
    cases tb with
    | true =>
      obtain ⟨s0, s1, r0⟩ := HBXC.out _ _ HR4.out
      have HT9 := hid (HTELL.out _ _ 1 HR4.out HL9.out)
      go_wp2_with fail
      refine HT9.out.mono ?_
      rintro _ wy ⟨⟨rv, rfl⟩, hR9⟩
      have HF9 : Hid (RlI B rs gn bd sta RA rc cb kb ob1 ob2 W3 (out ++ Gr.p1 rs i) wy) := by rw [HP1.out]; exact hid hR9
      clear s0 s1 r0 hR9
      go_wp2_with fail
      go_meet
      exact HF9
    | false =>
      have HF9 : Hid (RlI B rs gn bd sta RA rc cb kb ob1 ob2 W3 (out ++ Gr.p1 rs i) W4) := by rw [HP1.out, if_neg (by decide), List.append_nil]; exact HR4
      go_wp2_with fail
      go_meet
      exact HF9
  case rest =>
  have HLS := hid (show (Gr.ndT (Gr.ruAt rs i).body).length ≤ 100000000 ∧ out.length ≤ 100000000 ∧ (Gr.p1 rs i).length ≤ 1 ∧ (Gr.p4 rs i).length ≤ 1 ∧ (Gr.p5 rs i).length ≤ 1 ∧ (Gr.nodesP (Gr.ruAt rs i) i 2 (noneB rs) false).length ≤ 100000000 ∧ (Gr.nodesP (Gr.ruAt rs i) i 3 (sortB rs (Gr.ruAt rs i)) false).length ≤ 100000000 ∧ (Gr.nodesP (Gr.ruAt rs i) i 6 (loopB rs i) true).length ≤ 100000000 from
    ⟨HLEN.out.2, HLEN.out.1, by unfold Gr.p1; split <;> simp, by unfold Gr.p4; split <;> simp, by unfold Gr.p5; split <;> simp, by rw [nodesP_eq]; exact Nat.le_trans (pbsOf_len _ _ _ _ _ _) HLEN.out.2, by rw [nodesP_eq]; exact Nat.le_trans (pbsOf_len _ _ _ _ _ _) HLEN.out.2, by rw [nodesP_eq]; exact Nat.le_trans (pbsOf_len _ _ _ _ _ _) HLEN.out.2⟩)
  have HNO := hid (nodes_rl (i := i) (code := 2) (own := false) (wf := 163) (lb := #[.pointer (some ⟨W.heap.size, 0, none⟩)]) (wr := noneB rs) hcut.out hcb (HCK.out _ _ hcut.out).1.hB HST.out.2.1 (HCK.out _ _ hcut.out).1.b HST.out.2.2.2.1 (by have := HLS.out; simp only [List.length_append]; omega) rfl (fun _ _ => rfl) (fun x u' hk ho => by
    obtain ⟨O', ho⟩ := ho
    have hck := HCK.out u' O' ⟨ho, hcut.out.2.trans hk⟩
    exact rule1_any x.n x.cs u' x.h hck.1))
  obtain ⟨s0, s1, r0⟩ := HBXC.out _ _ hcut.out
  go_wp2_with fail
  refine HNO.out.mono ?_
  rintro _ w6 ⟨⟨rv, rfl⟩, hR9⟩
  have HR6 := hid hR9
  clear s0 s1 r0 hR9 HNO
  have HNO := hid (nodes_rl (i := i) (code := 3) (own := false) (wf := 164) (lb := #[.pointer (some ⟨W.heap.size, 0, none⟩), .pointer (some ⟨W1.heap.size, 0, none⟩)]) (wr := sortB rs (Gr.ruAt rs i)) HR6.out hcb (HCK.out _ _ HR6.out).1.hB HST.out.2.1 (HCK.out _ _ HR6.out).1.b HST.out.2.2.2.1 (by have := HLS.out; simp only [List.length_append]; omega) rfl (fun _ _ => rfl) (fun x u' hk ho => by
    obtain ⟨O', ho⟩ := ho
    have hck := HCK.out u' O' ⟨ho, HR6.out.2.trans hk⟩
    exact rule2_any (Gr.ruAt rs i) x.n x.cs _ W1.heap.size u' x.h HRUU.out hck.1 (HBX.out u' (HR6.out.2.trans hk)).2.2))
  obtain ⟨s0, s1, r0⟩ := HBXC.out _ _ HR6.out
  go_wp2_with fail
  refine HNO.out.mono ?_
  rintro _ w7 ⟨⟨rv, rfl⟩, hR9⟩
  have HR7 := hid hR9
  clear s0 s1 r0 hR9 HNO
  obtain ⟨pb, hpb⟩ : ∃ p, (!Gr.isTok (Gr.ruAt rs i)) = p := ⟨_, rfl⟩
  have HPB := hid hpb
  obtain ⟨q4, hq4⟩ : ∃ q, (pb && Gr.reachF rs i i) = q := ⟨_, rfl⟩
  have HQ4 := hid hq4
  have HP4 := hid (show Gr.p4 rs i = if q4 = true then [⟨4, (i : Int), rnm⟩] else [] by
    unfold Gr.p4
    rw [HRNM.out.1, show ((Gr.ruAt rs i).sort == 0) = pb by rw [← hpb]; unfold Gr.isTok; cases h9 : ((Gr.ruAt rs i).sort == 0) <;> simp_all, hq4])
  clear hpb hq4
  go_upto_region 6 with fail
  go_cut [48] from 35 to 48 (fun c wx => c = .bool q4 ∧ Hid (RlI B rs gn bd sta RA rc cb kb ob1 ob2 W3 (out ++ Gr.p1 rs i ++ Gr.nodesP (Gr.ruAt rs i) i 2 (noneB rs) false ++ Gr.nodesP (Gr.ruAt rs i) i 3 (sortB rs (Gr.ruAt rs i)) false) wx))
  case first =>
    have hck := HCK.out _ _ HR7.out
    obtain ⟨_, _, _, hX, _⟩ := hck.1
    obtain ⟨ov, hC, _⟩ := HR7.out.1
    obtain ⟨_, hI, h3⟩ := HBX.out _ HR7.out.2
    obtain ⟨m0, m1, _⟩ := hck.2.m1.bit HST.out.2.2.2.1 HST.out.2.2.2.1
    have s0 : w7.cell? ⟨W.heap.size, 0, none⟩ = some (.pointer (some ⟨cb, 0, none⟩)) := by rw [Lib.cell_of_heap hX]; rfl
    have s1 : w7.cell? ⟨W.heap.size + 1, 0, none⟩ = some (.int .i64 (i : Int)) := by rw [Lib.cell_of_heap hI]; rfl
    have a5 : w7.cell? ⟨cb, 5, none⟩ = some (.slice (some ⟨ob1, 0, none⟩) rs.length rs.length) := by rw [Lib.cell_of_heap hC]; rfl
    rw [HN.out] at a5 m0
    obtain ⟨mv, hmv⟩ : ∃ m, Gr.reachF rs i i = m := ⟨_, rfl⟩
    rw [hmv] at m1
    have HQQ : Hid ((pb && mv) = q4) := hid (by rw [← hmv]; exact HQ4.out)
    generalize rb1 i = rr at m0 m1
    have r0 : w7.cell? ⟨W1.heap.size, 0, none⟩ = some (.string ⟨rnm.toArray⟩) := by rw [Lib.cell_of_heap h3]; rfl
    have R0 := fun d os => cell_regrown r0 d os
    have r1 : w7.cell? ⟨W1.heap.size, 1, none⟩ = some (.int .u8 (rk : Int)) := by rw [Lib.cell_of_heap h3]; rfl
    have R1 := fun d os => cell_regrown r1 d os
    have r2 : w7.cell? ⟨W1.heap.size, 2, none⟩ = some (.int .u8 xk) := by rw [Lib.cell_of_heap h3]; rfl
    have R2 := fun d os => cell_regrown r2 d os
    have r3 : w7.cell? ⟨W1.heap.size, 3, none⟩ = some (.string xm) := by rw [Lib.cell_of_heap h3]; rfl
    have R3 := fun d os => cell_regrown r3 d os
    have r4 : w7.cell? ⟨W1.heap.size, 4, none⟩ = some (.string xt) := by rw [Lib.cell_of_heap h3]; rfl
    have R4 := fun d os => cell_regrown r4 d os
    have r5 : w7.cell? ⟨W1.heap.size, 5, none⟩ = some (.slice xSA xa xsc) := by rw [Lib.cell_of_heap h3]; rfl
    have R5 := fun d os => cell_regrown r5 d os
    have r6 : w7.cell? ⟨W1.heap.size, 6, none⟩ = some (.slice xUA xb xuc) := by rw [Lib.cell_of_heap h3]; rfl
    have R6 := fun d os => cell_regrown r6 d os
    have r7 : w7.cell? ⟨W1.heap.size, 7, none⟩ = some (.int .i64 z0) := by rw [Lib.cell_of_heap h3]; rfl
    have R7 := fun d os => cell_regrown r7 d os
    have r8 : w7.cell? ⟨W1.heap.size, 8, none⟩ = some (.int .i64 z1) := by rw [Lib.cell_of_heap h3]; rfl
    have R8 := fun d os => cell_regrown r8 d os
    have r9 : w7.cell? ⟨W1.heap.size, 9, none⟩ = some (.int .i64 z2) := by rw [Lib.cell_of_heap h3]; rfl
    have R9 := fun d os => cell_regrown r9 d os
    have S0 := fun d os => cell_regrown s0 d os
    have S1 := fun d os => cell_regrown s1 d os
    have A5 := fun d os => cell_regrown a5 d os
    have M0 := fun d os => cell_regrown m0 d os
    have M1 := fun d os => cell_regrown m1 d os
    have HPA := hid (fun (d : Nat) (os : Array Obj) => Calls.regrown_of (parser_any (Gr.ruAt rs i) _ (Sort.grow (redrawn w7 d) os) HRUU.out))
    rw [HPB.out] at HPA
    clear s0 s1 a5 m0 m1 r0 r1 r2 r3 r4 r5 r6 r7 r8 r9 hX hC hI h3 hck hmv
    cases pb with
    | false =>
      obtain rfl : false = q4 := HQQ.out
      refine wp_region_quiet_below (by kernel_rfl) (by kernel_rfl) ?_
      refine Boxd.out ?_
      repeat (refine wpQuiet_step4 (fun K hK => ?_); go_simp; (first | (refine hK _ ?_; clear hK K) | (apply Exists.intro; refine ⟨fun _ => ?_, hK _ ?_⟩; (with_reducible exact HPA.out _ _); clear hK K)))
      refine ⟨wpQuiet_nil ?_⟩
      rintro _ ⟨⟨dq, osq⟩, rfl⟩
      have hb9 := below_regrown w7 dq osq
      clear S0 S1 A5 M0 M1 R0 R1 R2 R3 R4 R5 R6 R7 R8 R9 HPA
      generalize Sort.grow (redrawn w7 dq) osq = wy at hb9 ⊢
      have HF9 : Hid (RlI B rs gn bd sta RA rc cb kb ob1 ob2 W3 (out ++ Gr.p1 rs i ++ Gr.nodesP (Gr.ruAt rs i) i 2 (noneB rs) false ++ Gr.nodesP (Gr.ruAt rs i) i 3 (sortB rs (Gr.ruAt rs i)) false) wy) := hid ⟨HR7.out.1.next hb9, HR7.out.2.trans (KpT.of hb9 (HCK.out _ _ HR7.out).1.hB)⟩
      clear hb9
      go_wp2_with fail
      go_meet
      exact ⟨rfl, HF9⟩
    | true =>
      obtain rfl : mv = q4 := by have := HQQ.out; simpa using this
      refine wp_region_quiet_below (by kernel_rfl) (by kernel_rfl) ?_
      refine Boxd.out ?_
      repeat (refine wpQuiet_step4 (fun K hK => ?_); go_simp; (first | (refine hK _ ?_; clear hK K) | (apply Exists.intro; refine ⟨fun _ => ?_, hK _ ?_⟩; (with_reducible exact HPA.out _ _); clear hK K)))
      refine ⟨wpQuiet_nil ?_⟩
      rintro _ ⟨⟨dq, osq⟩, rfl⟩
      have hb9 := below_regrown w7 dq osq
      clear S0 S1 A5 M0 M1 R0 R1 R2 R3 R4 R5 R6 R7 R8 R9 HPA
      generalize Sort.grow (redrawn w7 dq) osq = wy at hb9 ⊢
      have HF9 : Hid (RlI B rs gn bd sta RA rc cb kb ob1 ob2 W3 (out ++ Gr.p1 rs i ++ Gr.nodesP (Gr.ruAt rs i) i 2 (noneB rs) false ++ Gr.nodesP (Gr.ruAt rs i) i 3 (sortB rs (Gr.ruAt rs i)) false) wy) := hid ⟨HR7.out.1.next hb9, HR7.out.2.trans (KpT.of hb9 (HCK.out _ _ HR7.out).1.hB)⟩
      clear hb9
      go_wp2_with fail
      go_meet
      exact ⟨rfl, HF9⟩
  case rest =>
  obtain ⟨hq, HR8⟩ := hcut
  subst hq
  go_upto_if 48 with fail
  go_cut [] from 49 to 53 (fun wx => Hid (RlI B rs gn bd sta RA rc cb kb ob1 ob2 W3 ((out ++ Gr.p1 rs i ++ Gr.nodesP (Gr.ruAt rs i) i 2 (noneB rs) false ++ Gr.nodesP (Gr.ruAt rs i) i 3 (sortB rs (Gr.ruAt rs i)) false) ++ Gr.p4 rs i) wx))
  case first =>
    have HL9 := hid (show ((out ++ Gr.p1 rs i ++ Gr.nodesP (Gr.ruAt rs i) i 2 (noneB rs) false ++ Gr.nodesP (Gr.ruAt rs i) i 3 (sortB rs (Gr.ruAt rs i)) false)).length ≤ 1000000000 from by have := HLS.out; simp only [List.length_append]; omega)
    cases q4 with
    | true =>
      obtain ⟨s0, s1, r0⟩ := HBXC.out _ _ HR8.out
      have HT9 := hid (HTELL.out _ _ 4 HR8.out HL9.out)
      go_wp2_with fail
      refine HT9.out.mono ?_
      rintro _ wy ⟨⟨rv, rfl⟩, hR9⟩
      have HF9 : Hid (RlI B rs gn bd sta RA rc cb kb ob1 ob2 W3 ((out ++ Gr.p1 rs i ++ Gr.nodesP (Gr.ruAt rs i) i 2 (noneB rs) false ++ Gr.nodesP (Gr.ruAt rs i) i 3 (sortB rs (Gr.ruAt rs i)) false) ++ Gr.p4 rs i) wy) := by rw [HP4.out]; exact hid hR9
      clear s0 s1 r0 hR9
      go_wp2_with fail
      go_meet
      exact HF9
    | false =>
      have HF9 : Hid (RlI B rs gn bd sta RA rc cb kb ob1 ob2 W3 ((out ++ Gr.p1 rs i ++ Gr.nodesP (Gr.ruAt rs i) i 2 (noneB rs) false ++ Gr.nodesP (Gr.ruAt rs i) i 3 (sortB rs (Gr.ruAt rs i)) false) ++ Gr.p4 rs i) wc) := by rw [HP4.out, if_neg (by decide), List.append_nil]; exact HR8
      go_wp2_with fail
      go_meet
      exact HF9
  case rest =>
  have HR9 := hid hcut.out
  clear hcut
  rename World => w9
  obtain ⟨q5, hq5⟩ : ∃ q, Gr.roundF rs i i = q := ⟨_, rfl⟩
  have HQ5 := hid hq5
  have HP5 := hid (show Gr.p5 rs i = if q5 = true then [⟨5, (i : Int), rnm⟩] else [] by
    unfold Gr.p5
    rw [HRNM.out.1, hq5])
  clear hq5
  go_upto_region 8 with fail
  go_cut [63] from 54 to 63 (fun c wx => c = .bool q5 ∧ Hid (RlI B rs gn bd sta RA rc cb kb ob1 ob2 W3 (out ++ Gr.p1 rs i ++ Gr.nodesP (Gr.ruAt rs i) i 2 (noneB rs) false ++ Gr.nodesP (Gr.ruAt rs i) i 3 (sortB rs (Gr.ruAt rs i)) false ++ Gr.p4 rs i) wx))
  case first =>
    have hck := HCK.out _ _ HR9.out
    obtain ⟨_, _, _, hX, _⟩ := hck.1
    obtain ⟨ov, hC, _⟩ := HR9.out.1
    obtain ⟨_, hI, h3⟩ := HBX.out _ HR9.out.2
    obtain ⟨m0, m1, _⟩ := hck.2.m2.bit HST.out.2.2.2.1 HST.out.2.2.2.1
    have s0 : w9.cell? ⟨W.heap.size, 0, none⟩ = some (.pointer (some ⟨cb, 0, none⟩)) := by rw [Lib.cell_of_heap hX]; rfl
    have s1 : w9.cell? ⟨W.heap.size + 1, 0, none⟩ = some (.int .i64 (i : Int)) := by rw [Lib.cell_of_heap hI]; rfl
    have a6 : w9.cell? ⟨cb, 6, none⟩ = some (.slice (some ⟨ob2, 0, none⟩) rs.length rs.length) := by rw [Lib.cell_of_heap hC]; rfl
    rw [HN.out] at a6 m0
    rw [HQ5.out] at m1
    generalize rb2 i = rr at m0 m1
    have S0 := fun d os => cell_regrown s0 d os
    have S1 := fun d os => cell_regrown s1 d os
    have A6 := fun d os => cell_regrown a6 d os
    have M0 := fun d os => cell_regrown m0 d os
    have M1 := fun d os => cell_regrown m1 d os
    clear s0 s1 a6 m0 m1 hX hC hI h3 hck
    refine wp_region_quiet_below (by kernel_rfl) (by kernel_rfl) ?_
    refine Boxd.out ?_
    repeat (refine wpQuiet_step4 (fun K hK => ?_); go_simp; (first | (refine hK _ ?_; clear hK K) | (apply Exists.intro; refine ⟨fun _ => ?_, hK _ ?_⟩; (fail); clear hK K)))
    refine ⟨wpQuiet_nil ?_⟩
    rintro _ ⟨⟨dq, osq⟩, rfl⟩
    have hb9 := below_regrown w9 dq osq
    clear S0 S1 A6 M0 M1
    generalize Sort.grow (redrawn w9 dq) osq = wy at hb9 ⊢
    have HF9 : Hid (RlI B rs gn bd sta RA rc cb kb ob1 ob2 W3 (out ++ Gr.p1 rs i ++ Gr.nodesP (Gr.ruAt rs i) i 2 (noneB rs) false ++ Gr.nodesP (Gr.ruAt rs i) i 3 (sortB rs (Gr.ruAt rs i)) false ++ Gr.p4 rs i) wy) := hid ⟨HR9.out.1.next hb9, HR9.out.2.trans (KpT.of hb9 (HCK.out _ _ HR9.out).1.hB)⟩
    clear hb9
    go_wp2_with fail
    go_meet
    exact ⟨rfl, HF9⟩
  case rest =>
  obtain ⟨hq, HR10⟩ := hcut
  subst hq
  go_upto_if 63 with fail
  go_cut [] from 64 to 68 (fun wx => Hid (RlI B rs gn bd sta RA rc cb kb ob1 ob2 W3 ((out ++ Gr.p1 rs i ++ Gr.nodesP (Gr.ruAt rs i) i 2 (noneB rs) false ++ Gr.nodesP (Gr.ruAt rs i) i 3 (sortB rs (Gr.ruAt rs i)) false ++ Gr.p4 rs i) ++ Gr.p5 rs i) wx))
  case first =>
    have HL9 := hid (show ((out ++ Gr.p1 rs i ++ Gr.nodesP (Gr.ruAt rs i) i 2 (noneB rs) false ++ Gr.nodesP (Gr.ruAt rs i) i 3 (sortB rs (Gr.ruAt rs i)) false ++ Gr.p4 rs i)).length ≤ 1000000000 from by have := HLS.out; simp only [List.length_append]; omega)
    cases q5 with
    | true =>
      obtain ⟨s0, s1, r0⟩ := HBXC.out _ _ HR10.out
      have HT9 := hid (HTELL.out _ _ 5 HR10.out HL9.out)
      go_wp2_with fail
      refine HT9.out.mono ?_
      rintro _ wy ⟨⟨rv, rfl⟩, hR9⟩
      have HF9 : Hid (RlI B rs gn bd sta RA rc cb kb ob1 ob2 W3 ((out ++ Gr.p1 rs i ++ Gr.nodesP (Gr.ruAt rs i) i 2 (noneB rs) false ++ Gr.nodesP (Gr.ruAt rs i) i 3 (sortB rs (Gr.ruAt rs i)) false ++ Gr.p4 rs i) ++ Gr.p5 rs i) wy) := by rw [HP5.out]; exact hid hR9
      clear s0 s1 r0 hR9
      go_wp2_with fail
      go_meet
      exact HF9
    | false =>
      have HF9 : Hid (RlI B rs gn bd sta RA rc cb kb ob1 ob2 W3 ((out ++ Gr.p1 rs i ++ Gr.nodesP (Gr.ruAt rs i) i 2 (noneB rs) false ++ Gr.nodesP (Gr.ruAt rs i) i 3 (sortB rs (Gr.ruAt rs i)) false ++ Gr.p4 rs i) ++ Gr.p5 rs i) wc) := by rw [HP5.out, if_neg (by decide), List.append_nil]; exact HR10
      go_wp2_with fail
      go_meet
      exact HF9
  case rest =>
  have HR11 := hid hcut.out
  clear hcut
  rename World => w11
  have HNO := hid (nodes_rl (i := i) (code := 6) (own := true) (wf := 166) (lb := #[.pointer (some ⟨W.heap.size, 0, none⟩), .pointer (some ⟨W.heap.size + 1, 0, none⟩)]) (wr := loopB rs i) HR11.out hcb (HCK.out _ _ HR11.out).1.hB HST.out.2.1 (HCK.out _ _ HR11.out).1.b HST.out.2.2.2.1 (by have := HLS.out; simp only [List.length_append]; omega) rfl (fun _ _ => rfl) (fun x u' hk ho => by
    obtain ⟨O', ho⟩ := ho
    have hck := HCK.out u' O' ⟨ho, HR11.out.2.trans hk⟩
    exact rule3_any i (W.heap.size + 1) x.n x.cs u' HST.out.2.2.2.1 x.h x.ok hck.1 (HBX.out u' (HR11.out.2.trans hk)).2.1))
  obtain ⟨s0, s1, r0⟩ := HBXC.out _ _ HR11.out
  go_wp2_with fail
  refine HNO.out.mono ?_
  rintro _ w12 ⟨⟨rv, rfl⟩, hR9⟩
  have HR12 := hid hR9
  clear s0 s1 r0 hR9 HNO
  obtain ⟨ev, hev⟩ : ∃ e, (Gr.emptyR rs).getD i false = e := ⟨_, rfl⟩
  have HEV := hid hev
  obtain ⟨rz, hrz⟩ : ∃ z : Int, (rk : Int) = z := ⟨_, rfl⟩
  obtain ⟨t1, ht1⟩ : ∃ t, (rz == 1) = t := ⟨_, rfl⟩
  obtain ⟨t3, ht3⟩ : ∃ t, (rz == 3) = t := ⟨_, rfl⟩
  obtain ⟨q7, hq7⟩ : ∃ q, (ev && (t1 || t3)) = q := ⟨_, rfl⟩
  have HQ7 := hid hq7
  have HP7 := hid (show Gr.p7 rs i = if q7 = true then [⟨7, (i : Int), rnm⟩] else [] by
    unfold Gr.p7
    rw [HRNM.out.1, HRNM.out.2, hev, show (rk == 1) = t1 by rw [← ht1, ← hrz]; exact Bool.eq_iff_iff.2 (by simp <;> omega), show (rk == 3) = t3 by rw [← ht3, ← hrz]; exact Bool.eq_iff_iff.2 (by simp <;> omega), hq7])
  have HT13 := hid (And.intro ht1 (And.intro ht3 hrz))
  clear hev hq7 ht1 ht3 hrz
  go_upto_region 11 with fail
  go_cut [89] from 73 to 89 (fun c wx => c = .bool q7 ∧ Hid (RlI B rs gn bd sta RA rc cb kb ob1 ob2 W3 (out ++ Gr.p1 rs i ++ Gr.nodesP (Gr.ruAt rs i) i 2 (noneB rs) false ++ Gr.nodesP (Gr.ruAt rs i) i 3 (sortB rs (Gr.ruAt rs i)) false ++ Gr.p4 rs i ++ Gr.p5 rs i ++ Gr.nodesP (Gr.ruAt rs i) i 6 (loopB rs i) true) wx))
  case first =>
    have hck := HCK.out _ _ HR12.out
    obtain ⟨_, _, _, hX, _⟩ := hck.1
    obtain ⟨ov, hC, _⟩ := HR12.out.1
    obtain ⟨_, hI, h3⟩ := HBX.out _ HR12.out.2
    have s0 : w12.cell? ⟨W.heap.size, 0, none⟩ = some (.pointer (some ⟨cb, 0, none⟩)) := by rw [Lib.cell_of_heap hX]; rfl
    have s1 : w12.cell? ⟨W.heap.size + 1, 0, none⟩ = some (.int .i64 (i : Int)) := by rw [Lib.cell_of_heap hI]; rfl
    have a4 : w12.cell? ⟨cb, 4, none⟩ = some (.slice (some ⟨kb, 0, none⟩) rs.length rs.length) := by rw [Lib.cell_of_heap hC]; rfl
    have e4 : w12.cell? ⟨kb, i, none⟩ = some (.bool ev) := by
      rw [Lib.cell_of_heap hck.2.e, ← HEV.out]
      have := Gr.emptyR_len rs
      simp [List.getD_eq_getElem?_getD, List.getElem?_eq_getElem (show i < (Gr.emptyR rs).length by have := HST.out.2.2.2.1; omega)]
    have r1 : w12.cell? ⟨W1.heap.size, 1, none⟩ = some (.int .u8 rz) := by rw [Lib.cell_of_heap h3, ← HT13.out.2.2]; rfl
    have g1 : (rz == 1) = t1 := HT13.out.1
    have g3 : (rz == 3) = t3 := HT13.out.2.1
    rw [HN.out] at a4
    have S0 := fun d os => cell_regrown s0 d os
    have S1 := fun d os => cell_regrown s1 d os
    have A4 := fun d os => cell_regrown a4 d os
    have E4 := fun d os => cell_regrown e4 d os
    have R1 := fun d os => cell_regrown r1 d os
    clear s0 s1 a4 e4 r1 hX hC hI h3 hck
    cases ev with
    | false =>
      obtain rfl : false = q7 := HQ7.out
      refine wp_region_quiet_below (by kernel_rfl) (by kernel_rfl) ?_
      refine Boxd.out ?_
      repeat (refine wpQuiet_step4 (fun K hK => ?_); go_simp; (first | (refine hK _ ?_; clear hK K) | (apply Exists.intro; refine ⟨fun _ => ?_, hK _ ?_⟩; (fail); clear hK K)))
      refine ⟨wpQuiet_nil ?_⟩
      rintro _ ⟨⟨dq, osq⟩, rfl⟩
      have hb9 := below_regrown w12 dq osq
      clear S0 S1 A4 E4 R1 g1 g3
      generalize Sort.grow (redrawn w12 dq) osq = wy at hb9 ⊢
      have HF9 : Hid (RlI B rs gn bd sta RA rc cb kb ob1 ob2 W3 (out ++ Gr.p1 rs i ++ Gr.nodesP (Gr.ruAt rs i) i 2 (noneB rs) false ++ Gr.nodesP (Gr.ruAt rs i) i 3 (sortB rs (Gr.ruAt rs i)) false ++ Gr.p4 rs i ++ Gr.p5 rs i ++ Gr.nodesP (Gr.ruAt rs i) i 6 (loopB rs i) true) wy) := hid ⟨HR12.out.1.next hb9, HR12.out.2.trans (KpT.of hb9 (HCK.out _ _ HR12.out).1.hB)⟩
      clear hb9
      go_wp2_with fail
      go_meet
      exact ⟨rfl, HF9⟩
    | true =>
      cases t1 with
      | true =>
        obtain rfl : true = q7 := HQ7.out
        refine wp_region_quiet_below (by kernel_rfl) (by kernel_rfl) ?_
        refine Boxd.out ?_
        repeat (refine wpQuiet_step4 (fun K hK => ?_); go_simp; (first | (refine hK _ ?_; clear hK K) | (apply Exists.intro; refine ⟨fun _ => ?_, hK _ ?_⟩; (fail); clear hK K)))
        refine ⟨wpQuiet_nil ?_⟩
        rintro _ ⟨⟨dq, osq⟩, rfl⟩
        have hb9 := below_regrown w12 dq osq
        clear S0 S1 A4 E4 R1 g1 g3
        generalize Sort.grow (redrawn w12 dq) osq = wy at hb9 ⊢
        have HF9 : Hid (RlI B rs gn bd sta RA rc cb kb ob1 ob2 W3 (out ++ Gr.p1 rs i ++ Gr.nodesP (Gr.ruAt rs i) i 2 (noneB rs) false ++ Gr.nodesP (Gr.ruAt rs i) i 3 (sortB rs (Gr.ruAt rs i)) false ++ Gr.p4 rs i ++ Gr.p5 rs i ++ Gr.nodesP (Gr.ruAt rs i) i 6 (loopB rs i) true) wy) := hid ⟨HR12.out.1.next hb9, HR12.out.2.trans (KpT.of hb9 (HCK.out _ _ HR12.out).1.hB)⟩
        clear hb9
        go_wp2_with fail
        go_meet
        exact ⟨rfl, HF9⟩
      | false =>
        obtain rfl : t3 = q7 := by have := HQ7.out; simpa using this
        refine wp_region_quiet_below (by kernel_rfl) (by kernel_rfl) ?_
        refine Boxd.out ?_
        repeat (refine wpQuiet_step4 (fun K hK => ?_); go_simp; (first | (refine hK _ ?_; clear hK K) | (apply Exists.intro; refine ⟨fun _ => ?_, hK _ ?_⟩; (fail); clear hK K)))
        refine ⟨wpQuiet_nil ?_⟩
        rintro _ ⟨⟨dq, osq⟩, rfl⟩
        have hb9 := below_regrown w12 dq osq
        clear S0 S1 A4 E4 R1 g1 g3
        generalize Sort.grow (redrawn w12 dq) osq = wy at hb9 ⊢
        have HF9 : Hid (RlI B rs gn bd sta RA rc cb kb ob1 ob2 W3 (out ++ Gr.p1 rs i ++ Gr.nodesP (Gr.ruAt rs i) i 2 (noneB rs) false ++ Gr.nodesP (Gr.ruAt rs i) i 3 (sortB rs (Gr.ruAt rs i)) false ++ Gr.p4 rs i ++ Gr.p5 rs i ++ Gr.nodesP (Gr.ruAt rs i) i 6 (loopB rs i) true) wy) := hid ⟨HR12.out.1.next hb9, HR12.out.2.trans (KpT.of hb9 (HCK.out _ _ HR12.out).1.hB)⟩
        clear hb9
        go_wp2_with fail
        go_meet
        exact ⟨rfl, HF9⟩
  case rest =>
  obtain ⟨hq, HR13⟩ := hcut
  subst hq
  have HL9 := hid (show (out ++ Gr.p1 rs i ++ Gr.nodesP (Gr.ruAt rs i) i 2 (noneB rs) false ++ Gr.nodesP (Gr.ruAt rs i) i 3 (sortB rs (Gr.ruAt rs i)) false ++ Gr.p4 rs i ++ Gr.p5 rs i ++ Gr.nodesP (Gr.ruAt rs i) i 6 (loopB rs i) true).length ≤ 1000000000 from by have := HLS.out; simp only [List.length_append]; omega)
  cases q7 with
  | true =>
      obtain ⟨s0, s1, r0⟩ := HBXC.out _ _ HR13.out
      have HT9 := hid (HTELL.out _ _ 7 HR13.out HL9.out)
      go_wp2_with fail
      refine HT9.out.mono ?_
      rintro _ wy ⟨⟨rv, rfl⟩, hR9⟩
      have HF9 : Hid (RlI B rs gn bd sta RA rc cb kb ob1 ob2 W3 ((out ++ Gr.p1 rs i ++ Gr.nodesP (Gr.ruAt rs i) i 2 (noneB rs) false ++ Gr.nodesP (Gr.ruAt rs i) i 3 (sortB rs (Gr.ruAt rs i)) false ++ Gr.p4 rs i ++ Gr.p5 rs i ++ Gr.nodesP (Gr.ruAt rs i) i 6 (loopB rs i) true) ++ Gr.p7 rs i) wy) := by rw [HP7.out]; exact hid hR9
      clear s0 s1 r0 hR9
      go_wp2_with fail
      go_end0
      refine ⟨⟨_, rfl⟩, ?_⟩
      have e9 : out ++ Gr.ruleP rs i = (out ++ Gr.p1 rs i ++ Gr.nodesP (Gr.ruAt rs i) i 2 (noneB rs) false ++ Gr.nodesP (Gr.ruAt rs i) i 3 (sortB rs (Gr.ruAt rs i)) false ++ Gr.p4 rs i ++ Gr.p5 rs i ++ Gr.nodesP (Gr.ruAt rs i) i 6 (loopB rs i) true) ++ Gr.p7 rs i := by rw [ruleP_eq]; simp only [List.append_assoc]
      rw [e9]
      exact ⟨HF9.out.1, HK03.out.trans HF9.out.2⟩
  | false =>
      have HF9 : Hid (RlI B rs gn bd sta RA rc cb kb ob1 ob2 W3 ((out ++ Gr.p1 rs i ++ Gr.nodesP (Gr.ruAt rs i) i 2 (noneB rs) false ++ Gr.nodesP (Gr.ruAt rs i) i 3 (sortB rs (Gr.ruAt rs i)) false ++ Gr.p4 rs i ++ Gr.p5 rs i ++ Gr.nodesP (Gr.ruAt rs i) i 6 (loopB rs i) true) ++ Gr.p7 rs i) wc) := by rw [HP7.out, if_neg (by decide), List.append_nil]; exact HR13
      go_wp2_with fail
      go_end0
      refine ⟨⟨_, rfl⟩, ?_⟩
      have e9 : out ++ Gr.ruleP rs i = (out ++ Gr.p1 rs i ++ Gr.nodesP (Gr.ruAt rs i) i 2 (noneB rs) false ++ Gr.nodesP (Gr.ruAt rs i) i 3 (sortB rs (Gr.ruAt rs i)) false ++ Gr.p4 rs i ++ Gr.p5 rs i ++ Gr.nodesP (Gr.ruAt rs i) i 6 (loopB rs i) true) ++ Gr.p7 rs i := by rw [ruleP_eq]; simp only [List.append_assoc]
      rw [e9]
      exact ⟨HF9.out.1, HK03.out.trans HF9.out.2⟩
end
end Go.Proofs.YtpbnfinmjnpkpaaGreatDoor
