/-
  Checks: all nodes of a rule of which something is told (check.nodes): the range over checks.all, and the walk.
-/
import Derived.Test.YtpbnfinmjnpkpaaGreatDoorGrTl
import Derived.RangeFuncNested
import Derived.RangeFuncLeaves
import Derived.Shelf.Abstract
import Derived.WalkKit
import Derived.OwnWalkIn
import Derived.TacticsInMore
import Derived.LoopNIn
import Derived.LoopIn
namespace Go.Proofs.YtpbnfinmjnpkpaaGreatDoor
open Go.RowKit
set_option maxRecDepth 100000
attribute [local go_sem] Oper.semAt_some
/-- what speaks of cells, and of what lies below, abides the turn of whatever is no cells -/
theorem ownFrom_of {β : Type} {n0 B : Nat} {I : β → World → Prop} (hn : ∀ s W, I s W → n0 ≤ W.heap.size) (hB : n0 ≤ B)
    (h : ∀ s W W', I s W → Below n0 W W' → (∀ (k : Nat) (cs : Array Value) (T : TypeId) (fr : Nat × Nat), W.heap[k]? = some (Obj.cells cs T fr) → W'.heap[k]? = some (Obj.cells cs T fr)) → I s W') : OwnFrom B I := fun s W W' row hs hg hr => by
  refine h s W W' hs ((Below.refl n0 W).grown hg (hn s W hs) (fun k e => by have := (hr k e).1; omega)) fun k cs T fr e => ?_
  refine (hg.block k (Array.getElem?_eq_some_iff.1 e).1 (fun e' => ?_)).trans e
  obtain ⟨_, o, ho, hc⟩ := hr k e'.symm
  rw [e] at ho
  cases ho
  cases hc
theorem kpT_b {B : Nat} {C : Nat → TypeId → Prop} {w : World} (hB : B ≤ w.heap.size) (W : World) (l : Nat) (o o' : Obj) (hl : w.heap.size ≤ l) (h : W.heap[l]? = some o) (ho : o.isCells = false) : KpT B C W (W.putObj l o') :=
  ⟨(Below.refl B W).grown (grownBy_putObj' W l o') (by have := (Array.getElem?_eq_some_iff.1 h).1; omega) (fun k e => by cases e; omega), fun k cs T e _ => by
    refine ((grownBy_putObj' W l o').block k (Array.getElem?_eq_some_iff.1 e).1 (fun e' => ?_)).trans e
    cases e'
    rw [e] at h
    cases h
    cases ho⟩
theorem OutR.cells {base cb : Nat} {x0 x1 x2 x3 x4 x5 x6 : Value} {out : List Gr.Pb} {W W' : World} (h : OutR base cb x0 x1 x2 x3 x4 x5 x6 out W) (hc : ∀ (k : Nat) (cs : Array Value) (T : TypeId) (fr : Nat × Nat), W.heap[k]? = some (Obj.cells cs T fr) → W'.heap[k]? = some (Obj.cells cs T fr)) : OutR base cb x0 x1 x2 x3 x4 x5 x6 out W' := by
  obtain ⟨ov, h1, h2, h3⟩ := h
  refine ⟨ov, hc _ _ _ _ h1, h2, ?_⟩
  rcases h3 with h3 | ⟨g, cap, cur, hv, hg, hh, r⟩
  · exact .inl h3
  · exact .inr ⟨g, cap, cur, hv, hg, hc _ _ _ _ hh, r⟩
/-- the problems of some nodes -/
def pbsOf (i code : Nat) (own : Bool) (rnm : List UInt8) (wr : Gr.Nd → Bool) (l : List Gr.Nd) : List Gr.Pb := l.filterMap fun x => if wr x = true then some ⟨code, i, if own then rnm else x.name⟩ else none
theorem pbsOf_snoc (i code : Nat) (own : Bool) (rnm : List UInt8) (wr : Gr.Nd → Bool) (l : List Gr.Nd) (x : Gr.Nd) : pbsOf i code own rnm wr (l ++ [x]) = pbsOf i code own rnm wr l ++ (if wr x = true then [⟨code, i, if own then rnm else x.name⟩] else []) := by
  unfold pbsOf
  rw [List.filterMap_append]
  cases h : wr x <;> simp [h]
theorem pbsOf_len (i code : Nat) (own : Bool) (rnm : List UInt8) (wr : Gr.Nd → Bool) (l : List Gr.Nd) : (pbsOf i code own rnm wr l).length ≤ l.length := List.length_filterMap_le _ _
theorem nodesP_eq (r : Gr.Ru) (i code : Nat) (wr : Gr.Nd → Bool) (own : Bool) : Gr.nodesP r i code wr own = pbsOf i code own r.name wr (Gr.ndT r.body) := by
  unfold Gr.nodesP pbsOf
  rw [← Gr.ndT_pre r.body 1, List.filterMap_map]
  rfl
section
variable {w0 : World} {B : Nat} {rs : List Gr.Ru}
set_option maxHeartbeats 16000000 in
theorem nodes_any (cb : Nat) (gn : List UInt8) (bd st : Int) (RA : Option Addr) (rc : Nat) (x4 x5 x6 : Value) (out : List Gr.Pb) (i code : Nat) (own : Bool) (wf : Nat) (lb : Array Value) (wr : Gr.Nd → Bool) (W : World)
    (h : OutR B cb (Gr.strV gn) (.int .i64 bd) (.int .i64 st) (.slice RA rs.length rc) x4 x5 x6 out W) (hcb : B ≤ cb) (hbs : B ≤ W.heap.size) (hr : RsAt w0 B RA rs) (hb : Below B w0 W) (hi : i < rs.length)
    (hlen : out.length + (Gr.ndT (Gr.ruAt rs i).body).length ≤ 1000000000) (hown : own = (code == 6)) (eg : ∀ args w, (callFunc wf args).run Tryz.prog w = .ok (.enter wf args) w)
    (hw : ∀ (x : NdIt w0 B) (u : World), KpT B (TlC cb) W u → (∃ O', OutR B cb (Gr.strV gn) (.int .i64 bd) (.int .i64 st) (.slice RA rs.length rc) x4 x5 x6 O' u) → Calls Tryz.prog wf (#[.agg x.cs.toArray] ++ lb) u fun e u' => e = .returned (.bool (wr x.n)) ∧ Below u.heap.size u u') :
    Calls Tryz.prog 162 #[.pointer (some ⟨cb, 0, none⟩), .int .i64 (i : Int), .int .u8 (code : Int), .func (.func wf) #[] lb] W fun e W' => (∃ v, e = .returned v) ∧
      OutR B cb (Gr.strV gn) (.int .i64 bd) (.int .i64 st) (.slice RA rs.length rc) x4 x5 x6 (out ++ Gr.nodesP (Gr.ruAt rs i) i code wr own) W' ∧ KpT B (TlC cb) W W' := by
  obtain ⟨xs, hr1, hr2⟩ := hr.r
  obtain ⟨b, o, u0, u1, u2, u3, u4, u5, u6, u7, u8, u9, hRA, hbB, hru, c0, c1, c2, c3, c4, c5, c6, c7, c8, c9⟩ := readsRu hr1 hr2 i hi
  obtain ⟨xk, xm, xt, xSA, xa, xsc, xUA, xb, xuc, z0, z1, z2, hv, hnd⟩ := hru.form
  have hok := hr.ok rs[i] (List.getElem_mem hi)
  rw [nodesP_eq]
  rw [ruAt_eq hi] at hlen ⊢
  injection hv with hv0 hv
  injection hv with hv1 hv
  injection hv with hv2 hv
  injection hv with hv3 hv
  injection hv with hv4 hv
  injection hv with hv5 hv
  injection hv with hv6 hv
  injection hv with hv7 hv
  injection hv with hv8 hv
  injection hv with hv9 hv
  subst hv0 hv1 hv2 hv3 hv4 hv5 hv6 hv7 hv8 hv9 hRA
  generalize rs[i] = ru at *
  obtain ⟨rnm, rk, rbd⟩ := ru
  dsimp only at *
  have e0 := (hb.cell (p := ⟨b, o + i * 10, none⟩) hbB).trans c0
  have e1 := (hb.cell (p := ⟨b, o + i * 10 + 1, none⟩) hbB).trans c1
  have e2 := (hb.cell (p := ⟨b, o + i * 10 + 2, none⟩) hbB).trans c2
  have e3 := (hb.cell (p := ⟨b, o + i * 10 + 3, none⟩) hbB).trans c3
  have e4 := (hb.cell (p := ⟨b, o + i * 10 + 4, none⟩) hbB).trans c4
  have e5 := (hb.cell (p := ⟨b, o + i * 10 + 5, none⟩) hbB).trans c5
  have e6 := (hb.cell (p := ⟨b, o + i * 10 + 6, none⟩) hbB).trans c6
  have e7 := (hb.cell (p := ⟨b, o + i * 10 + 7, none⟩) hbB).trans c7
  have e8 := (hb.cell (p := ⟨b, o + i * 10 + 8, none⟩) hbB).trans c8
  have e9 := (hb.cell (p := ⟨b, o + i * 10 + 9, none⟩) hbB).trans c9
  clear c0 c1 c2 c3 c4 c5 c6 c7 c8 c9 hr1 hr2 hv
  obtain ⟨n, hn⟩ : ∃ n, rs.length = n := ⟨_, rfl⟩
  have HNN := hid hn
  have HO := hid h
  rw [hn] at HO hi ⊢
  have hiI : (i : Int) < (n : Int) := by omega
  have hi0 : (0 : Int) ≤ (i : Int) := by omega
  obtain ⟨ov, hc, _⟩ := HO.out
  have g3 : W.cell? ⟨cb, 3, none⟩ = some (.slice (some ⟨b, o, none⟩) n rc) := by rw [Lib.cell_of_heap hc]; rfl
  have hcl := heap_lt hc
  have hbl : b < W.heap.size := by have := hb.size; omega
  clear h hc
  unfold Gr.strV at *
  refine (callsIn_wide (n := 5)).1 ?_
  refine callsIn_of_wp_marks Tryz.func162 rfl trivial ?_ rfl
  simp only [Tryz.ntmps162, List.size_toArray, List.length_cons, List.length_nil, Nat.reduceAdd, Nat.reduceSub, Array.replicate_succ, Array.replicate_zero, List.push_toArray, List.append_toArray, List.nil_append, List.cons_append]
  gi_wp2_with fail
  have y1 : (W.alloc (.cells #[.pointer (some ⟨cb, 0, none⟩)] 208)).heap.size = W.heap.size + 1 := by simp
  have y2 : ((W.alloc (.cells #[.pointer (some ⟨cb, 0, none⟩)] 208)).alloc (.cells #[.int .i64 (i : Int)] 3)).heap.size = W.heap.size + 1 + 1 := by simp
  have y3 : (((W.alloc (.cells #[.pointer (some ⟨cb, 0, none⟩)] 208)).alloc (.cells #[.int .i64 (i : Int)] 3)).alloc (.cells #[.int .u8 (code : Int)] 212)).heap.size = W.heap.size + 1 + 1 + 1 := by simp
  have hb1 : Below W.heap.size W ((((W.alloc (.cells #[.pointer (some ⟨cb, 0, none⟩)] 208)).alloc (.cells #[.int .i64 (i : Int)] 3)).alloc (.cells #[.int .u8 (code : Int)] 212)).alloc (.cells #[.func (.func wf) #[] lb] 185)) := (((below_new _ _).alloc (by omega) _).alloc (by omega) _).alloc (by omega) _
  have hh0 : ((((W.alloc (.cells #[.pointer (some ⟨cb, 0, none⟩)] 208)).alloc (.cells #[.int .i64 (i : Int)] 3)).alloc (.cells #[.int .u8 (code : Int)] 212)).alloc (.cells #[.func (.func wf) #[] lb] 185)).heap[W.heap.size]? = some (.cells #[.pointer (some ⟨cb, 0, none⟩)] 208 (0, 0)) := by rw [Below.heap_alloc _ _ _ (by omega), Below.heap_alloc _ _ _ (by omega), Below.heap_alloc _ _ _ (by omega)]; exact heap_alloc_new _ _
  have hh1 : ((((W.alloc (.cells #[.pointer (some ⟨cb, 0, none⟩)] 208)).alloc (.cells #[.int .i64 (i : Int)] 3)).alloc (.cells #[.int .u8 (code : Int)] 212)).alloc (.cells #[.func (.func wf) #[] lb] 185)).heap[W.heap.size + 1]? = some (.cells #[.int .i64 (i : Int)] 3 (0, 0)) := by rw [Below.heap_alloc _ _ _ (by omega), Below.heap_alloc _ _ _ (by omega), ← y1]; exact heap_alloc_new _ _
  have hh2 : ((((W.alloc (.cells #[.pointer (some ⟨cb, 0, none⟩)] 208)).alloc (.cells #[.int .i64 (i : Int)] 3)).alloc (.cells #[.int .u8 (code : Int)] 212)).alloc (.cells #[.func (.func wf) #[] lb] 185)).heap[W.heap.size + 1 + 1]? = some (.cells #[.int .u8 (code : Int)] 212 (0, 0)) := by rw [Below.heap_alloc _ _ _ (by omega), ← y2]; exact heap_alloc_new _ _
  have hh3 : ((((W.alloc (.cells #[.pointer (some ⟨cb, 0, none⟩)] 208)).alloc (.cells #[.int .i64 (i : Int)] 3)).alloc (.cells #[.int .u8 (code : Int)] 212)).alloc (.cells #[.func (.func wf) #[] lb] 185)).heap[W.heap.size + 1 + 1 + 1]? = some (.cells #[.func (.func wf) #[] lb] 185 (0, 0)) := by rw [← y3]; exact heap_alloc_new _ _
  have hz1 : ((((W.alloc (.cells #[.pointer (some ⟨cb, 0, none⟩)] 208)).alloc (.cells #[.int .i64 (i : Int)] 3)).alloc (.cells #[.int .u8 (code : Int)] 212)).alloc (.cells #[.func (.func wf) #[] lb] 185)).heap.size = W.heap.size + 4 := by simp
  generalize (((W.alloc (.cells #[.pointer (some ⟨cb, 0, none⟩)] 208)).alloc (.cells #[.int .i64 (i : Int)] 3)).alloc (.cells #[.int .u8 (code : Int)] 212)).alloc (.cells #[.func (.func wf) #[] lb] 185) = W1 at hb1 hh0 hh1 hh2 hh3 hz1 ⊢
  have hbo : ∀ q : Nat, b < W.heap.size → W1.cell? ⟨b, q, none⟩ = W.cell? ⟨b, q, none⟩ := fun q h => hb1.cell (p := ⟨b, q, none⟩) h
  have f0 := (hbo _ hbl).trans e0
  have f1 := (hbo _ hbl).trans e1
  have f2 := (hbo _ hbl).trans e2
  have f3 := (hbo _ hbl).trans e3
  have f4 := (hbo _ hbl).trans e4
  have f5 := (hbo _ hbl).trans e5
  have f6 := (hbo _ hbl).trans e6
  have f7 := (hbo _ hbl).trans e7
  have f8 := (hbo _ hbl).trans e8
  have f9 := (hbo _ hbl).trans e9
  have s0 : W1.cell? ⟨W.heap.size, 0, none⟩ = some (.pointer (some ⟨cb, 0, none⟩)) := by rw [Lib.cell_of_heap hh0]; rfl
  have s1 : W1.cell? ⟨W.heap.size + 1, 0, none⟩ = some (.int .i64 (i : Int)) := by rw [Lib.cell_of_heap hh1]; rfl
  have s3 := (hb1.cell (p := ⟨cb, 3, none⟩) hcl).trans g3
  have hbl1 : b < W1.heap.size := by omega
  have hcl1 : cb < W1.heap.size := by omega
  have hxl1 : W.heap.size < W1.heap.size := by omega
  have hyl1 : W.heap.size + 1 < W1.heap.size := by omega
  have t0 := fun ob : Obj => ((below_new W1 ob).cell (p := ⟨b, o + i * 10, none⟩) hbl1).trans f0
  have t1 := fun ob : Obj => ((below_new W1 ob).cell (p := ⟨b, o + i * 10 + 1, none⟩) hbl1).trans f1
  have t2 := fun ob : Obj => ((below_new W1 ob).cell (p := ⟨b, o + i * 10 + 2, none⟩) hbl1).trans f2
  have t3 := fun ob : Obj => ((below_new W1 ob).cell (p := ⟨b, o + i * 10 + 3, none⟩) hbl1).trans f3
  have t4 := fun ob : Obj => ((below_new W1 ob).cell (p := ⟨b, o + i * 10 + 4, none⟩) hbl1).trans f4
  have t5 := fun ob : Obj => ((below_new W1 ob).cell (p := ⟨b, o + i * 10 + 5, none⟩) hbl1).trans f5
  have t6 := fun ob : Obj => ((below_new W1 ob).cell (p := ⟨b, o + i * 10 + 6, none⟩) hbl1).trans f6
  have t7 := fun ob : Obj => ((below_new W1 ob).cell (p := ⟨b, o + i * 10 + 7, none⟩) hbl1).trans f7
  have t8 := fun ob : Obj => ((below_new W1 ob).cell (p := ⟨b, o + i * 10 + 8, none⟩) hbl1).trans f8
  have t9 := fun ob : Obj => ((below_new W1 ob).cell (p := ⟨b, o + i * 10 + 9, none⟩) hbl1).trans f9
  have t10 := fun ob : Obj => ((below_new W1 ob).cell (p := ⟨W.heap.size, 0, none⟩) hxl1).trans s0
  have t11 := fun ob : Obj => ((below_new W1 ob).cell (p := ⟨W.heap.size + 1, 0, none⟩) hyl1).trans s1
  have t12 := fun ob : Obj => ((below_new W1 ob).cell (p := ⟨cb, 3, none⟩) hcl1).trans s3
  have HB1 := hid hb1
  have HHH := hid (And.intro hh0 (And.intro hh1 (And.intro hh2 hh3)))
  have HZ1 := hid hz1
  clear hb1 hh0 hh1 hh2 hh3 hz1 y1 y2 y3 e0 e1 e2 e3 e4 e5 e6 e7 e8 e9 g3 hbo
  refine wpIn_wide.2 ?_
  go_region
  clear f0 f1 f2 f3 f4 f5 f6 f7 f8 f9 s0 s1 s3 t0 t1 t2 t3 t4 t5 t6 t7 t8 t9 t10 t11 t12
  have hb2 := (below_new W1 (.cells #[.string ⟨rnm.toArray⟩, .int .u8 (rk : Int), .int .u8 xk, .string xm, .string xt, .slice xSA xa xsc, .slice xUA xb xuc, .int .i64 z0, .int .i64 z1, .int .i64 z2] 80)).drew
  have hh2 : (W1.alloc (.cells #[.string ⟨rnm.toArray⟩, .int .u8 (rk : Int), .int .u8 xk, .string xm, .string xt, .slice xSA xa xsc, .slice xUA xb xuc, .int .i64 z0, .int .i64 z1, .int .i64 z2] 80)).drew.heap[W1.heap.size]? = some (.cells #[.string ⟨rnm.toArray⟩, .int .u8 (rk : Int), .int .u8 xk, .string xm, .string xt, .slice xSA xa xsc, .slice xUA xb xuc, .int .i64 z0, .int .i64 z1, .int .i64 z2] 80 (0, 0)) := heap_alloc_new W1 _
  generalize (W1.alloc (.cells #[.string ⟨rnm.toArray⟩, .int .u8 (rk : Int), .int .u8 xk, .string xm, .string xt, .slice xSA xa xsc, .slice xUA xb xuc, .int .i64 z0, .int .i64 z1, .int .i64 z2] 80)).drew = W2 at hb2 hh2 ⊢
  have b2 : W2.cell? ⟨W1.heap.size, 2, none⟩ = some (.int .u8 xk) := by rw [Lib.cell_of_heap hh2]; rfl
  have b3 : W2.cell? ⟨W1.heap.size, 3, none⟩ = some (.string xm) := by rw [Lib.cell_of_heap hh2]; rfl
  have b4 : W2.cell? ⟨W1.heap.size, 4, none⟩ = some (.string xt) := by rw [Lib.cell_of_heap hh2]; rfl
  have b5 : W2.cell? ⟨W1.heap.size, 5, none⟩ = some (.slice xSA xa xsc) := by rw [Lib.cell_of_heap hh2]; rfl
  have b6 : W2.cell? ⟨W1.heap.size, 6, none⟩ = some (.slice xUA xb xuc) := by rw [Lib.cell_of_heap hh2]; rfl
  have HB2 := hid hb2
  have HH2 := hid hh2
  clear hb2 hh2
  gi_wp2_with fail
  refine ⟨trivial, (callsIn_wide.2 (checks_all _ _ _ _ _ _ rfl _)).mono ?_⟩
  rintro _ W3' ⟨rfl, rfl⟩
  have hb3 := below_new W2 (.cells #[.int .u8 xk, .string xm, .string xt, .slice xSA xa xsc, .slice xUA xb xuc] 74)
  have hh3 := heap_alloc_new W2 (.cells #[.int .u8 xk, .string xm, .string xt, .slice xSA xa xsc, .slice xUA xb xuc] 74)
  clear b2 b3 b4 b5 b6
  gi_wp2_with fail
  have hz3 : (W2.alloc (.cells #[.int .u8 xk, .string xm, .string xt, .slice xSA xa xsc, .slice xUA xb xuc] 74)).heap.size = W2.heap.size + 1 := by simp
  generalize W2.alloc (.cells #[.int .u8 xk, .string xm, .string xt, .slice xSA xa xsc, .slice xUA xb xuc] 74) = W3 at hb3 hh3 hz3 ⊢
  have hb12 := HB1.out.size
  have hb22 := HB2.out.size
  have hz1 : W.heap.size + 4 ≤ W1.heap.size := Nat.le_of_eq HZ1.out.symm
  have hz3' : W2.heap.size + 1 ≤ W3.heap.size := Nat.le_of_eq hz3.symm
  clear hz3
  have hw03 : Below W.heap.size W W3 := HB1.out.trans ((HB2.out.trans (hb3.mono hb22)).mono hb12)
  have hk03 : KpT B (TlC cb) W W3 := KpT.of hw03 hbs
  have ho3 := HO.out.next hw03
  have h13 : ∀ k, k < W1.heap.size → W3.heap[k]? = W1.heap[k]? := fun k hk => (hb3.block k (by omega)).trans (HB2.out.block k hk)
  have q0 := (h13 _ (by omega)).trans HHH.out.1
  have q1 := (h13 _ (by omega)).trans HHH.out.2.1
  have q2 := (h13 _ (by omega)).trans HHH.out.2.2.1
  have q3 := (h13 _ (by omega)).trans HHH.out.2.2.2
  have q4 := (hb3.block _ (heap_lt HH2.out)).trans HH2.out
  have HBX := hid (fun (u : World) (h : KpT B (TlC cb) W3 u) => (show u.heap[W.heap.size]? = some (.cells #[.pointer (some ⟨cb, 0, none⟩)] 208 (0, 0)) ∧ u.heap[W.heap.size + 1]? = some (.cells #[.int .i64 (i : Int)] 3 (0, 0)) ∧ u.heap[W.heap.size + 1 + 1]? = some (.cells #[.int .u8 (code : Int)] 212 (0, 0)) ∧ u.heap[W.heap.size + 1 + 1 + 1]? = some (.cells #[.func (.func wf) #[] lb] 185 (0, 0)) ∧ u.heap[W1.heap.size]? = some (.cells #[.string ⟨rnm.toArray⟩, .int .u8 (rk : Int), .int .u8 xk, .string xm, .string xt, .slice xSA xa xsc, .slice xUA xb xuc, .int .i64 z0, .int .i64 z1, .int .i64 z2] 80 (0, 0)) from
    ⟨h.2 _ _ _ q0 (fun e => e.elim (fun e => by omega) (fun e => absurd e (by decide))), h.2 _ _ _ q1 (fun e => e.elim (fun e => by omega) (fun e => absurd e (by decide))), h.2 _ _ _ q2 (fun e => e.elim (fun e => by omega) (fun e => absurd e (by decide))), h.2 _ _ _ q3 (fun e => e.elim (fun e => by omega) (fun e => absurd e (by decide))), h.2 _ _ _ q4 (fun e => e.elim (fun e => by omega) (fun e => absurd e (by decide)))⟩))
  have HW := hid hw
  have HK03 := hid hk03
  have hB3 : B ≤ W3.heap.size := by omega
  have hcb3 : cb < W3.heap.size := by omega
  clear q0 q1 q2 q3 q4 h13 hw HB1 HB2 HHH HH2 HO
  refine wpIn_rangeFunc_ownH rfl (by omega) (gf := 181) (lb := #[.pointer (some ⟨W2.heap.size, 0, none⟩)]) rfl trivial (enters_of Tryz.func181 (by kernel_rfl) rfl)
    (allT_stops (w0 := w0) (B := B) (TlC cb) rbd _ W3 W2.heap.size hnd hok.2.2 (hb.trans (hw03.mono hbs)) hB3 hh3 (fun k T e => e.elim (fun e => .inl (by omega)) (fun e => .inr (by rw [e]; exact ⟨by decide, by decide⟩)))) KpT.trans (fun W l o o' hl h ho _ => kpT_b hB3 W l o o' hl h ho) (Below.refl _ _) (fun _ => rfl)
    (fun pre u => KpT B (TlC cb) W3 u ∧ OutR B cb (.string ⟨gn.toArray⟩) (.int .i64 bd) (.int .i64 st) (.slice (some ⟨b, o, none⟩) n rc) x4 x5 x6 (out ++ pbsOf i code own rnm wr (projI pre)) u)
    (fun _ _ _ => False)
    (ownFrom_of (n0 := W3.heap.size) (fun s u h => h.1.1.size) (Nat.le_refl _) (fun s u u' h hbu hcu => ⟨⟨h.1.1.trans (hbu.mono hB3), fun k cs T e hc => hcu _ _ _ _ (h.1.2 k cs T e hc)⟩, h.2.cells hcu⟩))
    (fun _ _ _ _ _ h _ _ => h.elim)
    ⟨KpT.refl _ _ _, by simpa [projI, pbsOf] using ho3⟩
    (fun x a' u => ∃ Bx, W3.heap.size ≤ Bx ∧ u.heap[Bx]? = some (.cells x.cs.toArray 74 (0, 0)) ∧ a' = { tmps := #[.pointer (some ⟨cb, 0, none⟩), .int .i64 (i : Int), .int .u8 (code : Int), .func (.func wf) #[] lb, .pointer (some ⟨W.heap.size, 0, none⟩), .pointer (some ⟨W.heap.size + 1, 0, none⟩), .pointer (some ⟨W.heap.size + 1 + 1, 0, none⟩), .pointer (some ⟨W.heap.size + 1 + 1 + 1, 0, none⟩), .pointer (some ⟨W1.heap.size, 0, none⟩), .pointer (some ⟨Bx, 0, none⟩), undef, .pointer (some ⟨cb, 0, none⟩), .pointer (some ⟨cb, 0, none⟩), .pointer (some ⟨cb, 0, none⟩), .pointer (some ⟨cb, 3, none⟩), .slice (some ⟨b, o, none⟩) n rc, .int .i64 (i : Int), .pointer (some ⟨b, o + i * 10, none⟩), .agg #[.string ⟨rnm.toArray⟩, .int .u8 (rk : Int), .int .u8 xk, .string xm, .string xt, .slice xSA xa xsc, .slice xUA xb xuc, .int .i64 z0, .int .i64 z1, .int .i64 z2], .pointer (some ⟨W1.heap.size, 2, none⟩), .agg #[.int .u8 xk, .string xm, .string xt, .slice xSA xa xsc, .slice xUA xb xuc], .func (.func 181) #[] #[.pointer (some ⟨W2.heap.size, 0, none⟩)], .agg x.cs.toArray, undef, undef, undef, undef, undef, undef, undef, undef, undef, undef, undef, undef, undef, undef, undef], defers := [] })
    (fun x a' _ X Y row hs hg hr => by obtain ⟨Bx, e1, e2, e3⟩ := hs; exact ⟨Bx, e1, cells_own Bx (fun (_ : Unit) => x.cs.toArray) _ () X Y row e2 hg (fun r e => (hr r e).2), e3⟩)
    ?assign ?body ?done ?stop
  case assign =>
    rintro l pre ⟨xn, xcs, xh, xok⟩ u K ⟨hk, ho⟩ hK
    obtain ⟨vk, vm, vt, vSA, va, vsc, vUA, vb, vuc, rfl⟩ := xh.form
    have HK := hid hK
    clear hK
    simp only [NdIt.enc]
    gi_wp2_with fail
    exact HK.out _ _ ((KeepsOthers.alloc _ _).from _) (KpT.of (below_new u _) (Nat.le_trans hB3 hk.1.size)) ⟨hk.trans (KpT.of (below_new u _) (Nat.le_trans hB3 hk.1.size)), ho.next (below_new u _)⟩ ⟨u.heap.size, hk.1.size, heap_alloc_new u _, rfl⟩
  case body =>
    rintro l pre ⟨xn, xcs, xh, xok⟩ a' u hl ⟨r, hr⟩ ⟨hk, ho⟩ ⟨Bx, hBx, bX, rfl⟩ hlt
    have hwx := HW.out ⟨xn, xcs, xh, xok⟩ u (HK03.out.trans hk) ⟨_, by rw [HNN.out]; exact ho⟩
    have HLT := hid hlt
    obtain ⟨vk, vm, vt, vSA, va, vsc, vUA, vb, vuc, rfl⟩ := xh.form
    dsimp only at bX
    obtain ⟨h0, h1, h2, h3, h4⟩ := HBX.out u hk
    have c0 : u.cell? ⟨W.heap.size, 0, none⟩ = some (.pointer (some ⟨cb, 0, none⟩)) := by rw [Lib.cell_of_heap h0]; rfl
    have c1 : u.cell? ⟨W.heap.size + 1, 0, none⟩ = some (.int .i64 (i : Int)) := by rw [Lib.cell_of_heap h1]; rfl
    have c2 : u.cell? ⟨W.heap.size + 1 + 1, 0, none⟩ = some (.int .u8 (code : Int)) := by rw [Lib.cell_of_heap h2]; rfl
    have c3 : u.cell? ⟨W.heap.size + 1 + 1 + 1, 0, none⟩ = some (.func (.func wf) #[] lb) := by rw [Lib.cell_of_heap h3]; rfl
    have c4 : u.cell? ⟨W1.heap.size, 0, none⟩ = some (.string ⟨rnm.toArray⟩) := by rw [Lib.cell_of_heap h4]; rfl
    obtain ⟨d0, d1, d2, d3, d4⟩ := (show _ from cells5' bX)
    have HKU := hid hk
    have HOU := hid ho
    have HBXU := hid bX
    obtain ⟨q, hq⟩ : ∃ q, wr xn = q := ⟨_, rfl⟩
    dsimp only at hwx
    rw [hq] at hwx
    have HQ := hid hq
    have HC := hid (CallsIn.inRound l (callsIn_wide (n := 2) |>.2 hwx))
    dsimp only
    clear h0 h1 h2 h3 h4 hk ho hq hwx bX hlt
    gi_wp2_with fail
    refine ⟨trivial, HC.out.mono ?_⟩
    rintro _ u2 ⟨rfl, hb2⟩
    have hk2 : KpT B (TlC cb) u u2 := KpT.of hb2 (Nat.le_trans hB3 HKU.out.1.size)
    have hg2 := grown_of hb2
    have ho2 := HOU.out.next hb2
    have hx2 := (hb2.block _ (heap_lt HBXU.out)).trans HBXU.out
    obtain ⟨h0, h1, h2, h3, h4⟩ := HBX.out u2 (HKU.out.trans hk2)
    clear c0 c1 c2 c3 c4 d0 d1 d2 d3 d4 HC
    have c0 : u2.cell? ⟨W.heap.size, 0, none⟩ = some (.pointer (some ⟨cb, 0, none⟩)) := by rw [Lib.cell_of_heap h0]; rfl
    have c1 : u2.cell? ⟨W.heap.size + 1, 0, none⟩ = some (.int .i64 (i : Int)) := by rw [Lib.cell_of_heap h1]; rfl
    have c2 : u2.cell? ⟨W.heap.size + 1 + 1, 0, none⟩ = some (.int .u8 (code : Int)) := by rw [Lib.cell_of_heap h2]; rfl
    have c4 : u2.cell? ⟨W1.heap.size, 0, none⟩ = some (.string ⟨rnm.toArray⟩) := by rw [Lib.cell_of_heap h4]; rfl
    have HB2 := hid hb2
    have HK2 := hid hk2
    have HG2 := hid hg2
    have HO2 := hid ho2
    have HX2 := hid hx2
    cases q with
    | false =>
      clear c0 c1 c2 c4 h0 h1 h2 h3 h4 hb2 hk2 hg2 ho2 hx2
      gi_wp2_with fail
      refine ⟨KeepsFrom.of_grownBy HG2.out (fun j e => by cases e), HK2.out, HKU.out.trans HK2.out, ?_⟩
      rw [projI_append, show projI [(⟨xn, _, xh, xok⟩ : NdIt w0 B)] = [xn] from rfl, pbsOf_snoc, if_neg (by rw [HQ.out]; decide), List.append_nil]
      exact HO2.out
    | true =>
      obtain ⟨_, nm2, _, _, _, hx9, hnm⟩ : ∃ (k : Nat) (nm2 : List UInt8) (t : List UInt8) (st : List (Int × Int)) (L : List Gr.Nd), xn = .mk k nm2 t st L ∧ vm = ⟨nm2.toArray⟩ := by
        cases xn with
        | mk k nm2 t st L =>
          have h9 := xh
          unfold NdR at h9
          obtain ⟨_, _, _, _, _, h9, _⟩ := h9
          injection h9 with _ h9
          injection h9 with h9 _
          unfold Gr.strV at h9
          injection h9 with h9
          exact ⟨k, nm2, t, st, L, rfl, h9⟩
      subst hnm
      have d1 : u2.cell? ⟨Bx, 1, none⟩ = some (.string ⟨nm2.toArray⟩) := by rw [Lib.cell_of_heap hx2]; rfl
      have HTL := hid (fun nmz => tell_any B cb _ _ _ _ x4 x5 x6 (out ++ pbsOf i code own rnm wr (projI pre)) code (i : Int) nmz u2 HO2.out hcb (Nat.le_trans hB3 (Nat.le_trans HKU.out.1.size hb2.size)) (by
        have := pbsOf_len i code own rnm wr (projI pre)
        have h7 : (projI pre).length = pre.length := by simp [projI]
        have := HLT.out
        rw [List.length_append]
        omega))
      have HN9 := hid (show xn.name = nm2 by rw [hx9]; rfl)
      clear h0 h1 h2 h3 h4 hb2 hk2 hg2 ho2 hx2 hx9
      by_cases h6 : code = 6
      · have hown2 : own = true := by rw [hown, h6]; rfl
        have HOWN := hid hown2
        obtain ⟨cz, hcz⟩ : ∃ cz : Int, (code : Int) = cz := ⟨_, rfl⟩
        rw [hcz] at c2 HTL ⊢
        obtain rfl : cz = 6 := by omega
        have HC6 := hid hown
        clear hown hown2 hcz h6
        gi_wp2_with fail
        refine ⟨trivial, ?_⟩
        refine (CallsIn.inRound l (callsIn_wide (n := 2) |>.2 (HTL.out rnm))).mono ?_
        rintro _ u3 ⟨⟨rv, rfl⟩, ho3, hk3, hko3⟩
        have HF := hid (And.intro ho3 (And.intro hk3 hko3))
        clear ho3 hk3 hko3 c0 c1 c2 c4 d1
        gi_wp2_with fail
        refine ⟨(KeepsFrom.of_grownBy HG2.out (fun j e => by cases e)).trans (HF.out.2.2.from _), HK2.out.trans HF.out.2.1, HKU.out.trans (HK2.out.trans HF.out.2.1), ?_⟩
        rw [projI_append, show projI [(⟨xn, _, xh, xok⟩ : NdIt w0 B)] = [xn] from rfl, pbsOf_snoc, if_pos (by rw [HQ.out]), show (if own then rnm else xn.name) = rnm by rw [HOWN.out]; rfl, ← List.append_assoc]
        exact HF.out.1
      · have hown2 : own = false := by rw [hown]; simpa using h6
        have HOWN := hid hown2
        obtain ⟨cz, hcz⟩ : ∃ cz : Int, (code : Int) = cz := ⟨_, rfl⟩
        have f6 : (cz != 6) = true := by simp; omega
        have f7 : (cz == 6) = false := by rw [beq_eq_false_iff_ne]; omega
        rw [hcz] at c2 HTL ⊢
        have HC6 := hid hown
        clear hown hown2 hcz h6
        gi_wp2_with fail
        refine ⟨trivial, ?_⟩
        refine (CallsIn.inRound l (callsIn_wide (n := 2) |>.2 (HTL.out nm2))).mono ?_
        rintro _ u3 ⟨⟨rv, rfl⟩, ho3, hk3, hko3⟩
        have HF := hid (And.intro ho3 (And.intro hk3 hko3))
        clear ho3 hk3 hko3 c0 c1 c2 c4 d1
        gi_wp2_with fail
        refine ⟨(KeepsFrom.of_grownBy HG2.out (fun j e => by cases e)).trans (HF.out.2.2.from _), HK2.out.trans HF.out.2.1, HKU.out.trans (HK2.out.trans HF.out.2.1), ?_⟩
        rw [projI_append, show projI [(⟨xn, _, xh, xok⟩ : NdIt w0 B)] = [xn] from rfl, pbsOf_snoc, if_pos (by rw [HQ.out]), show (if own then rnm else xn.name) = nm2 by rw [HOWN.out, HN9.out]; rfl, ← List.append_assoc]
        exact HF.out.1
  case done =>
    rintro D ys u hD hys ⟨hk, ho⟩ hK
    have HF := hid (And.intro hk (And.intro ho hys))
    clear hk ho hys
    gi_wp2_with fail
    refine ⟨by simp, .inl ⟨_, _, rfl, run_takeDeferred hK, ?_⟩⟩
    have hcu : ∀ (k : Nat) (cs : Array Value) (T : TypeId) (fr : Nat × Nat), u.heap[k]? = some (Obj.cells cs T fr) → (u.putObj D (.deferred none)).heap[k]? = some (Obj.cells cs T fr) := fun k cs T fr e => ((grownBy_putObj' u D (.deferred none)).block k (heap_lt e) (fun e' => by cases e'; rw [e] at hK; cases hK)).trans e
    refine ⟨_, results_none rfl _ _ _, ⟨_, rfl⟩, ?_, HK03.out.trans (HF.out.1.trans (kpT_b (w := W3) hB3 u D _ _ hD hK rfl))⟩
    have hys : projI ys = Gr.ndT rbd := HF.out.2.2
    rw [← hys]
    exact HF.out.2.1.cells hcu
  case stop =>
    rintro D c pre u _ _ h _
    exact h.elim
end
end Go.Proofs.YtpbnfinmjnpkpaaGreatDoor
