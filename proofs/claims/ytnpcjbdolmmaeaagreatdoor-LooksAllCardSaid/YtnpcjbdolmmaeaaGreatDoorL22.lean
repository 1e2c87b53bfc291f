/-
  What comes of a configuration at once (harbingerref14.View.from): the walk.
-/
import Derived.Deep.RegionHeld3
import Derived.Test.YtnpcjbdolmmaeaaGreatDoorL21
namespace Go.Proofs.YtnpcjbdolmmaeaaGreatDoor
open Go.RowKit Go.Maps
open Go.Sort (grow)
set_option maxRecDepth 100000
theorem step_append_reads {P : Program} (w : World) {ops : Array Oper} {o : Oper} {a : Act} {K : Act → World → Prop} {Q : Exit → Act → World → Prop} {E : Prop} (hgd : o.guard = none) (s x : Operand) (t : TypeId)
    (ho : o.op = .call { callee := .builtin .append, args := #[s, x], argTypes := #[t, t] })
    (base : Nat) (e : TypeId) (i : TypeInfo) (z : Value) (size bytes : Nat) (ht : P.underlying t = some (.slice e)) (hi : P.info? e = some i) (hz : i.zero = some z)
    (hsize : i.size = size) (hby : i.bytes = bytes) (hzs : z.cells.size = size) (hsz : 0 < size)
    (v : Value) (n : Nat) (xs : List Value) (hs : a.eval s = v) (hown : w.ownsRow base e size v n xs)
    (B : Nat) (A : Option Addr) (m c : Nat) (news : List Value) (hx : a.eval x = .slice A m c) (hr : Reads w B size A m news) (h1 : ∀ u ∈ news, u.oneCell' = true)
    (h63 : n + m ≤ maxLen) (hbytes : (n + m) * bytes ≤ 140737488355328) (hbase : base ≤ w.heap.size)
    (h : ∀ v' w', w'.ownsRow base e size v' (n + m) (xs ++ news) → (∀ W, Below base W w → Below base W w') → K (a.put o.dst v') w') : if Region.wanted o (yielded ops a.tmps) = true then Oper.wp P o a w K Q else E := by
  have hw : Region.wanted o (yielded ops a.tmps) = true := by simp [Region.wanted, hgd]
  rw [if_pos hw]
  have nilcase : m = 0 → ∀ v' w', (Builtin.append_ #[t, t] o.type #[v, .slice A m c]).run P w = .ok v' w' → v' = v → w' = w → Oper.wp P o a w K Q := by
    intro hm v' w' hrun hv hw
    subst hm
    have hn : news = [] := List.eq_nil_of_length_eq_zero (by simpa using hr.1)
    subst hn
    unfold Oper.wp execOp
    simp only [ho, resolve, invoke, builtin, Sem.run_bind, Sem.run_pure, Result.andThen_ok, List.map_toArray, List.map_cons, List.map_nil, hs, hx, hrun]
    exact h v' w' (by rw [hv, hw]; simpa using hown) (fun W hW => by rw [hw]; exact hW)
  rcases A with _ | ad
  · have hm : m = 0 := by
      rcases Nat.eq_zero_or_pos m with h0 | h0
      · exact h0
      · obtain ⟨_, _, h, _⟩ := hr.2 h0
        cases h
    refine nilcase hm v w ?_ rfl rfl
    subst hm
    rcases hown.2 with ⟨rfl, rfl⟩ | ⟨g, cap, cur, rfl, _, _, hnc, _⟩
    · simp [Builtin.append_, run_underlying ht, sizeOf, typeInfo, hi, Builtin.lenOf, Builtin.firstCells]
    · simp [Builtin.append_, run_underlying ht, sizeOf, typeInfo, hi, Builtin.lenOf, Builtin.firstCells, hnc, storeCells]
  · refine wp_append_own (P := P) _ s x t ho base e i z size bytes ht hi hz hsize hby hzs hsz v n xs hs hown ad m c news hx hr.1 ?_ h1 h63 hbytes hbase ?_
    · intro j u hu
      rcases Nat.eq_zero_or_pos m with h0 | h0
      · subst h0
        have hn : news = [] := List.eq_nil_of_length_eq_zero (by simpa using hr.1)
        subst hn
        simp at hu
      · obtain ⟨b, off, hA, _, hc⟩ := hr.2 h0
        injection hA with hA
        subst hA
        have := hc j u hu
        have e : (⟨b, off, none⟩ : Addr).add j = ⟨b, off + j, none⟩ := by
          unfold Addr.add; by_cases h : j = 0 <;> simp [h]
        rw [e]; exact this
    · intro v' w' ho' hg _
      exact h v' w' ho' fun W hW => hW.grown hg hbase fun k hk => (hown.lt k hk).1
theorem StsRf.at {w : World} {B : Nat} {A : Option Addr} {l : List Drv.NSt} (h : StsRf w B A l) {i : Nat} (hi : i < l.length) : ∃ b off EA ec XA xc, A = some ⟨b, off, none⟩ ∧ b < B ∧
    w.cell? ⟨b, off + i * 3, none⟩ = some (.int .i64 l[i].rule) ∧ w.cell? ⟨b, off + i * 3 + 1, none⟩ = some (.slice EA l[i].edges.length ec) ∧ w.cell? ⟨b, off + i * 3 + 2, none⟩ = some (.slice XA l[i].ends.length xc) ∧
    Reads w B 3 EA l[i].edges.length (flat encEf l[i].edges) ∧ Reads w B 1 XA l[i].ends.length (l[i].ends.map (Value.int .i64)) := by
  obtain ⟨vs, h1, h2⟩ := h
  obtain ⟨EA, ec, XA, xc, e0, e1, e2, r0, r1⟩ := h2 i hi
  obtain ⟨b, off, hA, hb, hc⟩ := h1.2 (by omega)
  exact ⟨b, off, EA, ec, XA, xc, hA, hb, hc _ _ e0, (by have := hc _ _ e1; rwa [← Nat.add_assoc] at this), (by have := hc _ _ e2; rwa [← Nat.add_assoc] at this), r0, r1⟩
theorem edge_atf {w : World} {B : Nat} {A : Option Addr} {l : List Drv.Ed} (h : Reads w B 3 A l.length (flat encEf l)) {j : Nat} (hj : j < l.length) : ∃ b off, A = some ⟨b, off, none⟩ ∧ b < B ∧
    w.cell? ⟨b, off + j * 3, none⟩ = some (.int .i64 l[j].kind) ∧ w.cell? ⟨b, off + j * 3 + 1, none⟩ = some (.int .i64 l[j].what) ∧ w.cell? ⟨b, off + j * 3 + 2, none⟩ = some (.int .i64 l[j].to) := by
  obtain ⟨b, off, hA, hb, hc⟩ := h.2 (by omega)
  refine ⟨b, off, hA, hb, ?_, ?_, ?_⟩
  · have := hc (j * 3) _ (by have := flat_get encEf 3 (fun _ => rfl) l j hj 0 (by omega); rw [Nat.add_zero] at this; exact this); exact this
  · have := hc (j * 3 + 1) _ (flat_get encEf 3 (fun _ => rfl) l j hj 1 (by omega)); rwa [← Nat.add_assoc] at this
  · have := hc (j * 3 + 2) _ (flat_get encEf 3 (fun _ => rfl) l j hj 2 (by omega)); rwa [← Nat.add_assoc] at this
def FI (w0 : World) (S : Nat → Prop) (u : Value) (L : List Cf.Cfg) (wr : World) : Prop :=
  ∃ vs, wr.ownsRow w0.heap.size 103 5 u L.length vs ∧ CfsV wr (fun b => (S b ∧ b < w0.heap.size) ∨ u.ownBlock = some b) L vs ∧ Below w0.heap.size w0 wr
theorem FI.start (w0 : World) (S : Nat → Prop) : FI w0 S (.slice none 0 0) [] w0 := ⟨[], World.ownsRow_nil w0 _ _ 5, rfl, Below.refl _ _⟩
theorem FI.more {w0 wr : World} {S : Nat → Prop} {u : Value} {L : List Cf.Cfg} (h : FI w0 S u L wr) : Below w0.heap.size w0 wr := by
  obtain ⟨_, _, _, h⟩ := h
  exact h
theorem FI.lt {w0 wr : World} {S : Nat → Prop} {u : Value} {L : List Cf.Cfg} (h : FI w0 S u L wr) : ∀ k, u.ownBlock = some k → k < wr.heap.size := by
  obtain ⟨_, h, _, _⟩ := h
  exact fun k hk => (h.lt k hk).2
theorem FI.stay {w0 wr w2 : World} {S : Nat → Prop} {u : Value} {L : List Cf.Cfg} (h : FI w0 S u L wr) (hb : Below wr.heap.size wr w2) : FI w0 S u L w2 := by
  obtain ⟨vs, h1, h2, h3⟩ := h
  exact ⟨vs, ownsRow_below h1 hb (Nat.le_refl _), h2.only (Only.of_below hb) (fun _ _ e => e), h3.trans (hb.mono h3.size)⟩
theorem FI.push {w0 wr w2 : World} {S : Nat → Prop} {u : Value} {L : List Cf.Cfg} {y : Cf.Cfg} {vs : List Value} {A : Option Addr} {c g cg : Nat} (h : wr.ownsRow w0.heap.size 103 5 u L.length vs) (h2 : CfsV wr (fun b => (S b ∧ b < w0.heap.size) ∨ u.ownBlock = some b) L vs) (h3 : Below w0.heap.size w0 wr)
    (hc : y.stack.length ≤ c) (hy : RO wr (fun b => (S b ∧ b < w0.heap.size) ∨ u.ownBlock = some b) 1 A y.stack.length (y.stack.map (Value.int .i64))) (ho : Only (fun k => u.ownBlock = some k) wr w2) (hg : u.ownBlock = some g ∨ wr.heap.size ≤ g)
    (hown : w2.ownsRow w0.heap.size 103 5 (.slice (some ⟨g, 0, none⟩) (L.length + 1) cg) (L.length + 1) (vs ++ [.int .i64 y.alt, .int .i64 y.state, .slice A y.stack.length c, .bool y.exact, .bool y.ended])) :
    FI w0 S (.slice (some ⟨g, 0, none⟩) (L.length + 1) cg) (L ++ [y]) w2 := by
  refine ⟨_, by rw [List.length_append]; exact hown, ?_, h3.trans (ho.below' (fun k hk => (h.lt k hk).1) h3.size)⟩
  refine CfsV.only (S := fun b => (S b ∧ b < w0.heap.size) ∨ u.ownBlock = some b) (ho.more fun _ _ e => .inr e) (fun b hb e => ?_) (CfsV.snoc (x := y) ⟨A, c, rfl, hc, hy⟩ h2)
  rcases e with e | e
  · exact .inl e
  · have e : g = b := by injection e
    rcases hg with h | h
    · exact .inr (by rw [h, e])
    · omega
def FromP (v : Cf.Vw) (x : Cf.Cfg) (S : Nat → Prop) (w : World) (e : Ending) (w' : World) : Prop :=
  Below w.heap.size w w' ∧ ((Cf.fullOf v x = true ∧ e = .returned (.tuple #[.slice none 0 0, .bool false, .bool true])) ∨
    (Cf.fullOf v x = false ∧ ∃ A c, e = .returned (.tuple #[.slice A (Cf.comeOf v x).length c, .bool (Cf.staysOf v x), .bool false]) ∧ CfR w' (fun b => S b ∧ b < w.heap.size) A (Cf.comeOf v x)))
theorem take_flat {α β : Type} (f : α → List β) (l : List α) (j : Nat) (h : j < l.length) : (l.take (j + 1)).flatMap f = (l.take j).flatMap f ++ f l[j] := by
  rw [List.take_succ_eq_append_getElem h, List.flatMap_append]; simp
theorem take_any {α : Type} (f : α → Bool) (l : List α) (j : Nat) (h : j < l.length) : (l.take (j + 1)).any f = ((l.take j).any f || f l[j]) := by
  rw [List.take_succ_eq_append_getElem h, List.any_append]; simp
theorem come_few (v : Cf.Vw) (x : Cf.Cfg) : ∀ l : List Drv.Ed, (l.flatMap (Cf.comeE v x)).length ≤ l.length
  | [] => Nat.zero_le _
  | e :: l => by
    have h := come_few v x l
    rw [List.flatMap_cons, List.length_append, List.length_cons]
    have : (Cf.comeE v x e).length ≤ 1 := by
      unfold Cf.comeE
      split
      · exact Nat.le_refl _
      · split
        · exact Nat.le_refl _
        · split
          · exact Nat.le_refl _
          · exact Nat.zero_le _
    omega
theorem back_few (x : Cf.Cfg) : ∀ l : List Int, (l.flatMap fun t => if x.stack ≠ [] ∧ t = x.state then [Cf.atC x (x.stack.getLastD 0) x.stack.dropLast true] else []).length ≤ l.length
  | [] => Nat.zero_le _
  | e :: l => by
    have h := back_few x l
    rw [List.flatMap_cons, List.length_append, List.length_cons]
    have : (if x.stack ≠ [] ∧ e = x.state then [Cf.atC x (x.stack.getLastD 0) x.stack.dropLast true] else []).length ≤ 1 := by
      split
      · exact Nat.le_refl _
      · exact Nat.zero_le _
    omega
def fullE (v : Cf.Vw) (x : Cf.Cfg) (e : Drv.Ed) : Bool := decide (e.kind = 2) && decide (v.bound ≤ x.stack.count e.to)
set_option maxHeartbeats 8000000 in
theorem from_any (v : Cf.Vw) (x : Cf.Cfg) (S : Nat → Prop) (A : Option Addr) (cx : Nat) (w : World) (B V : Nat) (a : VwA) (hv : RvAt w B V a v) (hB : B ≤ w.heap.size) (W : Cf.OkW v) (hh : Cf.has v x = true) (hk : ∀ e ∈ (Cf.stOf v x).edges, 0 ≤ e.kind ∧ e.kind ≤ 3) (hU : v.n.stops.length ≤ 1000000)
    (hcx : x.stack.length ≤ cx) (hx : x.stack.length ≤ 100000) (hr : RO w S 1 A x.stack.length (x.stack.map (Value.int .i64))) :
    Calls Tryz.prog 63 #[.pointer (some ⟨V, 0, none⟩), .agg #[.int .i64 x.alt, .int .i64 x.state, .slice A x.stack.length cx, .bool x.exact, .bool x.ended]] w (FromP v x S w) := by
  obtain ⟨xa, xs, xst, xe, xn⟩ := x
  have hst := Cf.has_state hh
  obtain ⟨i, rfl⟩ : ∃ i : Nat, xs = (i : Int) := ⟨xs.toNat, by have := hst.2.2.1; simp only at this; omega⟩
  dsimp only at hr hcx hx ⊢
  obtain ⟨w1, hw1⟩ : ∃ w1, Hid (w.alloc (.cells #[.int .i64 xa, .int .i64 (i : Int), .slice A xst.length cx, .bool xe, .bool xn] 103) = w1) := ⟨_, hid rfl⟩
  have hb1 : Below w.heap.size w w1 := by rw [← hw1.out]; exact below_new _ _
  have h1 : w1.heap[w.heap.size]? = some (.cells #[.int .i64 xa, .int .i64 (i : Int), .slice A xst.length cx, .bool xe, .bool xn] 103 (0, 0)) := by rw [← hw1.out]; exact heap_alloc_new _ _
  have z1 : w1.heap.size = w.heap.size + 1 := by rw [← hw1.out]; simp
  have s1 : w1.cell? ⟨w.heap.size, 1, none⟩ = some (.int .i64 (i : Int)) := by rw [Lib.cell_of_heap h1]; rfl
  have hil : i < v.n.states.length := by have := hst.2.2.2; simp only at this; omega
  obtain ⟨s, hs⟩ : ∃ s, v.n.states[i] = s := ⟨_, rfl⟩
  have hsto : Cf.stOf v ⟨xa, (i : Int), xst, xe, xn⟩ = s := by
    unfold Cf.stOf
    rw [List.getD_eq_getElem?_getD, List.getElem?_eq_getElem (by simpa using hil)]
    simpa using hs
  have hsm : s ∈ v.n.states := by rw [← hs]; exact List.getElem_mem _
  have hv1 := hv.below (hb1.mono hB)
  obtain ⟨sb, so, EA, ec, XA, xc, hSA, hsl, n0, n1, n2, rE, rX⟩ := hv1.net.sts.at hil
  rw [hs] at n0 n1 n2 rE rX
  have v0 : w1.cell? ⟨V, 0, none⟩ = some (.slice (some ⟨sb, so, none⟩) v.n.states.length a.sc) := by rw [Lib.cell_of_heap hv1.blk, ← hSA]; rfl
  have hVl := hv.lt
  rw [hsto] at hk
  have HK := hid hk
  have HW := hid W
  have HV := hid hv
  have HR := hid hr
  have HSM := hid hsm
  have HSTO := hid hsto
  have HH1 := hid h1
  have HB1 := hid hb1
  have HCX := hid hcx
  have hss := W.edges s hsm
  clear hv1 hSA hs h1 hb1 hr hk hcx hsm hsto rX hst
  go_enter Tryz.func63, Tryz.ntmps63
  go_upto_region 1 with fail
  rw [hw1.out]
  have hS2 : ∀ o : Obj, (w1.alloc o).drew.cell? ⟨V, 0, none⟩ = some (.slice (some ⟨sb, so, none⟩) v.n.states.length a.sc) ∧ (w1.alloc o).drew.cell? ⟨w.heap.size, 1, none⟩ = some (.int .i64 (i : Int)) ∧ (w1.alloc o).drew.cell? ⟨sb, so + i * 3, none⟩ = some (.int .i64 s.rule) ∧ (w1.alloc o).drew.cell? ⟨sb, so + i * 3 + 1, none⟩ = some (.slice EA s.edges.length ec) ∧ (w1.alloc o).drew.cell? ⟨sb, so + i * 3 + 2, none⟩ = some (.slice XA s.ends.length xc) := fun o => by
    have hn : ∀ (b i : Nat), b < w1.heap.size → (w1.alloc o).drew.cell? ⟨b, i, none⟩ = w1.cell? ⟨b, i, none⟩ := fun b i hb => (below_new w1 o).drew.cell (p := ⟨b, i, none⟩) hb
    exact ⟨(hn _ _ (by omega)).trans v0, (hn _ _ (by omega)).trans s1, (hn _ _ (by omega)).trans n0, (hn _ _ (by omega)).trans n1, (hn _ _ (by omega)).trans n2⟩
  go_region_held3 (fun w' => w'.cell? ⟨V, 0, none⟩ = some (.slice (some ⟨sb, so, none⟩) v.n.states.length a.sc) ∧ w'.cell? ⟨w.heap.size, 1, none⟩ = some (.int .i64 (i : Int)) ∧ w'.cell? ⟨sb, so + i * 3, none⟩ = some (.int .i64 s.rule) ∧ w'.cell? ⟨sb, so + i * 3 + 1, none⟩ = some (.slice EA s.edges.length ec) ∧ w'.cell? ⟨sb, so + i * 3 + 2, none⟩ = some (.slice XA s.ends.length xc)) (first | assumption | exact ⟨v0, s1, n0, n1, n2⟩ | exact hS2 _) (fail)
  have hb2 : Below w1.heap.size w1 (w1.alloc (.cells #[.int .i64 s.rule, .slice EA s.edges.length ec, .slice XA s.ends.length xc] 97)).drew := (below_new w1 _).drew
  have T2 : (w1.alloc (.cells #[.int .i64 s.rule, .slice EA s.edges.length ec, .slice XA s.ends.length xc] 97)).drew.heap[w.heap.size + 1]? = some (.cells #[.int .i64 s.rule, .slice EA s.edges.length ec, .slice XA s.ends.length xc] 97 (0, 0)) := by rw [← z1]; exact heap_alloc_new w1 _
  generalize (w1.alloc (.cells #[.int .i64 s.rule, .slice EA s.edges.length ec, .slice XA s.ends.length xc] 97)).drew = w2 at hb2 T2 ⊢
  have hw2 : w.heap.size + 1 < w2.heap.size := heap_lt T2
  have h12 := (hb2.block w.heap.size (by omega)).trans HH1.out
  have HB2 := hid (HB1.out.trans (hb2.mono (by omega)))
  have HV2 := hid (HV.out.below (HB2.out.mono hB))
  have HR2 := hid (HR.out.only (S' := fun b => S b ∧ b < w2.heap.size) (Only.of_below HB2.out) (fun _ _ e => e.1))
  have HE2 := hid (rE.below (hb2.mono (by omega)))
  have T1 := h12
  have HT1 := hid h12
  have HT2 := hid T2
  clear hS2 n0 n1 n2 v0 s1 rE hb2 h12 T1 T2 HH1 HB1 hw1
  obtain ⟨iC, hiC, hzC, hsC, hyC⟩ := info_of infoRC
  obtain ⟨x, hX⟩ : ∃ x : Cf.Cfg, x = ⟨xa, (i : Int), xst, xe, xn⟩ := ⟨_, rfl⟩
  rw [← hX] at HSTO hh ⊢
  have HX := hid hX
  have hxl : x.stack.length ≤ 100000 := by rw [hX]; exact hx
  have hb0 : Below w.heap.size w w2 := HB2.out
  have hws := hb0.size
  clear hX hb0
  go_wp2_with fail
  go_loopw [8, 9, 10] (fun o st i wr => ∃ (j : Nat) (u : Value), u = o ∧ j ≤ s.edges.length ∧ i = .int .i64 (j : Int) ∧ st = .bool ((s.edges.take j).any fun e => decide (e.kind = 1)) ∧ Hid (FI w2 S u ((s.edges.take j).flatMap (Cf.comeE v x)) wr ∧ (s.edges.take j).any (fullE v x) = false)) (fun _ _ i _ => s.edges.length - (intOf i).toNat)
  case atStart => exact ⟨0, _, rfl, Nat.zero_le _, rfl, rfl, hid ⟨FI.start w2 S, rfl⟩⟩
  case round =>
    obtain ⟨j, u, rfl, hj, rfl, rfl, HI⟩ := hrel
    have hbr := HI.out.1.more
    have HBR := hid hbr
    have hT1 := (hbr.block _ (heap_lt HT1.out)).trans HT1.out
    have hT2 := (hbr.block _ (heap_lt HT2.out)).trans HT2.out
    have t1 : wr.cell? ⟨w.heap.size + 1, 1, none⟩ = some (.slice EA s.edges.length ec) := by rw [Lib.cell_of_heap hT2]; rfl
    have t2 : wr.cell? ⟨w.heap.size + 1, 2, none⟩ = some (.slice XA s.ends.length xc) := by rw [Lib.cell_of_heap hT2]; rfl
    have s0 : wr.cell? ⟨w.heap.size, 0, none⟩ = some (.int .i64 xa) := by rw [Lib.cell_of_heap hT1]; rfl
    have s1 : wr.cell? ⟨w.heap.size, 1, none⟩ = some (.int .i64 (i : Int)) := by rw [Lib.cell_of_heap hT1]; rfl
    have s2 : wr.cell? ⟨w.heap.size, 2, none⟩ = some (.slice A xst.length cx) := by rw [Lib.cell_of_heap hT1]; rfl
    have s3 : wr.cell? ⟨w.heap.size, 3, none⟩ = some (.bool xe) := by rw [Lib.cell_of_heap hT1]; rfl
    have hrw := hbr.size
    have hwl : w.heap.size < wr.heap.size := by omega
    have hwl1 : w.heap.size + 1 < wr.heap.size := by omega
    clear hbr hT1 hT2
    by_cases hlt : j < s.edges.length
    · have HT := hid (take_flat (Cf.comeE v x) s.edges j hlt)
      have HN1 := hid (take_any (fun e : Drv.Ed => decide (e.kind = 1)) s.edges j hlt)
      have HN2 := hid (take_any (fullE v x) s.edges j hlt)
      have HKE := hid (HK.out _ (List.getElem_mem hlt))
      have HEM := hid (List.getElem_mem hlt)
      obtain ⟨eb, eo, hEA, hel, k0, k1, k2⟩ := edge_atf (HE2.out.below (HBR.out.mono (by omega))) hlt
      generalize s.edges[j] = ed at HT HN1 HN2 HKE HEM k0 k1 k2
      rw [hEA] at t1
      clear hEA
      have hel2 : eb < wr.heap.size := by omega
      obtain ⟨w5, hw5⟩ : ∃ w5, Hid ((wr.alloc (.cells #[.int .i64 ed.kind, .int .i64 ed.what, .int .i64 ed.to] 101)).alloc (.cells #[.int .i64 xa, .int .i64 ed.to, .slice A xst.length cx, .bool xe, .bool false] 103) = w5) := ⟨_, hid rfl⟩
      have hb5 : Below wr.heap.size wr w5 := by rw [← hw5.out]; exact (below_new _ _).alloc (by simp) _
      have z5 : (wr.alloc (.cells #[.int .i64 ed.kind, .int .i64 ed.what, .int .i64 ed.to] 101)).heap.size = wr.heap.size + 1 := by simp
      have E5 : w5.heap[wr.heap.size]? = some (.cells #[.int .i64 ed.kind, .int .i64 ed.what, .int .i64 ed.to] 101 (0, 0)) := by
        rw [← hw5.out, Below.heap_alloc _ _ _ (by omega)]; exact heap_alloc_new _ _
      have X5 : w5.heap[wr.heap.size + 1]? = some (.cells #[.int .i64 xa, .int .i64 ed.to, .slice A xst.length cx, .bool xe, .bool false] 103 (0, 0)) := by
        rw [← hw5.out, ← z5]; exact heap_alloc_new _ _
      have e0 : w5.cell? ⟨wr.heap.size, 0, none⟩ = some (.int .i64 ed.kind) := by rw [Lib.cell_of_heap E5]; rfl
      have e1 : w5.cell? ⟨wr.heap.size, 1, none⟩ = some (.int .i64 ed.what) := by rw [Lib.cell_of_heap E5]; rfl
      have e2 : w5.cell? ⟨wr.heap.size, 2, none⟩ = some (.int .i64 ed.to) := by rw [Lib.cell_of_heap E5]; rfl
      by_cases hk1 : ed.kind = 1
      · have f1 : (ed.kind == 1) = true := by rw [hk1]; rfl
        have HK1 := hid hk1
        clear hk1
        go_upto_region 10 with fail
        rw [hw5.out]
        go_wp2_with fail
        go_roundw
        case rel =>
          refine ⟨j + 1, _, rfl, hlt, by go_num, by rw [HN1.out, HK1.out]; simp, hid ⟨?_, ?_⟩⟩
          · rw [HT.out, show Cf.comeE v x ed = [] by unfold Cf.comeE; rw [HK1.out]; rfl, List.append_nil]
            exact HI.out.1.stay hb5
          · rw [HN2.out, HI.out.2]
            unfold fullE
            rw [HK1.out]
            rfl
        case measure => simp [intOf]; omega
      · have f1 : (ed.kind == 1) = false := by rw [beq_eq_false_iff_ne]; exact hk1
        have hx0 : ∀ o, w5.cell? ⟨w.heap.size, o, none⟩ = wr.cell? ⟨w.heap.size, o, none⟩ := fun o => hb5.cell (p := ⟨w.heap.size, o, none⟩) hwl
        have hx1 : ∀ o, w5.cell? ⟨w.heap.size + 1, o, none⟩ = wr.cell? ⟨w.heap.size + 1, o, none⟩ := fun o => hb5.cell (p := ⟨w.heap.size + 1, o, none⟩) hwl1
        have t25 := (hx1 2).trans t2
        have s25 := (hx0 2).trans s2
        have s35 := (hx0 3).trans s3
        have x35 : w5.cell? ⟨wr.heap.size + 1, 3, none⟩ = some (.bool xe) := by rw [Lib.cell_of_heap X5]; rfl
        have z5f := Lib.frozen_of_heap X5
        have hro6 := HR2.out
        have HRO6 := hid (fun (w6 : World) (u6 : Value) (hb6 : Below wr.heap.size wr w6) (hlo : ∀ k, u6.ownBlock = some k → w2.heap.size ≤ k) => (show RO w6 (fun b => (S b ∧ b < w2.heap.size) ∨ u6.ownBlock = some b) 1 A xst.length (xst.map (Value.int .i64)) from
          hro6.only (Only.of_below (HBR.out.trans (hb6.mono HBR.out.size))) (fun b hb e => by
            rcases e with e | e
            · exact e
            · have := hlo b e; omega)))
        have HWL := hid W
        have HSM2 := hid (HSTO.out)
        clear hro6 hx0 hx1
        by_cases hk0 : ed.kind = 0
        · have f2 : (ed.kind == 0) = true := by rw [hk0]; rfl
          have HKK := hid (show decide (ed.kind = 1) = false ∧ fullE v x ed = false ∧ Cf.comeE v x ed = [⟨xa, ed.to, xst, xe && decide (s.ends.length = 0), false⟩] by
            refine ⟨by rw [hk0]; rfl, by unfold fullE; rw [hk0]; rfl, ?_⟩
            unfold Cf.comeE Cf.atC
            rw [if_pos hk0, HSTO.out, HX.out])
          clear hk0 hk1
          go_upto_region 10 with fail
          rw [hw5.out]
          cases xe with
          | false =>
            rw [Bool.false_and] at HKK
            go_upto_region 27 with fail
            obtain ⟨w6, hw6⟩ : ∃ w6, Hid (w5.setCell ⟨wr.heap.size + 1, 3, none⟩ (.bool false) = w6) := ⟨_, hid rfl⟩
            have X6 : w6.heap[wr.heap.size + 1]? = some (.cells #[.int .i64 xa, .int .i64 ed.to, .slice A xst.length cx, .bool false, .bool false] 103 (0, 0)) := by
              rw [← hw6.out]; exact heap_setCell_same w5 (wr.heap.size + 1) 3 _ _ (.bool false) X5
            have hb6 : Below wr.heap.size wr w6 := by
              rw [← hw6.out]; exact (Only.of_set w5 (wr.heap.size + 1) 3 (.bool false)).below (fun b e => by omega) hb5 hb5.size
            rw [hw6.out]
            clear hw6 hw5 hb5
            have hfi := HI.out.1.stay hb6
            obtain ⟨vs, hown6, hcv6, hbw6⟩ := hfi
            have m0 : w6.cell? ⟨wr.heap.size + 1, 0, none⟩ = some (.int .i64 xa) := by rw [Lib.cell_of_heap X6]; rfl
            have m1 : w6.cell? ⟨wr.heap.size + 1, 1, none⟩ = some (.int .i64 ed.to) := by rw [Lib.cell_of_heap X6]; rfl
            have m2 : w6.cell? ⟨wr.heap.size + 1, 2, none⟩ = some (.slice A xst.length cx) := by rw [Lib.cell_of_heap X6]; rfl
            have m3 : w6.cell? ⟨wr.heap.size + 1, 3, none⟩ = some (.bool false) := by rw [Lib.cell_of_heap X6]; rfl
            have m4 : w6.cell? ⟨wr.heap.size + 1, 4, none⟩ = some (.bool false) := by rw [Lib.cell_of_heap X6]; rfl
            have hcs : ∀ u ∈ [Value.int .i64 xa, .int .i64 ed.to, .slice A xst.length cx, .bool false, .bool false], u.oneCell' = true := fun u hu => by
              simp only [List.mem_cons, List.mem_nil_iff, or_false] at hu
              rcases hu with rfl | rfl | rfl | rfl | rfl <;> rfl
            have hll := come_few v x (s.edges.take j)
            have hlt2 : (s.edges.take j).length ≤ 700 := by rw [List.length_take]; omega
            obtain ⟨L, hL⟩ : ∃ L, (s.edges.take j).flatMap (Cf.comeE v x) = L := ⟨_, rfl⟩
            rw [hL] at hown6 hcv6 hll
            have HLL := hid hL
            clear hL
            have HCV6 := hid hcv6
            have HBW6 := hid hbw6
            have HB6 := hid hb6
            have hsz6 := hbw6.size
            have HOW6 := hid hown6
            clear X6 hcv6 hbw6 hb6
            go_wp2_with (at_builtin; refine wpList_push4 w6 rfl _ _ 45 rfl w2.heap.size 103 iC _ 5 48 Tryz.underlying45 hiC hzC hsC hyC rfl (by omega) u _ vs rfl hown6 [.int .i64 xa, .int .i64 ed.to, .slice A xst.length cx, .bool false, .bool false] 1 w6.heap.size rfl rfl rfl hcs Nat.zero_lt_one (by simp only [maxLen]; omega) (by omega) hsz6 ?_; intro g cg w7 hown7 hg7 ho7)
            go_roundw
            case rel =>
              refine ⟨j + 1, _, rfl, hlt, by go_num, by rw [HN1.out, HKK.out.1, Bool.or_false], hid ⟨?_, by rw [HN2.out, HI.out.2, HKK.out.2.1]; rfl⟩⟩
              have hpu := FI.push (y := ⟨xa, ed.to, xst, false, false⟩) HOW6.out HCV6.out HBW6.out HCX.out (HRO6.out w6 u HB6.out fun k hk => (HOW6.out.lt k hk).1) ho7 (hg7.imp id Nat.le_of_lt) hown7
              rw [HT.out, HKK.out.2.2, HLL.out]
              exact hpu
            case measure => simp [intOf]; omega
          | true =>
            by_cases hz : s.ends.length = 0
            · have f3 : ((s.ends.length : Int) == 0) = true := by rw [hz]; rfl
              rw [decide_eq_true hz, Bool.and_true] at HKK
              clear hz
              go_upto_region 27 with fail
              obtain ⟨w6, hw6⟩ : ∃ w6, Hid (w5.setCell ⟨wr.heap.size + 1, 3, none⟩ (.bool true) = w6) := ⟨_, hid rfl⟩
              have X6 : w6.heap[wr.heap.size + 1]? = some (.cells #[.int .i64 xa, .int .i64 ed.to, .slice A xst.length cx, .bool true, .bool false] 103 (0, 0)) := by
                rw [← hw6.out]; exact heap_setCell_same w5 (wr.heap.size + 1) 3 _ _ (.bool true) X5
              have hb6 : Below wr.heap.size wr w6 := by
                rw [← hw6.out]; exact (Only.of_set w5 (wr.heap.size + 1) 3 (.bool true)).below (fun b e => by omega) hb5 hb5.size
              rw [hw6.out]
              clear hw6 hw5 hb5
              have hfi := HI.out.1.stay hb6
              obtain ⟨vs, hown6, hcv6, hbw6⟩ := hfi
              have m0 : w6.cell? ⟨wr.heap.size + 1, 0, none⟩ = some (.int .i64 xa) := by rw [Lib.cell_of_heap X6]; rfl
              have m1 : w6.cell? ⟨wr.heap.size + 1, 1, none⟩ = some (.int .i64 ed.to) := by rw [Lib.cell_of_heap X6]; rfl
              have m2 : w6.cell? ⟨wr.heap.size + 1, 2, none⟩ = some (.slice A xst.length cx) := by rw [Lib.cell_of_heap X6]; rfl
              have m3 : w6.cell? ⟨wr.heap.size + 1, 3, none⟩ = some (.bool true) := by rw [Lib.cell_of_heap X6]; rfl
              have m4 : w6.cell? ⟨wr.heap.size + 1, 4, none⟩ = some (.bool false) := by rw [Lib.cell_of_heap X6]; rfl
              have hcs : ∀ u ∈ [Value.int .i64 xa, .int .i64 ed.to, .slice A xst.length cx, .bool true, .bool false], u.oneCell' = true := fun u hu => by
                simp only [List.mem_cons, List.mem_nil_iff, or_false] at hu
                rcases hu with rfl | rfl | rfl | rfl | rfl <;> rfl
              have hll := come_few v x (s.edges.take j)
              have hlt2 : (s.edges.take j).length ≤ 700 := by rw [List.length_take]; omega
              obtain ⟨L, hL⟩ : ∃ L, (s.edges.take j).flatMap (Cf.comeE v x) = L := ⟨_, rfl⟩
              rw [hL] at hown6 hcv6 hll
              have HLL := hid hL
              clear hL
              have HCV6 := hid hcv6
              have HBW6 := hid hbw6
              have HB6 := hid hb6
              have hsz6 := hbw6.size
              have HOW6 := hid hown6
              clear X6 hcv6 hbw6 hb6
              go_wp2_with (at_builtin; refine wpList_push4 w6 rfl _ _ 45 rfl w2.heap.size 103 iC _ 5 48 Tryz.underlying45 hiC hzC hsC hyC rfl (by omega) u _ vs rfl hown6 [.int .i64 xa, .int .i64 ed.to, .slice A xst.length cx, .bool true, .bool false] 1 w6.heap.size rfl rfl rfl hcs Nat.zero_lt_one (by simp only [maxLen]; omega) (by omega) hsz6 ?_; intro g cg w7 hown7 hg7 ho7)
              go_roundw
              case rel =>
                refine ⟨j + 1, _, rfl, hlt, by go_num, by rw [HN1.out, HKK.out.1, Bool.or_false], hid ⟨?_, by rw [HN2.out, HI.out.2, HKK.out.2.1]; rfl⟩⟩
                have hpu := FI.push (y := ⟨xa, ed.to, xst, true, false⟩) HOW6.out HCV6.out HBW6.out HCX.out (HRO6.out w6 u HB6.out fun k hk => (HOW6.out.lt k hk).1) ho7 (hg7.imp id Nat.le_of_lt) hown7
                rw [HT.out, HKK.out.2.2, HLL.out]
                exact hpu
              case measure => simp [intOf]; omega
            · have f3 : ((s.ends.length : Int) == 0) = false := by rw [beq_eq_false_iff_ne]; omega
              rw [decide_eq_false hz, Bool.and_false] at HKK
              clear hz
              go_upto_region 27 with fail
              obtain ⟨w6, hw6⟩ : ∃ w6, Hid (w5.setCell ⟨wr.heap.size + 1, 3, none⟩ (.bool false) = w6) := ⟨_, hid rfl⟩
              have X6 : w6.heap[wr.heap.size + 1]? = some (.cells #[.int .i64 xa, .int .i64 ed.to, .slice A xst.length cx, .bool false, .bool false] 103 (0, 0)) := by
                rw [← hw6.out]; exact heap_setCell_same w5 (wr.heap.size + 1) 3 _ _ (.bool false) X5
              have hb6 : Below wr.heap.size wr w6 := by
                rw [← hw6.out]; exact (Only.of_set w5 (wr.heap.size + 1) 3 (.bool false)).below (fun b e => by omega) hb5 hb5.size
              rw [hw6.out]
              clear hw6 hw5 hb5
              have hfi := HI.out.1.stay hb6
              obtain ⟨vs, hown6, hcv6, hbw6⟩ := hfi
              have m0 : w6.cell? ⟨wr.heap.size + 1, 0, none⟩ = some (.int .i64 xa) := by rw [Lib.cell_of_heap X6]; rfl
              have m1 : w6.cell? ⟨wr.heap.size + 1, 1, none⟩ = some (.int .i64 ed.to) := by rw [Lib.cell_of_heap X6]; rfl
              have m2 : w6.cell? ⟨wr.heap.size + 1, 2, none⟩ = some (.slice A xst.length cx) := by rw [Lib.cell_of_heap X6]; rfl
              have m3 : w6.cell? ⟨wr.heap.size + 1, 3, none⟩ = some (.bool false) := by rw [Lib.cell_of_heap X6]; rfl
              have m4 : w6.cell? ⟨wr.heap.size + 1, 4, none⟩ = some (.bool false) := by rw [Lib.cell_of_heap X6]; rfl
              have hcs : ∀ u ∈ [Value.int .i64 xa, .int .i64 ed.to, .slice A xst.length cx, .bool false, .bool false], u.oneCell' = true := fun u hu => by
                simp only [List.mem_cons, List.mem_nil_iff, or_false] at hu
                rcases hu with rfl | rfl | rfl | rfl | rfl <;> rfl
              have hll := come_few v x (s.edges.take j)
              have hlt2 : (s.edges.take j).length ≤ 700 := by rw [List.length_take]; omega
              obtain ⟨L, hL⟩ : ∃ L, (s.edges.take j).flatMap (Cf.comeE v x) = L := ⟨_, rfl⟩
              rw [hL] at hown6 hcv6 hll
              have HLL := hid hL
              clear hL
              have HCV6 := hid hcv6
              have HBW6 := hid hbw6
              have HB6 := hid hb6
              have hsz6 := hbw6.size
              have HOW6 := hid hown6
              clear X6 hcv6 hbw6 hb6
              go_wp2_with (at_builtin; refine wpList_push4 w6 rfl _ _ 45 rfl w2.heap.size 103 iC _ 5 48 Tryz.underlying45 hiC hzC hsC hyC rfl (by omega) u _ vs rfl hown6 [.int .i64 xa, .int .i64 ed.to, .slice A xst.length cx, .bool false, .bool false] 1 w6.heap.size rfl rfl rfl hcs Nat.zero_lt_one (by simp only [maxLen]; omega) (by omega) hsz6 ?_; intro g cg w7 hown7 hg7 ho7)
              go_roundw
              case rel =>
                refine ⟨j + 1, _, rfl, hlt, by go_num, by rw [HN1.out, HKK.out.1, Bool.or_false], hid ⟨?_, by rw [HN2.out, HI.out.2, HKK.out.2.1]; rfl⟩⟩
                have hpu := FI.push (y := ⟨xa, ed.to, xst, false, false⟩) HOW6.out HCV6.out HBW6.out HCX.out (HRO6.out w6 u HB6.out fun k hk => (HOW6.out.lt k hk).1) ho7 (hg7.imp id Nat.le_of_lt) hown7
                rw [HT.out, HKK.out.2.2, HLL.out]
                exact hpu
              case measure => simp [intOf]; omega
        · have f2 : (ed.kind == 0) = false := by rw [beq_eq_false_iff_ne]; exact hk0
          by_cases hk3 : ed.kind = 3
          · have f3 : (ed.kind == 3) = true := by rw [hk3]; rfl
            have HKK := hid (show decide (ed.kind = 1) = false ∧ fullE v x ed = false ∧ Cf.comeE v x ed = [⟨xa, ed.to, xst, false, false⟩] by
              refine ⟨by rw [hk3]; rfl, by unfold fullE; rw [hk3]; rfl, ?_⟩
              unfold Cf.comeE Cf.atC
              rw [if_neg (by omega), if_pos hk3, HX.out, Bool.and_false])
            clear hk0 hk1 hk3
            go_upto_region 10 with fail
            rw [hw5.out]
            go_upto_region 27 with fail
            obtain ⟨w6, hw6⟩ : ∃ w6, Hid (w5.setCell ⟨wr.heap.size + 1, 3, none⟩ (.bool false) = w6) := ⟨_, hid rfl⟩
            have X6 : w6.heap[wr.heap.size + 1]? = some (.cells #[.int .i64 xa, .int .i64 ed.to, .slice A xst.length cx, .bool false, .bool false] 103 (0, 0)) := by
              rw [← hw6.out]; exact heap_setCell_same w5 (wr.heap.size + 1) 3 _ _ (.bool false) X5
            have hb6 : Below wr.heap.size wr w6 := by
              rw [← hw6.out]; exact (Only.of_set w5 (wr.heap.size + 1) 3 (.bool false)).below (fun b e => by omega) hb5 hb5.size
            rw [hw6.out]
            clear hw6 hw5 hb5
            have hfi := HI.out.1.stay hb6
            obtain ⟨vs, hown6, hcv6, hbw6⟩ := hfi
            have m0 : w6.cell? ⟨wr.heap.size + 1, 0, none⟩ = some (.int .i64 xa) := by rw [Lib.cell_of_heap X6]; rfl
            have m1 : w6.cell? ⟨wr.heap.size + 1, 1, none⟩ = some (.int .i64 ed.to) := by rw [Lib.cell_of_heap X6]; rfl
            have m2 : w6.cell? ⟨wr.heap.size + 1, 2, none⟩ = some (.slice A xst.length cx) := by rw [Lib.cell_of_heap X6]; rfl
            have m3 : w6.cell? ⟨wr.heap.size + 1, 3, none⟩ = some (.bool false) := by rw [Lib.cell_of_heap X6]; rfl
            have m4 : w6.cell? ⟨wr.heap.size + 1, 4, none⟩ = some (.bool false) := by rw [Lib.cell_of_heap X6]; rfl
            have hcs : ∀ u ∈ [Value.int .i64 xa, .int .i64 ed.to, .slice A xst.length cx, .bool false, .bool false], u.oneCell' = true := fun u hu => by
              simp only [List.mem_cons, List.mem_nil_iff, or_false] at hu
              rcases hu with rfl | rfl | rfl | rfl | rfl <;> rfl
            have hll := come_few v x (s.edges.take j)
            have hlt2 : (s.edges.take j).length ≤ 700 := by rw [List.length_take]; omega
            obtain ⟨L, hL⟩ : ∃ L, (s.edges.take j).flatMap (Cf.comeE v x) = L := ⟨_, rfl⟩
            rw [hL] at hown6 hcv6 hll
            have HLL := hid hL
            clear hL
            have HCV6 := hid hcv6
            have HBW6 := hid hbw6
            have HB6 := hid hb6
            have hsz6 := hbw6.size
            have HOW6 := hid hown6
            clear X6 hcv6 hbw6 hb6
            go_wp2_with (at_builtin; refine wpList_push4 w6 rfl _ _ 45 rfl w2.heap.size 103 iC _ 5 48 Tryz.underlying45 hiC hzC hsC hyC rfl (by omega) u _ vs rfl hown6 [.int .i64 xa, .int .i64 ed.to, .slice A xst.length cx, .bool false, .bool false] 1 w6.heap.size rfl rfl rfl hcs Nat.zero_lt_one (by simp only [maxLen]; omega) (by omega) hsz6 ?_; intro g cg w7 hown7 hg7 ho7)
            go_roundw
            case rel =>
              refine ⟨j + 1, _, rfl, hlt, by go_num, by rw [HN1.out, HKK.out.1, Bool.or_false], hid ⟨?_, by rw [HN2.out, HI.out.2, HKK.out.2.1]; rfl⟩⟩
              have hpu := FI.push (y := ⟨xa, ed.to, xst, false, false⟩) HOW6.out HCV6.out HBW6.out HCX.out (HRO6.out w6 u HB6.out fun k hk => (HOW6.out.lt k hk).1) ho7 (hg7.imp id Nat.le_of_lt) hown7
              rw [HT.out, HKK.out.2.2, HLL.out]
              exact hpu
            case measure => simp [intOf]; omega
          · have f3 : (ed.kind == 3) = false := by rw [beq_eq_false_iff_ne]; exact hk3
            have hk2 : ed.kind = 2 := by have := HKE.out; omega
            have f4 : (ed.kind == 2) = true := by rw [hk2]; rfl
            obtain ⟨hw0, hw1'⟩ := HW.out.what s HSM.out ed HEM.out hk2
            obtain ⟨kq, hkq⟩ : ∃ kq : Nat, ed.what = (kq : Int) := ⟨ed.what.toNat, by omega⟩
            have hkl : kq < v.n.starts.length := by omega
            have HKQ := hid hkq
            clear hkq
            have HK2 := hid hk2
            have hrs := HR2.out.reads
            clear hk0 hk1 hk3 hk2 hw0 hw1'
            have HX5 := hid X5
            have HE5 := hid E5
            have HB5 := hid hb5
            have h5s := hb5.size
            have hl5 : wr.heap.size + 1 < w5.heap.size := heap_lt X5
            go_upto_region 10 with fail
            rw [hw5.out]
            go_upto_region 18 with fail
            clear X5 E5 hb5 z5f
            go_wp2_with fail
            obtain ⟨wo, hwo⟩ : ∃ wo, wo = wr := ⟨_, rfl⟩
            subst hwo
            go_loopw [13, 14] (fun m k wq => ∃ kk : Nat, kk ≤ xst.length ∧ k = .int .i64 (kk : Int) ∧ m = .int .i64 (((xst.take kk).count ed.to : Nat) : Int) ∧ Hid (Below w5.heap.size w5 wq)) (fun _ k _ => xst.length - (intOf k).toNat)
            case atStart => exact ⟨0, Nat.zero_le _, rfl, rfl, hid (Below.refl _ _)⟩
            case round =>
              obtain ⟨wq, hwq⟩ : ∃ wq, wq = wr := ⟨_, rfl⟩
              subst hwq
              obtain ⟨kk, hkk, rfl, rfl, HQ⟩ := hrel
              have hbq := HB5.out.trans (HQ.out.mono h5s)
              have HBQ := hid hbq
              have s25 := (HQ.out.cell (p := ⟨w.heap.size, 2, none⟩) (by show w.heap.size < w5.heap.size; omega)).trans s25
              have e2 := (HQ.out.cell (p := ⟨wo.heap.size, 2, none⟩) (by show wo.heap.size < w5.heap.size; omega)).trans e2
              clear hbq
              by_cases hlk : kk < xst.length
              · obtain ⟨xb, xo, hXA, hxb, hxc⟩ := reads_atZ (hrs.below (HBR.out.trans (HBQ.out.mono HBR.out.size))) kk hlk
                have HCT := hid (show (xst.take (kk + 1)).count ed.to = (xst.take kk).count ed.to + if xst[kk] == ed.to then 1 else 0 by
                  rw [List.take_succ_eq_append_getElem hlk, List.count_append, List.count_singleton])
                have hcb : (xst.take kk).count ed.to ≤ 100000 := Nat.le_trans List.count_le_length (by rw [List.length_take]; omega)
                generalize (xst.take kk).count ed.to = cn at HCT hcb ⊢
                generalize xst[kk] = y at hxc HCT
                rw [hXA] at s25
                clear hXA
                by_cases hy : y = ed.to
                · have f5 : (y == ed.to) = true := by rw [beq_iff_eq]; exact hy
                  rw [if_pos f5] at HCT
                  clear hy
                  go_wp2_with fail
                  go_quiet (fail)
                  go_wp2_with fail
                  go_roundw
                  case rel => exact ⟨kk + 1, hlk, by go_num, by rw [HCT.out]; go_num, hid (below_drewN HQ.out _)⟩
                  case measure => simp [intOf]; omega
                · have f5 : (y == ed.to) = false := by rw [beq_eq_false_iff_ne]; exact hy
                  rw [if_neg (by rw [f5]; decide)] at HCT
                  clear hy
                  go_wp2_with fail
                  go_quiet (fail)
                  go_wp2_with fail
                  go_roundw
                  case rel => exact ⟨kk + 1, hlk, by go_num, by rw [HCT.out, Nat.add_zero], hid (below_drewN HQ.out _)⟩
                  case measure => simp [intOf]; omega
              · have hke : kk = xst.length := by omega
                subst hke
                rw [List.take_length]
                have hvq := (HV2.out.below ((HBR.out.trans (HBQ.out.mono HBR.out.size)).mono (by omega))).blk
                have v8 : wq.cell? ⟨V, 8, none⟩ = some (.int .i64 v.bound) := by rw [Lib.cell_of_heap hvq]; rfl
                have v1 : wq.cell? ⟨V, 1, none⟩ = some (.slice a.TA v.n.starts.length a.tc) := by rw [Lib.cell_of_heap hvq]; rfl
                have HFE := hid (show fullE v x ed = decide (v.bound ≤ ((xst.count ed.to : Nat) : Int)) by unfold fullE; rw [decide_eq_true HK2.out, Bool.true_and, HX.out])
                clear hvq
                by_cases hfull : v.bound ≤ ((xst.count ed.to : Nat) : Int)
                · have f5 : decide (v.bound ≤ ((xst.count ed.to : Nat) : Int)) = true := decide_eq_true hfull
                  have HFF := hid (show Cf.fullOf v x = true from List.any_eq_true.2 ⟨ed, by rw [HSTO.out]; exact HEM.out, by have := HFE.out; rw [f5] at this; exact this⟩)
                  clear hfull
                  go_wp2_with fail
                  go_ret3
                  have hfin : FromP v x S w (.returned (.tuple #[.slice none 0 0, .bool false, .bool true])) wq := ⟨HB2.out.trans ((HBR.out.trans (HBQ.out.mono HBR.out.size)).mono (by omega)), .inl ⟨HFF.out, rfl⟩⟩
                  rw [HX.out] at hfin
                  exact hfin
                · have f5 : decide (v.bound ≤ ((xst.count ed.to : Nat) : Int)) = false := decide_eq_false hfull
                  have HFG := hid (show fullE v x ed = false by rw [HFE.out, f5])
                  clear hfull
                  obtain ⟨tb, tf, hTA, htl, htc⟩ := reads_atZ (HV2.out.below ((HBR.out.trans (HBQ.out.mono HBR.out.size)).mono (by omega))).net.starts kq hkl
                  have HQ0 := hid (show v.n.starts.getD ed.what.toNat 0 = v.n.starts[kq] by rw [HKQ.out, List.getD_eq_getElem?_getD, Int.toNat_natCast, List.getElem?_eq_getElem hkl]; rfl)
                  generalize v.n.starts[kq] = q at htc HQ0
                  rw [hTA] at v1
                  clear hTA
                  have hxq := (HQ.out.block _ hl5).trans HX5.out
                  have heq := (HQ.out.block _ (show wo.heap.size < w5.heap.size by omega)).trans HE5.out
                  have e1 : wq.cell? ⟨wo.heap.size, 1, none⟩ = some (.int .i64 (kq : Int)) := by rw [Lib.cell_of_heap heq, ← HKQ.out]; rfl
                  have x15 : wq.cell? ⟨wo.heap.size + 1, 1, none⟩ = some (.int .i64 ed.to) := by rw [Lib.cell_of_heap hxq]; rfl
                  have zf := Lib.frozen_of_heap hxq
                  have hVw : V < w.heap.size := by omega
                  have htw : tb < w.heap.size := by omega
                  have hS3 : ∀ (u : Value), (wq.setCell ⟨wo.heap.size + 1, 1, none⟩ u).drew.cell? ⟨V, 1, none⟩ = some (.slice (some ⟨tb, tf, none⟩) v.n.starts.length a.tc) ∧ (wq.setCell ⟨wo.heap.size + 1, 1, none⟩ u).drew.cell? ⟨wo.heap.size, 1, none⟩ = some (.int .i64 (kq : Int)) ∧ (wq.setCell ⟨wo.heap.size + 1, 1, none⟩ u).drew.cell? ⟨tb, tf + kq, none⟩ = some (.int .i64 q) := fun u =>
                    ⟨cell_set_far (by show wo.heap.size + 1 ≠ V; omega) v1, cell_set_far (by show wo.heap.size + 1 ≠ wo.heap.size; omega) e1, cell_set_far (by show wo.heap.size + 1 ≠ tb; omega) htc⟩
                  have HXQ := hid hxq
                  have HEQ := hid heq
                  clear hxq heq
                  go_upto_region 25 with fail
                  go_region_held3 (fun w' => w'.cell? ⟨V, 1, none⟩ = some (.slice (some ⟨tb, tf, none⟩) v.n.starts.length a.tc) ∧ w'.cell? ⟨wo.heap.size, 1, none⟩ = some (.int .i64 (kq : Int)) ∧ w'.cell? ⟨tb, tf + kq, none⟩ = some (.int .i64 q)) (first | assumption | exact ⟨v1, e1, htc⟩ | exact hS3 _) (fail)
                  obtain ⟨w6, hw6⟩ : ∃ w6, Hid ((wq.setCell ⟨wo.heap.size + 1, 1, none⟩ (.int .i64 q)).drew = w6) := ⟨_, hid rfl⟩
                  have X6 : w6.heap[wo.heap.size + 1]? = some (.cells #[.int .i64 xa, .int .i64 q, .slice A xst.length cx, .bool xe, .bool false] 103 (0, 0)) := by
                    rw [← hw6.out]; exact heap_setCell_same wq (wo.heap.size + 1) 1 _ _ (.int .i64 q) HXQ.out
                  have hb6 : Below wo.heap.size wo w6 := by
                    rw [← hw6.out]; exact ((Only.of_set wq (wo.heap.size + 1) 1 (.int .i64 q)).below (fun b e => by omega) HBQ.out HBQ.out.size).drew
                  have hE6 : w6.heap[wo.heap.size]? = some (.cells #[.int .i64 ed.kind, .int .i64 ed.what, .int .i64 ed.to] 101 (0, 0)) := by
                    rw [← hw6.out]; exact (Below.heap_setCell wq ⟨wo.heap.size + 1, 1, none⟩ (.int .i64 q) wo.heap.size (by show wo.heap.size ≠ wo.heap.size + 1; omega)).trans HEQ.out
                  rw [hw6.out]
                  have hl6 : wo.heap.size + 1 < w6.heap.size := heap_lt X6
                  have h16 := hb6.cell (p := ⟨w.heap.size, 2, none⟩) hwl
                  have a2 : w6.cell? ⟨w.heap.size, 2, none⟩ = some (.slice A xst.length cx) := h16.trans s2
                  have b2 : w6.cell? ⟨wo.heap.size, 2, none⟩ = some (.int .i64 ed.to) := by rw [Lib.cell_of_heap hE6]; rfl
                  have HST := hid (fun (uu : World) (hb : Below w6.heap.size w6 uu) => (show uu.cell? ⟨w.heap.size, 2, none⟩ = some (.slice A xst.length cx) ∧ uu.cell? ⟨wo.heap.size, 2, none⟩ = some (.int .i64 ed.to) from
                    ⟨(hb.cell (p := ⟨w.heap.size, 2, none⟩) (by show w.heap.size < w6.heap.size; omega)).trans a2, (hb.cell (p := ⟨wo.heap.size, 2, none⟩) (by show wo.heap.size < w6.heap.size; omega)).trans b2⟩))
                  have HRS := hid (fun (uu : World) (hb : Below w6.heap.size w6 uu) => (show Reads uu w6.heap.size 1 A xst.length (xst.map (Value.int .i64)) from
                    ((hrs.below (HBR.out.trans (hb6.mono HBR.out.size))).more (by have := hb6.size; omega)).below hb))
                  have hmy : (xst.length + 1) * 8 ≤ 140737488355328 := by omega
                  have HSF := hid (fun (uu : World) (val : Value) (hb : Below w6.heap.size w6 uu) => (show (uu.setCell ⟨wo.heap.size + 1, 2, none⟩ val).cell? ⟨w.heap.size, 2, none⟩ = some (.slice A xst.length cx) ∧ (uu.setCell ⟨wo.heap.size + 1, 2, none⟩ val).cell? ⟨wo.heap.size, 2, none⟩ = some (.int .i64 ed.to) from
                    ⟨cell_set_far (by show wo.heap.size + 1 ≠ w.heap.size; omega) (HST.out uu hb).1, cell_set_far (by show wo.heap.size + 1 ≠ wo.heap.size; omega) (HST.out uu hb).2⟩))
                  have hones : ∀ u ∈ xst.map (Value.int .i64), u.oneCell' = true := fun u hu => by
                    obtain ⟨y, _, rfl⟩ := List.mem_map.1 hu
                    rfl
                  obtain ⟨z0, hz0, hz1, hz2, hz3⟩ := info_of infoZ
                  have HX6 := hid X6
                  have HB6 := hid hb6
                  have hmx : xst.length + 1 ≤ maxLen := by simp only [maxLen]; omega
                  have hmx0 : 0 + xst.length ≤ maxLen := by simp only [maxLen]; omega
                  have HXS := hid (fun (uu : World) (hb : Below w6.heap.size w6 uu) => (show uu.heap[wo.heap.size + 1]? = some (.cells #[.int .i64 xa, .int .i64 q, .slice A xst.length cx, .bool xe, .bool false] 103 (0, 0)) from (hb.block _ hl6).trans X6))
                  clear hS3 hE6 h16 X6 hb6 v1 v8 e1 e2 htc x15 zf hrs s25 s35 s2 hw6 t25 t1 t2 k0 k1 k2 e0 s0 s1 s3 x35
                  go_upto_region 26 with fail
                  go_region_held3 (fun w' => w'.cell? ⟨w.heap.size, 2, none⟩ = some (.slice A xst.length cx) ∧ w'.cell? ⟨wo.heap.size, 2, none⟩ = some (.int .i64 ed.to)) (first | assumption | exact ⟨a2, b2⟩ | exact HST.out _ (Below.refl _ _).drew | exact HST.out _ ((Below.refl _ _).drew.alloc (Nat.le_refl _) _) | exact HST.out _ (below_new _ _).drew | exact HST.out _ (below_new _ _) | exact HST.out _ HW7.out | exact HST.out _ HW7.out.drew | exact HST.out _ (HW7.out.trans ((below_new _ _).mono HW7.out.size)).drew | exact HST.out _ (HW7.out.trans ((below_new _ _).mono HW7.out.size)) | exact HST.out _ HW9.out | exact HSF.out _ _ HW9.out) (first
                    | (first | (refine step_append_reads _ (by rfl) _ _ 23 (by rfl) _ 3 z0 _ 1 8 Tryz.underlying23 hz0 hz1 hz2 hz3 rfl (by omega) (.slice none 0 0) 0 [] (by rfl) (World.ownsRow_nil _ _ _ _) w6.heap.size A xst.length cx (xst.map (Value.int .i64)) (by rfl) (by first | exact HRS.out _ (Below.refl _ _).drew | exact HRS.out _ ((Below.refl _ _).drew.alloc (Nat.le_refl _) _) | exact HRS.out _ (below_new _ _).drew | exact HRS.out _ (Below.refl _ _) | exact HRS.out _ (below_new _ _)) hones hmx0 (by omega) (Nat.le_refl _) ?_)
                       intro v7 w7 hown7 hb7
                       have hb7 := hb7 _ (Below.refl _ _)
                       have HW7 : Hid (Below w6.heap.size w6 w7) := by first | exact hid ((Below.refl w6.heap.size w6).drew.trans (hb7.mono (Nat.le_refl _))) | exact hid (((Below.refl w6.heap.size w6).drew.alloc (Nat.le_refl _) _).trans (hb7.mono (by simp [World.drew]))) | exact hid ((below_new w6 _).drew.trans (hb7.mono (by simp [World.drew]))) | exact hid hb7 | exact hid ((below_new w6 _).trans (hb7.mono (by simp)))
                       have hown7 : w7.ownsRow w6.heap.size 3 1 v7 (0 + xst.length) ([] ++ xst.map (Value.int .i64)) := by first | exact hown7 | exact own_lower hown7 (by simp [World.drew])
                       rw [Nat.zero_add, List.nil_append] at hown7
                       dsimp only)
                    | (refine step_pushG _ (by rfl) _ _ 23 (by rfl) w6.heap.size 3 z0 _ 1 8 Tryz.underlying23 hz0 hz1 hz2 hz3 rfl (by omega) v7 xst.length (xst.map (Value.int .i64)) (by rfl) (by first | exact hown7.alloc _ | exact hown7) [.int .i64 ed.to] 1 _ (by rfl) rfl (fun j u hj => by rcases j with _ | j; (injection hj with hj; subst hj; rw [addr_off]; first | exact cell_new w7 #[.int .i64 ed.to] 3 0 | exact (hb7.cell (p := ⟨w6.heap.size, 0, none⟩) (by simp [World.drew])).trans (cell_new w6 #[.int .i64 ed.to] 3 0)); cases hj) (by simp [Value.oneCell']) Nat.zero_lt_one hmx hmy (by first | exact (HW7.out.trans ((below_new w7 _).mono HW7.out.size)).size | exact HW7.out.size) ?_
                       intro gg cg w9 own9 hgg ho9
                       have HW9 : Hid (Below w6.heap.size w6 w9) := by first
                         | exact hid (ho9.below (fun b hb => (hown7.lt b hb).1) (HW7.out.trans ((below_new w7 _).mono HW7.out.size)) (HW7.out.trans ((below_new w7 _).mono HW7.out.size)).size)
                         | exact hid (ho9.below (fun b hb => (hown7.lt b hb).1) HW7.out HW7.out.size)
                         | exact hid (ho9.below (fun b hb => (hown7.lt b hb).1) (HW7.out.trans ((below_new w7 _).mono HW7.out.size)).drew (HW7.out.trans ((below_new w7 _).mono HW7.out.size)).size)
                         | exact hid (ho9.below (fun b hb => (hown7.lt b hb).1) HW7.out.drew HW7.out.size)
                       have hx9 := HXS.out w9 HW9.out
                       have x29 : w9.cell? ⟨wo.heap.size + 1, 2, none⟩ = some (.slice A xst.length cx) := by rw [Lib.cell_of_heap hx9]; rfl
                       have zf9 := Lib.frozen_of_heap hx9
                       dsimp only))
                  all_goals
                    have HKK := hid (show decide (ed.kind = 1) = false ∧ fullE v x ed = false ∧ Cf.comeE v x ed = [⟨xa, q, xst ++ [ed.to], xe, false⟩] by
                      refine ⟨by rw [HK2.out]; rfl, HFG.out, ?_⟩
                      unfold Cf.comeE Cf.atC
                      rw [if_neg (by rw [HK2.out]; decide), if_neg (by rw [HK2.out]; decide), if_pos HK2.out, HQ0.out, HX.out, Bool.and_true])
                    obtain ⟨wk, hwk⟩ : ∃ wk, Hid (w9.setCell ⟨wo.heap.size + 1, 2, none⟩ (.slice (some ⟨gg, 0, none⟩) (xst.length + 1) cg) = wk) := ⟨_, hid rfl⟩
                    have Xk : wk.heap[wo.heap.size + 1]? = some (.cells #[.int .i64 xa, .int .i64 q, .slice (some ⟨gg, 0, none⟩) (xst.length + 1) cg, .bool xe, .bool false] 103 (0, 0)) := by
                      rw [← hwk.out]; exact heap_setCell_same w9 (wo.heap.size + 1) 2 _ _ _ (HXS.out w9 HW9.out)
                    have hb69 : Below wo.heap.size wo w9 := HB6.out.trans (HW9.out.mono HB6.out.size)
                    have hset : Only (fun k => k = wo.heap.size + 1) w9 wk := by rw [← hwk.out]; exact Only.of_set w9 (wo.heap.size + 1) 2 _
                    have hbk : Below wo.heap.size wo wk := hset.below (fun b e => by omega) hb69 hb69.size
                    have hgl := own9.lt gg rfl
                    have ownk : wk.ownsRow w6.heap.size 3 1 (.slice (some ⟨gg, 0, none⟩) (xst.length + 1) cg) (xst.length + 1) (xst.map (Value.int .i64) ++ [.int .i64 ed.to]) := ownsRow_only own9 hset (fun k hk e => by have := (own9.lt k hk).1; omega)
                    have hcapk := own_cap own9
                    have hul := HI.out.1.lt
                    have HROK := hid (show RO wk (fun b => (S b ∧ b < w2.heap.size) ∨ u.ownBlock = some b) 1 (some ⟨gg, 0, none⟩) (xst ++ [ed.to]).length ((xst ++ [ed.to]).map (Value.int .i64)) by
                      have hrd := Reads.of_own ownk
                      rw [List.length_append, List.length_singleton, List.map_append]
                      refine ⟨by simp, fun _ => ?_⟩
                      obtain ⟨b, o, hA, hbl, hcc⟩ := hrd.2 (by omega)
                      refine ⟨b, o, hA, hbl, fun hc => ?_, hcc⟩
                      injection hA with hA
                      injection hA with hA
                      rcases hc with hc | hc
                      · omega
                      · have := hul b hc; omega)
                    have HCPK := hid (show (xst ++ [ed.to]).length ≤ cg by rw [List.length_append]; exact hcapk)
                    go_upto_region 27 with fail
                    rw [hwk.out]
                    clear hwk hb69 hset ownk hgl hcapk own9 ho9 hgg
                    have hfi := HI.out.1.stay hbk
                    obtain ⟨vs, hown6, hcv6, hbwk⟩ := hfi
                    have m0 : wk.cell? ⟨wo.heap.size + 1, 0, none⟩ = some (.int .i64 xa) := by rw [Lib.cell_of_heap Xk]; rfl
                    have m1 : wk.cell? ⟨wo.heap.size + 1, 1, none⟩ = some (.int .i64 q) := by rw [Lib.cell_of_heap Xk]; rfl
                    have m2 : wk.cell? ⟨wo.heap.size + 1, 2, none⟩ = some (.slice (some ⟨gg, 0, none⟩) (xst.length + 1) cg) := by rw [Lib.cell_of_heap Xk]; rfl
                    have m3 : wk.cell? ⟨wo.heap.size + 1, 3, none⟩ = some (.bool xe) := by rw [Lib.cell_of_heap Xk]; rfl
                    have m4 : wk.cell? ⟨wo.heap.size + 1, 4, none⟩ = some (.bool false) := by rw [Lib.cell_of_heap Xk]; rfl
                    have hcs : ∀ u ∈ [Value.int .i64 xa, .int .i64 q, .slice (some ⟨gg, 0, none⟩) (xst.length + 1) cg, .bool xe, .bool false], u.oneCell' = true := fun u hu => by
                      simp only [List.mem_cons, List.mem_nil_iff, or_false] at hu
                      rcases hu with rfl | rfl | rfl | rfl | rfl <;> rfl
                    have hll := come_few v x (s.edges.take j)
                    have hlt2 : (s.edges.take j).length ≤ 700 := by rw [List.length_take]; omega
                    obtain ⟨L, hL⟩ : ∃ L, (s.edges.take j).flatMap (Cf.comeE v x) = L := ⟨_, rfl⟩
                    rw [hL] at hown6 hcv6 hll
                    have HLL := hid hL
                    clear hL
                    have HCV6 := hid hcv6
                    have HBW6 := hid hbwk
                    have HBk := hid hbk
                    have hsz6 := hbwk.size
                    have HOW6 := hid hown6
                    clear Xk hcv6 hbwk hbk
                    go_wp2_with (at_builtin; refine wpList_push4 wk rfl _ _ 45 rfl w2.heap.size 103 iC _ 5 48 Tryz.underlying45 hiC hzC hsC hyC rfl (by omega) u _ vs rfl hown6 [.int .i64 xa, .int .i64 q, .slice (some ⟨gg, 0, none⟩) (xst.length + 1) cg, .bool xe, .bool false] 1 wk.heap.size rfl rfl rfl hcs Nat.zero_lt_one (by simp only [maxLen]; omega) (by omega) hsz6 ?_; intro g cg w7 hown7 hg7 ho7)
                    go_roundw
                    case rel =>
                      refine ⟨j + 1, _, rfl, hlt, by go_num, by rw [HN1.out, HKK.out.1, Bool.or_false], hid ⟨?_, by rw [HN2.out, HI.out.2, HKK.out.2.1]; rfl⟩⟩
                      rw [show xst.length + 1 = (xst ++ [ed.to]).length by simp] at hown7
                      have hpu := FI.push (y := ⟨xa, q, xst ++ [ed.to], xe, false⟩) HOW6.out HCV6.out HBW6.out HCPK.out HROK.out ho7 (hg7.imp id Nat.le_of_lt) hown7
                      rw [HT.out, HKK.out.2.2, HLL.out]
                      exact hpu
                    case measure => simp [intOf]; omega
    · have hje : j = s.edges.length := by omega
      subst hje
      have hfi := HI.out.1
      have hnf := HI.out.2
      rw [List.take_length] at hfi hnf ⊢
      have hsty := show Cf.staysOf v x = s.edges.any (fun e => decide (e.kind = 1)) by unfold Cf.staysOf; rw [HSTO.out]
      have HSTY := hid hsty
      have HNF := hid (show Cf.fullOf v x = false by unfold Cf.fullOf; rw [HSTO.out]; exact hnf)
      obtain ⟨E0, hE0⟩ : ∃ E0, s.edges.flatMap (Cf.comeE v x) = E0 := ⟨_, rfl⟩
      have hEl : E0.length ≤ 700 := by rw [← hE0]; exact Nat.le_trans (come_few v x s.edges) hss
      rw [hE0] at hfi
      have HE0 := hid hE0
      have HFI := hid hfi
      obtain ⟨sy, hsy⟩ : ∃ sy, s.edges.any (fun e => decide (e.kind = 1)) = sy := ⟨_, rfl⟩
      rw [hsy]
      have HSY := hid hsy
      clear hsty hnf hE0 hfi hsy HI t2 s0 s1 s2 s3 HBR hwl hwl1 hrw hj
      go_wp2_with fail
      go_loopw [8, 15] (fun o k wr => ∃ (jj : Nat) (u : Value), u = o ∧ jj ≤ v.n.stops.length ∧ k = .int .i64 (jj : Int) ∧ Hid (FI w2 S u (E0 ++ (v.n.stops.take jj).flatMap fun t => if x.stack ≠ [] ∧ t = x.state then [Cf.atC x (x.stack.getLastD 0) x.stack.dropLast true] else []) wr)) (fun _ k _ => v.n.stops.length - (intOf k).toNat)
      case atStart => exact ⟨0, _, rfl, Nat.zero_le _, rfl, hid (by rw [List.take_zero, List.flatMap_nil, List.append_nil]; exact HFI.out)⟩
      case round =>
        obtain ⟨jj, u, rfl, hj, rfl, HI⟩ := hrel
        have hbr := HI.out.more
        have HBR := hid hbr
        have hT1 := (hbr.block _ (heap_lt HT1.out)).trans HT1.out
        have hvr := (HV2.out.below (hbr.mono (by omega))).blk
        have v2 : wr.cell? ⟨V, 2, none⟩ = some (.slice a.UA v.n.stops.length a.uc) := by rw [Lib.cell_of_heap hvr]; rfl
        have s0 : wr.cell? ⟨w.heap.size, 0, none⟩ = some (.int .i64 xa) := by rw [Lib.cell_of_heap hT1]; rfl
        have s1 : wr.cell? ⟨w.heap.size, 1, none⟩ = some (.int .i64 (i : Int)) := by rw [Lib.cell_of_heap hT1]; rfl
        have s2 : wr.cell? ⟨w.heap.size, 2, none⟩ = some (.slice A xst.length cx) := by rw [Lib.cell_of_heap hT1]; rfl
        have s3 : wr.cell? ⟨w.heap.size, 3, none⟩ = some (.bool xe) := by rw [Lib.cell_of_heap hT1]; rfl
        have hrw := hbr.size
        have hwl : w.heap.size < wr.heap.size := by omega
        clear hbr hT1 hvr
        by_cases hlt : jj < v.n.stops.length
        · have HT := hid (take_flat (fun t => if x.stack ≠ [] ∧ t = x.state then [Cf.atC x (x.stack.getLastD 0) x.stack.dropLast true] else []) v.n.stops jj hlt)
          obtain ⟨ub, uo, hUA, hul, huc⟩ := reads_atZ (HV2.out.below (HBR.out.mono (by omega))).net.stops jj hlt
          generalize v.n.stops[jj] = t at HT huc
          rw [hUA] at v2
          clear hUA
          rcases Nat.eq_zero_or_pos xst.length with hxz | hxp
          · have f1 : decide ((0 : Int) < (xst.length : Int)) = false := decide_eq_false (by omega)
            have f1n : decide (0 < xst.length) = false := decide_eq_false (by omega)
            have hxn : xst = [] := List.eq_nil_of_length_eq_zero hxz
            have HXN := hid (show x.stack = [] by rw [HX.out]; exact hxn)
            clear hxz hxn
            go_wp2_with fail
            go_quiet (fail)
            go_wp2_with fail
            go_roundw
            case rel => exact ⟨jj + 1, _, rfl, hlt, by go_num, hid (by rw [HT.out, if_neg (fun h => h.1 HXN.out), List.append_nil]; exact HI.out.stay (below_drewN (Below.refl _ _) _))⟩
            case measure => simp [intOf]; omega
          · have f1 : decide ((0 : Int) < (xst.length : Int)) = true := decide_eq_true (by omega)
            have f1n : decide (0 < xst.length) = true := decide_eq_true hxp
            have hxp' := hid hxp
            clear hxp
            by_cases hti : t = (i : Int)
            · have f2 : (t == (i : Int)) = true := by rw [beq_iff_eq]; exact hti
              obtain ⟨pn, hpn⟩ : ∃ pn, xst.length = pn + 1 := ⟨xst.length - 1, by have := hxp'.out; omega⟩
              have hpl : pn < xst.length := by omega
              obtain ⟨xb, xo, hXA, hxb, hxc⟩ := reads_atZ (HR2.out.reads.below HBR.out) pn hpl
              have HXN := hid (show (x.stack ≠ [] ∧ t = x.state) ∧ Cf.atC x (x.stack.getLastD 0) x.stack.dropLast true = ⟨xa, xst[pn], xst.dropLast, xe, false⟩ by
                have hne : xst ≠ [] := fun e => by rw [e] at hpl; cases hpl
                rw [HX.out]
                refine ⟨⟨hne, hti⟩, ?_⟩
                unfold Cf.atC
                dsimp only
                rw [Bool.and_true]
                congr 1
                rw [List.getLastD_eq_getLast?, List.getLast?_eq_getElem?, show xst.length - 1 = pn by omega, List.getElem?_eq_getElem hpl]
                rfl)
              have hdl : xst.dropLast.length = pn := by rw [List.length_dropLast]; omega
              have hro := (HR2.out.only (S' := fun b => S b ∧ b < w2.heap.size) (Only.of_below HBR.out) (fun _ _ e => e)).cut (m := pn) (by omega)
              have hdm : xst.dropLast.map (Value.int .i64) = (xst.map (Value.int .i64)).take pn := by rw [drop_last_map, hpn]; rfl
              rw [← hdm] at hro
              generalize xst.dropLast = stk at HXN hdl hro hdm
              generalize xst[pn] = y at hxc HXN
              have hcxp : pn + 1 ≤ cx := by have := HCX.out; omega
              have HFW := HI.out.stay (show Below wr.heap.size wr (wr.drewN 0) from below_drewN (Below.refl _ _) _)
              have HRO := hid hro
              have HDL := hid hdl
              have hwj : IntKind.i64.wrap ((pn : Int) + 1 - 1) = (pn : Int) := by rw [Int.add_sub_cancel]; exact w64 (by omega) (by omega)
              have hwj2 : IntKind.i64.wrap (pn : Int) = (pn : Int) := w64 (by omega) (by omega)
              rw [hpn] at f1 f1n s2
              have HPN := hid hpn
              have HDM := hid hdm
              clear hti hdm hro hdl hpl hpn HFW
              have HXA := hid hXA
              rw [hXA] at s2
              clear hXA
              go_wp2_with fail
              go_quiet (fail)
              go_wp2_with fail
              have hbd : Below wr.heap.size wr (wr.drewN nq) := below_drewN (Below.refl _ _) _
              generalize wr.drewN nq = wd at hbd ⊢
              obtain ⟨ws, hws⟩ : ∃ ws, Hid (wd.drew = ws) := ⟨_, hid rfl⟩
              have hbs : Below wr.heap.size wr ws := by rw [← hws.out]; exact hbd.drew
              clear hbd
              have hfd := (HI.out.stay hbs).stay (wr := ws) (w2 := (ws.alloc (.cells #[.int .i64 xa, .int .i64 y, .slice (some ⟨xb, xo, none⟩) pn cx, .bool xe, .bool false] 103))) (below_new ws _)
              have d0 := (hbs.cell (p := ⟨w.heap.size, 0, none⟩) hwl).trans s0
              have d2 := (hbs.cell (p := ⟨w.heap.size, 2, none⟩) hwl).trans s2
              have d3 := (hbs.cell (p := ⟨w.heap.size, 3, none⟩) hwl).trans s3
              have dk := (hbs.cell (p := ⟨xb, xo + pn, none⟩) (by show xb < wr.heap.size; omega)).trans hxc
              have hbDD := hbs.trans ((below_new ws (.cells #[.int .i64 xa, .int .i64 y, .slice (some ⟨xb, xo, none⟩) pn cx, .bool xe, .bool false] 103)).mono hbs.size)
              have hzD : wr.heap.size ≤ (ws.alloc (.cells #[.int .i64 xa, .int .i64 y, .slice (some ⟨xb, xo, none⟩) pn cx, .bool xe, .bool false] 103)).heap.size := hbDD.size
              obtain ⟨vs, hown6, hcv6, hbw6⟩ := hfd
              obtain ⟨L, hL⟩ : ∃ L, (E0 ++ (v.n.stops.take jj).flatMap fun t => if x.stack ≠ [] ∧ t = x.state then [Cf.atC x (x.stack.getLastD 0) x.stack.dropLast true] else []) = L := ⟨_, rfl⟩
              have hll : L.length ≤ 700 + 1000000 := by
                rw [← hL, List.length_append]
                have := back_few x (v.n.stops.take jj)
                have : (v.n.stops.take jj).length ≤ 1000000 := by rw [List.length_take]; omega
                omega
              rw [hL] at hown6 hcv6
              have HLL := hid hL
              have HCV6 := hid hcv6
              have HBW6 := hid hbw6
              have hsz6 : w2.heap.size ≤ (ws.alloc (.cells #[.int .i64 xa, .int .i64 y, .slice (some ⟨xb, xo, none⟩) pn cx, .bool xe, .bool false] 103)).heap.size := hbw6.size
              have HOW6 := hid hown6
              have hcs : ∀ u ∈ [Value.int .i64 xa, .int .i64 y, .slice (some ⟨xb, xo, none⟩) pn cx, .bool xe, .bool false], u.oneCell' = true := fun u hu => by
                simp only [List.mem_cons, List.mem_nil_iff, or_false] at hu
                rcases hu with rfl | rfl | rfl | rfl | rfl <;> rfl
              have HUL := hid (fun k (hk : u.ownBlock = some k) => (hown6.lt k hk).1)
              have HST := hid (fun (uu : World) (hb : Below ws.heap.size ws uu) => (show uu.cell? ⟨w.heap.size, 0, none⟩ = some (.int .i64 xa) ∧ uu.cell? ⟨w.heap.size, 2, none⟩ = some (.slice (some ⟨xb, xo, none⟩) (pn + 1) cx) ∧ uu.cell? ⟨w.heap.size, 3, none⟩ = some (.bool xe) ∧ uu.cell? ⟨xb, xo + pn, none⟩ = some (.int .i64 y) from by
                have hz := hbs.size
                exact ⟨(hb.cell (p := ⟨w.heap.size, 0, none⟩) (by show w.heap.size < ws.heap.size; omega)).trans d0, (hb.cell (p := ⟨w.heap.size, 2, none⟩) (by show w.heap.size < ws.heap.size; omega)).trans d2, (hb.cell (p := ⟨w.heap.size, 3, none⟩) (by show w.heap.size < ws.heap.size; omega)).trans d3, (hb.cell (p := ⟨xb, xo + pn, none⟩) (by show xb < ws.heap.size; omega)).trans dk⟩))
              have HSO := hid (fun (uu : World) (ho : Only (fun k => u.ownBlock = some k) (ws.alloc (.cells #[.int .i64 xa, .int .i64 y, .slice (some ⟨xb, xo, none⟩) pn cx, .bool xe, .bool false] 103)) uu) => (show uu.cell? ⟨w.heap.size, 0, none⟩ = some (.int .i64 xa) ∧ uu.cell? ⟨w.heap.size, 2, none⟩ = some (.slice (some ⟨xb, xo, none⟩) (pn + 1) cx) ∧ uu.cell? ⟨w.heap.size, 3, none⟩ = some (.bool xe) ∧ uu.cell? ⟨xb, xo + pn, none⟩ = some (.int .i64 y) from by
                have hn : ∀ b, b < w2.heap.size → ¬ u.ownBlock = some b := fun b hb e => by have := HUL.out b e; omega
                obtain ⟨g0, g2, g3, gk⟩ := HST.out _ (below_new ws (.cells #[.int .i64 xa, .int .i64 y, .slice (some ⟨xb, xo, none⟩) pn cx, .bool xe, .bool false] 103))
                exact ⟨(ho.cell (b := w.heap.size) (o := 0) (by omega) (hn _ (by omega))).trans g0, (ho.cell (b := w.heap.size) (o := 2) (by omega) (hn _ (by omega))).trans g2, (ho.cell (b := w.heap.size) (o := 3) (by omega) (hn _ (by omega))).trans g3, (ho.cell (b := xb) (o := xo + pn) (by omega) (hn _ (by omega))).trans gk⟩))
              have HROD := hid (show RO (ws.alloc (.cells #[.int .i64 xa, .int .i64 y, .slice (some ⟨xb, xo, none⟩) pn cx, .bool xe, .bool false] 103)) (fun b => (S b ∧ b < w2.heap.size) ∨ u.ownBlock = some b) 1 A stk.length (stk.map (Value.int .i64)) by
                rw [HDL.out, HDM.out]
                refine (HR2.out.only (Only.of_below HBW6.out) (fun b hb e => ?_)).cut (m := pn) (by have := HPN.out; omega)
                rcases e with e | e
                · exact e
                · have := HUL.out b e; omega)
              have hi0 : (0 : Int) ≤ (pn : Int) := by omega
              have hi1 : (pn : Int) < (pn : Int) + 1 := by omega
              have hi2 : (pn : Int) ≤ (cx : Int) := by omega
              have hi3 : pn < pn + 1 := by omega
              have hi4 : pn ≤ cx := by omega
              have hi5 : (pn : Int) ≤ (pn : Int) + 1 := by omega
              clear hL hcv6 hbw6 s0 s1 s2 s3 hxc hbDD hzD
              refine wp_region_late (l := 20) (S := fun w' => w'.cell? ⟨w.heap.size, 0, none⟩ = some (.int .i64 xa) ∧ w'.cell? ⟨w.heap.size, 2, none⟩ = some (.slice (some ⟨xb, xo, none⟩) (pn + 1) cx) ∧ w'.cell? ⟨w.heap.size, 3, none⟩ = some (.bool xe) ∧ w'.cell? ⟨xb, xo + pn, none⟩ = some (.int .i64 y)) (by kernel_rfl) (by rw [hws.out]; exact HST.out ws (Below.refl _ _)) (fun hHeld => ?_)
              rw [hws.out] at hHeld ⊢
              clear d0 d2 d3 dk
              refine wpAnyF_take (i := 0) (u) rfl (by kernel_rfl) (by kernel_rfl) (by kernel_rfl) (by kernel_rfl) (fun _ _ _ h => h) hHeld (by rfl) (fun w' hSw => ?_) ?_
              · obtain ⟨p0, p2, p3, pk⟩ := hSw; go_simp
              simp only [Act.put, List.getElem_toArray, List.getElem_cons_zero, List.setIfInBounds_toArray, List.set_cons_zero, List.set_cons_succ]
              refine wpAnyF_take (i := 1) (.pointer (some ⟨w.heap.size, 0, none⟩)) rfl (by kernel_rfl) (by kernel_rfl) (by kernel_rfl) (by kernel_rfl) (fun _ _ _ h => h) hHeld (by rfl) (fun w' hSw => ?_) ?_
              · obtain ⟨p0, p2, p3, pk⟩ := hSw; go_simp
              try simp only [Act.put, List.getElem_toArray, List.getElem_cons_zero, List.getElem_cons_succ, List.setIfInBounds_toArray, List.set_cons_zero, List.set_cons_succ]
              refine wpAnyF_take (i := 2) (.int .i64 xa) rfl (by kernel_rfl) (by kernel_rfl) (by kernel_rfl) (by kernel_rfl) (fun _ _ _ h => h) hHeld (by rfl) (fun w' hSw => ?_) ?_
              · obtain ⟨p0, p2, p3, pk⟩ := hSw; go_simp
              try simp only [Act.put, List.getElem_toArray, List.getElem_cons_zero, List.getElem_cons_succ, List.setIfInBounds_toArray, List.set_cons_zero, List.set_cons_succ]
              refine wpAnyF_take (i := 3) (.pointer (some ⟨w.heap.size, 2, none⟩)) rfl (by kernel_rfl) (by kernel_rfl) (by kernel_rfl) (by kernel_rfl) (fun _ _ _ h => h) hHeld (by rfl) (fun w' hSw => ?_) ?_
              · obtain ⟨p0, p2, p3, pk⟩ := hSw; go_simp
              try simp only [Act.put, List.getElem_toArray, List.getElem_cons_zero, List.getElem_cons_succ, List.setIfInBounds_toArray, List.set_cons_zero, List.set_cons_succ]
              refine wpAnyF_take (i := 4) (.slice (some ⟨xb, xo, none⟩) (pn + 1) cx) rfl (by kernel_rfl) (by kernel_rfl) (by kernel_rfl) (by kernel_rfl) (fun _ _ _ h => h) hHeld (by rfl) (fun w' hSw => ?_) ?_
              · obtain ⟨p0, p2, p3, pk⟩ := hSw; go_simp
              try simp only [Act.put, List.getElem_toArray, List.getElem_cons_zero, List.getElem_cons_succ, List.setIfInBounds_toArray, List.set_cons_zero, List.set_cons_succ]
              refine wpAnyF_take (i := 5) (.int .i64 ((pn : Int) + 1)) rfl (by kernel_rfl) (by kernel_rfl) (by kernel_rfl) (by kernel_rfl) (fun _ _ _ h => h) hHeld (by rfl) (fun w' hSw => ?_) ?_
              · obtain ⟨p0, p2, p3, pk⟩ := hSw; go_simp
              try simp only [Act.put, List.getElem_toArray, List.getElem_cons_zero, List.getElem_cons_succ, List.setIfInBounds_toArray, List.set_cons_zero, List.set_cons_succ]
              refine wpAnyF_take (i := 6) (.int .i64 (pn : Int)) rfl (by kernel_rfl) (by kernel_rfl) (by kernel_rfl) (by kernel_rfl) (fun _ _ _ h => h) hHeld (by rfl) (fun w' hSw => ?_) ?_
              · obtain ⟨p0, p2, p3, pk⟩ := hSw; go_simp
              try simp only [Act.put, List.getElem_toArray, List.getElem_cons_zero, List.getElem_cons_succ, List.setIfInBounds_toArray, List.set_cons_zero, List.set_cons_succ]
              refine wpAnyF_take (i := 7) (.pointer (some ⟨xb, xo + pn, none⟩)) rfl (by kernel_rfl) (by kernel_rfl) (by kernel_rfl) (by kernel_rfl) (fun _ _ _ h => h) hHeld (by rfl) (fun w' hSw => ?_) ?_
              · obtain ⟨p0, p2, p3, pk⟩ := hSw; go_simp
              try simp only [Act.put, List.getElem_toArray, List.getElem_cons_zero, List.getElem_cons_succ, List.setIfInBounds_toArray, List.set_cons_zero, List.set_cons_succ]
              refine wpAnyF_take (i := 8) (.int .i64 y) rfl (by kernel_rfl) (by kernel_rfl) (by kernel_rfl) (by kernel_rfl) (fun _ _ _ h => h) hHeld (by rfl) (fun w' hSw => ?_) ?_
              · obtain ⟨p0, p2, p3, pk⟩ := hSw; go_simp
              try simp only [Act.put, List.getElem_toArray, List.getElem_cons_zero, List.getElem_cons_succ, List.setIfInBounds_toArray, List.set_cons_zero, List.set_cons_succ]
              refine wpAnyF_take (i := 9) (.pointer (some ⟨w.heap.size, 2, none⟩)) rfl (by kernel_rfl) (by kernel_rfl) (by kernel_rfl) (by kernel_rfl) (fun _ _ _ h => h) hHeld (by rfl) (fun w' hSw => ?_) ?_
              · obtain ⟨p0, p2, p3, pk⟩ := hSw; go_simp
              try simp only [Act.put, List.getElem_toArray, List.getElem_cons_zero, List.getElem_cons_succ, List.setIfInBounds_toArray, List.set_cons_zero, List.set_cons_succ]
              refine wpAnyF_take (i := 10) (.slice (some ⟨xb, xo, none⟩) (pn + 1) cx) rfl (by kernel_rfl) (by kernel_rfl) (by kernel_rfl) (by kernel_rfl) (fun _ _ _ h => h) hHeld (by rfl) (fun w' hSw => ?_) ?_
              · obtain ⟨p0, p2, p3, pk⟩ := hSw; go_simp
              try simp only [Act.put, List.getElem_toArray, List.getElem_cons_zero, List.getElem_cons_succ, List.setIfInBounds_toArray, List.set_cons_zero, List.set_cons_succ]
              refine wpAnyF_take (i := 11) (.int .i64 ((pn : Int) + 1)) rfl (by kernel_rfl) (by kernel_rfl) (by kernel_rfl) (by kernel_rfl) (fun _ _ _ h => h) hHeld (by rfl) (fun w' hSw => ?_) ?_
              · obtain ⟨p0, p2, p3, pk⟩ := hSw; go_simp
              try simp only [Act.put, List.getElem_toArray, List.getElem_cons_zero, List.getElem_cons_succ, List.setIfInBounds_toArray, List.set_cons_zero, List.set_cons_succ]
              refine wpAnyF_take (i := 12) (.int .i64 (pn : Int)) rfl (by kernel_rfl) (by kernel_rfl) (by kernel_rfl) (by kernel_rfl) (fun _ _ _ h => h) hHeld (by rfl) (fun w' hSw => ?_) ?_
              · obtain ⟨p0, p2, p3, pk⟩ := hSw; go_simp
              try simp only [Act.put, List.getElem_toArray, List.getElem_cons_zero, List.getElem_cons_succ, List.setIfInBounds_toArray, List.set_cons_zero, List.set_cons_succ]
              refine wpAnyF_take (i := 13) (.slice (some ⟨xb, xo, none⟩) pn cx) rfl (by kernel_rfl) (by kernel_rfl) (by kernel_rfl) (by kernel_rfl) (fun _ _ _ h => h) hHeld (by rfl) (fun w' hSw => ?_) ?_
              · obtain ⟨p0, p2, p3, pk⟩ := hSw; go_simp
              try simp only [Act.put, List.getElem_toArray, List.getElem_cons_zero, List.getElem_cons_succ, List.setIfInBounds_toArray, List.set_cons_zero, List.set_cons_succ]
              refine wpAnyF_take (i := 14) (.pointer (some ⟨w.heap.size, 3, none⟩)) rfl (by kernel_rfl) (by kernel_rfl) (by kernel_rfl) (by kernel_rfl) (fun _ _ _ h => h) hHeld (by rfl) (fun w' hSw => ?_) ?_
              · obtain ⟨p0, p2, p3, pk⟩ := hSw; go_simp
              try simp only [Act.put, List.getElem_toArray, List.getElem_cons_zero, List.getElem_cons_succ, List.setIfInBounds_toArray, List.set_cons_zero, List.set_cons_succ]
              refine wpAnyF_take (i := 15) (.bool xe) rfl (by kernel_rfl) (by kernel_rfl) (by kernel_rfl) (by kernel_rfl) (fun _ _ _ h => h) hHeld (by rfl) (fun w' hSw => ?_) ?_
              · obtain ⟨p0, p2, p3, pk⟩ := hSw; go_simp
              try simp only [Act.put, List.getElem_toArray, List.getElem_cons_zero, List.getElem_cons_succ, List.setIfInBounds_toArray, List.set_cons_zero, List.set_cons_succ]
              refine wpAnyF_take (i := 16) (.agg #[.int .i64 xa, .int .i64 y, .slice (some ⟨xb, xo, none⟩) pn cx, .bool xe, .bool false]) rfl (by kernel_rfl) (by kernel_rfl) (by kernel_rfl) (by kernel_rfl) (fun _ _ _ h => h) hHeld (by rfl) (fun w' hSw => ?_) ?_
              · obtain ⟨p0, p2, p3, pk⟩ := hSw; go_simp
              try simp only [Act.put, List.getElem_toArray, List.getElem_cons_zero, List.getElem_cons_succ, List.setIfInBounds_toArray, List.set_cons_zero, List.set_cons_succ]
              refine wpAnyF_step 17 (by kernel_rfl) rfl (fun K hK => ?_)
              go_simp
              refine hK _ _ (HST.out _ (below_new ws _)) (fun hHeld => ?_)
              clear hK
              clear K
              try simp only [Act.put, List.getElem_toArray, List.getElem_cons_zero, List.getElem_cons_succ, List.setIfInBounds_toArray, List.set_cons_zero, List.set_cons_succ]
              refine wpAnyF_step 18 (by kernel_rfl) rfl (fun K hK => ?_)
              refine step_pushG (ws.alloc (.cells #[.int .i64 xa, .int .i64 y, .slice (some ⟨xb, xo, none⟩) pn cx, .bool xe, .bool false] 103)) rfl _ _ 45 rfl w2.heap.size 103 iC _ 5 48 Tryz.underlying45 hiC hzC hsC hyC rfl (by omega) u L.length vs rfl hown6 [.int .i64 xa, .int .i64 y, .slice (some ⟨xb, xo, none⟩) pn cx, .bool xe, .bool false] 1 ws.heap.size rfl rfl (fun j5 u5 hj5 => by
                rw [show (⟨ws.heap.size, 0, none⟩ : Addr).add j5 = ⟨ws.heap.size, j5, none⟩ by unfold Addr.add; by_cases h : j5 = 0 <;> simp [h]]
                exact (cell_new ws _ _ j5).trans (by simpa using hj5)) hcs Nat.zero_lt_one (by simp only [maxLen]; omega) (by omega) hsz6 ?_
              intro g cg w7 hown7 hg7 ho7
              refine hK _ _ (HSO.out _ ho7) (fun hHeld => ?_)
              clear hK
              clear K
              try simp only [Act.put, List.getElem_toArray, List.getElem_cons_zero, List.getElem_cons_succ, List.setIfInBounds_toArray, List.set_cons_zero, List.set_cons_succ]
              refine wpAnyF_take (i := 19) (.slice (some ⟨g, 0, none⟩) (L.length + 1) cg) rfl (by kernel_rfl) (by kernel_rfl) (by kernel_rfl) (by kernel_rfl) (fun _ _ _ h => h) hHeld (by rfl) (fun w' hSw => ?_) ?_
              · obtain ⟨p0, p2, p3, pk⟩ := hSw; go_simp
              try simp only [Act.put, List.getElem_toArray, List.getElem_cons_zero, List.getElem_cons_succ, List.setIfInBounds_toArray, List.set_cons_zero, List.set_cons_succ]
              refine ⟨by kernel_rfl, ?_⟩
              clear hHeld
              go_wp2_with fail
              go_roundw
              case rel =>
                refine ⟨jj + 1, _, rfl, hlt, by go_num, hid ?_⟩
                have hpu := FI.push (y := ⟨xa, y, stk, xe, false⟩) HOW6.out HCV6.out HBW6.out (A := some ⟨xb, xo, none⟩) (c := cx) (by rw [show (⟨xa, y, stk, xe, false⟩ : Cf.Cfg).stack = stk from rfl, HDL.out]; omega) (by have := HROD.out; rw [HXA.out] at this; exact this) ho7 hg7 (by rw [show (⟨xa, y, stk, xe, false⟩ : Cf.Cfg).stack = stk from rfl, HDL.out]; exact hown7)
                rw [HT.out, if_pos HXN.out.1, ← List.append_assoc, HLL.out, HXN.out.2]
                exact hpu
              case measure => simp [intOf]; omega
            · have f2 : (t == (i : Int)) = false := by rw [beq_eq_false_iff_ne]; exact hti
              have HXN := hid (show ¬ t = x.state by rw [HX.out]; exact hti)
              clear hti
              go_wp2_with fail
              go_quiet (fail)
              go_wp2_with fail
              go_roundw
              case rel => exact ⟨jj + 1, _, rfl, hlt, by go_num, hid (by rw [HT.out, if_neg (fun h => HXN.out h.2), List.append_nil]; exact HI.out.stay (below_drewN (Below.refl _ _) _))⟩
              case measure => simp [intOf]; omega
        · have hje : jj = v.n.stops.length := by omega
          subst hje
          have hfi := HI.out
          rw [List.take_length] at hfi
          have HFI2 := hid hfi
          have HCO := hid (show Cf.comeOf v x = E0 ++ v.n.stops.flatMap fun t => if x.stack ≠ [] ∧ t = x.state then [Cf.atC x (x.stack.getLastD 0) x.stack.dropLast true] else [] by unfold Cf.comeOf Cf.backs; rw [HSTO.out, HE0.out])
          clear hfi
          go_wp2_with fail
          go_ret3
          have hfin : FromP v x S w (.returned (.tuple #[u, .bool sy, .bool false])) wr := by
            have hfi := HFI2.out
            rw [← HCO.out] at hfi
            obtain ⟨vs, hown, hcv, hb⟩ := hfi
            obtain ⟨A9, c9, hu⟩ := row_form hown
            subst hu
            refine ⟨HB2.out.trans (hb.mono (by omega)), .inr ⟨HNF.out, A9, c9, by rw [HSTY.out, HSY.out], vs, ?_, hcv.only (Only.of_below (Below.refl _ _)) (fun b _ e => .inl ⟨e.1, by have := e.2; omega⟩)⟩⟩
            have hrd := Reads.of_own hown
            refine ⟨hrd.1, fun hp => ?_⟩
            obtain ⟨b, o, hA, hbl, hcc⟩ := hrd.2 hp
            refine ⟨b, o, hA, hbl, fun hc => ?_, hcc⟩
            have := (hown.lt b (by rw [hA]; rfl)).1
            have := hc.2
            omega
          rw [HX.out] at hfin
          exact hfin
end Go.Proofs.YtnpcjbdolmmaeaaGreatDoor
