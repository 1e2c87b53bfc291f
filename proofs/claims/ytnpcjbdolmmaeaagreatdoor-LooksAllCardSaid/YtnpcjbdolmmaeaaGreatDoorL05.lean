/-
  Looks: NetM, CfMem, CfHas (texts joined).
-/
import Derived.Maps.OwnOps
import Derived.Maps.RangeWalk
import Derived.Deep.QuietTactic
import Derived.BigQuiet
import Derived.Laws.Rows
import Derived.Maps.OwnSet
import Derived.Test.YtnpcjbdolmmaeaaGreatDoorL01
import Derived.Test.YtnpcjbdolmmaeaaGreatDoorL03
import Derived.Test.YtnpcjbdolmmaeaaGreatDoorL04
namespace Go.Proofs.YtnpcjbdolmmaeaaGreatDoor
open Go.RowKit
set_option maxRecDepth 100000
def encEd (e : Drv.Ed) : List Value := [.int .u8 e.kind, .int .i64 e.what, .int .i64 e.to]
def StV (w : World) (B : Nat) (vs : List Value) (i : Nat) (s : Drv.NSt) : Prop :=
  ∃ EA ec XA xc, vs[i*3]? = some (.int .i64 s.rule) ∧ vs[i*3+1]? = some (.slice EA s.edges.length ec) ∧ vs[i*3+2]? = some (.slice XA s.ends.length xc) ∧ Reads w B 3 EA s.edges.length (flat encEd s.edges) ∧ Reads w B 1 XA s.ends.length (s.ends.map (Value.int .i64))
def StsR (w : World) (B : Nat) (A : Option Addr) (l : List Drv.NSt) : Prop := ∃ vs, Reads w B 3 A l.length vs ∧ ∀ i (h : i < l.length), StV w B vs i l[i]
theorem StsR.below {w w' : World} {B : Nat} {A : Option Addr} {l : List Drv.NSt} (h : StsR w B A l) (hb : Below B w w') : StsR w' B A l := by
  obtain ⟨vs, h1, h2⟩ := h
  refine ⟨vs, h1.below hb, fun i hi => ?_⟩
  obtain ⟨EA, ec, XA, xc, e0, e1, e2, r0, r1⟩ := h2 i hi
  exact ⟨EA, ec, XA, xc, e0, e1, e2, r0.below hb, r1.below hb⟩
def netAgg (SA TA UA QA DA : Option Addr) (sc tc uc qc dc : Nat) (n : Drv.NNet) : Value :=
  .agg #[.slice SA n.states.length sc, .slice TA n.starts.length tc, .slice UA n.stops.length uc, .slice QA n.preds.length qc, .slice DA n.decs.length dc]
structure NetR (w : World) (B : Nat) (SA TA UA QA DA : Option Addr) (n : Drv.NNet) : Prop where
  sts : StsR w B SA n.states
  starts : Reads w B 1 TA n.starts.length (n.starts.map (Value.int .i64))
  stops : Reads w B 1 UA n.stops.length (n.stops.map (Value.int .i64))
  preds : Reads w B 1 QA n.preds.length (n.preds.map (Value.int .i64))
  decs : Reads w B 1 DA n.decs.length (n.decs.map (Value.int .i64))
theorem NetR.below {w w' : World} {B : Nat} {SA TA UA QA DA : Option Addr} {n : Drv.NNet} (h : NetR w B SA TA UA QA DA n) (hb : Below B w w') : NetR w' B SA TA UA QA DA n :=
  ⟨h.sts.below hb, h.starts.below hb, h.stops.below hb, h.preds.below hb, h.decs.below hb⟩
structure NetS (n : Drv.NNet) : Prop where
  states : n.states.length ≤ 1000000
  starts : n.starts.length ≤ 1000000
  stops : n.stops.length ≤ 1000000
  preds : n.preds.length ≤ 1000000
  decs : n.decs.length ≤ 1000000
  st : ∀ s ∈ n.states, s.edges.length ≤ 1000000 ∧ s.ends.length ≤ 1000000 ∧ ∀ e ∈ s.edges, 0 ≤ e.kind
theorem StsR.at {w : World} {B : Nat} {A : Option Addr} {l : List Drv.NSt} (h : StsR w B A l) {i : Nat} (hi : i < l.length) : ∃ b off EA ec XA xc, A = some ⟨b, off, none⟩ ∧ b < B ∧
    w.cell? ⟨b, off + i * 3, none⟩ = some (.int .i64 l[i].rule) ∧ w.cell? ⟨b, off + i * 3 + 1, none⟩ = some (.slice EA l[i].edges.length ec) ∧ w.cell? ⟨b, off + i * 3 + 2, none⟩ = some (.slice XA l[i].ends.length xc) ∧
    Reads w B 3 EA l[i].edges.length (flat encEd l[i].edges) ∧ Reads w B 1 XA l[i].ends.length (l[i].ends.map (Value.int .i64)) := by
  obtain ⟨vs, h1, h2⟩ := h
  obtain ⟨EA, ec, XA, xc, e0, e1, e2, r0, r1⟩ := h2 i hi
  obtain ⟨b, off, hA, hb, hc⟩ := h1.2 (by omega)
  exact ⟨b, off, EA, ec, XA, xc, hA, hb, hc _ _ e0, (by have := hc _ _ e1; rwa [← Nat.add_assoc] at this), (by have := hc _ _ e2; rwa [← Nat.add_assoc] at this), r0, r1⟩
def encEf (e : Drv.Ed) : List Value := [.int .i64 e.kind, .int .i64 e.what, .int .i64 e.to]
def StVf (w : World) (B : Nat) (vs : List Value) (i : Nat) (s : Drv.NSt) : Prop :=
  ∃ EA ec XA xc, vs[i*3]? = some (.int .i64 s.rule) ∧ vs[i*3+1]? = some (.slice EA s.edges.length ec) ∧ vs[i*3+2]? = some (.slice XA s.ends.length xc) ∧ Reads w B 3 EA s.edges.length (flat encEf s.edges) ∧ Reads w B 1 XA s.ends.length (s.ends.map (Value.int .i64))
def StsRf (w : World) (B : Nat) (A : Option Addr) (l : List Drv.NSt) : Prop := ∃ vs, Reads w B 3 A l.length vs ∧ ∀ i (h : i < l.length), StVf w B vs i l[i]
theorem StsRf.below {w w' : World} {B : Nat} {A : Option Addr} {l : List Drv.NSt} (h : StsRf w B A l) (hb : Below B w w') : StsRf w' B A l := by
  obtain ⟨vs, h1, h2⟩ := h
  refine ⟨vs, h1.below hb, fun i hi => ?_⟩
  obtain ⟨EA, ec, XA, xc, e0, e1, e2, r0, r1⟩ := h2 i hi
  exact ⟨EA, ec, XA, xc, e0, e1, e2, r0.below hb, r1.below hb⟩
structure NetRf (w : World) (B : Nat) (SA TA UA QA DA : Option Addr) (n : Drv.NNet) : Prop where
  sts : StsRf w B SA n.states
  starts : Reads w B 1 TA n.starts.length (n.starts.map (Value.int .i64))
  stops : Reads w B 1 UA n.stops.length (n.stops.map (Value.int .i64))
  preds : Reads w B 1 QA n.preds.length (n.preds.map (Value.int .i64))
  decs : Reads w B 1 DA n.decs.length (n.decs.map (Value.int .i64))
theorem NetRf.below {w w' : World} {B : Nat} {SA TA UA QA DA : Option Addr} {n : Drv.NNet} (h : NetRf w B SA TA UA QA DA n) (hb : Below B w w') : NetRf w' B SA TA UA QA DA n :=
  ⟨h.sts.below hb, h.starts.below hb, h.stops.below hb, h.preds.below hb, h.decs.below hb⟩
end Go.Proofs.YtnpcjbdolmmaeaaGreatDoor
namespace Go.Proofs.YtnpcjbdolmmaeaaGreatDoor
open Go.RowKit
set_option maxRecDepth 100000
theorem cells5z {w : World} {b : Nat} {v0 v1 v2 v3 v4 : Value} {T : TypeId} (h : w.heap[b]? = some (.cells #[v0, v1, v2, v3, v4] T (0, 0))) :
    (w.cell? ⟨b, 0, none⟩ = some v0 ∧ w.cell? ⟨b, 1, none⟩ = some v1 ∧ w.cell? ⟨b, 2, none⟩ = some v2 ∧ w.cell? ⟨b, 3, none⟩ = some v3 ∧ w.cell? ⟨b, 4, none⟩ = some v4) ∧ ∀ i, w.frozen? ⟨b, i, none⟩ = false :=
  ⟨⟨by rw [Lib.cell_of_heap h]; rfl, by rw [Lib.cell_of_heap h]; rfl, by rw [Lib.cell_of_heap h]; rfl, by rw [Lib.cell_of_heap h]; rfl, by rw [Lib.cell_of_heap h]; rfl⟩, fun i => Lib.frozen_of_heap h i⟩
theorem row_RO {w : World} {base n c size : Nat} {e : TypeId} {A : Option Addr} {xs : List Value} {S : Nat → Prop} (h : w.ownsRow base e size (.slice A n c) n xs) (hS : ∀ j, (Value.slice A n c).ownBlock = some j → ¬ S j) : RO w S size A n xs := by
  have hr := Reads.of_own h
  refine ⟨hr.1, fun hn => ?_⟩
  obtain ⟨b, off, rfl, hb, hc⟩ := hr.2 hn
  rcases h.2 with ⟨_, h0⟩ | ⟨g, cap, cur, hv, _⟩
  · omega
  · injection hv with hv
    injection hv with hv
    injection hv with hv1 hv2 _
    subst hv1 hv2
    exact ⟨b, 0, rfl, hb, hS b rfl, hc⟩
structure RowBox (w0 : World) (tb : Nat) (cs : Value → Array Value) (T e : TypeId) (size k : Nat) (xs : List Value) (v : Value) (wr : World) : Prop where
  only : Only (fun j => j = tb) w0 wr
  blk : wr.heap[tb]? = some (.cells (cs v) T (0, 0))
  own : wr.ownsRow w0.heap.size e size v k xs
theorem RowBox.start {w0 : World} {tb : Nat} {cs : Value → Array Value} {T e : TypeId} {size : Nat} (h : w0.heap[tb]? = some (.cells (cs (.slice none 0 0)) T (0, 0))) : RowBox w0 tb cs T e size 0 [] (.slice none 0 0) w0 :=
  ⟨Only.refl _ _, h, World.ownsRow_nil _ _ _ _⟩
theorem RowBox.next {w0 wr wr' : World} {tb : Nat} {cs : Value → Array Value} {T e : TypeId} {size k : Nat} {xs : List Value} {v : Value} (h : RowBox w0 tb cs T e size k xs v wr) (hb : Below wr.heap.size wr wr') : RowBox w0 tb cs T e size k xs v wr' :=
  ⟨h.only.trans (Only.of_below (S := fun j => j = tb) hb) (fun _ _ e => e), (hb.block _ (heap_lt h.blk)).trans h.blk, ownsRow_only h.own (Only.of_below (S := fun _ => False) hb) (fun _ _ e => e)⟩
theorem RowBox.ne {w0 wr : World} {tb : Nat} {cs : Value → Array Value} {T e : TypeId} {size k : Nat} {xs : List Value} {v : Value} (h : RowBox w0 tb cs T e size k xs v wr) (hne : e ≠ T) : v.ownBlock ≠ some tb := row_not h.own h.blk hne
theorem RowBox.push {w0 wr wn : World} {tb o : Nat} {cs : Value → Array Value} {T e : TypeId} {size k : Nat} {xs ys : List Value} {v v' : Value} (h : RowBox w0 tb cs T e size k xs v wr) (hne : e ≠ T)
    (hown : wn.ownsRow w0.heap.size e size v' (k + 1) (xs ++ ys)) (ho : Only (fun j => v.ownBlock = some j) wr wn) (hc : (cs v).setIfInBounds o v' = cs v') :
    RowBox w0 tb cs T e size (k + 1) (xs ++ ys) v' (wn.setCell ⟨tb, o, none⟩ v') := by
  have t2 : wn.heap[tb]? = some (.cells (cs v) T (0, 0)) := (ho.block tb (heap_lt h.blk) (h.ne hne)).trans h.blk
  refine ⟨⟨?_, ?_, ?_, ?_, fun j hj hn => ?_⟩, ?_, own_setTb hown t2 hne⟩
  · exact (Only.of_set wn tb o v').os.trans (ho.os.trans h.only.os)
  · exact (Only.of_set wn tb o v').tape.trans (ho.tape.trans h.only.tape)
  · exact (Only.of_set wn tb o v').output.trans (ho.output.trans h.only.output)
  · exact Nat.le_trans h.only.size (Nat.le_trans ho.size (Only.of_set wn tb o v').size)
  · have h1 := h.only.size
    have h2 := ho.size
    rw [(Only.of_set wn tb o v').block j (by omega) hn, ho.block j (by omega) (fun e => by have := (World.ownsRow.lt h.own j e).1; omega)]
    exact h.only.block j hj hn
  · rw [← hc]; exact heap_setCell_same wn tb o _ _ _ t2
theorem RowBox.keep {w0 wr wn : World} {tb o : Nat} {cs : Value → Array Value} {T e : TypeId} {size k : Nat} {xs : List Value} {v : Value} {gn cn m : Nat} (_h : RowBox w0 tb cs T e size k xs v wr) (htb : tb < w0.heap.size)
    (hg : v.ownBlock = some gn ∨ wr.heap.size < gn) (ho : Only (fun j => v.ownBlock = some j) wr wn) :
    Only (fun j => j < w0.heap.size ∨ v.ownBlock = some j) wr (wn.setCell ⟨tb, o, none⟩ (.slice (some ⟨gn, 0, none⟩) m cn)) ∧ ∀ b, b < wr.heap.size → (b < w0.heap.size ∨ (Value.slice (some ⟨gn, 0, none⟩) m cn).ownBlock = some b) → (b < w0.heap.size ∨ v.ownBlock = some b) := by
  refine ⟨(ho.more fun _ _ e => .inr e).trans (Only.of_set wn tb o _) fun b _ e => .inl (by rw [e]; exact htb), fun b hb e => ?_⟩
  rcases e with e | e
  · exact .inl e
  · have e : some gn = some b := e
    injection e with e
    subst e
    rcases hg with h | h
    · exact .inr h
    · omega
theorem RowBox.fresh {w0 wr : World} {tb g : Nat} {cs : Value → Array Value} {T e : TypeId} {size k : Nat} {xs : List Value} {v : Value} (h : RowBox w0 tb cs T e size k xs v wr) (hg : wr.heap.size ≤ g) : ¬ (g < w0.heap.size ∨ v.ownBlock = some g) := by
  rintro (e | e)
  · have := h.only.size; omega
  · have := (World.ownsRow.lt h.own g e).2; omega
theorem set3x {w : World} {sb : Nat} {a b c x y z : Value} {T : TypeId} (h : w.heap[sb]? = some (.cells #[a, b, c] T (0, 0))) :
    (((w.setCell ⟨sb, 0, none⟩ x).setCell ⟨sb, 1, none⟩ y).setCell ⟨sb, 2, none⟩ z).heap[sb]? = some (.cells #[x, y, z] T (0, 0)) ∧ Only (fun j => j = sb) w (((w.setCell ⟨sb, 0, none⟩ x).setCell ⟨sb, 1, none⟩ y).setCell ⟨sb, 2, none⟩ z) := by
  have h1 := heap_setCell_same w sb 0 _ _ x h
  have h2 := heap_setCell_same _ sb 1 _ _ y h1
  have h3 := heap_setCell_same _ sb 2 _ _ z h2
  exact ⟨h3, ((Only.of_set w sb 0 x).trans (Only.of_set _ sb 1 y) fun _ _ e => e).trans (Only.of_set _ sb 2 z) fun _ _ e => e⟩
theorem setB5 {w : World} {sb : Nat} {a b c d e x y z u v : Value} {T : TypeId} (h : w.heap[sb]? = some (.cells #[a, b, c, d, e] T (0, 0))) :
    (((((w.setCell ⟨sb, 0, none⟩ x).setCell ⟨sb, 1, none⟩ y).setCell ⟨sb, 2, none⟩ z).setCell ⟨sb, 3, none⟩ u).setCell ⟨sb, 4, none⟩ v).heap[sb]? = some (.cells #[x, y, z, u, v] T (0, 0)) ∧ Only (fun j => j = sb) w (((((w.setCell ⟨sb, 0, none⟩ x).setCell ⟨sb, 1, none⟩ y).setCell ⟨sb, 2, none⟩ z).setCell ⟨sb, 3, none⟩ u).setCell ⟨sb, 4, none⟩ v) := by
  have h1 := heap_setCell_same w sb 0 _ _ x h
  have h2 := heap_setCell_same _ sb 1 _ _ y h1
  have h3 := heap_setCell_same _ sb 2 _ _ z h2
  have h4 := heap_setCell_same _ sb 3 _ _ u h3
  have h5 := heap_setCell_same _ sb 4 _ _ v h4
  exact ⟨h5, ((((Only.of_set w sb 0 x).trans (Only.of_set _ sb 1 y) fun _ _ e => e).trans (Only.of_set _ sb 2 z) fun _ _ e => e).trans (Only.of_set _ sb 3 u) fun _ _ e => e).trans (Only.of_set _ sb 4 v) fun _ _ e => e⟩
def StVfO (w : World) (S : Nat → Prop) (B : Nat) (vs : List Value) (i : Nat) (s : Drv.NSt) : Prop :=
  ∃ EA ec XA xc, vs[i*3]? = some (.int .i64 s.rule) ∧ vs[i*3+1]? = some (.slice EA s.edges.length ec) ∧ vs[i*3+2]? = some (.slice XA s.ends.length xc) ∧ RO w S 3 EA s.edges.length (flat encEf s.edges) ∧ Reads w B 1 XA s.ends.length (s.ends.map (Value.int .i64))
theorem StVfO.only {w w' : World} {S S' : Nat → Prop} {B : Nat} {vs : List Value} {i : Nat} {s : Drv.NSt} (h : StVfO w S B vs i s) (ho : Only S w w') (hS : ∀ b, b < w.heap.size → S' b → S b) (hB : Below B w w') (vs' : List Value) : StVfO w' S' B (vs ++ vs') i s := by
  obtain ⟨AA, ac, EA, ec, e0, e1, e2, r0, r1⟩ := h
  have hl : ∀ {j : Nat} {v : Value}, vs[j]? = some v → (vs ++ vs')[j]? = some v := fun {j v} h => by
    rw [List.getElem?_append_left (List.getElem?_eq_some_iff.1 h).1]; exact h
  exact ⟨AA, ac, EA, ec, hl e0, hl e1, hl e2, r0.only ho hS, r1.below hB⟩
end Go.Proofs.YtnpcjbdolmmaeaaGreatDoor
namespace Go.Proofs.YtnpcjbdolmmaeaaGreatDoor
open Go.RowKit Go.Maps Go.WideMaps
set_option maxRecDepth 100000
def cfC (x : Cf.Cfg) (A : Option Addr) (c : Nat) : List Value := [.int .i64 x.alt, .int .i64 x.state, .slice A x.stack.length c, .bool x.exact, .bool x.ended]
def CfV (w : World) (S : Nat → Prop) (x : Cf.Cfg) (vs : List Value) : Prop := ∃ A c, vs = cfC x A c ∧ x.stack.length ≤ c ∧ RO w S 1 A x.stack.length (x.stack.map (Value.int .i64))
theorem CfV.only {w w' : World} {S S' : Nat → Prop} {x : Cf.Cfg} {vs : List Value} (h : CfV w S x vs) (ho : Only S w w') (hS : ∀ b, b < w.heap.size → S' b → S b) : CfV w' S' x vs := by
  obtain ⟨A, c, e, hc, r⟩ := h
  exact ⟨A, c, e, hc, r.only ho hS⟩
theorem CfV.len {w : World} {S : Nat → Prop} {x : Cf.Cfg} {vs : List Value} (h : CfV w S x vs) : vs.length = 5 := by
  obtain ⟨A, c, e, _⟩ := h; rw [e]; rfl
def CfsV (w : World) (S : Nat → Prop) : List Cf.Cfg → List Value → Prop
  | [], vs => vs = []
  | x :: l, vs => ∃ a b, vs = a ++ b ∧ CfV w S x a ∧ CfsV w S l b
theorem CfsV.only {w w' : World} {S S' : Nat → Prop} (ho : Only S w w') (hS : ∀ b, b < w.heap.size → S' b → S b) : ∀ {l : List Cf.Cfg} {vs : List Value}, CfsV w S l vs → CfsV w' S' l vs
  | [], _, h => h
  | _ :: _, _, h => by
    obtain ⟨a, b, e, h1, h2⟩ := h
    exact ⟨a, b, e, h1.only ho hS, CfsV.only ho hS h2⟩
theorem CfsV.snoc {w : World} {S : Nat → Prop} {x : Cf.Cfg} {a : List Value} (hx : CfV w S x a) : ∀ {l : List Cf.Cfg} {vs : List Value}, CfsV w S l vs → CfsV w S (l ++ [x]) (vs ++ a)
  | [], _, h => ⟨a, [], by rw [show _ = ([] : List Value) from h]; simp, hx, rfl⟩
  | _ :: _, _, h => by
    obtain ⟨p, q, e, h1, h2⟩ := h
    exact ⟨p, q ++ a, by rw [e, List.append_assoc], h1, CfsV.snoc hx h2⟩
theorem CfsV.len {w : World} {S : Nat → Prop} : ∀ {l : List Cf.Cfg} {vs : List Value}, CfsV w S l vs → vs.length = l.length * 5
  | [], _, h => by rw [show _ = ([] : List Value) from h]; rfl
  | _ :: _, _, h => by
    obtain ⟨p, q, e, h1, h2⟩ := h
    rw [e, List.length_append, h1.len, CfsV.len h2, List.length_cons]; omega
theorem CfsV.at {w : World} {S : Nat → Prop} : ∀ {l : List Cf.Cfg} {vs : List Value}, CfsV w S l vs → ∀ i (h : i < l.length), ∃ A c, l[i].stack.length ≤ c ∧ RO w S 1 A l[i].stack.length (l[i].stack.map (Value.int .i64)) ∧ ∀ k, k < 5 → vs[i * 5 + k]? = (cfC l[i] A c)[k]?
  | x :: l, _, h, 0, _ => by
    obtain ⟨a, b, e, ⟨A, c, ea, hc, r⟩, _⟩ := h
    refine ⟨A, c, hc, r, fun k hk => ?_⟩
    rw [e, ea, Nat.zero_mul, Nat.zero_add, List.getElem?_append_left (by simpa [cfC] using hk)]
    rfl
  | x :: l, _, h, i + 1, hi => by
    obtain ⟨a, b, e, h1, h2⟩ := h
    obtain ⟨A, c, hc, r, hk⟩ := CfsV.at h2 i (by simpa using hi)
    refine ⟨A, c, hc, r, fun k hk5 => ?_⟩
    have hl := h1.len
    rw [e, List.getElem?_append_right (by omega), hl, show (i + 1) * 5 + k - 5 = i * 5 + k by omega]
    exact hk k hk5
def vwCells (SA TA UA QA DA EA XA PA : Option Addr) (sc tc uc qc dc ec xc pc : Nat) (v : Cf.Vw) : Array Value :=
  #[.slice SA v.n.states.length sc, .slice TA v.n.starts.length tc, .slice UA v.n.stops.length uc, .slice QA v.n.preds.length qc, .slice DA v.n.decs.length dc, .int .i64 v.d.rule, .slice EA v.d.edges.length ec, .slice XA v.d.ends.length xc, .int .i64 v.bound, .slice PA v.n.states.length pc]
structure VwA where
  (SA TA UA QA DA EA XA PA : Option Addr)
  (sc tc uc qc dc ec xc pc : Nat)
structure VwAt (w : World) (B V : Nat) (a : VwA) (v : Cf.Vw) : Prop where
  blk : w.heap[V]? = some (.cells (vwCells a.SA a.TA a.UA a.QA a.DA a.EA a.XA a.PA a.sc a.tc a.uc a.qc a.dc a.ec a.xc a.pc v) 93 (0, 0))
  lt : V < B
  net : NetR w B a.SA a.TA a.UA a.QA a.DA v.n
  edges : Reads w B 3 a.EA v.d.edges.length (flat encEd v.d.edges)
  ends : Reads w B 1 a.XA v.d.ends.length (v.d.ends.map (Value.int .i64))
  stops : Reads w B 1 a.PA v.n.states.length ((List.range v.n.states.length).map fun i : Nat => Value.bool (v.n.stops.contains (i : Int)))
theorem VwAt.below {w w' : World} {B V : Nat} {a : VwA} {v : Cf.Vw} (h : VwAt w B V a v) (hb : Below B w w') : VwAt w' B V a v :=
  ⟨(hb.block V h.lt).trans h.blk, h.lt, h.net.below hb, h.edges.below hb, h.ends.below hb, h.stops.below hb⟩
structure OkV (v : Cf.Vw) : Prop where
  may : Drv.mayNet v.n = true
  sz : NetS v.n
  dec : v.d ∈ v.n.states ∧ v.d.ends.length ≠ 0
  bound : 1 ≤ v.bound ∧ v.bound ≤ 8
  few : v.n.states.length ≤ 700
theorem lawStr : Keyed Tryz.prog 9 := string_keyed Tryz.underlying9
def keyL (x : Cf.Cfg) (e : Bool) : Lit := .string (Cf.keyT x e)
theorem key_of (x : Cf.Cfg) (e : Bool) (h : (Cf.keyT x e).length ≤ maxLen) : keyOf Tryz.prog 9 (.string ⟨(Cf.keyT x e).toArray⟩) = some (keyL x e) := by
  have := keyOf_string_mk (P := Tryz.prog) (k := 9) (s := ⟨(Cf.keyT x e).toArray⟩) Tryz.underlying9 (by simpa [ByteArray.size] using h)
  exact this
theorem keyL_inj {x y : Cf.Cfg} {e f : Bool} (h : keyL x e = keyL y f) : Cf.Like x y ∧ e = f := by
  injection h with h
  exact Cf.key_inj h
def asIs (v : Value) : Option (DataW Value × List MemPlace) := some (.held v, [])
def MetIs (D : DataW Value) (l : List Cf.Cfg) : Prop := Tidy D ∧ size D = l.length ∧ ∀ x : Cf.Cfg, has D (keyL x x.exact) = decide (x ∈ l)
theorem MetIs.start : MetIs (.map []) [] := ⟨tidy_empty, rfl, fun _ => rfl⟩
theorem MetIs.put {D : DataW Value} {l : List Cf.Cfg} (h : MetIs D l) {x : Cf.Cfg} (hx : ¬ x ∈ l) (d : DataW Value) : MetIs (D.put (keyL x x.exact) d) (l ++ [x]) := by
  have hn : has D (keyL x x.exact) = false := by rw [h.2.2 x]; exact decide_eq_false hx
  refine ⟨h.1.put (by trivial) _, ?_, fun y => ?_⟩
  · rw [size_put h.1, hn]
    simp [h.2.1]
  · by_cases e : keyL y y.exact = keyL x x.exact
    · obtain ⟨h1, h2⟩ := keyL_inj e
      have := h1.eq h2
      subst this
      rw [has_put_same h.1.isMap (by trivial)]
      simp
    · rw [has_put_other e, h.2.2 y]
      have : ¬ y = x := fun q => e (by rw [q])
      simp [this]
end Go.Proofs.YtnpcjbdolmmaeaaGreatDoor
namespace Go.Proofs.YtnpcjbdolmmaeaaGreatDoor
open Go.RowKit Go.Maps
set_option maxRecDepth 100000
def BlP (b : Bool) (w : World) (e : Ending) (w' : World) : Prop := e = .returned (.bool b) ∧ Below w.heap.size w w'
theorem BlP.of {b c : Bool} {w w' : World} (h : b = c) (hb : Below w.heap.size w w') : BlP b w (.returned (.bool c)) w' := ⟨by rw [h], hb⟩
theorem has_eq (v : Cf.Vw) (x : Cf.Cfg) : Cf.has v x = (decide (0 ≤ x.alt) && decide (x.alt < v.d.ends.length) && decide (0 ≤ x.state) && decide (x.state < v.n.states.length)) := rfl
set_option maxHeartbeats 4000000 in
theorem has_any (x : Cf.Cfg) (A : Option Addr) (c : Nat) (w : World) (B V : Nat) (a : VwA) (v : Cf.Vw) (hv : VwAt w B V a v) (hB : B ≤ w.heap.size) :
    Calls Tryz.prog 35 #[.pointer (some ⟨V, 0, none⟩), .agg #[.int .i64 x.alt, .int .i64 x.state, .slice A x.stack.length c, .bool x.exact, .bool x.ended]] w (BlP (Cf.has v x) w) := by
  rw [has_eq]
  obtain ⟨alt, state, stack, exact, ended⟩ := x
  dsimp only
  obtain ⟨W, hW⟩ : ∃ W, W = w.alloc (.cells #[.int .i64 alt, .int .i64 state, .slice A stack.length c, .bool exact, .bool ended] 89) := ⟨_, rfl⟩
  have hbW : Below w.heap.size w W := by rw [hW]; exact below_new _ _
  have k0 : W.cell? ⟨w.heap.size, 0, none⟩ = some (.int .i64 alt) := by rw [hW, cell_new]; rfl
  have k1 : W.cell? ⟨w.heap.size, 1, none⟩ = some (.int .i64 state) := by rw [hW, cell_new]; rfl
  have hvW := (hv.below (hbW.mono hB)).blk
  have v0 : W.cell? ⟨V, 0, none⟩ = some (.slice a.SA v.n.states.length a.sc) := by rw [Lib.cell_of_heap hvW]; rfl
  have v7 : W.cell? ⟨V, 7, none⟩ = some (.slice a.XA v.d.ends.length a.xc) := by rw [Lib.cell_of_heap hvW]; rfl
  generalize v.d.ends.length = ne at *
  generalize v.n.states.length = ns at *
  have HBW := hid hbW
  clear hbW hvW hv
  by_cases h1 : 0 ≤ alt
  · have f1 : decide (0 ≤ alt) = true := decide_eq_true h1
    rw [f1]
    by_cases h2 : alt < (ne : Int)
    · have f2 : decide (alt < (ne : Int)) = true := decide_eq_true h2
      rw [f2]
      by_cases h3 : 0 ≤ state
      · have f3 : decide (0 ≤ state) = true := decide_eq_true h3
        rw [f3]
        by_cases h4 : state < (ns : Int)
        · have f4 : decide (state < (ns : Int)) = true := decide_eq_true h4
          rw [f4]
          go_enter Tryz.func35, Tryz.ntmps35
          go_wp2_with fail
          rw [← hW]
          clear hW
          go_quiet (fail)
          go_wp2_with fail
          go_ret
          exact BlP.of rfl (below_drewN HBW.out _)
        · have f4 : decide (state < (ns : Int)) = false := decide_eq_false h4
          rw [f4]
          go_enter Tryz.func35, Tryz.ntmps35
          go_wp2_with fail
          rw [← hW]
          clear hW
          go_quiet (fail)
          go_wp2_with fail
          go_ret
          exact BlP.of rfl (below_drewN HBW.out _)
      · have f3 : decide (0 ≤ state) = false := decide_eq_false h3
        rw [f3]
        go_enter Tryz.func35, Tryz.ntmps35
        go_wp2_with fail
        rw [← hW]
        clear hW
        go_quiet (fail)
        go_wp2_with fail
        go_ret
        exact BlP.of rfl (below_drewN HBW.out _)
    · have f2 : decide (alt < (ne : Int)) = false := decide_eq_false h2
      rw [f2]
      go_enter Tryz.func35, Tryz.ntmps35
      go_wp2_with fail
      rw [← hW]
      clear hW
      go_quiet (fail)
      go_wp2_with fail
      go_ret
      exact BlP.of rfl (below_drewN HBW.out _)
  · have f1 : decide (0 ≤ alt) = false := decide_eq_false h1
    rw [f1]
    go_enter Tryz.func35, Tryz.ntmps35
    go_wp2_with fail
    rw [← hW]
    clear hW
    go_quiet (fail)
    go_wp2_with fail
    go_ret
    exact BlP.of rfl (below_drewN HBW.out _)
theorem infoCf : (Tryz.prog.info? 89).map (·.size) = some 5 := by kernel_rfl
def AtP (x : Cf.Cfg) (state : Int) (A : Option Addr) (n c : Nat) (ex : Bool) (w : World) (e : Ending) (w' : World) : Prop :=
  e = .returned (.agg #[.int .i64 x.alt, .int .i64 state, .slice A n c, .bool (x.exact && ex), .bool false]) ∧ Below w.heap.size w w'
theorem AtP.of {x : Cf.Cfg} {state : Int} {A : Option Addr} {n c : Nat} {ex b : Bool} {w w' : World} (h : (x.exact && ex) = b) (hb : Below w.heap.size w w') : AtP x state A n c ex w (.returned (.agg #[.int .i64 x.alt, .int .i64 state, .slice A n c, .bool b, .bool false])) w' := ⟨by rw [h], hb⟩
set_option maxHeartbeats 2000000 in
theorem at_any (x : Cf.Cfg) (A : Option Addr) (c : Nat) (state : Int) (A2 : Option Addr) (n2 c2 : Nat) (ex : Bool) (w : World) :
    Calls Tryz.prog 36 #[.agg #[.int .i64 x.alt, .int .i64 x.state, .slice A x.stack.length c, .bool x.exact, .bool x.ended], .int .i64 state, .slice A2 n2 c2, .bool ex] w (AtP x state A2 n2 c2 ex w) := by
  obtain ⟨alt, st, stack, exact, ended⟩ := x
  dsimp only
  have hb : ∀ (b : Bool), Below w.heap.size w ((w.alloc (.cells #[.int .i64 alt, .int .i64 st, .slice A stack.length c, .bool exact, .bool ended] 89)).alloc (.cells #[.int .i64 alt, .int .i64 state, .slice A2 n2 c2, .bool b, .bool false] 89)) := fun b => (below_new _ _).alloc (by simp) _
  have hh : ∀ (b : Bool), ((w.alloc (.cells #[.int .i64 alt, .int .i64 st, .slice A stack.length c, .bool exact, .bool ended] 89)).alloc (.cells #[.int .i64 alt, .int .i64 state, .slice A2 n2 c2, .bool b, .bool false] 89)).heap[w.heap.size + 1]? = some (.cells #[.int .i64 alt, .int .i64 state, .slice A2 n2 c2, .bool b, .bool false] 89 (0, 0)) := fun b => by
    have := heap_alloc_new (w.alloc (.cells #[.int .i64 alt, .int .i64 st, .slice A stack.length c, .bool exact, .bool ended] 89)) (.cells #[.int .i64 alt, .int .i64 state, .slice A2 n2 c2, .bool b, .bool false] 89)
    rwa [show (w.alloc (.cells #[.int .i64 alt, .int .i64 st, .slice A stack.length c, .bool exact, .bool ended] 89)).heap.size = w.heap.size + 1 by simp] at this
  have HB := hid hb
  have HH := hid hh
  clear hb hh
  cases exact <;> cases ex
  all_goals
    go_enter Tryz.func36, Tryz.ntmps36
    go_wp2
    refine bodyPost_ret (results_cell_row rfl _ _ (w.heap.size + 1) 89 _ _ _ rfl (HH.out _) Tryz.underlying89 rfl infoCf) rfl ?_
    exact AtP.of rfl (HB.out _)
end Go.Proofs.YtnpcjbdolmmaeaaGreatDoor
namespace Go.Proofs.YtnpcjbdolmmaeaaGreatDoor
open Go.RowKit Go.Maps
set_option maxRecDepth 100000
theorem ownsMap_onlyH {H : Type} {P : Program} {k : TypeId} {R : Value → Option (DataW H × List MemPlace)} {w w' : World} {b n : Nat} {D : DataW H} {S : Nat → Prop} (h : w.ownsMap P k R b n D) (ho : Only S w w') (hn : ¬ S b) : w'.ownsMap P k R b n D := by
  have hlt := h.lt
  obtain ⟨es, cl, hb, r⟩ := h
  exact ⟨es, cl, (ho.block b hlt hn).trans hb, r⟩
structure ClF where
  (V C M K B0 : Nat)
  a : VwA
  v : Cf.Vw
def ClS (w : World) (f : ClF) (k : Nat) : Prop := k = f.C ∨ k = f.M ∨ k = f.K ∨ ∃ u, w.cell? ⟨f.C, 2, none⟩ = some u ∧ u.ownBlock = some k
structure KepIs (w : World) (S : Nat → Prop) (D : DataW Value) (K : List Cf.Cfg) : Prop where
  tidy : Tidy D
  has : ∀ x : Cf.Cfg, Maps.has D (keyL x false) = true ↔ ∃ y ∈ K, Cf.Like x y
  keys : ∀ kl, Maps.has D kl = true → ∃ x ∈ K, kl = keyL x false
  elem : ∀ x ∈ K, ∃ (y : Cf.Cfg) (A : Option Addr) (c : Nat), (∀ zd, D.atKey (keyL x false) zd = .held (.agg (cfC y A c).toArray)) ∧ Cf.Like y x ∧ (y.exact = true ↔ ∃ z ∈ K, Cf.Like x z ∧ z.exact = true) ∧ RO w S 1 A y.stack.length (y.stack.map (Value.int .i64))
theorem KepIs.only {w w' : World} {S S' : Nat → Prop} {D : DataW Value} {K : List Cf.Cfg} (h : KepIs w S D K) (ho : Only S w w') (hS : ∀ b, b < w.heap.size → S' b → S b) : KepIs w' S' D K :=
  ⟨h.tidy, h.has, h.keys, fun x hx => by
    obtain ⟨y, A, c, h1, h2, h3, h4⟩ := h.elem x hx
    exact ⟨y, A, c, h1, h2, h3, h4.only ho hS⟩⟩
theorem KepIs.start (w : World) (S : Nat → Prop) : KepIs w S (.map []) [] :=
  ⟨tidy_empty, fun x => ⟨fun h => (by cases h), fun ⟨y, h, _⟩ => (by cases h)⟩, fun kl h => (by cases h), fun _ h => (by cases h)⟩
structure ClAt (w : World) (f : ClF) (c : Cf.Cl) : Prop where
  row : ∃ u vs, w.heap[f.C]? = some (.cells #[.pointer (some ⟨f.V, 0, none⟩), .map (some f.M), u, .map (some f.K), .bool c.over] 128 (0, 0)) ∧ w.ownsRow f.B0 89 5 u c.wait.length vs ∧ CfsV w (ClS w f) c.wait vs
  view : VwAt w f.B0 f.V f.a f.v
  met : ∃ nm D, nm ≤ c.wait.length ∧ w.ownsMap Tryz.prog 9 asIs f.M nm D ∧ MetIs D c.wait
  kept : ∃ nk D, nk ≤ c.kept.length ∧ w.ownsMap Tryz.prog 9 asIs f.K nk D ∧ KepIs w (ClS w f) D c.kept
  pt : Lib.TabBelow Tryz.prog f.B0 w "internal/strconv.uint64pow10" .u64 Lib.pow10Tab
  ge : f.B0 ≤ f.C ∧ f.B0 ≤ f.M ∧ f.B0 ≤ f.K
  ne : f.C ≠ f.M ∧ f.C ≠ f.K ∧ f.M ≠ f.K
  hw : f.B0 ≤ w.heap.size
structure ClSz (c : Cf.Cl) : Prop where
  wait : c.wait.length ≤ 100000000
  kept : c.kept.length ≤ 100000000
  ok : ∀ x ∈ c.wait, OkC x
  okk : ∀ x ∈ c.kept, OkC x
structure Steps (f : ClF) (w w' : World) : Prop where
  only : Only (ClS w f) w w'
  same : ∀ b, b < w.heap.size → ClS w' f b → ClS w f b
theorem Steps.refl (f : ClF) (w : World) : Steps f w w := ⟨Only.refl _ _, fun _ _ h => h⟩
theorem Steps.trans {f : ClF} {w w1 w2 : World} (h : Steps f w w1) (k : Steps f w1 w2) : Steps f w w2 :=
  ⟨h.only.trans k.only h.same, fun b hb hs => h.same b hb (k.same b (Nat.lt_of_lt_of_le hb h.only.size) hs)⟩
theorem cls_of_cell {w w' : World} {f : ClF} (h : w'.cell? ⟨f.C, 2, none⟩ = w.cell? ⟨f.C, 2, none⟩) (b : Nat) : ClS w' f b ↔ ClS w f b := by
  unfold ClS; rw [h]
theorem Steps.of_below {f : ClF} {w w' : World} (hC : f.C < w.heap.size) (hb : Below w.heap.size w w') : Steps f w w' :=
  ⟨Only.of_below hb, fun b _ h => (cls_of_cell (hb.cell (p := ⟨f.C, 2, none⟩) hC) b).1 h⟩
theorem ClAt.lt {w : World} {f : ClF} {c : Cf.Cl} (h : ClAt w f c) : f.C < w.heap.size := by
  obtain ⟨u, vs, hb, _⟩ := h.row
  exact heap_lt hb
theorem ClAt.below {w w' : World} {f : ClF} {c : Cf.Cl} (h : ClAt w f c) (hb : Below w.heap.size w w') : ClAt w' f c := by
  have hC := h.lt
  have hs := Steps.of_below hC hb
  obtain ⟨u, vs, h1, h2, h3⟩ := h.row
  obtain ⟨nm, D, m1, m2, m3⟩ := h.met
  obtain ⟨nk, D', k1, k2, k3⟩ := h.kept
  have hn : Only (fun _ => False) w w' := Only.of_below hb
  refine ⟨⟨u, vs, (hb.block _ hC).trans h1, ownsRow_below h2 hb (Nat.le_refl _), h3.only hs.only hs.same⟩, h.view.below (hb.mono h.hw), ⟨nm, D, m1, ownsMap_onlyH m2 hn (fun e => e), m3⟩, ⟨nk, D', k1, ownsMap_onlyH k2 hn (fun e => e), k3.only hs.only hs.same⟩, h.pt.on (hb.mono h.hw), h.ge, h.ne, Nat.le_trans h.hw hb.size⟩
theorem ClAt.cells {w : World} {f : ClF} {c : Cf.Cl} (h : ClAt w f c) : ∃ u vs, w.cell? ⟨f.C, 0, none⟩ = some (.pointer (some ⟨f.V, 0, none⟩)) ∧ w.cell? ⟨f.C, 1, none⟩ = some (.map (some f.M)) ∧ w.cell? ⟨f.C, 2, none⟩ = some u ∧ w.cell? ⟨f.C, 3, none⟩ = some (.map (some f.K)) ∧ w.cell? ⟨f.C, 4, none⟩ = some (.bool c.over) ∧
    (∀ i, w.frozen? ⟨f.C, i, none⟩ = false) ∧ w.ownsRow f.B0 89 5 u c.wait.length vs ∧ CfsV w (ClS w f) c.wait vs := by
  obtain ⟨u, vs, h1, h2, h3⟩ := h.row
  refine ⟨u, vs, ?_, ?_, ?_, ?_, ?_, fun i => Lib.frozen_of_heap h1 i, h2, h3⟩ <;> (rw [Lib.cell_of_heap h1]; rfl)
theorem ClAt.row_ne {w : World} {f : ClF} {c : Cf.Cl} (h : ClAt w f c) {u : Value} {k : Nat} (hu : w.cell? ⟨f.C, 2, none⟩ = some u) (hk : u.ownBlock = some k) : k ≠ f.C ∧ k ≠ f.M ∧ k ≠ f.K ∧ f.B0 ≤ k ∧ k < w.heap.size := by
  obtain ⟨u', vs, h1, h2, h3⟩ := h.row
  have e : u' = u := by
    have : w.cell? ⟨f.C, 2, none⟩ = some u' := by rw [Lib.cell_of_heap h1]; rfl
    rw [this] at hu
    injection hu
  subst e
  obtain ⟨nm, D, _, ⟨es, cl, m2, _⟩, _⟩ := h.met
  obtain ⟨nk, D', _, ⟨es', cl', k2, _⟩, _⟩ := h.kept
  rcases h2.2 with ⟨e, _⟩ | ⟨g, cap, cur, hv, hg, hh, _⟩
  · subst e; cases hk
  · subst hv
    injection hk with hk
    have hk : g = k := hk
    subst hk
    refine ⟨fun e => ?_, fun e => ?_, fun e => ?_, hg, heap_lt hh⟩
    · rw [e, h1] at hh
      injection hh with hh
      injection hh with _ e2
      exact absurd e2 (by decide)
    · rw [e, m2] at hh; cases hh
    · rw [e, k2] at hh; cases hh
end Go.Proofs.YtnpcjbdolmmaeaaGreatDoor
namespace Go.Proofs.YtnpcjbdolmmaeaaGreatDoor
open Go.RowKit Go.Maps
set_option maxRecDepth 100000
theorem ClS.get {w : World} {f : ClF} {k : Nat} {u : Value} (hu : w.cell? ⟨f.C, 2, none⟩ = some u) : ClS w f k ↔ k = f.C ∨ k = f.M ∨ k = f.K ∨ u.ownBlock = some k := by
  unfold ClS
  rw [hu]
  constructor
  · rintro (h | h | h | ⟨v, h, h'⟩)
    · exact .inl h
    · exact .inr (.inl h)
    · exact .inr (.inr (.inl h))
    · injection h with h; subst h; exact .inr (.inr (.inr h'))
  · rintro (h | h | h | h)
    · exact .inl h
    · exact .inr (.inl h)
    · exact .inr (.inr (.inl h))
    · exact .inr (.inr (.inr ⟨u, rfl, h⟩))
theorem ClAt.ge_s {w : World} {f : ClF} {c : Cf.Cl} (h : ClAt w f c) {k : Nat} (hk : ClS w f k) : f.B0 ≤ k := by
  obtain ⟨g1, g2, g3⟩ := h.ge
  obtain ⟨u, vs, _, _, c2, _⟩ := h.cells
  rcases (ClS.get c2).1 hk with e | e | e | e
  · omega
  · omega
  · omega
  · exact (h.row_ne c2 e).2.2.2.1
theorem ClAt.stay {w w' : World} {f : ClF} {c : Cf.Cl} (h : ClAt w f c) (hs : Steps f w w') : Below f.B0 w w' :=
  hs.only.below' (fun _ hk => h.ge_s hk) h.hw
theorem ClAt.push {w w5 w8 : World} {f : ClF} {c : Cf.Cl} {x : Cf.Cfg} {A : Option Addr} {cx : Nat} {u : Value} {vs : List Value} {g cg nm : Nat} {D : DataW Value} (o : Bool)
    (h : ClAt w f c) (hu : w.cell? ⟨f.C, 2, none⟩ = some u) (hv : CfsV w (ClS w f) c.wait vs) (hcx : x.stack.length ≤ cx) (hx : RO w (ClS w f) 1 A x.stack.length (x.stack.map (Value.int .i64)))
    (ho5 : Only (fun k => k = f.M) w w5) (hm5 : w5.ownsMap Tryz.prog 9 asIs f.M nm D) (hnm : nm ≤ c.wait.length + 1) (hD : MetIs D (c.wait ++ [x]))
    (ho8 : Only (fun k => u.ownBlock = some k) w5 w8) (hown : w8.ownsRow f.B0 89 5 (.slice (some ⟨g, 0, none⟩) (c.wait.length + 1) cg) (c.wait.length + 1) (vs ++ cfC x A cx))
    (hg : u.ownBlock = some g ∨ w5.heap.size < g) :
    ClAt ((w8.setCell ⟨f.C, 2, none⟩ (.slice (some ⟨g, 0, none⟩) (c.wait.length + 1) cg)).setCell ⟨f.C, 4, none⟩ (.bool o)) f ⟨c.wait ++ [x], c.kept, o⟩ ∧
    Steps f w ((w8.setCell ⟨f.C, 2, none⟩ (.slice (some ⟨g, 0, none⟩) (c.wait.length + 1) cg)).setCell ⟨f.C, 4, none⟩ (.bool o)) := by
  obtain ⟨n1, n2, n3⟩ := h.ne
  have hC := h.lt
  obtain ⟨u', vs', h1, h2, h3⟩ := h.row
  have eu : u' = u := by
    have : w.cell? ⟨f.C, 2, none⟩ = some u' := by rw [Lib.cell_of_heap h1]; rfl
    rw [this] at hu
    injection hu
  subst eu
  have hne : ∀ k, u'.ownBlock = some k → k ≠ f.C ∧ k ≠ f.M ∧ k ≠ f.K ∧ f.B0 ≤ k ∧ k < w.heap.size := fun k hk => h.row_ne hu hk
  have hC5 := (ho5.block f.C hC (by simpa using n1)).trans h1
  have hC8 := (ho8.block f.C (heap_lt hC5) (fun e => (hne _ e).1 rfl)).trans hC5
  have hg8 : g < w8.heap.size := by
    rcases hown.2 with ⟨e, _⟩ | ⟨g', cap, cur, e, _, hh, _⟩
    · cases e
    · injection e with e _ _
      injection e with e
      injection e with e
      subst e
      exact heap_lt hh
  have hgC : g ≠ f.C := by
    rcases hg with e | e
    · exact (hne _ e).1
    · have := ho5.size; omega
  have q1 := heap_setCell_same w8 f.C 2 _ _ (.slice (some ⟨g, 0, none⟩) (c.wait.length + 1) cg) hC8
  have q2 := heap_setCell_same _ f.C 4 _ _ (.bool o) q1
  have hO := ((ho5.more (S' := ClS w f) (fun b _ e => by rw [show b = f.M from e]; exact .inr (.inl rfl))).trans (ho8.more (S' := fun k => u'.ownBlock = some k) (fun _ _ e => e)) (fun b _ e => .inr (.inr (.inr ⟨u', hu, e⟩)))).trans (Only.of_set w8 f.C 2 (.slice (some ⟨g, 0, none⟩) (c.wait.length + 1) cg)) (fun b _ e => .inl e)
  have hO := hO.trans (Only.of_set (w8.setCell ⟨f.C, 2, none⟩ (.slice (some ⟨g, 0, none⟩) (c.wait.length + 1) cg)) f.C 4 (.bool o)) (fun b _ e => .inl e)
  generalize hw9 : (w8.setCell ⟨f.C, 2, none⟩ (.slice (some ⟨g, 0, none⟩) (c.wait.length + 1) cg)) = w9 at q1 q2 hO ⊢
  generalize hw10 : w9.setCell ⟨f.C, 4, none⟩ (.bool o) = w10 at q2 hO ⊢
  have hu10 : w10.cell? ⟨f.C, 2, none⟩ = some (.slice (some ⟨g, 0, none⟩) (c.wait.length + 1) cg) := by rw [Lib.cell_of_heap q2]; rfl
  have hsame : ∀ b, b < w.heap.size → ClS w10 f b → ClS w f b := fun b hb hk => by
    rcases (ClS.get hu10).1 hk with e | e | e | e
    · exact .inl e
    · exact .inr (.inl e)
    · exact .inr (.inr (.inl e))
    · have e : g = b := by injection e
      subst e
      rcases hg with e | e
      · exact .inr (.inr (.inr ⟨u', hu, e⟩))
      · have := ho5.size; omega
  have hS : Steps f w w10 := ⟨hO, hsame⟩
  have hb := h.stay hS
  have h98 : Only (fun k => k = f.C) w8 w10 := by
    have := (Only.of_set w8 f.C 2 (.slice (some ⟨g, 0, none⟩) (c.wait.length + 1) cg)).trans (Only.of_set _ f.C 4 (.bool o)) (fun b _ e => e)
    rw [hw9, hw10] at this
    exact this
  obtain ⟨nk, D', k1, k2, k3⟩ := h.kept
  have hk5 := ownsMap_onlyH k2 ho5 (fun e => n3 e.symm)
  have hk8 := ownsMap_onlyH hk5 ho8 (fun e => (hne _ e).2.2.1 rfl)
  have hk10 := ownsMap_onlyH hk8 h98 (fun e => n2 e.symm)
  have hm8 := ownsMap_onlyH hm5 ho8 (fun e => (hne _ e).2.1 rfl)
  have hm10 := ownsMap_onlyH hm8 h98 (fun e => n1 e.symm)
  have hown10 := ownsRow_only hown h98 (fun k hk e => by have hk : g = k := by injection hk
                                                         exact hgC (hk.trans e))
  refine ⟨⟨⟨_, _, q2, ?_, (hv.only hO hsame).snoc ⟨A, cx, rfl, hcx, hx.only hO hsame⟩⟩, h.view.below hb, ⟨nm, D, by simpa using hnm, hm10, hD⟩, ⟨nk, D', k1, hk10, k3.only hO hsame⟩, h.pt.on hb, h.ge, h.ne, Nat.le_trans h.hw hO.size⟩, hS⟩
  simpa using hown10
end Go.Proofs.YtnpcjbdolmmaeaaGreatDoor
