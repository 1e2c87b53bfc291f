/-
  Nets as they lie in memory. (The same text as in Pst5, Nmay, Nmay2, Rf3, Rm2.)
-/
import Derived.Test.YtnpcjbdolmmaeaaGreatDoorDBase
import Derived.Test.YtnpcjbdolmmaeaaGreatDoorNetLaw
namespace Go.Proofs.YtnpcjbdolmmaeaaGreatDoor
open Go.RowKit
set_option maxRecDepth 100000
def encEd (e : Drv.Ed) : List Value := [.int .u8 e.kind, .int .i64 e.what, .int .i64 e.to]
def StV (w : World) (B : Nat) (vs : List Value) (i : Nat) (s : Drv.NSt) : Prop :=
  ∃ EA ec XA xc, vs[i*3]? = some (.int .i64 s.rule) ∧ vs[i*3+1]? = some (.slice EA s.edges.length ec) ∧ vs[i*3+2]? = some (.slice XA s.ends.length xc) ∧ Reads w B 3 EA s.edges.length (flat encEd s.edges) ∧ Reads w B 1 XA s.ends.length (s.ends.map (Value.int .i64))
/-- a net's states, as they lie in memory -/
def StsR (w : World) (B : Nat) (A : Option Addr) (l : List Drv.NSt) : Prop := ∃ vs, Reads w B 3 A l.length vs ∧ ∀ i (h : i < l.length), StV w B vs i l[i]
theorem StsR.below {w w' : World} {B : Nat} {A : Option Addr} {l : List Drv.NSt} (h : StsR w B A l) (hb : Below B w w') : StsR w' B A l := by
  obtain ⟨vs, h1, h2⟩ := h
  refine ⟨vs, h1.below hb, fun i hi => ?_⟩
  obtain ⟨EA, ec, XA, xc, e0, e1, e2, r0, r1⟩ := h2 i hi
  exact ⟨EA, ec, XA, xc, e0, e1, e2, r0.below hb, r1.below hb⟩
def netAgg (SA TA UA QA DA : Option Addr) (sc tc uc qc dc : Nat) (n : Drv.NNet) : Value :=
  .agg #[.slice SA n.states.length sc, .slice TA n.starts.length tc, .slice UA n.stops.length uc, .slice QA n.preds.length qc, .slice DA n.decs.length dc]
structure NetR (w : World) (B : Nat) (SA TA UA QA DA : Option Addr) (n : Drv.NNet) : Prop where
  sts : StsR w B SA n.states
  starts : Reads w B 1 TA n.starts.length (n.starts.map (Value.int .i64))
  stops : Reads w B 1 UA n.stops.length (n.stops.map (Value.int .i64))
  preds : Reads w B 1 QA n.preds.length (n.preds.map (Value.int .i64))
  decs : Reads w B 1 DA n.decs.length (n.decs.map (Value.int .i64))
theorem NetR.below {w w' : World} {B : Nat} {SA TA UA QA DA : Option Addr} {n : Drv.NNet} (h : NetR w B SA TA UA QA DA n) (hb : Below B w w') : NetR w' B SA TA UA QA DA n :=
  ⟨h.sts.below hb, h.starts.below hb, h.stops.below hb, h.preds.below hb, h.decs.below hb⟩
/-- lists of a size that a machine bears -/
structure NetS (n : Drv.NNet) : Prop where
  states : n.states.length ≤ 1000000
  starts : n.starts.length ≤ 1000000
  stops : n.stops.length ≤ 1000000
  preds : n.preds.length ≤ 1000000
  decs : n.decs.length ≤ 1000000
  st : ∀ s ∈ n.states, s.edges.length ≤ 1000000 ∧ s.ends.length ≤ 1000000 ∧ ∀ e ∈ s.edges, 0 ≤ e.kind
theorem StsR.at {w : World} {B : Nat} {A : Option Addr} {l : List Drv.NSt} (h : StsR w B A l) {i : Nat} (hi : i < l.length) : ∃ b off EA ec XA xc, A = some ⟨b, off, none⟩ ∧ b < B ∧
    w.cell? ⟨b, off + i * 3, none⟩ = some (.int .i64 l[i].rule) ∧ w.cell? ⟨b, off + i * 3 + 1, none⟩ = some (.slice EA l[i].edges.length ec) ∧ w.cell? ⟨b, off + i * 3 + 2, none⟩ = some (.slice XA l[i].ends.length xc) ∧
    Reads w B 3 EA l[i].edges.length (flat encEd l[i].edges) ∧ Reads w B 1 XA l[i].ends.length (l[i].ends.map (Value.int .i64)) := by
  obtain ⟨vs, h1, h2⟩ := h
  obtain ⟨EA, ec, XA, xc, e0, e1, e2, r0, r1⟩ := h2 i hi
  obtain ⟨b, off, hA, hb, hc⟩ := h1.2 (by omega)
  exact ⟨b, off, EA, ec, XA, xc, hA, hb, hc _ _ e0, (by have := hc _ _ e1; rwa [← Nat.add_assoc] at this), (by have := hc _ _ e2; rwa [← Nat.add_assoc] at this), r0, r1⟩
def encEf (e : Drv.Ed) : List Value := [.int .i64 e.kind, .int .i64 e.what, .int .i64 e.to]
def StVf (w : World) (B : Nat) (vs : List Value) (i : Nat) (s : Drv.NSt) : Prop :=
  ∃ EA ec XA xc, vs[i*3]? = some (.int .i64 s.rule) ∧ vs[i*3+1]? = some (.slice EA s.edges.length ec) ∧ vs[i*3+2]? = some (.slice XA s.ends.length xc) ∧ Reads w B 3 EA s.edges.length (flat encEf s.edges) ∧ Reads w B 1 XA s.ends.length (s.ends.map (Value.int .i64))
/-- a net's states, as the reference has them in memory -/
def StsRf (w : World) (B : Nat) (A : Option Addr) (l : List Drv.NSt) : Prop := ∃ vs, Reads w B 3 A l.length vs ∧ ∀ i (h : i < l.length), StVf w B vs i l[i]
theorem StsRf.below {w w' : World} {B : Nat} {A : Option Addr} {l : List Drv.NSt} (h : StsRf w B A l) (hb : Below B w w') : StsRf w' B A l := by
  obtain ⟨vs, h1, h2⟩ := h
  refine ⟨vs, h1.below hb, fun i hi => ?_⟩
  obtain ⟨EA, ec, XA, xc, e0, e1, e2, r0, r1⟩ := h2 i hi
  exact ⟨EA, ec, XA, xc, e0, e1, e2, r0.below hb, r1.below hb⟩
structure NetRf (w : World) (B : Nat) (SA TA UA QA DA : Option Addr) (n : Drv.NNet) : Prop where
  sts : StsRf w B SA n.states
  starts : Reads w B 1 TA n.starts.length (n.starts.map (Value.int .i64))
  stops : Reads w B 1 UA n.stops.length (n.stops.map (Value.int .i64))
  preds : Reads w B 1 QA n.preds.length (n.preds.map (Value.int .i64))
  decs : Reads w B 1 DA n.decs.length (n.decs.map (Value.int .i64))
theorem NetRf.below {w w' : World} {B : Nat} {SA TA UA QA DA : Option Addr} {n : Drv.NNet} (h : NetRf w B SA TA UA QA DA n) (hb : Below B w w') : NetRf w' B SA TA UA QA DA n :=
  ⟨h.sts.below hb, h.starts.below hb, h.stops.below hb, h.preds.below hb, h.decs.below hb⟩
end Go.Proofs.YtnpcjbdolmmaeaaGreatDoor

/-
  A row that is written in a cell of a box: memory alone. Printed by gen_cfog.py out of Rbx.
-/
namespace Go.Proofs.YtnpcjbdolmmaeaaGreatDoor
open Go.RowKit
set_option maxRecDepth 100000
theorem cells5z {w : World} {b : Nat} {v0 v1 v2 v3 v4 : Value} {T : TypeId} (h : w.heap[b]? = some (.cells #[v0, v1, v2, v3, v4] T (0, 0))) :
    (w.cell? ⟨b, 0, none⟩ = some v0 ∧ w.cell? ⟨b, 1, none⟩ = some v1 ∧ w.cell? ⟨b, 2, none⟩ = some v2 ∧ w.cell? ⟨b, 3, none⟩ = some v3 ∧ w.cell? ⟨b, 4, none⟩ = some v4) ∧ ∀ i, w.frozen? ⟨b, i, none⟩ = false :=
  ⟨⟨by rw [Lib.cell_of_heap h]; rfl, by rw [Lib.cell_of_heap h]; rfl, by rw [Lib.cell_of_heap h]; rfl, by rw [Lib.cell_of_heap h]; rfl, by rw [Lib.cell_of_heap h]; rfl⟩, fun i => Lib.frozen_of_heap h i⟩
theorem row_RO {w : World} {base n c size : Nat} {e : TypeId} {A : Option Addr} {xs : List Value} {S : Nat → Prop} (h : w.ownsRow base e size (.slice A n c) n xs) (hS : ∀ j, (Value.slice A n c).ownBlock = some j → ¬ S j) : RO w S size A n xs := by
  have hr := Reads.of_own h
  refine ⟨hr.1, fun hn => ?_⟩
  obtain ⟨b, off, rfl, hb, hc⟩ := hr.2 hn
  rcases h.2 with ⟨_, h0⟩ | ⟨g, cap, cur, hv, _⟩
  · omega
  · injection hv with hv
    injection hv with hv
    injection hv with hv1 hv2 _
    subst hv1 hv2
    exact ⟨b, 0, rfl, hb, hS b rfl, hc⟩
/-- a row being written in one cell of a box; blocks that there were ahead of it are as they were -/
structure RowBox (w0 : World) (tb : Nat) (cs : Value → Array Value) (T e : TypeId) (size k : Nat) (xs : List Value) (v : Value) (wr : World) : Prop where
  only : Only (fun j => j = tb) w0 wr
  blk : wr.heap[tb]? = some (.cells (cs v) T (0, 0))
  own : wr.ownsRow w0.heap.size e size v k xs
theorem RowBox.start {w0 : World} {tb : Nat} {cs : Value → Array Value} {T e : TypeId} {size : Nat} (h : w0.heap[tb]? = some (.cells (cs (.slice none 0 0)) T (0, 0))) : RowBox w0 tb cs T e size 0 [] (.slice none 0 0) w0 :=
  ⟨Only.refl _ _, h, World.ownsRow_nil _ _ _ _⟩
theorem RowBox.next {w0 wr wr' : World} {tb : Nat} {cs : Value → Array Value} {T e : TypeId} {size k : Nat} {xs : List Value} {v : Value} (h : RowBox w0 tb cs T e size k xs v wr) (hb : Below wr.heap.size wr wr') : RowBox w0 tb cs T e size k xs v wr' :=
  ⟨h.only.trans (Only.of_below (S := fun j => j = tb) hb) (fun _ _ e => e), (hb.block _ (heap_lt h.blk)).trans h.blk, ownsRow_only h.own (Only.of_below (S := fun _ => False) hb) (fun _ _ e => e)⟩
theorem RowBox.ne {w0 wr : World} {tb : Nat} {cs : Value → Array Value} {T e : TypeId} {size k : Nat} {xs : List Value} {v : Value} (h : RowBox w0 tb cs T e size k xs v wr) (hne : e ≠ T) : v.ownBlock ≠ some tb := row_not h.own h.blk hne
theorem RowBox.push {w0 wr wn : World} {tb o : Nat} {cs : Value → Array Value} {T e : TypeId} {size k : Nat} {xs ys : List Value} {v v' : Value} (h : RowBox w0 tb cs T e size k xs v wr) (hne : e ≠ T)
    (hown : wn.ownsRow w0.heap.size e size v' (k + 1) (xs ++ ys)) (ho : Only (fun j => v.ownBlock = some j) wr wn) (hc : (cs v).setIfInBounds o v' = cs v') :
    RowBox w0 tb cs T e size (k + 1) (xs ++ ys) v' (wn.setCell ⟨tb, o, none⟩ v') := by
  have t2 : wn.heap[tb]? = some (.cells (cs v) T (0, 0)) := (ho.block tb (heap_lt h.blk) (h.ne hne)).trans h.blk
  refine ⟨⟨?_, ?_, ?_, ?_, fun j hj hn => ?_⟩, ?_, own_setTb hown t2 hne⟩
  · exact (Only.of_set wn tb o v').os.trans (ho.os.trans h.only.os)
  · exact (Only.of_set wn tb o v').tape.trans (ho.tape.trans h.only.tape)
  · exact (Only.of_set wn tb o v').output.trans (ho.output.trans h.only.output)
  · exact Nat.le_trans h.only.size (Nat.le_trans ho.size (Only.of_set wn tb o v').size)
  · have h1 := h.only.size
    have h2 := ho.size
    rw [(Only.of_set wn tb o v').block j (by omega) hn, ho.block j (by omega) (fun e => by have := (World.ownsRow.lt h.own j e).1; omega)]
    exact h.only.block j hj hn
  · rw [← hc]; exact heap_setCell_same wn tb o _ _ _ t2
/-- what stays as it was, though the row grows -/
theorem RowBox.keep {w0 wr wn : World} {tb o : Nat} {cs : Value → Array Value} {T e : TypeId} {size k : Nat} {xs : List Value} {v : Value} {gn cn m : Nat} (_h : RowBox w0 tb cs T e size k xs v wr) (htb : tb < w0.heap.size)
    (hg : v.ownBlock = some gn ∨ wr.heap.size < gn) (ho : Only (fun j => v.ownBlock = some j) wr wn) :
    Only (fun j => j < w0.heap.size ∨ v.ownBlock = some j) wr (wn.setCell ⟨tb, o, none⟩ (.slice (some ⟨gn, 0, none⟩) m cn)) ∧ ∀ b, b < wr.heap.size → (b < w0.heap.size ∨ (Value.slice (some ⟨gn, 0, none⟩) m cn).ownBlock = some b) → (b < w0.heap.size ∨ v.ownBlock = some b) := by
  refine ⟨(ho.more fun _ _ e => .inr e).trans (Only.of_set wn tb o _) fun b _ e => .inl (by rw [e]; exact htb), fun b hb e => ?_⟩
  rcases e with e | e
  · exact .inl e
  · have e : some gn = some b := e
    injection e with e
    subst e
    rcases hg with h | h
    · exact .inr h
    · omega
theorem RowBox.fresh {w0 wr : World} {tb g : Nat} {cs : Value → Array Value} {T e : TypeId} {size k : Nat} {xs : List Value} {v : Value} (h : RowBox w0 tb cs T e size k xs v wr) (hg : wr.heap.size ≤ g) : ¬ (g < w0.heap.size ∨ v.ownBlock = some g) := by
  rintro (e | e)
  · have := h.only.size; omega
  · have := (World.ownsRow.lt h.own g e).2; omega
/-- three cells of a box, set anew -/
theorem set3x {w : World} {sb : Nat} {a b c x y z : Value} {T : TypeId} (h : w.heap[sb]? = some (.cells #[a, b, c] T (0, 0))) :
    (((w.setCell ⟨sb, 0, none⟩ x).setCell ⟨sb, 1, none⟩ y).setCell ⟨sb, 2, none⟩ z).heap[sb]? = some (.cells #[x, y, z] T (0, 0)) ∧ Only (fun j => j = sb) w (((w.setCell ⟨sb, 0, none⟩ x).setCell ⟨sb, 1, none⟩ y).setCell ⟨sb, 2, none⟩ z) := by
  have h1 := heap_setCell_same w sb 0 _ _ x h
  have h2 := heap_setCell_same _ sb 1 _ _ y h1
  have h3 := heap_setCell_same _ sb 2 _ _ z h2
  exact ⟨h3, ((Only.of_set w sb 0 x).trans (Only.of_set _ sb 1 y) fun _ _ e => e).trans (Only.of_set _ sb 2 z) fun _ _ e => e⟩
theorem setB5 {w : World} {sb : Nat} {a b c d e x y z u v : Value} {T : TypeId} (h : w.heap[sb]? = some (.cells #[a, b, c, d, e] T (0, 0))) :
    (((((w.setCell ⟨sb, 0, none⟩ x).setCell ⟨sb, 1, none⟩ y).setCell ⟨sb, 2, none⟩ z).setCell ⟨sb, 3, none⟩ u).setCell ⟨sb, 4, none⟩ v).heap[sb]? = some (.cells #[x, y, z, u, v] T (0, 0)) ∧ Only (fun j => j = sb) w (((((w.setCell ⟨sb, 0, none⟩ x).setCell ⟨sb, 1, none⟩ y).setCell ⟨sb, 2, none⟩ z).setCell ⟨sb, 3, none⟩ u).setCell ⟨sb, 4, none⟩ v) := by
  have h1 := heap_setCell_same w sb 0 _ _ x h
  have h2 := heap_setCell_same _ sb 1 _ _ y h1
  have h3 := heap_setCell_same _ sb 2 _ _ z h2
  have h4 := heap_setCell_same _ sb 3 _ _ u h3
  have h5 := heap_setCell_same _ sb 4 _ _ v h4
  exact ⟨h5, ((((Only.of_set w sb 0 x).trans (Only.of_set _ sb 1 y) fun _ _ e => e).trans (Only.of_set _ sb 2 z) fun _ _ e => e).trans (Only.of_set _ sb 3 u) fun _ _ e => e).trans (Only.of_set _ sb 4 v) fun _ _ e => e⟩
/-- a state of a net, as the reference has it: edges in blocks that are none of S, ends in older ones -/
def StVfO (w : World) (S : Nat → Prop) (B : Nat) (vs : List Value) (i : Nat) (s : Drv.NSt) : Prop :=
  ∃ EA ec XA xc, vs[i*3]? = some (.int .i64 s.rule) ∧ vs[i*3+1]? = some (.slice EA s.edges.length ec) ∧ vs[i*3+2]? = some (.slice XA s.ends.length xc) ∧ RO w S 3 EA s.edges.length (flat encEf s.edges) ∧ Reads w B 1 XA s.ends.length (s.ends.map (Value.int .i64))
theorem StVfO.only {w w' : World} {S S' : Nat → Prop} {B : Nat} {vs : List Value} {i : Nat} {s : Drv.NSt} (h : StVfO w S B vs i s) (ho : Only S w w') (hS : ∀ b, b < w.heap.size → S' b → S b) (hB : Below B w w') (vs' : List Value) : StVfO w' S' B (vs ++ vs') i s := by
  obtain ⟨AA, ac, EA, ec, e0, e1, e2, r0, r1⟩ := h
  have hl : ∀ {j : Nat} {v : Value}, vs[j]? = some v → (vs ++ vs')[j]? = some v := fun {j v} h => by
    rw [List.getElem?_append_left (List.getElem?_eq_some_iff.1 h).1]; exact h
  exact ⟨AA, ac, EA, ec, hl e0, hl e1, hl e2, r0.only ho hS, r1.below hB⟩
end Go.Proofs.YtnpcjbdolmmaeaaGreatDoor
