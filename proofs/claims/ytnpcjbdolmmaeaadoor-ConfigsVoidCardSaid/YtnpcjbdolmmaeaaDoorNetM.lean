/-
  Nets as they lie in memory. (The same text as in Pst5, Nmay, Nmay2, Rf3, Rm2.)
-/
import Derived.Test.YtnpcjbdolmmaeaaDoorDBase
import Derived.Test.YtnpcjbdolmmaeaaDoorNetLaw
namespace Go.Proofs.YtnpcjbdolmmaeaaDoor
open Go.RowKit
set_option maxRecDepth 100000
def encEd (e : Drv.Ed) : List Value := [.int .u8 e.kind, .int .i64 e.what, .int .i64 e.to]
def StV (w : World) (B : Nat) (vs : List Value) (i : Nat) (s : Drv.NSt) : Prop :=
  ∃ EA ec XA xc, vs[i*3]? = some (.int .i64 s.rule) ∧ vs[i*3+1]? = some (.slice EA s.edges.length ec) ∧ vs[i*3+2]? = some (.slice XA s.ends.length xc) ∧ Reads w B 3 EA s.edges.length (flat encEd s.edges) ∧ Reads w B 1 XA s.ends.length (s.ends.map (Value.int .i64))
/-- a net's states, as they lie in memory -/
def StsR (w : World) (B : Nat) (A : Option Addr) (l : List Drv.NSt) : Prop := ∃ vs, Reads w B 3 A l.length vs ∧ ∀ i (h : i < l.length), StV w B vs i l[i]
theorem StsR.below {w w' : World} {B : Nat} {A : Option Addr} {l : List Drv.NSt} (h : StsR w B A l) (hb : Below B w w') : StsR w' B A l := by
  obtain ⟨vs, h1, h2⟩ := h
  refine ⟨vs, h1.below hb, fun i hi => ?_⟩
  obtain ⟨EA, ec, XA, xc, e0, e1, e2, r0, r1⟩ := h2 i hi
  exact ⟨EA, ec, XA, xc, e0, e1, e2, r0.below hb, r1.below hb⟩
def netAgg (SA TA UA QA DA : Option Addr) (sc tc uc qc dc : Nat) (n : Drv.NNet) : Value :=
  .agg #[.slice SA n.states.length sc, .slice TA n.starts.length tc, .slice UA n.stops.length uc, .slice QA n.preds.length qc, .slice DA n.decs.length dc]
structure NetR (w : World) (B : Nat) (SA TA UA QA DA : Option Addr) (n : Drv.NNet) : Prop where
  sts : StsR w B SA n.states
  starts : Reads w B 1 TA n.starts.length (n.starts.map (Value.int .i64))
  stops : Reads w B 1 UA n.stops.length (n.stops.map (Value.int .i64))
  preds : Reads w B 1 QA n.preds.length (n.preds.map (Value.int .i64))
  decs : Reads w B 1 DA n.decs.length (n.decs.map (Value.int .i64))
theorem NetR.below {w w' : World} {B : Nat} {SA TA UA QA DA : Option Addr} {n : Drv.NNet} (h : NetR w B SA TA UA QA DA n) (hb : Below B w w') : NetR w' B SA TA UA QA DA n :=
  ⟨h.sts.below hb, h.starts.below hb, h.stops.below hb, h.preds.below hb, h.decs.below hb⟩
/-- lists of a size that a machine bears -/
structure NetS (n : Drv.NNet) : Prop where
  states : n.states.length ≤ 1000000
  starts : n.starts.length ≤ 1000000
  stops : n.stops.length ≤ 1000000
  preds : n.preds.length ≤ 1000000
  decs : n.decs.length ≤ 1000000
  st : ∀ s ∈ n.states, s.edges.length ≤ 1000000 ∧ s.ends.length ≤ 1000000 ∧ ∀ e ∈ s.edges, 0 ≤ e.kind
theorem StsR.at {w : World} {B : Nat} {A : Option Addr} {l : List Drv.NSt} (h : StsR w B A l) {i : Nat} (hi : i < l.length) : ∃ b off EA ec XA xc, A = some ⟨b, off, none⟩ ∧ b < B ∧
    w.cell? ⟨b, off + i * 3, none⟩ = some (.int .i64 l[i].rule) ∧ w.cell? ⟨b, off + i * 3 + 1, none⟩ = some (.slice EA l[i].edges.length ec) ∧ w.cell? ⟨b, off + i * 3 + 2, none⟩ = some (.slice XA l[i].ends.length xc) ∧
    Reads w B 3 EA l[i].edges.length (flat encEd l[i].edges) ∧ Reads w B 1 XA l[i].ends.length (l[i].ends.map (Value.int .i64)) := by
  obtain ⟨vs, h1, h2⟩ := h
  obtain ⟨EA, ec, XA, xc, e0, e1, e2, r0, r1⟩ := h2 i hi
  obtain ⟨b, off, hA, hb, hc⟩ := h1.2 (by omega)
  exact ⟨b, off, EA, ec, XA, xc, hA, hb, hc _ _ e0, (by have := hc _ _ e1; rwa [← Nat.add_assoc] at this), (by have := hc _ _ e2; rwa [← Nat.add_assoc] at this), r0, r1⟩
def encEf (e : Drv.Ed) : List Value := [.int .i64 e.kind, .int .i64 e.what, .int .i64 e.to]
def StVf (w : World) (B : Nat) (vs : List Value) (i : Nat) (s : Drv.NSt) : Prop :=
  ∃ EA ec XA xc, vs[i*3]? = some (.int .i64 s.rule) ∧ vs[i*3+1]? = some (.slice EA s.edges.length ec) ∧ vs[i*3+2]? = some (.slice XA s.ends.length xc) ∧ Reads w B 3 EA s.edges.length (flat encEf s.edges) ∧ Reads w B 1 XA s.ends.length (s.ends.map (Value.int .i64))
/-- a net's states, as the reference has them in memory -/
def StsRf (w : World) (B : Nat) (A : Option Addr) (l : List Drv.NSt) : Prop := ∃ vs, Reads w B 3 A l.length vs ∧ ∀ i (h : i < l.length), StVf w B vs i l[i]
theorem StsRf.below {w w' : World} {B : Nat} {A : Option Addr} {l : List Drv.NSt} (h : StsRf w B A l) (hb : Below B w w') : StsRf w' B A l := by
  obtain ⟨vs, h1, h2⟩ := h
  refine ⟨vs, h1.below hb, fun i hi => ?_⟩
  obtain ⟨EA, ec, XA, xc, e0, e1, e2, r0, r1⟩ := h2 i hi
  exact ⟨EA, ec, XA, xc, e0, e1, e2, r0.below hb, r1.below hb⟩
structure NetRf (w : World) (B : Nat) (SA TA UA QA DA : Option Addr) (n : Drv.NNet) : Prop where
  sts : StsRf w B SA n.states
  starts : Reads w B 1 TA n.starts.length (n.starts.map (Value.int .i64))
  stops : Reads w B 1 UA n.stops.length (n.stops.map (Value.int .i64))
  preds : Reads w B 1 QA n.preds.length (n.preds.map (Value.int .i64))
  decs : Reads w B 1 DA n.decs.length (n.decs.map (Value.int .i64))
theorem NetRf.below {w w' : World} {B : Nat} {SA TA UA QA DA : Option Addr} {n : Drv.NNet} (h : NetRf w B SA TA UA QA DA n) (hb : Below B w w') : NetRf w' B SA TA UA QA DA n :=
  ⟨h.sts.below hb, h.starts.below hb, h.stops.below hb, h.preds.below hb, h.decs.below hb⟩
end Go.Proofs.YtnpcjbdolmmaeaaDoor
