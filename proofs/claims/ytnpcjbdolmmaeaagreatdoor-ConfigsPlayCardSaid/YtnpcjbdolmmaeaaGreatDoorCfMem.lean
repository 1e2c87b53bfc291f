/-
  Configurations, a view, a closing, as they lie in memory.
-/
import Derived.Test.YtnpcjbdolmmaeaaGreatDoorNetM
import Derived.Test.YtnpcjbdolmmaeaaGreatDoorCfSg
import Derived.Maps.OwnOps
import Derived.Maps.RangeWalk
namespace Go.Proofs.YtnpcjbdolmmaeaaGreatDoor
open Go.RowKit Go.Maps Go.WideMaps
set_option maxRecDepth 100000
def cfC (x : Cf.Cfg) (A : Option Addr) (c : Nat) : List Value := [.int .i64 x.alt, .int .i64 x.state, .slice A x.stack.length c, .bool x.exact, .bool x.ended]
/-- a configuration's cells; its stack lies in a block that is none of S -/
def CfV (w : World) (S : Nat → Prop) (x : Cf.Cfg) (vs : List Value) : Prop := ∃ A c, vs = cfC x A c ∧ x.stack.length ≤ c ∧ RO w S 1 A x.stack.length (x.stack.map (Value.int .i64))
theorem CfV.only {w w' : World} {S S' : Nat → Prop} {x : Cf.Cfg} {vs : List Value} (h : CfV w S x vs) (ho : Only S w w') (hS : ∀ b, b < w.heap.size → S' b → S b) : CfV w' S' x vs := by
  obtain ⟨A, c, e, hc, r⟩ := h
  exact ⟨A, c, e, hc, r.only ho hS⟩
theorem CfV.len {w : World} {S : Nat → Prop} {x : Cf.Cfg} {vs : List Value} (h : CfV w S x vs) : vs.length = 5 := by
  obtain ⟨A, c, e, _⟩ := h; rw [e]; rfl
def CfsV (w : World) (S : Nat → Prop) : List Cf.Cfg → List Value → Prop
  | [], vs => vs = []
  | x :: l, vs => ∃ a b, vs = a ++ b ∧ CfV w S x a ∧ CfsV w S l b
theorem CfsV.only {w w' : World} {S S' : Nat → Prop} (ho : Only S w w') (hS : ∀ b, b < w.heap.size → S' b → S b) : ∀ {l : List Cf.Cfg} {vs : List Value}, CfsV w S l vs → CfsV w' S' l vs
  | [], _, h => h
  | _ :: _, _, h => by
    obtain ⟨a, b, e, h1, h2⟩ := h
    exact ⟨a, b, e, h1.only ho hS, CfsV.only ho hS h2⟩
theorem CfsV.snoc {w : World} {S : Nat → Prop} {x : Cf.Cfg} {a : List Value} (hx : CfV w S x a) : ∀ {l : List Cf.Cfg} {vs : List Value}, CfsV w S l vs → CfsV w S (l ++ [x]) (vs ++ a)
  | [], _, h => ⟨a, [], by rw [show _ = ([] : List Value) from h]; simp, hx, rfl⟩
  | _ :: _, _, h => by
    obtain ⟨p, q, e, h1, h2⟩ := h
    exact ⟨p, q ++ a, by rw [e, List.append_assoc], h1, CfsV.snoc hx h2⟩
theorem CfsV.len {w : World} {S : Nat → Prop} : ∀ {l : List Cf.Cfg} {vs : List Value}, CfsV w S l vs → vs.length = l.length * 5
  | [], _, h => by rw [show _ = ([] : List Value) from h]; rfl
  | _ :: _, _, h => by
    obtain ⟨p, q, e, h1, h2⟩ := h
    rw [e, List.length_append, h1.len, CfsV.len h2, List.length_cons]; omega
theorem CfsV.at {w : World} {S : Nat → Prop} : ∀ {l : List Cf.Cfg} {vs : List Value}, CfsV w S l vs → ∀ i (h : i < l.length), ∃ A c, l[i].stack.length ≤ c ∧ RO w S 1 A l[i].stack.length (l[i].stack.map (Value.int .i64)) ∧ ∀ k, k < 5 → vs[i * 5 + k]? = (cfC l[i] A c)[k]?
  | x :: l, _, h, 0, _ => by
    obtain ⟨a, b, e, ⟨A, c, ea, hc, r⟩, _⟩ := h
    refine ⟨A, c, hc, r, fun k hk => ?_⟩
    rw [e, ea, Nat.zero_mul, Nat.zero_add, List.getElem?_append_left (by simpa [cfC] using hk)]
    rfl
  | x :: l, _, h, i + 1, hi => by
    obtain ⟨a, b, e, h1, h2⟩ := h
    obtain ⟨A, c, hc, r, hk⟩ := CfsV.at h2 i (by simpa using hi)
    refine ⟨A, c, hc, r, fun k hk5 => ?_⟩
    have hl := h1.len
    rw [e, List.getElem?_append_right (by omega), hl, show (i + 1) * 5 + k - 5 = i * 5 + k by omega]
    exact hk k hk5
/-! ## a view -/
def vwCells (SA TA UA QA DA EA XA PA : Option Addr) (sc tc uc qc dc ec xc pc : Nat) (v : Cf.Vw) : Array Value :=
  #[.slice SA v.n.states.length sc, .slice TA v.n.starts.length tc, .slice UA v.n.stops.length uc, .slice QA v.n.preds.length qc, .slice DA v.n.decs.length dc, .int .i64 v.d.rule, .slice EA v.d.edges.length ec, .slice XA v.d.ends.length xc, .int .i64 v.bound, .slice PA v.n.states.length pc]
structure VwA where
  (SA TA UA QA DA EA XA PA : Option Addr)
  (sc tc uc qc dc ec xc pc : Nat)
/-- a view in memory, all of it below B -/
structure VwAt (w : World) (B V : Nat) (a : VwA) (v : Cf.Vw) : Prop where
  blk : w.heap[V]? = some (.cells (vwCells a.SA a.TA a.UA a.QA a.DA a.EA a.XA a.PA a.sc a.tc a.uc a.qc a.dc a.ec a.xc a.pc v) 93 (0, 0))
  lt : V < B
  net : NetR w B a.SA a.TA a.UA a.QA a.DA v.n
  edges : Reads w B 3 a.EA v.d.edges.length (flat encEd v.d.edges)
  ends : Reads w B 1 a.XA v.d.ends.length (v.d.ends.map (Value.int .i64))
  stops : Reads w B 1 a.PA v.n.states.length ((List.range v.n.states.length).map fun i : Nat => Value.bool (v.n.stops.contains (i : Int)))
theorem VwAt.below {w w' : World} {B V : Nat} {a : VwA} {v : Cf.Vw} (h : VwAt w B V a v) (hb : Below B w w') : VwAt w' B V a v :=
  ⟨(hb.block V h.lt).trans h.blk, h.lt, h.net.below hb, h.edges.below hb, h.ends.below hb, h.stops.below hb⟩
/-- a view that a net makes -/
structure OkV (v : Cf.Vw) : Prop where
  may : Drv.mayNet v.n = true
  sz : NetS v.n
  dec : v.d ∈ v.n.states ∧ v.d.ends.length ≠ 0
  bound : 1 ≤ v.bound ∧ v.bound ≤ 8
  few : v.n.states.length ≤ 700
/-! ## maps of a closing -/
theorem lawStr : Keyed Tryz.prog 9 := string_keyed Tryz.underlying9
def keyL (x : Cf.Cfg) (e : Bool) : Lit := .string (Cf.keyT x e)
theorem key_of (x : Cf.Cfg) (e : Bool) (h : (Cf.keyT x e).length ≤ maxLen) : keyOf Tryz.prog 9 (.string ⟨(Cf.keyT x e).toArray⟩) = some (keyL x e) := by
  have := keyOf_string_mk (P := Tryz.prog) (k := 9) (s := ⟨(Cf.keyT x e).toArray⟩) Tryz.underlying9 (by simpa [ByteArray.size] using h)
  exact this
theorem keyL_inj {x y : Cf.Cfg} {e f : Bool} (h : keyL x e = keyL y f) : Cf.Like x y ∧ e = f := by
  injection h with h
  exact Cf.key_inj h
/-- elements of whatever kind, as they stand -/
def asIs (v : Value) : Option (DataW Value × List MemPlace) := some (.held v, [])
/-- the map of those that were met -/
def MetIs (D : DataW Value) (l : List Cf.Cfg) : Prop := Tidy D ∧ size D = l.length ∧ ∀ x : Cf.Cfg, has D (keyL x x.exact) = decide (x ∈ l)
theorem MetIs.start : MetIs (.map []) [] := ⟨tidy_empty, rfl, fun _ => rfl⟩
theorem MetIs.put {D : DataW Value} {l : List Cf.Cfg} (h : MetIs D l) {x : Cf.Cfg} (hx : ¬ x ∈ l) (d : DataW Value) : MetIs (D.put (keyL x x.exact) d) (l ++ [x]) := by
  have hn : has D (keyL x x.exact) = false := by rw [h.2.2 x]; exact decide_eq_false hx
  refine ⟨h.1.put (by trivial) _, ?_, fun y => ?_⟩
  · rw [size_put h.1, hn]
    simp [h.2.1]
  · by_cases e : keyL y y.exact = keyL x x.exact
    · obtain ⟨h1, h2⟩ := keyL_inj e
      have := h1.eq h2
      subst this
      rw [has_put_same h.1.isMap (by trivial)]
      simp
    · rw [has_put_other e, h.2.2 y]
      have : ¬ y = x := fun q => e (by rw [q])
      simp [this]
end Go.Proofs.YtnpcjbdolmmaeaaGreatDoor
