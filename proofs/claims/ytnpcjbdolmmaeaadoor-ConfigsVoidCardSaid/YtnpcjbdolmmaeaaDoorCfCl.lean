/-
  A closing as it lies in memory; what a call on it leaves as it was.
-/
import Derived.Test.YtnpcjbdolmmaeaaDoorCfHas
import Derived.Maps.OwnSet
namespace Go.Proofs.YtnpcjbdolmmaeaaDoor
open Go.RowKit Go.Maps
set_option maxRecDepth 100000
theorem ownsMap_onlyH {H : Type} {P : Program} {k : TypeId} {R : Value → Option (DataW H × List MemPlace)} {w w' : World} {b n : Nat} {D : DataW H} {S : Nat → Prop} (h : w.ownsMap P k R b n D) (ho : Only S w w') (hn : ¬ S b) : w'.ownsMap P k R b n D := by
  have hlt := h.lt
  obtain ⟨es, cl, hb, r⟩ := h
  exact ⟨es, cl, (ho.block b hlt hn).trans hb, r⟩
/-- where a closing lies: its view, its own block, its maps' -/
structure ClF where
  (V C M K B0 : Nat)
  a : VwA
  v : Cf.Vw
/-- the blocks that may turn -/
def ClS (w : World) (f : ClF) (k : Nat) : Prop := k = f.C ∨ k = f.M ∨ k = f.K ∨ ∃ u, w.cell? ⟨f.C, 2, none⟩ = some u ∧ u.ownBlock = some k
/-- the map of those that are kept -/
structure KepIs (w : World) (S : Nat → Prop) (D : DataW Value) (K : List Cf.Cfg) : Prop where
  tidy : Tidy D
  has : ∀ x : Cf.Cfg, Maps.has D (keyL x false) = true ↔ ∃ y ∈ K, Cf.Like x y
  keys : ∀ kl, Maps.has D kl = true → ∃ x ∈ K, kl = keyL x false
  elem : ∀ x ∈ K, ∃ (y : Cf.Cfg) (A : Option Addr) (c : Nat), (∀ zd, D.atKey (keyL x false) zd = .held (.agg (cfC y A c).toArray)) ∧ Cf.Like y x ∧ (y.exact = true ↔ ∃ z ∈ K, Cf.Like x z ∧ z.exact = true) ∧ RO w S 1 A y.stack.length (y.stack.map (Value.int .i64))
theorem KepIs.only {w w' : World} {S S' : Nat → Prop} {D : DataW Value} {K : List Cf.Cfg} (h : KepIs w S D K) (ho : Only S w w') (hS : ∀ b, b < w.heap.size → S' b → S b) : KepIs w' S' D K :=
  ⟨h.tidy, h.has, h.keys, fun x hx => by
    obtain ⟨y, A, c, h1, h2, h3, h4⟩ := h.elem x hx
    exact ⟨y, A, c, h1, h2, h3, h4.only ho hS⟩⟩
theorem KepIs.start (w : World) (S : Nat → Prop) : KepIs w S (.map []) [] :=
  ⟨tidy_empty, fun x => ⟨fun h => (by cases h), fun ⟨y, h, _⟩ => (by cases h)⟩, fun kl h => (by cases h), fun _ h => (by cases h)⟩
/-- a closing in memory -/
structure ClAt (w : World) (f : ClF) (c : Cf.Cl) : Prop where
  row : ∃ u vs, w.heap[f.C]? = some (.cells #[.pointer (some ⟨f.V, 0, none⟩), .map (some f.M), u, .map (some f.K), .bool c.over] 58 (0, 0)) ∧ w.ownsRow f.B0 40 5 u c.wait.length vs ∧ CfsV w (ClS w f) c.wait vs
  view : VwAt w f.B0 f.V f.a f.v
  met : ∃ nm D, nm ≤ c.wait.length ∧ w.ownsMap Tryd.prog 9 asIs f.M nm D ∧ MetIs D c.wait
  kept : ∃ nk D, nk ≤ c.kept.length ∧ w.ownsMap Tryd.prog 9 asIs f.K nk D ∧ KepIs w (ClS w f) D c.kept
  pt : Lib.TabBelow Tryd.prog f.B0 w "internal/strconv.uint64pow10" .u64 Lib.pow10Tab
  ge : f.B0 ≤ f.C ∧ f.B0 ≤ f.M ∧ f.B0 ≤ f.K
  ne : f.C ≠ f.M ∧ f.C ≠ f.K ∧ f.M ≠ f.K
  hw : f.B0 ≤ w.heap.size
/-- numbers that a machine bears; all are such -/
structure ClSz (c : Cf.Cl) : Prop where
  wait : c.wait.length ≤ 100000000
  kept : c.kept.length ≤ 100000000
  ok : ∀ x ∈ c.wait, OkC x
  okk : ∀ x ∈ c.kept, OkC x
/-- a step: what may turn has turned alone; what may turn is what it was, or new -/
structure Steps (f : ClF) (w w' : World) : Prop where
  only : Only (ClS w f) w w'
  same : ∀ b, b < w.heap.size → ClS w' f b → ClS w f b
theorem Steps.refl (f : ClF) (w : World) : Steps f w w := ⟨Only.refl _ _, fun _ _ h => h⟩
theorem Steps.trans {f : ClF} {w w1 w2 : World} (h : Steps f w w1) (k : Steps f w1 w2) : Steps f w w2 :=
  ⟨h.only.trans k.only h.same, fun b hb hs => h.same b hb (k.same b (Nat.lt_of_lt_of_le hb h.only.size) hs)⟩
theorem cls_of_cell {w w' : World} {f : ClF} (h : w'.cell? ⟨f.C, 2, none⟩ = w.cell? ⟨f.C, 2, none⟩) (b : Nat) : ClS w' f b ↔ ClS w f b := by
  unfold ClS; rw [h]
theorem Steps.of_below {f : ClF} {w w' : World} (hC : f.C < w.heap.size) (hb : Below w.heap.size w w') : Steps f w w' :=
  ⟨Only.of_below hb, fun b _ h => (cls_of_cell (hb.cell (p := ⟨f.C, 2, none⟩) hC) b).1 h⟩
theorem ClAt.lt {w : World} {f : ClF} {c : Cf.Cl} (h : ClAt w f c) : f.C < w.heap.size := by
  obtain ⟨u, vs, hb, _⟩ := h.row
  exact heap_lt hb
/-- the wait list's block is none of the others -/
theorem ClAt.below {w w' : World} {f : ClF} {c : Cf.Cl} (h : ClAt w f c) (hb : Below w.heap.size w w') : ClAt w' f c := by
  have hC := h.lt
  have hs := Steps.of_below hC hb
  obtain ⟨u, vs, h1, h2, h3⟩ := h.row
  obtain ⟨nm, D, m1, m2, m3⟩ := h.met
  obtain ⟨nk, D', k1, k2, k3⟩ := h.kept
  have hn : Only (fun _ => False) w w' := Only.of_below hb
  refine ⟨⟨u, vs, (hb.block _ hC).trans h1, ownsRow_below h2 hb (Nat.le_refl _), h3.only hs.only hs.same⟩, h.view.below (hb.mono h.hw), ⟨nm, D, m1, ownsMap_onlyH m2 hn (fun e => e), m3⟩, ⟨nk, D', k1, ownsMap_onlyH k2 hn (fun e => e), k3.only hs.only hs.same⟩, h.pt.on (hb.mono h.hw), h.ge, h.ne, Nat.le_trans h.hw hb.size⟩
theorem ClAt.cells {w : World} {f : ClF} {c : Cf.Cl} (h : ClAt w f c) : ∃ u vs, w.cell? ⟨f.C, 0, none⟩ = some (.pointer (some ⟨f.V, 0, none⟩)) ∧ w.cell? ⟨f.C, 1, none⟩ = some (.map (some f.M)) ∧ w.cell? ⟨f.C, 2, none⟩ = some u ∧ w.cell? ⟨f.C, 3, none⟩ = some (.map (some f.K)) ∧ w.cell? ⟨f.C, 4, none⟩ = some (.bool c.over) ∧
    (∀ i, w.frozen? ⟨f.C, i, none⟩ = false) ∧ w.ownsRow f.B0 40 5 u c.wait.length vs ∧ CfsV w (ClS w f) c.wait vs := by
  obtain ⟨u, vs, h1, h2, h3⟩ := h.row
  refine ⟨u, vs, ?_, ?_, ?_, ?_, ?_, fun i => Lib.frozen_of_heap h1 i, h2, h3⟩ <;> (rw [Lib.cell_of_heap h1]; rfl)
/-- the wait list's block is none of the others' -/
theorem ClAt.row_ne {w : World} {f : ClF} {c : Cf.Cl} (h : ClAt w f c) {u : Value} {k : Nat} (hu : w.cell? ⟨f.C, 2, none⟩ = some u) (hk : u.ownBlock = some k) : k ≠ f.C ∧ k ≠ f.M ∧ k ≠ f.K ∧ f.B0 ≤ k ∧ k < w.heap.size := by
  obtain ⟨u', vs, h1, h2, h3⟩ := h.row
  have e : u' = u := by
    have : w.cell? ⟨f.C, 2, none⟩ = some u' := by rw [Lib.cell_of_heap h1]; rfl
    rw [this] at hu
    injection hu
  subst e
  obtain ⟨nm, D, _, ⟨es, cl, m2, _⟩, _⟩ := h.met
  obtain ⟨nk, D', _, ⟨es', cl', k2, _⟩, _⟩ := h.kept
  rcases h2.2 with ⟨e, _⟩ | ⟨g, cap, cur, hv, hg, hh, _⟩
  · subst e; cases hk
  · subst hv
    injection hk with hk
    have hk : g = k := hk
    subst hk
    refine ⟨fun e => ?_, fun e => ?_, fun e => ?_, hg, heap_lt hh⟩
    · rw [e, h1] at hh
      injection hh with hh
      injection hh with _ e2
      exact absurd e2 (by decide)
    · rw [e, m2] at hh; cases hh
    · rw [e, k2] at hh; cases hh
end Go.Proofs.YtnpcjbdolmmaeaaDoor
