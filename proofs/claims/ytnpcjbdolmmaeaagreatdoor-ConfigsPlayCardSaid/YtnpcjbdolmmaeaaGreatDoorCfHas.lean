/-
  Is a configuration one of a view? (configs.View.has); a configuration at another state (Config.at): the walks.
-/
import Derived.Test.YtnpcjbdolmmaeaaGreatDoorCfMem
import Derived.Deep.QuietTactic
import Derived.BigQuiet
import Derived.Laws.Rows
import Derived.Maps.OwnSet
namespace Go.Proofs.YtnpcjbdolmmaeaaGreatDoor
open Go.RowKit Go.Maps
set_option maxRecDepth 100000
def BlP (b : Bool) (w : World) (e : Ending) (w' : World) : Prop := e = .returned (.bool b) ∧ Below w.heap.size w w'
theorem BlP.of {b c : Bool} {w w' : World} (h : b = c) (hb : Below w.heap.size w w') : BlP b w (.returned (.bool c)) w' := ⟨by rw [h], hb⟩
theorem has_eq (v : Cf.Vw) (x : Cf.Cfg) : Cf.has v x = (decide (0 ≤ x.alt) && decide (x.alt < v.d.ends.length) && decide (0 ≤ x.state) && decide (x.state < v.n.states.length)) := rfl
set_option maxHeartbeats 4000000 in
theorem has_any (x : Cf.Cfg) (A : Option Addr) (c : Nat) (w : World) (B V : Nat) (a : VwA) (v : Cf.Vw) (hv : VwAt w B V a v) (hB : B ≤ w.heap.size) :
    Calls Tryz.prog 35 #[.pointer (some ⟨V, 0, none⟩), .agg #[.int .i64 x.alt, .int .i64 x.state, .slice A x.stack.length c, .bool x.exact, .bool x.ended]] w (BlP (Cf.has v x) w) := by
  rw [has_eq]
  obtain ⟨alt, state, stack, exact, ended⟩ := x
  dsimp only
  obtain ⟨W, hW⟩ : ∃ W, W = w.alloc (.cells #[.int .i64 alt, .int .i64 state, .slice A stack.length c, .bool exact, .bool ended] 89) := ⟨_, rfl⟩
  have hbW : Below w.heap.size w W := by rw [hW]; exact below_new _ _
  have k0 : W.cell? ⟨w.heap.size, 0, none⟩ = some (.int .i64 alt) := by rw [hW, cell_new]; rfl
  have k1 : W.cell? ⟨w.heap.size, 1, none⟩ = some (.int .i64 state) := by rw [hW, cell_new]; rfl
  have hvW := (hv.below (hbW.mono hB)).blk
  have v0 : W.cell? ⟨V, 0, none⟩ = some (.slice a.SA v.n.states.length a.sc) := by rw [Lib.cell_of_heap hvW]; rfl
  have v7 : W.cell? ⟨V, 7, none⟩ = some (.slice a.XA v.d.ends.length a.xc) := by rw [Lib.cell_of_heap hvW]; rfl
  generalize v.d.ends.length = ne at *
  generalize v.n.states.length = ns at *
  have HBW := hid hbW
  clear hbW hvW hv
  by_cases h1 : 0 ≤ alt
  · have f1 : decide (0 ≤ alt) = true := decide_eq_true h1
    rw [f1]
    by_cases h2 : alt < (ne : Int)
    · have f2 : decide (alt < (ne : Int)) = true := decide_eq_true h2
      rw [f2]
      by_cases h3 : 0 ≤ state
      · have f3 : decide (0 ≤ state) = true := decide_eq_true h3
        rw [f3]
        by_cases h4 : state < (ns : Int)
        · have f4 : decide (state < (ns : Int)) = true := decide_eq_true h4
          rw [f4]
          go_enter Tryz.func35, Tryz.ntmps35
          go_wp2_with fail
          rw [← hW]
          clear hW
          go_quiet (fail)
          go_wp2_with fail
          go_ret
          exact BlP.of rfl (below_drewN HBW.out _)
        · have f4 : decide (state < (ns : Int)) = false := decide_eq_false h4
          rw [f4]
          go_enter Tryz.func35, Tryz.ntmps35
          go_wp2_with fail
          rw [← hW]
          clear hW
          go_quiet (fail)
          go_wp2_with fail
          go_ret
          exact BlP.of rfl (below_drewN HBW.out _)
      · have f3 : decide (0 ≤ state) = false := decide_eq_false h3
        rw [f3]
        go_enter Tryz.func35, Tryz.ntmps35
        go_wp2_with fail
        rw [← hW]
        clear hW
        go_quiet (fail)
        go_wp2_with fail
        go_ret
        exact BlP.of rfl (below_drewN HBW.out _)
    · have f2 : decide (alt < (ne : Int)) = false := decide_eq_false h2
      rw [f2]
      go_enter Tryz.func35, Tryz.ntmps35
      go_wp2_with fail
      rw [← hW]
      clear hW
      go_quiet (fail)
      go_wp2_with fail
      go_ret
      exact BlP.of rfl (below_drewN HBW.out _)
  · have f1 : decide (0 ≤ alt) = false := decide_eq_false h1
    rw [f1]
    go_enter Tryz.func35, Tryz.ntmps35
    go_wp2_with fail
    rw [← hW]
    clear hW
    go_quiet (fail)
    go_wp2_with fail
    go_ret
    exact BlP.of rfl (below_drewN HBW.out _)
theorem infoCf : (Tryz.prog.info? 89).map (·.size) = some 5 := by kernel_rfl
/-- a configuration at another state -/
def AtP (x : Cf.Cfg) (state : Int) (A : Option Addr) (n c : Nat) (ex : Bool) (w : World) (e : Ending) (w' : World) : Prop :=
  e = .returned (.agg #[.int .i64 x.alt, .int .i64 state, .slice A n c, .bool (x.exact && ex), .bool false]) ∧ Below w.heap.size w w'
theorem AtP.of {x : Cf.Cfg} {state : Int} {A : Option Addr} {n c : Nat} {ex b : Bool} {w w' : World} (h : (x.exact && ex) = b) (hb : Below w.heap.size w w') : AtP x state A n c ex w (.returned (.agg #[.int .i64 x.alt, .int .i64 state, .slice A n c, .bool b, .bool false])) w' := ⟨by rw [h], hb⟩
set_option maxHeartbeats 2000000 in
theorem at_any (x : Cf.Cfg) (A : Option Addr) (c : Nat) (state : Int) (A2 : Option Addr) (n2 c2 : Nat) (ex : Bool) (w : World) :
    Calls Tryz.prog 36 #[.agg #[.int .i64 x.alt, .int .i64 x.state, .slice A x.stack.length c, .bool x.exact, .bool x.ended], .int .i64 state, .slice A2 n2 c2, .bool ex] w (AtP x state A2 n2 c2 ex w) := by
  obtain ⟨alt, st, stack, exact, ended⟩ := x
  dsimp only
  have hb : ∀ (b : Bool), Below w.heap.size w ((w.alloc (.cells #[.int .i64 alt, .int .i64 st, .slice A stack.length c, .bool exact, .bool ended] 89)).alloc (.cells #[.int .i64 alt, .int .i64 state, .slice A2 n2 c2, .bool b, .bool false] 89)) := fun b => (below_new _ _).alloc (by simp) _
  have hh : ∀ (b : Bool), ((w.alloc (.cells #[.int .i64 alt, .int .i64 st, .slice A stack.length c, .bool exact, .bool ended] 89)).alloc (.cells #[.int .i64 alt, .int .i64 state, .slice A2 n2 c2, .bool b, .bool false] 89)).heap[w.heap.size + 1]? = some (.cells #[.int .i64 alt, .int .i64 state, .slice A2 n2 c2, .bool b, .bool false] 89 (0, 0)) := fun b => by
    have := heap_alloc_new (w.alloc (.cells #[.int .i64 alt, .int .i64 st, .slice A stack.length c, .bool exact, .bool ended] 89)) (.cells #[.int .i64 alt, .int .i64 state, .slice A2 n2 c2, .bool b, .bool false] 89)
    rwa [show (w.alloc (.cells #[.int .i64 alt, .int .i64 st, .slice A stack.length c, .bool exact, .bool ended] 89)).heap.size = w.heap.size + 1 by simp] at this
  have HB := hid hb
  have HH := hid hh
  clear hb hh
  cases exact <;> cases ex
  all_goals
    go_enter Tryz.func36, Tryz.ntmps36
    go_wp2
    refine bodyPost_ret (results_cell_row rfl _ _ (w.heap.size + 1) 89 _ _ _ rfl (HH.out _) Tryz.underlying89 rfl infoCf) rfl ?_
    exact AtP.of rfl (HB.out _)
end Go.Proofs.YtnpcjbdolmmaeaaGreatDoor

/-
  A closing as it lies in memory; what a call on it leaves as it was.
-/
namespace Go.Proofs.YtnpcjbdolmmaeaaGreatDoor
open Go.RowKit Go.Maps
set_option maxRecDepth 100000
theorem ownsMap_onlyH {H : Type} {P : Program} {k : TypeId} {R : Value → Option (DataW H × List MemPlace)} {w w' : World} {b n : Nat} {D : DataW H} {S : Nat → Prop} (h : w.ownsMap P k R b n D) (ho : Only S w w') (hn : ¬ S b) : w'.ownsMap P k R b n D := by
  have hlt := h.lt
  obtain ⟨es, cl, hb, r⟩ := h
  exact ⟨es, cl, (ho.block b hlt hn).trans hb, r⟩
/-- where a closing lies: its view, its own block, its maps' -/
structure ClF where
  (V C M K B0 : Nat)
  a : VwA
  v : Cf.Vw
/-- the blocks that may turn -/
def ClS (w : World) (f : ClF) (k : Nat) : Prop := k = f.C ∨ k = f.M ∨ k = f.K ∨ ∃ u, w.cell? ⟨f.C, 2, none⟩ = some u ∧ u.ownBlock = some k
/-- the map of those that are kept -/
structure KepIs (w : World) (S : Nat → Prop) (D : DataW Value) (K : List Cf.Cfg) : Prop where
  tidy : Tidy D
  has : ∀ x : Cf.Cfg, Maps.has D (keyL x false) = true ↔ ∃ y ∈ K, Cf.Like x y
  keys : ∀ kl, Maps.has D kl = true → ∃ x ∈ K, kl = keyL x false
  elem : ∀ x ∈ K, ∃ (y : Cf.Cfg) (A : Option Addr) (c : Nat), (∀ zd, D.atKey (keyL x false) zd = .held (.agg (cfC y A c).toArray)) ∧ Cf.Like y x ∧ (y.exact = true ↔ ∃ z ∈ K, Cf.Like x z ∧ z.exact = true) ∧ RO w S 1 A y.stack.length (y.stack.map (Value.int .i64))
theorem KepIs.only {w w' : World} {S S' : Nat → Prop} {D : DataW Value} {K : List Cf.Cfg} (h : KepIs w S D K) (ho : Only S w w') (hS : ∀ b, b < w.heap.size → S' b → S b) : KepIs w' S' D K :=
  ⟨h.tidy, h.has, h.keys, fun x hx => by
    obtain ⟨y, A, c, h1, h2, h3, h4⟩ := h.elem x hx
    exact ⟨y, A, c, h1, h2, h3, h4.only ho hS⟩⟩
theorem KepIs.start (w : World) (S : Nat → Prop) : KepIs w S (.map []) [] :=
  ⟨tidy_empty, fun x => ⟨fun h => (by cases h), fun ⟨y, h, _⟩ => (by cases h)⟩, fun kl h => (by cases h), fun _ h => (by cases h)⟩
/-- a closing in memory -/
structure ClAt (w : World) (f : ClF) (c : Cf.Cl) : Prop where
  row : ∃ u vs, w.heap[f.C]? = some (.cells #[.pointer (some ⟨f.V, 0, none⟩), .map (some f.M), u, .map (some f.K), .bool c.over] 128 (0, 0)) ∧ w.ownsRow f.B0 89 5 u c.wait.length vs ∧ CfsV w (ClS w f) c.wait vs
  view : VwAt w f.B0 f.V f.a f.v
  met : ∃ nm D, nm ≤ c.wait.length ∧ w.ownsMap Tryz.prog 9 asIs f.M nm D ∧ MetIs D c.wait
  kept : ∃ nk D, nk ≤ c.kept.length ∧ w.ownsMap Tryz.prog 9 asIs f.K nk D ∧ KepIs w (ClS w f) D c.kept
  pt : Lib.TabBelow Tryz.prog f.B0 w "internal/strconv.uint64pow10" .u64 Lib.pow10Tab
  ge : f.B0 ≤ f.C ∧ f.B0 ≤ f.M ∧ f.B0 ≤ f.K
  ne : f.C ≠ f.M ∧ f.C ≠ f.K ∧ f.M ≠ f.K
  hw : f.B0 ≤ w.heap.size
/-- numbers that a machine bears; all are such -/
structure ClSz (c : Cf.Cl) : Prop where
  wait : c.wait.length ≤ 100000000
  kept : c.kept.length ≤ 100000000
  ok : ∀ x ∈ c.wait, OkC x
  okk : ∀ x ∈ c.kept, OkC x
/-- a step: what may turn has turned alone; what may turn is what it was, or new -/
structure Steps (f : ClF) (w w' : World) : Prop where
  only : Only (ClS w f) w w'
  same : ∀ b, b < w.heap.size → ClS w' f b → ClS w f b
theorem Steps.refl (f : ClF) (w : World) : Steps f w w := ⟨Only.refl _ _, fun _ _ h => h⟩
theorem Steps.trans {f : ClF} {w w1 w2 : World} (h : Steps f w w1) (k : Steps f w1 w2) : Steps f w w2 :=
  ⟨h.only.trans k.only h.same, fun b hb hs => h.same b hb (k.same b (Nat.lt_of_lt_of_le hb h.only.size) hs)⟩
theorem cls_of_cell {w w' : World} {f : ClF} (h : w'.cell? ⟨f.C, 2, none⟩ = w.cell? ⟨f.C, 2, none⟩) (b : Nat) : ClS w' f b ↔ ClS w f b := by
  unfold ClS; rw [h]
theorem Steps.of_below {f : ClF} {w w' : World} (hC : f.C < w.heap.size) (hb : Below w.heap.size w w') : Steps f w w' :=
  ⟨Only.of_below hb, fun b _ h => (cls_of_cell (hb.cell (p := ⟨f.C, 2, none⟩) hC) b).1 h⟩
theorem ClAt.lt {w : World} {f : ClF} {c : Cf.Cl} (h : ClAt w f c) : f.C < w.heap.size := by
  obtain ⟨u, vs, hb, _⟩ := h.row
  exact heap_lt hb
/-- the wait list's block is none of the others -/
theorem ClAt.below {w w' : World} {f : ClF} {c : Cf.Cl} (h : ClAt w f c) (hb : Below w.heap.size w w') : ClAt w' f c := by
  have hC := h.lt
  have hs := Steps.of_below hC hb
  obtain ⟨u, vs, h1, h2, h3⟩ := h.row
  obtain ⟨nm, D, m1, m2, m3⟩ := h.met
  obtain ⟨nk, D', k1, k2, k3⟩ := h.kept
  have hn : Only (fun _ => False) w w' := Only.of_below hb
  refine ⟨⟨u, vs, (hb.block _ hC).trans h1, ownsRow_below h2 hb (Nat.le_refl _), h3.only hs.only hs.same⟩, h.view.below (hb.mono h.hw), ⟨nm, D, m1, ownsMap_onlyH m2 hn (fun e => e), m3⟩, ⟨nk, D', k1, ownsMap_onlyH k2 hn (fun e => e), k3.only hs.only hs.same⟩, h.pt.on (hb.mono h.hw), h.ge, h.ne, Nat.le_trans h.hw hb.size⟩
theorem ClAt.cells {w : World} {f : ClF} {c : Cf.Cl} (h : ClAt w f c) : ∃ u vs, w.cell? ⟨f.C, 0, none⟩ = some (.pointer (some ⟨f.V, 0, none⟩)) ∧ w.cell? ⟨f.C, 1, none⟩ = some (.map (some f.M)) ∧ w.cell? ⟨f.C, 2, none⟩ = some u ∧ w.cell? ⟨f.C, 3, none⟩ = some (.map (some f.K)) ∧ w.cell? ⟨f.C, 4, none⟩ = some (.bool c.over) ∧
    (∀ i, w.frozen? ⟨f.C, i, none⟩ = false) ∧ w.ownsRow f.B0 89 5 u c.wait.length vs ∧ CfsV w (ClS w f) c.wait vs := by
  obtain ⟨u, vs, h1, h2, h3⟩ := h.row
  refine ⟨u, vs, ?_, ?_, ?_, ?_, ?_, fun i => Lib.frozen_of_heap h1 i, h2, h3⟩ <;> (rw [Lib.cell_of_heap h1]; rfl)
/-- the wait list's block is none of the others' -/
theorem ClAt.row_ne {w : World} {f : ClF} {c : Cf.Cl} (h : ClAt w f c) {u : Value} {k : Nat} (hu : w.cell? ⟨f.C, 2, none⟩ = some u) (hk : u.ownBlock = some k) : k ≠ f.C ∧ k ≠ f.M ∧ k ≠ f.K ∧ f.B0 ≤ k ∧ k < w.heap.size := by
  obtain ⟨u', vs, h1, h2, h3⟩ := h.row
  have e : u' = u := by
    have : w.cell? ⟨f.C, 2, none⟩ = some u' := by rw [Lib.cell_of_heap h1]; rfl
    rw [this] at hu
    injection hu
  subst e
  obtain ⟨nm, D, _, ⟨es, cl, m2, _⟩, _⟩ := h.met
  obtain ⟨nk, D', _, ⟨es', cl', k2, _⟩, _⟩ := h.kept
  rcases h2.2 with ⟨e, _⟩ | ⟨g, cap, cur, hv, hg, hh, _⟩
  · subst e; cases hk
  · subst hv
    injection hk with hk
    have hk : g = k := hk
    subst hk
    refine ⟨fun e => ?_, fun e => ?_, fun e => ?_, hg, heap_lt hh⟩
    · rw [e, h1] at hh
      injection hh with hh
      injection hh with _ e2
      exact absurd e2 (by decide)
    · rw [e, m2] at hh; cases hh
    · rw [e, k2] at hh; cases hh
end Go.Proofs.YtnpcjbdolmmaeaaGreatDoor

/-
  A closing in memory that has met one more.
-/
namespace Go.Proofs.YtnpcjbdolmmaeaaGreatDoor
open Go.RowKit Go.Maps
set_option maxRecDepth 100000
theorem ClS.get {w : World} {f : ClF} {k : Nat} {u : Value} (hu : w.cell? ⟨f.C, 2, none⟩ = some u) : ClS w f k ↔ k = f.C ∨ k = f.M ∨ k = f.K ∨ u.ownBlock = some k := by
  unfold ClS
  rw [hu]
  constructor
  · rintro (h | h | h | ⟨v, h, h'⟩)
    · exact .inl h
    · exact .inr (.inl h)
    · exact .inr (.inr (.inl h))
    · injection h with h; subst h; exact .inr (.inr (.inr h'))
  · rintro (h | h | h | h)
    · exact .inl h
    · exact .inr (.inl h)
    · exact .inr (.inr (.inl h))
    · exact .inr (.inr (.inr ⟨u, rfl, h⟩))
theorem ClAt.ge_s {w : World} {f : ClF} {c : Cf.Cl} (h : ClAt w f c) {k : Nat} (hk : ClS w f k) : f.B0 ≤ k := by
  obtain ⟨g1, g2, g3⟩ := h.ge
  obtain ⟨u, vs, _, _, c2, _⟩ := h.cells
  rcases (ClS.get c2).1 hk with e | e | e | e
  · omega
  · omega
  · omega
  · exact (h.row_ne c2 e).2.2.2.1
theorem ClAt.stay {w w' : World} {f : ClF} {c : Cf.Cl} (h : ClAt w f c) (hs : Steps f w w') : Below f.B0 w w' :=
  hs.only.below' (fun _ hk => h.ge_s hk) h.hw
theorem ClAt.push {w w5 w8 : World} {f : ClF} {c : Cf.Cl} {x : Cf.Cfg} {A : Option Addr} {cx : Nat} {u : Value} {vs : List Value} {g cg nm : Nat} {D : DataW Value} (o : Bool)
    (h : ClAt w f c) (hu : w.cell? ⟨f.C, 2, none⟩ = some u) (hv : CfsV w (ClS w f) c.wait vs) (hcx : x.stack.length ≤ cx) (hx : RO w (ClS w f) 1 A x.stack.length (x.stack.map (Value.int .i64)))
    (ho5 : Only (fun k => k = f.M) w w5) (hm5 : w5.ownsMap Tryz.prog 9 asIs f.M nm D) (hnm : nm ≤ c.wait.length + 1) (hD : MetIs D (c.wait ++ [x]))
    (ho8 : Only (fun k => u.ownBlock = some k) w5 w8) (hown : w8.ownsRow f.B0 89 5 (.slice (some ⟨g, 0, none⟩) (c.wait.length + 1) cg) (c.wait.length + 1) (vs ++ cfC x A cx))
    (hg : u.ownBlock = some g ∨ w5.heap.size < g) :
    ClAt ((w8.setCell ⟨f.C, 2, none⟩ (.slice (some ⟨g, 0, none⟩) (c.wait.length + 1) cg)).setCell ⟨f.C, 4, none⟩ (.bool o)) f ⟨c.wait ++ [x], c.kept, o⟩ ∧
    Steps f w ((w8.setCell ⟨f.C, 2, none⟩ (.slice (some ⟨g, 0, none⟩) (c.wait.length + 1) cg)).setCell ⟨f.C, 4, none⟩ (.bool o)) := by
  obtain ⟨n1, n2, n3⟩ := h.ne
  have hC := h.lt
  obtain ⟨u', vs', h1, h2, h3⟩ := h.row
  have eu : u' = u := by
    have : w.cell? ⟨f.C, 2, none⟩ = some u' := by rw [Lib.cell_of_heap h1]; rfl
    rw [this] at hu
    injection hu
  subst eu
  have hne : ∀ k, u'.ownBlock = some k → k ≠ f.C ∧ k ≠ f.M ∧ k ≠ f.K ∧ f.B0 ≤ k ∧ k < w.heap.size := fun k hk => h.row_ne hu hk
  have hC5 := (ho5.block f.C hC (by simpa using n1)).trans h1
  have hC8 := (ho8.block f.C (heap_lt hC5) (fun e => (hne _ e).1 rfl)).trans hC5
  have hg8 : g < w8.heap.size := by
    rcases hown.2 with ⟨e, _⟩ | ⟨g', cap, cur, e, _, hh, _⟩
    · cases e
    · injection e with e _ _
      injection e with e
      injection e with e
      subst e
      exact heap_lt hh
  have hgC : g ≠ f.C := by
    rcases hg with e | e
    · exact (hne _ e).1
    · have := ho5.size; omega
  have q1 := heap_setCell_same w8 f.C 2 _ _ (.slice (some ⟨g, 0, none⟩) (c.wait.length + 1) cg) hC8
  have q2 := heap_setCell_same _ f.C 4 _ _ (.bool o) q1
  have hO := ((ho5.more (S' := ClS w f) (fun b _ e => by rw [show b = f.M from e]; exact .inr (.inl rfl))).trans (ho8.more (S' := fun k => u'.ownBlock = some k) (fun _ _ e => e)) (fun b _ e => .inr (.inr (.inr ⟨u', hu, e⟩)))).trans (Only.of_set w8 f.C 2 (.slice (some ⟨g, 0, none⟩) (c.wait.length + 1) cg)) (fun b _ e => .inl e)
  have hO := hO.trans (Only.of_set (w8.setCell ⟨f.C, 2, none⟩ (.slice (some ⟨g, 0, none⟩) (c.wait.length + 1) cg)) f.C 4 (.bool o)) (fun b _ e => .inl e)
  generalize hw9 : (w8.setCell ⟨f.C, 2, none⟩ (.slice (some ⟨g, 0, none⟩) (c.wait.length + 1) cg)) = w9 at q1 q2 hO ⊢
  generalize hw10 : w9.setCell ⟨f.C, 4, none⟩ (.bool o) = w10 at q2 hO ⊢
  have hu10 : w10.cell? ⟨f.C, 2, none⟩ = some (.slice (some ⟨g, 0, none⟩) (c.wait.length + 1) cg) := by rw [Lib.cell_of_heap q2]; rfl
  have hsame : ∀ b, b < w.heap.size → ClS w10 f b → ClS w f b := fun b hb hk => by
    rcases (ClS.get hu10).1 hk with e | e | e | e
    · exact .inl e
    · exact .inr (.inl e)
    · exact .inr (.inr (.inl e))
    · have e : g = b := by injection e
      subst e
      rcases hg with e | e
      · exact .inr (.inr (.inr ⟨u', hu, e⟩))
      · have := ho5.size; omega
  have hS : Steps f w w10 := ⟨hO, hsame⟩
  have hb := h.stay hS
  have h98 : Only (fun k => k = f.C) w8 w10 := by
    have := (Only.of_set w8 f.C 2 (.slice (some ⟨g, 0, none⟩) (c.wait.length + 1) cg)).trans (Only.of_set _ f.C 4 (.bool o)) (fun b _ e => e)
    rw [hw9, hw10] at this
    exact this
  obtain ⟨nk, D', k1, k2, k3⟩ := h.kept
  have hk5 := ownsMap_onlyH k2 ho5 (fun e => n3 e.symm)
  have hk8 := ownsMap_onlyH hk5 ho8 (fun e => (hne _ e).2.2.1 rfl)
  have hk10 := ownsMap_onlyH hk8 h98 (fun e => n2 e.symm)
  have hm8 := ownsMap_onlyH hm5 ho8 (fun e => (hne _ e).2.1 rfl)
  have hm10 := ownsMap_onlyH hm8 h98 (fun e => n1 e.symm)
  have hown10 := ownsRow_only hown h98 (fun k hk e => by have hk : g = k := by injection hk
                                                         exact hgC (hk.trans e))
  refine ⟨⟨⟨_, _, q2, ?_, (hv.only hO hsame).snoc ⟨A, cx, rfl, hcx, hx.only hO hsame⟩⟩, h.view.below hb, ⟨nm, D, by simpa using hnm, hm10, hD⟩, ⟨nk, D', k1, hk10, k3.only hO hsame⟩, h.pt.on hb, h.ge, h.ne, Nat.le_trans h.hw hO.size⟩, hS⟩
  simpa using hown10
end Go.Proofs.YtnpcjbdolmmaeaaGreatDoor
