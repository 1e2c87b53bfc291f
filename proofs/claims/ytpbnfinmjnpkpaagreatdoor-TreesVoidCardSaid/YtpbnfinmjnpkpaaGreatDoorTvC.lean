/-
  Joined texts: TtRg, TtIt, TtLe, TtTo.
-/
import Derived.Test.YtpbnfinmjnpkpaaGreatDoorGrPlain
import Derived.Test.YtpbnfinmjnpkpaaGreatDoorTvA
import Derived.Test.YtpbnfinmjnpkpaaGreatDoorTvB
/-
  A range over an iterator that hands out what lies in memory of its own making: what is handed out may be read where it is handed out (Rd).
-/
namespace Go.Proofs.YtpbnfinmjnpkpaaGreatDoor
open Go.RowKit
set_option maxRecDepth 100000
/-- the caller's own blocks: some boxes, and the block of the slice that lies in the box ob -/
def Cw (S : Nat → Prop) (ob : Nat) (W : World) (k : Nat) : Prop := S k ∨ ∃ v T, W.heap[ob]? = some (.cells #[v] T (0, 0)) ∧ v.ownBlock = some k
/-- what a round keeps: all below B, and all cells but those of the caller's own blocks, which are the old ones or new ones -/
structure KpW (B : Nat) (S : Nat → Prop) (ob : Nat) (W W' : World) : Prop where
  below : Below B W W'
  cells : ∀ k cs T, W.heap[k]? = some (.cells cs T (0, 0)) → ¬ Cw S ob W k → W'.heap[k]? = some (.cells cs T (0, 0))
  own : ∀ k, Cw S ob W' k → Cw S ob W k ∨ W.heap.size ≤ k
theorem KpW.refl (B : Nat) (S : Nat → Prop) (ob : Nat) (W : World) : KpW B S ob W W := ⟨Below.refl _ _, fun _ _ _ h _ => h, fun _ h => .inl h⟩
theorem KpW.not {B : Nat} {S : Nat → Prop} {ob : Nat} {W W' : World} (h : KpW B S ob W W') {k : Nat} (hk : k < W.heap.size) (hn : ¬ Cw S ob W k) : ¬ Cw S ob W' k := fun e => (h.own k e).elim hn (fun e => by omega)
theorem KpW.trans {B : Nat} {S : Nat → Prop} {ob : Nat} {W1 W2 W3 : World} (h : KpW B S ob W1 W2) (k : KpW B S ob W2 W3) : KpW B S ob W1 W3 :=
  ⟨h.below.trans k.below, fun i cs T e hc => k.cells i cs T (h.cells i cs T e hc) (h.not (heap_lt e) hc), fun i e => (k.own i e).elim (fun e => h.own i e) (fun e => .inr (Nat.le_trans h.below.size e))⟩
theorem Cw.below {S : Nat → Prop} {ob : Nat} {W W' : World} (h : Below W.heap.size W W') (hob : ob < W.heap.size) {k : Nat} (e : Cw S ob W' k) : Cw S ob W k := by
  rcases e with e | ⟨v, T, e, hv⟩
  · exact .inl e
  · rw [h.block _ hob] at e
    exact .inr ⟨v, T, e, hv⟩
theorem KpW.of {B : Nat} {S : Nat → Prop} {ob : Nat} {W W' : World} (h : Below W.heap.size W W') (hB : B ≤ W.heap.size) (hob : ob < W.heap.size) : KpW B S ob W W' :=
  ⟨h.mono hB, fun k _ _ e _ => (h.block k (heap_lt e)).trans e, fun _ e => .inl (Cw.below h hob e)⟩
theorem kpW_b {B : Nat} {S : Nat → Prop} {ob : Nat} (W : World) (l : Nat) (o o' : Obj) (hB : B ≤ l) (hob : ob < l) (h : W.heap[l]? = some o) (ho : o.isCells = false) : KpW B S ob W (W.putObj l o') := by
  refine ⟨(Below.refl B W).grown (grownBy_putObj' W l o') (by have := heap_lt h; omega) (fun k e => by cases e; omega), fun k cs T e _ => ?_, fun k e => .inl ?_⟩
  · refine (World.putObj_heap_other (fun e' => ?_)).trans e
    subst e'
    rw [e] at h
    cases h
    cases ho
  · rcases e with e | ⟨v, T, e, hv⟩
    · exact .inl e
    · rw [World.putObj_heap_other (by omega)] at e
      exact .inr ⟨v, T, e, hv⟩
/-- the iterator's contract: 'Rd x W' is what it promises of x in the world in which it hands it out -/
def SeqRd {α : Type} (n : Nat) (P : Program) (g : Nat) (lb : Array Value) (encs : α → Array Value) (Rd : α → World → Prop) (B : Nat) (S : Nat → Prop) (ob : Nat) (A Ap : List α → Prop) (N : Nat) (w : World) : Prop :=
  ∀ (l : Nat) (J Jx : List α → World → Prop) (W : World), Below w.heap.size w W → AbidesFrom W.heap.size J → AbidesFrom W.heap.size Jx → (∀ pre W1, J pre W1 → ∀ k, Cw S ob W1 k → k < W1.heap.size) →
    (∀ pre x W1, J pre W1 → Rd x W1 → pre.length < N → YieldAt Fence.wide (n - 1) P l (encs x) W1 fun e W' => (e = .returned (.bool true) ∧ J (pre ++ [x]) W' ∧ KpW B S ob W1 W') ∨ (e = .returned (.bool false) ∧ Jx (pre ++ [x]) W' ∧ KpW B S ob W1 W')) →
    J [] W → CallsIn Fence.wide n P g (#[.func (.yield l) #[] #[]] ++ lb) W fun e W' => (∃ v, e = .returned v) ∧ ((∃ xs, A xs ∧ J xs W') ∨ (∃ pre, Ap pre ∧ Jx pre W'))
/-- the loop's own two blocks: its record, and the calls that its rounds defer -/
structure LoopIs (D : Nat) (r : Loop) (W : World) : Prop where
  rc : W.heap[D + 1]? = some (.loop r)
  ds : W.heap[D]? = some (.deferred (some []))
theorem LoopIs.lt {D : Nat} {r : Loop} {W : World} (h : LoopIs D r W) : D + 1 < W.heap.size := heap_lt h.rc
theorem LoopIs.kept {D : Nat} {r : Loop} {W W' : World} (h : LoopIs D r W) (k : KeepsFrom D W W') : LoopIs D r W' := ⟨k.same _ _ (by omega) h.rc rfl, k.same _ _ (Nat.le_refl _) h.ds rfl⟩
theorem LoopIs.turn {D : Nat} {r : Loop} {W : World} (h : LoopIs D r W) (r' : Loop) : LoopIs D r' (W.putObj (D + 1) (.loop r')) := ⟨World.putObj_heap_same h.lt, (World.putObj_heap_other (by omega)).trans h.ds⟩
theorem LoopIs.grown {D : Nat} {r : Loop} {W W' : World} {row : Option Nat} (h : LoopIs D r W) (hg : W.grownBy W' row) (hr : ∀ k, row = some k → ∃ o : Obj, W.heap[k]? = some o ∧ o.isWalk = true) : LoopIs D r W' :=
  ⟨(grownBy_keeps hg hr h.rc rfl).trans h.rc, (grownBy_keeps hg hr h.ds rfl).trans h.ds⟩
/-- how a round may be left -/
def rdPost {α : Type} (D : Nat) (Kp : World → World → Prop) (I Ix : List α → World → Prop) (xs : List α) (W : World) : Exit → Act → World → Prop
  | .normal, _, W' => KeepsFrom D W W' ∧ Kp W W' ∧ I xs W'
  | .ret, _, W' => KeepsFrom D W W' ∧ Kp W W' ∧ Ix xs W'
  | _, _, _ => False
theorem range_rd {α : Type} {n : Nat} {P : Program} {g : Operand} {ps : Array Tmp} {assign body : Code} {Q : Exit → Act → World → Prop} {a : Act} {w : World} (h1 : 1 ≤ n) {gf : Nat} {lb : Array Value} (hg : a.eval g = .func (.func gf) #[] lb)
    (eg : ∀ args w, (callFunc gf args).run P w = .ok (.enter gf args) w) {encs : α → Array Value} {Rd : α → World → Prop} {B : Nat} {S : Nat → Prop} {ob : Nat} {A Ap : List α → Prop} {N : Nat} {w0 : World} (hB : B ≤ w.heap.size) (hob : ob < w.heap.size) (hseq : SeqRd (n - 1) P gf lb encs Rd B S ob A Ap N w0) (hb0 : Below w0.heap.size w0 w)
    (hps : ∀ x, (encs x).size = ps.size) (I Ix : List α → World → Prop) (hI : OwnFrom w.heap.size I) (hIx : OwnFrom w.heap.size Ix) (hIC : ∀ pre W, I pre W → ∀ k, Cw S ob W k → k < W.heap.size) (h0 : I [] w) (Ax : α → Act → World → Prop) (hAx : ∀ x a', OwnFrom w.heap.size (fun (_ : Unit) W => Ax x a' W))
    (hassign : ∀ (l : Nat) (pre : List α) (x : α) (W : World) (K : Act → World → Prop), I pre W → Rd x W → (∀ a' W', KeepsFrom w.heap.size W W' → KpW B S ob W W' → I pre W' → Ax x a' W' → K a' W') →
      assign.wpIn (Fence.wide.inRound l) (n - 1 - 1) P (Exit.then K (fun _ _ _ => False)) { tmps := (ps.zip (encs x)).foldl (fun t (p, v) => t.setIfInBounds p v) a.tmps, defers := [] } W)
    (hbody : ∀ (l : Nat) (pre : List α) (x : α) (a' : Act) (W : World), w.heap.size ≤ l → (∃ r, W.heap[l]? = some (.loop r)) → I pre W → Ax x a' W → pre.length < N → body.wpIn (Fence.wide.inRound l) (n - 1 - 1) P (rdPost w.heap.size (KpW B S ob) I Ix (pre ++ [x]) W) a' W)
    (hdone : ∀ (D : Nat) (xs : List α) (W : World), w.heap.size ≤ D → A xs → I xs W → W.heap[D]? = some (.deferred (some [])) → Q .normal { a with defers := { target := .collected D, args := #[] } :: a.defers } W)
    (hstop : ∀ (D : Nat) (pre : List α) (W : World), w.heap.size ≤ D → Ap pre → Ix pre W → W.heap[D]? = some (.deferred (some [])) → Code.ret.wpIn Fence.wide n P Q { a with defers := { target := .collected D, args := #[] } :: a.defers } W) :
    (Code.rangeFunc g ps assign body).wpIn Fence.wide n P Q a w := by
  refine wpIn_rangeFunc fun fn hfn => ?_
  obtain ⟨D, hD⟩ : ∃ D, w.heap.size = D := ⟨_, rfl⟩
  obtain ⟨mk, hmk⟩ : ∃ mk : LoopState → Option Code → Loop, mk = fun st pe => { state := st, pending := pe, fn, tmps := a.tmps, params := ps, assign, body, defers := D } := ⟨_, rfl⟩
  have hbk : ∀ (W : World) (o o' : Obj), W.heap[D + 1]? = some o → o.isCells = false → KpW B S ob W (W.putObj (D + 1) o') := fun W o o' h ho => kpW_b W (D + 1) o o' (by omega) (by omega) h ho
  obtain ⟨W1, hW1⟩ : ∃ W1, (w.alloc (.deferred (some []))).alloc (.loop (mk .ready none)) = W1 := ⟨_, rfl⟩
  have hz1 : W1.heap.size = D + 2 := by rw [← hW1, ← hD]; simp
  have hL1 : LoopIs D (mk .ready none) W1 := by
    have e1 : (w.alloc (.deferred (some []))).heap.size = D + 1 := by rw [← hD]; simp
    refine ⟨?_, ?_⟩
    · rw [← hW1, ← e1]; exact World.alloc_heap_new _ _
    · rw [← hW1, Below.heap_alloc _ _ _ (by omega), ← hD]; exact World.alloc_heap_new _ _
  have hI1 : I [] W1 := by rw [← hW1]; exact hI.alloc _ (hI.alloc _ h0)
  have hb1 : Below w0.heap.size w0 W1 := by
    rw [← hW1]; exact hb0.trans (((below_new w _).mono hb0.size).trans ((below_new _ _).mono (by have := hb0.size; simp; omega)))
  have hrow : ∀ {A : World} {row : Option Nat}, (∀ r, row = some r → W1.heap.size ≤ r ∧ ∃ o : Obj, A.heap[r]? = some o ∧ o.isWalk = true) → ∀ r, row = some r → w.heap.size ≤ r ∧ ∃ o : Obj, A.heap[r]? = some o ∧ o.isCells = false :=
    fun hr r e => by obtain ⟨h2, o, ho, hw⟩ := hr r e; exact ⟨by omega, o, ho, Obj.not_cells_of_walk hw⟩
  refine ⟨D + 1, [{ target := .collected D, args := #[] }], W1, { target := .fn (.func gf) lb, args := #[.func (.yield (D + 1)) #[] #[]] }, W1, gf, #[.func (.yield (D + 1)) #[] #[]] ++ lb, W1, ?_, ?_, fun _ _ => trivial, ?_, fun _ => h1, ?_⟩
  · rw [← hW1, hmk, ← hD]; exact run_enterLoop_outer _ _ _ _ _
  · simp only [resolve, hg]
    simp [go_sem]
  · simp [invoke, go_sem, eg]
  refine (hseq (D + 1) (fun pre W => I pre W ∧ LoopIs D (mk .ready none) W) (fun pre W => Ix pre W ∧ LoopIs D (mk .done (some .ret)) W) W1 hb1
    (fun s A A' row hs hg' hr => ⟨hI s A A' row hs.1 hg' (hrow hr), hs.2.grown hg' fun k e => (hr k e).2⟩) (fun s A A' row hs hg' hr => ⟨hIx s A A' row hs.1 hg' (hrow hr), hs.2.grown hg' fun k e => (hr k e).2⟩) (fun pre W1 hs => hIC pre W1 hs.1) ?_ ⟨hI1, hL1⟩).mono ?_
  · rintro pre x W ⟨hi, hl⟩ hrd hlen
    have hy := run_yield (P := P) (args := encs x) hl.rc (by rw [hmk]; exact hps x)
    rw [hmk] at hy
    refine ⟨fn, _, assign, body, hy, roundIn_of_wpIn hfn (hassign _ pre x W _ hi hrd fun a' Wa hka hpa hia hax => ?_)⟩
    have hla := hl.kept (hD ▸ hka)
    have hlb := hla.turn { mk .ready none with state := .busy }
    refine ⟨_, run_beginRound hla.rc (by rw [hmk]), wpIn_mono (hbody _ pre x a' _ (by omega) ⟨_, hlb.rc⟩ (hI.putObj _ hia (by omega) hla.rc rfl) ((hAx x a').putObj (s := ()) _ hax (by omega) hla.rc rfl) hlen) ?_⟩
    rintro e a3 W3 hp
    cases e with
    | normal =>
      obtain ⟨hk3, hp3, hi3⟩ := hp
      have hl3 := hlb.kept (hD ▸ hk3)
      have hr := run_endRound (P := P) none hl3.rc
      rw [hmk] at hr hl3
      refine ⟨_, _, hr, .inl ⟨rfl, ⟨hI.putObj _ hi3 (by omega) hl3.rc rfl, ?_⟩, (hpa.trans (hbk _ _ _ hla.rc rfl)).trans (hp3.trans (hbk _ _ _ hl3.rc rfl))⟩⟩
      rw [hmk]
      exact hl3.turn _
    | ret =>
      obtain ⟨hk3, hp3, hi3⟩ := hp
      have hl3 := hlb.kept (hD ▸ hk3)
      have hr := run_endRound (P := P) (some .ret) hl3.rc
      rw [hmk] at hr hl3
      refine ⟨_, _, hr, .inr ⟨rfl, ⟨hIx.putObj _ hi3 (by omega) hl3.rc rfl, ?_⟩, (hpa.trans (hbk _ _ _ hla.rc rfl)).trans (hp3.trans (hbk _ _ _ hl3.rc rfl))⟩⟩
      rw [hmk]
      exact hl3.turn _
    | exit id => exact hp.elim
    | goto t => exact hp.elim
    | panic c => exact hp.elim
    | outgrown => exact hp.elim
  · rintro e W2 ⟨⟨v, rfl⟩, (⟨xs, hS, hi, hl⟩ | ⟨pre, hSp, hi, hl⟩)⟩
    · have hr := run_endLoop (P := P) hl.rc (by rw [hmk]; simp)
      rw [hmk] at hr
      exact ⟨none, _, hr, hdone D xs _ (by omega) hS (hI.putObj _ hi (by omega) hl.rc rfl) ((World.putObj_heap_other (by omega)).trans hl.ds)⟩
    · have hr := run_endLoop (P := P) hl.rc (by rw [hmk]; simp)
      rw [hmk] at hr
      exact ⟨some .ret, _, hr, hstop D pre _ (by omega) hSp (hIx.putObj _ hi (by omega) hl.rc rfl) ((World.putObj_heap_other (by omega)).trans hl.ds)⟩
end Go.Proofs.YtpbnfinmjnpkpaaGreatDoor
/-
  All parts of a tree with their ways, one by one (trees.parts): the iterator's contract.
-/
namespace Go.Proofs.YtpbnfinmjnpkpaaGreatDoor
open Go.RowKit Go.Shelf
set_option maxRecDepth 100000
attribute [local go_sem] Oper.semAt_some
/-- a part that is handed out, and the way to it -/
structure TrAt (w0 : World) (B : Nat) where
  way : List Int
  A : Option Addr
  c : Nat
  t : Rp.Tr
  cs : List Value
  h : TrR w0 B t cs
  ok : Rp.okT t
def TrAt.enc {w : World} {B : Nat} (x : TrAt w B) : Array Value := #[.slice x.A x.way.length x.c, .agg x.cs.toArray]
def projT {w : World} {B : Nat} (ys : List (TrAt w B)) : List (List Int × Rp.Tr) := ys.map fun x => (x.way, x.t)
theorem projT_append {w : World} {B : Nat} (a b : List (TrAt w B)) : projT (a ++ b) = projT a ++ projT b := by simp [projT]
/-- a way as it lies in memory: nowhere, or in a block that is not the caller's -/
def WayR (S : Nat → Prop) (ob : Nat) (way : List Int) (A : Option Addr) (c : Nat) (W : World) : Prop :=
  way.length ≤ c ∧ ((way = [] ∧ A = none) ∨ ∃ (g : Nat) (cells : Array Value), A = some ⟨g, 0, none⟩ ∧ ¬ Cw S ob W g ∧ W.heap[g]? = some (.cells cells 3 (0, 0)) ∧ ∀ (j : Nat) (u : Value), (way.map (Value.int .i64))[j]? = some u → cells[j]? = some u)
section
variable {S : Nat → Prop} {ob : Nat}
theorem WayR.kpW {B c : Nat} {way : List Int} {A : Option Addr} {W W' : World} (h : WayR S ob way A c W) (k : KpW B S ob W W') : WayR S ob way A c W' := by
  obtain ⟨hc, h | ⟨g, cells, hA, hg, hh, hu⟩⟩ := h
  · exact ⟨hc, .inl h⟩
  · exact ⟨hc, .inr ⟨g, cells, hA, k.not (heap_lt hh) hg, k.cells _ _ _ hh hg, hu⟩⟩
theorem WayR.below {c : Nat} {way : List Int} {A : Option Addr} {W W' : World} (h : WayR S ob way A c W) (k : Below W.heap.size W W') (hob : ob < W.heap.size) : WayR S ob way A c W' := h.kpW (KpW.of k (Nat.le_refl _) hob)
theorem WayR.reads {c : Nat} {way : List Int} {A : Option Addr} {W : World} (h : WayR S ob way A c W) : Reads W W.heap.size 1 A way.length (way.map (Value.int .i64)) := by
  obtain ⟨_, ⟨rfl, rfl⟩ | ⟨g, cells, rfl, _, hh, hu⟩⟩ := h
  · exact ⟨rfl, fun e => absurd e (Nat.lt_irrefl _)⟩
  · refine ⟨by simp, fun _ => ⟨g, 0, rfl, heap_lt hh, fun j u hj => ?_⟩⟩
    rw [Nat.zero_add, Lib.cell_of_heap hh]
    exact hu j u hj
theorem WayR.full {c : Nat} {way : List Int} {A : Option Addr} {W : World} (h : WayR S ob way A c W) : FullS W 0 1 (.slice A way.length way.length) way.length (way.map (Value.int .i64)) := by
  obtain ⟨_, ⟨rfl, rfl⟩ | ⟨g, cells, rfl, hg, hh, hu⟩⟩ := h
  · exact .inl ⟨rfl, rfl, rfl⟩
  · exact .inr ⟨g, rfl, by simp, Nat.zero_le _, heap_lt hh, fun j u hj => by rw [Lib.cell_of_heap hh]; exact hu j u hj⟩
theorem WayR.of_own {g n c : Nat} {way : List Int} {W : World} (h : W.ownsRow 0 3 1 (.slice (some ⟨g, 0, none⟩) n c) n (way.map (Value.int .i64))) (hn : n = way.length) (hg : ¬ Cw S ob W g) : WayR S ob way (some ⟨g, 0, none⟩) c W := by
  obtain ⟨h1, ⟨hv, _⟩ | ⟨g', c', cur, hv, hb, hh, hcap, _, _, htk⟩⟩ := h
  · cases hv
  · injection hv with e1 e2 e3
    injection e1 with e1
    injection e1 with e1
    subst e1 e3 hn
    refine ⟨hcap, .inr ⟨g, cur, rfl, hg, hh, fun j u hj => ?_⟩⟩
    have hj2 : j < (way.map (Value.int .i64)).length := by
      rcases Nat.lt_or_ge j (way.map (Value.int .i64)).length with h | h
      · exact h
      · rw [List.getElem?_eq_none h] at hj; cases hj
    rw [← htk] at hj
    rw [← Array.getElem?_toList]
    rw [List.getElem?_take] at hj
    split at hj
    · exact hj
    · cases hj
end
section
variable (w0 : World) (B : Nat) (S : Nat → Prop) (ob l b1 N : Nat) (J Jx : List (TrAt w0 B) → World → Prop)
def RdT (x : TrAt w0 B) (W : World) : Prop := WayR S ob x.way x.A x.c W ∧ x.way.length + Rp.szT x.t ≤ 1000000000
/-- what a walk over some parts comes to -/
def WkOutT (pre : List (TrAt w0 B)) (L : List (List Int × Rp.Tr)) (W : World) (e : Ending) (W' : World) : Prop :=
  (e = .returned (.bool true) ∧ ∃ ys, projT ys = L ∧ J (pre ++ ys) W' ∧ KpW B S ob W W') ∨ (e = .returned (.bool false) ∧ ∃ ys, projT ys <+: L ∧ Jx (pre ++ ys) W' ∧ KpW B S ob W W')
theorem WkOutT.form {w0 : World} {B : Nat} {S : Nat → Prop} {ob : Nat} {J Jx : List (TrAt w0 B) → World → Prop} {pre : List (TrAt w0 B)} {L : List (List Int × Rp.Tr)} {W : World} {e : Ending} {W' : World} (h : WkOutT w0 B S ob J Jx pre L W e W') :
    ∃ q : Bool, e = .returned (.bool q) ∧ KpW B S ob W W' ∧ ((q = true ∧ ∃ ys, projT ys = L ∧ J (pre ++ ys) W' ∧ KpW B S ob W W') ∨ (q = false ∧ ∃ ys, projT ys <+: L ∧ Jx (pre ++ ys) W' ∧ KpW B S ob W W')) := by
  rcases h with ⟨h1, ys, h2, h3, h4⟩ | ⟨h1, ys, h2, h3, h4⟩
  · exact ⟨true, h1, h4, .inl ⟨rfl, ys, h2, h3, h4⟩⟩
  · exact ⟨false, h1, h4, .inr ⟨rfl, ys, h2, h3, h4⟩⟩
theorem cells5 {w : World} {b : Nat} {T : TypeId} {v0 v1 v2 v3 v4 : Value} (h : w.heap[b]? = some (.cells #[v0, v1, v2, v3, v4] T (0, 0))) : w.cell? ⟨b, 0, none⟩ = some v0 ∧ w.cell? ⟨b, 1, none⟩ = some v1 ∧ w.cell? ⟨b, 2, none⟩ = some v2 ∧ w.cell? ⟨b, 3, none⟩ = some v3 ∧ w.cell? ⟨b, 4, none⟩ = some v4 := by
  rw [Lib.cell_of_heap h, Lib.cell_of_heap h, Lib.cell_of_heap h, Lib.cell_of_heap h, Lib.cell_of_heap h]
  exact ⟨rfl, rfl, rfl, rfl, rfl⟩
def PartsW (t : Rp.Tr) : Prop := ∀ (way : List Int) (A : Option Addr) (c : Nat) (cs : List Value) (pre : List (TrAt w0 B)) (W : World), TrR w0 B t cs → Below B w0 W → b1 ≤ W.heap.size → WayR S ob way A c W → way.length + Rp.szT t ≤ 1000000000 → J pre W → pre.length + (Tt.partsT way t).length ≤ N →
  Calls Tryz.prog 84 #[.slice A way.length c, .agg cs.toArray, .func (.yield l) #[] #[]] W (WkOutT w0 B S ob J Jx pre (Tt.partsT way t) W)
end
theorem partsL_pre (way : List Int) (l : List Rp.Tr) (i : Nat) : Tt.partsL way 0 (l.take i) <+: Tt.partsL way 0 l := by
  have h := Tt.partsL_append way (l.take i) (l.drop i) 0
  rw [List.take_append_drop] at h
  exact ⟨_, h.symm⟩
theorem infoZt : (Tryz.prog.info? 3).map (fun i => (i.zero, i.size, i.bytes)) = some (some (.int .i64 0), 1, 8) := by kernel_rfl
theorem TrR.form {w : World} {B : Nat} {t : Rp.Tr} {cs : List Value} (h : TrR w B t cs) : ∃ (r tk k : Int) (e : Bool) (A : Option Addr) (n c : Nat), cs = [.int .i64 r, .int .i64 tk, .int .i64 k, .bool e, .slice A n c] := by
  cases t with
  | node r tk k e l =>
    unfold TrR at h
    obtain ⟨A, c, xs, rfl, _⟩ := h
    exact ⟨_, _, _, _, _, _, _, rfl⟩
section
variable {w0 : World} {B : Nat} {S : Nat → Prop} {ob l b1 N : Nat} {J Jx : List (TrAt w0 B) → World → Prop}
set_option maxHeartbeats 8000000 in
theorem partsW_any (hob : ob < b1) (hB1 : B ≤ b1) (hJC : ∀ pre W, J pre W → ∀ k, Cw S ob W k → k < W.heap.size) (hJg : ∀ s W W', J s W → W.grownBy W' none → J s W')
    (hYd : ∀ pre x W, J pre W → RdT w0 B S ob x W → pre.length < N → YieldAt Fence.wide 0 Tryz.prog l (TrAt.enc x) W fun e W' => (e = .returned (.bool true) ∧ J (pre ++ [x]) W' ∧ KpW B S ob W W') ∨ (e = .returned (.bool false) ∧ Jx (pre ++ [x]) W' ∧ KpW B S ob W W'))
    (r tk k : Int) (er : Bool) (L : List Rp.Tr) (hL : ∀ i (hi : i < L.length), PartsW w0 B S ob l b1 N J Jx L[i]) (hok : Rp.okT (.node r tk k er L)) : PartsW w0 B S ob l b1 N J Jx (.node r tk k er L) := by
  intro way A c cs pre W hn hb hbW hway hsz hJ hN
  have hn' := hn
  unfold TrR at hn'
  obtain ⟨SA, sc, xs, rfl, hr, hv⟩ := hn'
  have hLL : L.length ≤ 4398046511104 := by unfold Rp.okT at hok; exact hok.2.2.2.1
  obtain ⟨W1, hW1⟩ : ∃ W1, Hid (W.alloc (.cells #[.int .i64 r, .int .i64 tk, .int .i64 k, .bool er, .slice SA L.length sc] 24) = W1) := ⟨_, hid rfl⟩
  have hb1 : Below W.heap.size W W1 := by rw [← hW1.out]; exact below_new _ _
  have hX : W1.heap[W.heap.size]? = some (.cells #[.int .i64 r, .int .i64 tk, .int .i64 k, .bool er, .slice SA L.length sc] 24 (0, 0)) := by rw [← hW1.out]; exact heap_alloc_new _ _
  have hpl : (Tt.partsT way (.node r tk k er L)).length = 1 + (Tt.partsL way 0 L).length := by rw [Tt.partsT_eq, List.length_cons, Nat.add_comm]
  obtain ⟨x, hxe, hxp, hxr⟩ : ∃ x : TrAt w0 B, TrAt.enc x = #[.slice A way.length c, .agg #[.int .i64 r, .int .i64 tk, .int .i64 k, .bool er, .slice SA L.length sc]] ∧ projT [x] = [(way, .node r tk k er L)] ∧ RdT w0 B S ob x W1 :=
    ⟨⟨way, A, c, .node r tk k er L, _, hn, hok⟩, rfl, rfl, hway.below hb1 (by omega), hsz⟩
  obtain ⟨fn, tmps, assign, body, hy, hR⟩ := YieldAt.anyD rfl 2 (hYd pre x W1 (hJg _ _ _ hJ (grown_of hb1)) hxr (by omega))
  have k0 : W1.cell? ⟨W.heap.size, 0, none⟩ = some (.int .i64 r) := by rw [Lib.cell_of_heap hX]; rfl
  have k1 : W1.cell? ⟨W.heap.size, 1, none⟩ = some (.int .i64 tk) := by rw [Lib.cell_of_heap hX]; rfl
  have k2 : W1.cell? ⟨W.heap.size, 2, none⟩ = some (.int .i64 k) := by rw [Lib.cell_of_heap hX]; rfl
  have k3 : W1.cell? ⟨W.heap.size, 3, none⟩ = some (.bool er) := by rw [Lib.cell_of_heap hX]; rfl
  have k4 : W1.cell? ⟨W.heap.size, 4, none⟩ = some (.slice SA L.length sc) := by rw [Lib.cell_of_heap hX]; rfl
  obtain ⟨m, hm⟩ : ∃ m, way.length = m := ⟨_, rfl⟩
  obtain ⟨n, hnn⟩ : ∃ n, L.length = n := ⟨_, rfl⟩
  rw [hxe] at hy
  rw [hm] at hy ⊢
  rw [hnn] at hy k4 hLL hX hW1 ⊢
  have HM := hid hm
  have HNN := hid hnn
  have HX := hid hX
  have HR2 := hid hr
  have HV := hid hv
  have HB1 := hid hb1
  have HB := hid hb
  have HLH := hid hL
  have HN := hid hN
  have HPL := hid hpl
  have HJG := hid hJg
  have HOBW := hid (show ob < W.heap.size by omega)
  have HOB := hid hob
  have HJC := hid hJC
  have hnx : ¬ Cw S ob W1 W.heap.size := fun e => by
    have := hJC _ _ hJ _ (Cw.below (by rw [← hW1.out]; exact below_new _ _) HOBW.out e)
    omega
  have HNX := hid hnx
  have HBW := hid hbW
  have HBB := hid hB1
  have HWAY := hid (hway.below hb1 HOBW.out)
  have HSZ := hid hsz
  have HXP := hid hxp
  rw [← hW1.out] at hy k0 k1 k2 k3 k4 hR
  clear hX hr hv hb1 hb hL hN hpl hJg hbW hB1 hway hsz hYd hn hxe hxp hxr hJ hm hnn hok hob hJC hnx
  refine (callsIn_wide (n := 3)).1 ?_
  refine callsIn_of_wp Tryz.func84 rfl trivial ?_ rfl
  simp only [Tryz.ntmps84, List.size_toArray, List.length_cons, List.length_nil, Nat.reduceAdd, Nat.reduceSub, Array.replicate_succ, Array.replicate_zero, List.push_toArray, List.append_toArray, List.nil_append, List.cons_append]
  gi_wp2
  refine hR.mono ?_
  clear hR hy k0 k1 k2 k3 k4
  rw [hW1.out]
  clear hW1
  rintro e W2 (⟨rfl, hJ2, hk⟩ | ⟨rfl, hx, hk⟩)
  · have hX2 := hk.cells _ _ _ HX.out HNX.out
    have k4 : W2.cell? ⟨W.heap.size, 4, none⟩ = some (.slice SA n sc) := by rw [Lib.cell_of_heap hX2]; rfl
    have HJ2 := hid hJ2
    have HK2 := hid hk
    clear hX2 hJ2 hk
    gi_wp2_with fail
    refine wpIn_wide.2 ?_
    go_loopw [7, 8, 17] (fun _ _ iv wr => ∃ (i : Nat) (ys : List (TrAt w0 B)), i ≤ n ∧ iv = .int .i64 (i : Int) ∧ Hid (projT ys = Tt.partsL way 0 (L.take i) ∧ J ((pre ++ [x]) ++ ys) wr ∧ KpW B S ob W2 wr)) (fun _ _ iv _ => n - (intOf iv).toNat)
    case atStart => exact ⟨0, [], Nat.zero_le _, rfl, hid ⟨by simp [projT, Tt.partsL_nil], by simpa using HJ2.out, KpW.refl _ _ _ _⟩⟩
    case round =>
      obtain ⟨i, ys, hi, rfl, HI⟩ := hrel
      have hwi : IntKind.i64.wrap ((i : Int) + 1) = (i : Int) + 1 := w64 (by omega) (by omega)
      by_cases hlt : i < n
      · have hil : i < L.length := by have := HNN.out; omega
        have hltI : (i : Int) < (n : Int) := by omega
        have hkr : KpW B S ob W1 wr := HK2.out.trans HI.out.2.2
        have hbr : Below B w0 wr := (HB.out.trans (HB1.out.mono (Nat.le_trans HBB.out HBW.out))).trans hkr.below
        have HRL : Reads w0 B 5 SA L.length xs := HR2.out
        obtain ⟨b, o, u0, u1, u2, u3, u4, hUA, hbB, hnd, c0, c1, c2, c3, c4⟩ := readsTr HRL HV.out i hil
        obtain ⟨xr, xk, xd, xe, xA, xn, xc, hv⟩ := hnd.form
        cases hv
        have e0 := (hbr.cell (p := ⟨b, o + i * 5, none⟩) hbB).trans c0
        have e1 := (hbr.cell (p := ⟨b, o + i * 5 + 1, none⟩) hbB).trans c1
        have e2 := (hbr.cell (p := ⟨b, o + i * 5 + 2, none⟩) hbB).trans c2
        have e3 := (hbr.cell (p := ⟨b, o + i * 5 + 3, none⟩) hbB).trans c3
        have e4 := (hbr.cell (p := ⟨b, o + i * 5 + 4, none⟩) hbB).trans c4
        have HND := hid hnd
        have HKR := hid hkr
        have HBR := hid hbr
        subst hUA
        clear hnd hkr hbr HRL c0 c1 c2 c3 c4
        go_upto_region 6 with fail
        have h8 := heap_alloc_new wr (.cells #[.int .i64 xr, .int .i64 xk, .int .i64 xd, .bool xe, .slice xA xn xc] 24)
        have hb8 := below_new wr (.cells #[.int .i64 xr, .int .i64 xk, .int .i64 xd, .bool xe, .slice xA xn xc] 24)
        generalize wr.alloc (.cells #[.int .i64 xr, .int .i64 xk, .int .i64 xd, .bool xe, .slice xA xn xc] 24) = W8 at h8 hb8 ⊢
        have HOBR := hid (show ob < wr.heap.size by have := HOBW.out; have := HB1.out.size; have := HKR.out.below.size; omega)
        have hw8 : WayR S ob way A c W8 := ((HWAY.out.kpW HK2.out).kpW HI.out.2.2).below hb8 HOBR.out
        have hmc : m ≤ c := by have := hw8.1; have := HM.out; omega
        have hmcI : (m : Int) ≤ (c : Int) := by omega
        have hm0I : (0 : Int) ≤ (m : Int) := by omega
        have hbw8 : b1 ≤ W8.heap.size := Nat.le_trans (Nat.le_trans (Nat.le_trans HBW.out HB1.out.size) HKR.out.below.size) hb8.size
        have hsi : m + 1 + Rp.szT L[i] ≤ 1000000000 := by
          have h1 := HSZ.out
          have h2 := HM.out
          have h3 := Rp.szL_at L i hil
          have h4 := Rp.szL_take_le L (i + 1)
          rw [Rp.szT] at h1
          omega
        have hmx : m + 1 ≤ maxLen := by simp only [maxLen]; omega
        have hmy : (m + 1) * 8 ≤ 140737488355328 := by omega
        have HST := hid (fun (u : World) (hb : Below W8.heap.size W8 u) => (show u.cell? ⟨wr.heap.size, 0, none⟩ = some (.int .i64 xr) ∧ u.cell? ⟨wr.heap.size, 1, none⟩ = some (.int .i64 xk) ∧ u.cell? ⟨wr.heap.size, 2, none⟩ = some (.int .i64 xd) ∧ u.cell? ⟨wr.heap.size, 3, none⟩ = some (.bool xe) ∧ u.cell? ⟨wr.heap.size, 4, none⟩ = some (.slice xA xn xc) from by
          have hh := (hb.block _ (heap_lt h8)).trans h8
          rw [Lib.cell_of_heap hh, Lib.cell_of_heap hh, Lib.cell_of_heap hh, Lib.cell_of_heap hh, Lib.cell_of_heap hh]
          exact ⟨rfl, rfl, rfl, rfl, rfl⟩))
        have HFU := hid (fun (u : World) (hb : Below W8.heap.size W8 u) => (show FullS u 0 1 (.slice A m m) m (way.map (Value.int .i64)) from by
          have h := (hw8.below hb (Nat.lt_of_lt_of_le HOBR.out hb8.size)).full
          rw [HM.out] at h
          exact h))
        have HCALL := hid (fun (u v : World) (gg cg : Nat) (hb : Below W8.heap.size W8 u) (hv : v.heap.size = u.heap.size) (hgg : W8.heap.size ≤ gg) (hown : u.ownsRow 0 3 1 (.slice (some ⟨gg, 0, none⟩) (m + 1) cg) (m + 1) (way.map (Value.int .i64) ++ [.int .i64 (i : Int)])) =>
          (show Calls Tryz.prog 84 #[.slice (some ⟨gg, 0, none⟩) (m + 1) cg, .agg #[.int .i64 xr, .int .i64 xk, .int .i64 xd, .bool xe, .slice xA xn xc], .func (.yield l) #[] #[]] u (WkOutT w0 B S ob J Jx ((pre ++ [x]) ++ ys) (Tt.partsT (way ++ [(i : Int)]) L[i]) u) from by
            have hbu : Below wr.heap.size wr u := hb8.trans (hb.mono hb8.size)
            have hlen : (way ++ [(i : Int)]).length = m + 1 := by rw [List.length_append, HM.out]; rfl
            have hq := HLH.out i hil (way ++ [(i : Int)]) (some ⟨gg, 0, none⟩) cg _ ((pre ++ [x]) ++ ys) u HND.out (HBR.out.trans (hbu.mono (Nat.le_trans HBB.out (Nat.le_trans (Nat.le_trans HBW.out HB1.out.size) HKR.out.below.size)))) (Nat.le_trans hbw8 hb.size) (WayR.of_own (by rw [List.map_append]; exact hown) hlen.symm (fun e => by have h1 := HJC.out _ _ HI.out.2.1 _ (Cw.below hbu HOBR.out e); have := hb8.size; omega)) (by rw [hlen]; exact hsi) (HJG.out _ _ _ HI.out.2.1 (grown_of hbu)) (by
              have h1 : ys.length = (Tt.partsL way 0 (L.take i)).length := by rw [← HI.out.1]; simp [projT]
              have h2 := (partsL_pre way L (i + 1)).length_le
              rw [Tt.partsL_take way L i hil, List.length_append] at h2
              have := HN.out
              have := HPL.out
              rw [List.length_append, List.length_append, List.length_singleton]
              omega)
            rw [hlen] at hq
            exact hq))
        obtain ⟨z0, hz0, hz1, hz2, hz3⟩ := info_of infoZt
        have s0 := (HST.out W8 (Below.refl _ _)).1
        have s1 := (HST.out W8 (Below.refl _ _)).2.1
        have s2 := (HST.out W8 (Below.refl _ _)).2.2.1
        have s3 := (HST.out W8 (Below.refl _ _)).2.2.2.1
        have s4 := (HST.out W8 (Below.refl _ _)).2.2.2.2
        have HBR3 := hid (Nat.le_trans HBB.out (Nat.le_trans (Nat.le_trans HBW.out HB1.out.size) HKR.out.below.size))
        have H8 := hid h8
        have HB8 := hid hb8
        have HBW8 := hid hbw8
        clear h8 hb8 hw8 hbw8 hsi e0 e1 e2 e3 e4
        go_region_held3 (fun w' => w'.cell? ⟨wr.heap.size, 0, none⟩ = some (.int .i64 xr) ∧ w'.cell? ⟨wr.heap.size, 1, none⟩ = some (.int .i64 xk) ∧ w'.cell? ⟨wr.heap.size, 2, none⟩ = some (.int .i64 xd) ∧ w'.cell? ⟨wr.heap.size, 3, none⟩ = some (.bool xe) ∧ w'.cell? ⟨wr.heap.size, 4, none⟩ = some (.slice xA xn xc)) (first | assumption | exact ⟨s0, s1, s2, s3, s4⟩ | exact HST.out _ (Below.refl _ _).drew | exact HST.out _ (below_new _ _).drew | exact HST.out _ (below_new _ _) | exact HST.out _ HW10.out | exact HST.out _ HW10.out.drew | exact HSS3.out)
          (first
          | (refine step_pushF _ (by rfl) _ _ 25 (by rfl) 0 3 z0 _ 1 8 Tryz.underlying25 hz0 hz1 hz2 hz3 rfl (by omega) (.slice A m m) m (way.map (Value.int .i64)) (by rfl) (by first | exact HFU.out _ (below_new _ _).drew | exact HFU.out _ (below_new _ _)) [.int .i64 (i : Int)] 1 W8.heap.size (by rfl) rfl (fun j u hj => by rcases j with _ | j; (injection hj with hj; subst hj; rw [addr_off]; exact cell_new W8 #[.int .i64 (i : Int)] 3 0); cases hj) (by simp [Value.oneCell']) Nat.zero_lt_one hmx hmy (Nat.zero_le _) ?_; intro gg cg w10 own10 hgg hb10; have HGG : Hid (W8.heap.size ≤ gg) := (by first | exact hid (Nat.le_trans (below_new W8 _).drew.size hgg) | exact hid (Nat.le_trans (below_new W8 _).size hgg)); have HW10 : Hid (Below W8.heap.size W8 w10) := (by first | exact hid ((below_new W8 _).drew.trans (hb10.mono (below_new W8 _).drew.size)) | exact hid ((below_new W8 _).trans (hb10.mono (below_new W8 _).size))); have HO10 := hid own10; clear own10 hgg hb10; dsimp only)
          | (go_simp; go_at_call 84; refine (HCALL.out _ w10 gg cg (by first | exact HW10.out | exact HW10.out.drew) rfl HGG.out HO10.out).mono ?_; rintro e W3 hout; obtain ⟨q, rfl, hk3, hout⟩ := WkOutT.form hout; have HOUT0 := hid hout; have HS3 := hid (hk3.cells _ _ _ ((HW10.out.block _ (heap_lt H8.out)).trans H8.out) (fun e => by have h1 := HJC.out _ _ HI.out.2.1 _ (Cw.below (HB8.out.trans (HW10.out.mono HB8.out.size)) HOBR.out e); omega)); have HSS3 := hid (cells5 HS3.out); clear hout hk3; dsimp only))
        obtain ⟨hq, zs, hp, hout⟩ | ⟨hq, zs, hp, hout⟩ := HOUT0.out
        · have HP3 := hid hp
          have HOUT := hid hout
          clear hp hout HOUT0
          subst hq
          have HF := hid (show projT (ys ++ zs) = Tt.partsL way 0 (L.take (i + 1)) ∧ J ((pre ++ [x]) ++ (ys ++ zs)) W3 ∧ KpW B S ob W2 W3 from ⟨by rw [projT_append, HI.out.1, HP3.out, Tt.partsL_take way L i hil], by rw [← List.append_assoc]; exact HOUT.out.1, HI.out.2.2.trans ((KpW.of (S := S) (ob := ob) (HB8.out.trans (HW10.out.mono HB8.out.size)) HBR3.out HOBR.out).trans HOUT.out.2)⟩)
          clear HP3 HOUT
          go_wp2_with fail
          go_roundw
          case rel => exact ⟨i + 1, ys ++ zs, hlt, by go_num, HF⟩
          case measure => simp only [intOf]; omega
        · have HP3 := hid hp
          have HOUT := hid hout
          clear hp hout HOUT0
          subst hq
          have HF := hid (show projT ([x] ++ (ys ++ zs)) <+: Tt.partsT way (.node r tk k er L) ∧ Jx (pre ++ ([x] ++ (ys ++ zs))) W3 ∧ KpW B S ob W W3 from ⟨by
            rw [projT_append, HXP.out, Tt.partsT_eq]
            refine List.prefix_append_right_inj [(way, Rp.Tr.node r tk k er L)] |>.2 ?_
            refine List.IsPrefix.trans ?_ (partsL_pre way L (i + 1))
            rw [projT_append, HI.out.1, Tt.partsL_take way L i hil]
            obtain ⟨q, hq⟩ := HP3.out
            exact ⟨q, by rw [List.append_assoc, hq]⟩, by rw [← List.append_assoc, ← List.append_assoc]; exact HOUT.out.1, (((KpW.of (S := S) (ob := ob) HB1.out (Nat.le_trans HBB.out HBW.out) HOBW.out).trans HK2.out).trans HI.out.2.2).trans ((KpW.of (S := S) (ob := ob) (HB8.out.trans (HW10.out.mono HB8.out.size)) HBR3.out HOBR.out).trans HOUT.out.2)⟩)
          clear HP3 HOUT
          go_wp2_with fail
          go_ret
          exact .inr ⟨rfl, [x] ++ (ys ++ zs), HF.out⟩
      · have hie : i = n := by omega
        subst hie
        have HF := hid (show projT ([x] ++ ys) = Tt.partsT way (.node r tk k er L) ∧ J (pre ++ ([x] ++ ys)) wr ∧ KpW B S ob W wr from ⟨by rw [projT_append, HXP.out, HI.out.1, ← HNN.out, List.take_length, Tt.partsT_eq]; rfl, by rw [← List.append_assoc]; exact HI.out.2.1, ((KpW.of (S := S) (ob := ob) HB1.out (Nat.le_trans HBB.out HBW.out) HOBW.out).trans HK2.out).trans HI.out.2.2⟩)
        clear hlt
        go_wp2_with fail
        gi_wp2_with fail
        go_ret
        exact .inl ⟨rfl, [x] ++ ys, HF.out⟩
  · have HF := hid (And.intro hx ((KpW.of (S := S) (ob := ob) HB1.out (Nat.le_trans HBB.out HBW.out) HOBW.out).trans hk))
    clear hx hk
    gi_wp2
    go_ret
    exact .inr ⟨rfl, [x], by rw [HXP.out, Tt.partsT_eq]; exact ⟨_, rfl⟩, HF.out⟩
mutual
theorem partsW_all (hob : ob < b1) (hB1 : B ≤ b1) (hJC : ∀ pre W, J pre W → ∀ k, Cw S ob W k → k < W.heap.size) (hJg : ∀ s W W', J s W → W.grownBy W' none → J s W')
    (hYd : ∀ pre x W, J pre W → RdT w0 B S ob x W → pre.length < N → YieldAt Fence.wide 0 Tryz.prog l (TrAt.enc x) W fun e W' => (e = .returned (.bool true) ∧ J (pre ++ [x]) W' ∧ KpW B S ob W W') ∨ (e = .returned (.bool false) ∧ Jx (pre ++ [x]) W' ∧ KpW B S ob W W')) :
    ∀ t : Rp.Tr, Rp.okT t → PartsW w0 B S ob l b1 N J Jx t
  | .node r tk k er L, h => by
    have hok := h
    unfold Rp.okT at h
    exact partsW_any hob hB1 hJC hJg hYd r tk k er L (partsW_subs hob hB1 hJC hJg hYd L h.2.2.2.2) hok
theorem partsW_subs (hob : ob < b1) (hB1 : B ≤ b1) (hJC : ∀ pre W, J pre W → ∀ k, Cw S ob W k → k < W.heap.size) (hJg : ∀ s W W', J s W → W.grownBy W' none → J s W')
    (hYd : ∀ pre x W, J pre W → RdT w0 B S ob x W → pre.length < N → YieldAt Fence.wide 0 Tryz.prog l (TrAt.enc x) W fun e W' => (e = .returned (.bool true) ∧ J (pre ++ [x]) W' ∧ KpW B S ob W W') ∨ (e = .returned (.bool false) ∧ Jx (pre ++ [x]) W' ∧ KpW B S ob W W')) :
    ∀ L : List Rp.Tr, Rp.okL L → ∀ i (hi : i < L.length), PartsW w0 B S ob l b1 N J Jx L[i]
  | [], _, i, hi => absurd hi (Nat.not_lt_zero _)
  | x :: L, h, i, hi => by
    unfold Rp.okL at h
    cases i with
    | zero => exact partsW_all hob hB1 hJC hJg hYd x h.1
    | succ i => exact partsW_subs hob hB1 hJC hJg hYd L h.2 i (by simpa using hi)
end
end
/-- the iterator's value -/
theorem trees_parts (cs : List Value) (u0 u1 u2 u3 u4 : Value) (hcs : cs = [u0, u1, u2, u3, u4]) (w : World) : Calls Tryz.prog 45 #[.agg cs.toArray] w fun e w' => e = .returned (.func (.func 83) #[] #[.pointer (some ⟨w.heap.size, 0, none⟩)]) ∧ w' = w.alloc (.cells cs.toArray 24) := by
  subst hcs
  go_enter Tryz.func45, Tryz.ntmps45
  go_wp2
  go_ret
  exact ⟨rfl, rfl⟩
set_option maxHeartbeats 4000000 in
theorem parts_stops {w0 : World} {B : Nat} (S : Nat → Prop) (ob : Nat) (t : Rp.Tr) (cs : List Value) (w : World) (bx : Nat) (hn : TrR w0 B t cs) (hok : Rp.okT t) (hsz : Rp.szT t ≤ 1000000000) (hb : Below B w0 w) (hB : B ≤ w.heap.size) (hx : w.heap[bx]? = some (.cells cs.toArray 24 (0, 0))) (hob : ob < w.heap.size) :
    SeqRd 4 Tryz.prog 83 #[.pointer (some ⟨bx, 0, none⟩)] (TrAt.enc (w := w0) (B := B)) (RdT w0 B S ob) B S ob (fun ys => projT ys = Tt.partsT [] t) (fun pre => projT pre <+: Tt.partsT [] t) (Tt.partsT [] t).length w := by
  intro l J Jx W hW hJ _ hJC hY h0
  obtain ⟨r, tk, k, e, A, n, c, hcs⟩ := hn.form
  subst hcs
  have hxl := heap_lt hx
  have hx3 := (hW.block bx hxl).trans hx
  have hwa := partsW_all (w0 := w0) (B := B) (S := S) (ob := ob) (l := l) (b1 := w.heap.size) (N := (Tt.partsT [] t).length) (J := J) (Jx := Jx) hob hB hJC
    (fun s A D hs hg => hJ s A D none hs hg (fun r e => by cases e)) (fun pre x A hj hr hl => YieldAt.anyD rfl 0 (hY pre x A hj hr hl)) t hok [] none 0 [.int .i64 r, .int .i64 tk, .int .i64 k, .bool e, .slice A n c] [] W hn (hb.trans (hW.mono hB)) hW.size ⟨Nat.le_refl _, .inl ⟨rfl, rfl⟩⟩ (by simpa using hsz) h0 (by simp)
  have HWA := hid hwa
  have k0 : W.cell? ⟨bx, 0, none⟩ = some (.int .i64 r) := by rw [Lib.cell_of_heap hx3]; rfl
  have k1 : W.cell? ⟨bx, 1, none⟩ = some (.int .i64 tk) := by rw [Lib.cell_of_heap hx3]; rfl
  have k2 : W.cell? ⟨bx, 2, none⟩ = some (.int .i64 k) := by rw [Lib.cell_of_heap hx3]; rfl
  have k3 : W.cell? ⟨bx, 3, none⟩ = some (.bool e) := by rw [Lib.cell_of_heap hx3]; rfl
  have k4 : W.cell? ⟨bx, 4, none⟩ = some (.slice A n c) := by rw [Lib.cell_of_heap hx3]; rfl
  clear hW hJ hJC hY h0 hwa hx3 hn hok hb hx hob hxl hsz
  refine callsIn_wide.2 ?_
  show Calls Tryz.prog 83 #[.func (.yield l) #[] #[], .pointer (some ⟨bx, 0, none⟩)] W _
  go_enter Tryz.func83, Tryz.ntmps83
  go_wp2_with fail
  refine HWA.out.mono ?_
  rintro e W4 (⟨rfl, ys, hp, hJ4, _⟩ | ⟨rfl, ys, hp, hx4, _⟩)
  · have HF := hid (And.intro hp hJ4)
    clear hp hJ4 k0 k1 k2 k3 k4
    go_wp2_with fail
    go_end0
    exact ⟨⟨_, rfl⟩, .inl ⟨ys, HF.out.1, by simpa using HF.out.2⟩⟩
  · have HF := hid (And.intro hp hx4)
    clear hp hx4 k0 k1 k2 k3 k4
    go_wp2_with fail
    go_end0
    exact ⟨⟨_, rfl⟩, .inr ⟨ys, HF.out.1, by simpa using HF.out.2⟩⟩
end Go.Proofs.YtpbnfinmjnpkpaaGreatDoor
/-
  Leaves of a tree (trees.Leaves): the walk.
-/
namespace Go.Proofs.YtpbnfinmjnpkpaaGreatDoor
open Go.RowKit Go.Shelf
set_option maxRecDepth 100000
attribute [local go_sem] Oper.semAt_some
/-- numbers in new memory -/
def NumsP (l : List Int) (w : World) (e : Ending) (W' : World) : Prop := ∃ A, e = .returned (.slice A l.length l.length) ∧ RO W' (fun b => b < w.heap.size) 1 A l.length (l.map (Value.int .i64)) ∧ Below w.heap.size w W'
theorem clipZ_any (A : Option Addr) (n c : Nat) (w : World) (hc : n ≤ c) : Calls Tryz.prog 48 #[.slice A n c] w fun e w' => e = .returned (.slice A n n) ∧ w = w' := by
  go_enter Tryz.func48, Tryz.ntmps48
  go_wp2
  go_ret
  exact ⟨rfl, rfl⟩
theorem RO.of_own0 {w : World} {base : Nat} {T : TypeId} {size n : Nat} {A : Option Addr} {c : Nat} {xs : List Value} {S : Nat → Prop} (h : w.ownsRow base T size (.slice A n c) n xs) (hS : ∀ b, S b → b < base) : RO w S size A n xs := by
  have h2 := RO.of_reads (S := fun _ => False) (Reads.of_own h) (Nat.le_refl _) (fun _ e => e.elim)
  refine ⟨h2.1, fun hn => ?_⟩
  obtain ⟨b, off, e, hb, _, hc⟩ := h2.2 hn
  subst e
  exact ⟨b, off, rfl, hb, fun hs => by have := (ownC_lt (OwnC.of h) b rfl).1; have := hS b hs; omega, hc⟩
theorem own_cap {w : World} {base n s c : Nat} {T : TypeId} {A : Option Addr} {xs : List Value} (h : w.ownsRow base T s (.slice A n c) n xs) : n ≤ c := by
  obtain ⟨A', c', hv, _, h9⟩ := Reads.own h
  injection hv with _ _ hv
  omega
/-- 'append' in a round: where the longer row lies -/
theorem wpListIn_append_at {F : Fence} {n : Nat} {P : Program} (w : World) {ops : Array Oper} {rest : List Oper} {o : Oper} {a : Act} {Q : Exit → Act → World → Prop}
    (hg : o.guard = none) (s x : Operand) (t : TypeId) (hop : o.op = Op.call { callee := Callee.builtin Builtin.append, args := #[s, x], argTypes := #[t, t] })
    (base : Nat) (e : TypeId) (i : TypeInfo) (z : Value) (size bytes : Nat) (h1 : P.underlying t = some (.slice e)) (h2 : P.info? e = some i) (h3 : i.zero = some z) (h4 : i.size = size) (h5 : i.bytes = bytes) (h6 : z.cells.size = size) (h7 : 0 < size)
    (v : Value) (k : Nat) (xs : List Value) (hs : a.eval s = v) (hown : w.ownsRow base e size v k xs) (ad : Addr) (m c : Nat) (news : List Value) (hx : a.eval x = .slice (some ad) m c) (hn : news.length = m * size)
    (hc : ∀ j u, news[j]? = some u → w.cell? (ad.add j) = some u) (h1c : ∀ u ∈ news, u.oneCell' = true) (b1 : k + m ≤ maxLen) (b2 : (k + m) * bytes ≤ 140737488355328) (b3 : base ≤ w.heap.size)
    (hK : ∀ v' w', w'.ownsRow base e size v' (k + m) (xs ++ news) → w.grownBy w' v.ownBlock → (v'.ownBlock = v.ownBlock ∨ v'.ownBlock = some w.heap.size) → wpListIn F n P ops Q rest (a.put o.dst v') w') :
    wpListIn F n P ops Q (o :: rest) a w := by
  refine wpListIn_plain hg fun K hK' => ?_
  obtain ⟨v', w', hrun, r1, r2, _, r4⟩ := run_append_own_at (P := P) w base t o.type e i z size bytes h1 h2 h3 h4 h5 h6 h7 v k xs hown ad m c news hn hc h1c b1 b2 b3
  unfold Oper.wpIn
  refine ⟨?_, ?_⟩
  · simp [Oper.about, hop, resolve, Target.leads, Sem.run_pure]
  · rw [Oper.semAt_plain F _ _ (by rw [hop]; intro c hc'; cases hc')]
    simp [execOp, hop, resolve, invoke, builtin, hs, hx, hrun, Result.andThen]
    exact hK' _ _ (hK v' w' r1 r2 r4)
theorem cw_lt {S : Nat → Prop} {ob n0 k n size : Nat} {t e : TypeId} {v : Value} {W : World} {xs : List Value} (hv : Boxed W ob t v) (hrow : W.ownsRow n0 e size v n xs) (hS : ∀ j, S j → j < W.heap.size) (h : Cw S ob W k) : k < W.heap.size := by
  rcases h with h | ⟨v', T, h, hb⟩
  · exact hS k h
  · rw [show W.heap[ob]? = _ from hv] at h
    injection h with h
    injection h with h
    have h : #[v] = #[v'] := h
    injection h with h
    injection h with h
    subst h
    exact (hrow.lt k hb).2
theorem kpW_appended {B n0 ob size k m : Nat} {S : Nat → Prop} {t e : TypeId} {v v' : Value} {xs ys : List Value} {W w1 : World} {tmp : Obj} (hv : Boxed W ob t v) (hte : t ≠ e) (hrow : W.ownsRow n0 e size v k xs) (hB : B ≤ n0) (hn0 : n0 ≤ W.heap.size) (hob : n0 ≤ ob) (hS : S ob)
    (hown : w1.ownsRow n0 e size v' m ys) (hgrow : (W.alloc tmp).grownBy w1 v.ownBlock) (hblk : v'.ownBlock = v.ownBlock ∨ v'.ownBlock = some (W.alloc tmp).heap.size) : KpW B S ob W (w1.setCell ⟨ob, 0, none⟩ v') := by
  obtain ⟨hv1, hv2, hr2, hk2, hb2⟩ := hv.appended hte hrow hn0 hob hown hgrow
  refine ⟨hb2.mono hB, fun j cs T e' hc => ?_, fun j e' => ?_⟩
  · have hj : j ≠ ob := fun e2 => hc (.inl (e2 ▸ hS))
    have hjl := heap_lt e'
    refine ((grownBy_setCell' w1 ob v').block j ?_ (fun e2 => hj (by injection e2))).trans ((hgrow.block j (by simp; omega) (fun e2 => hc (.inr ⟨v, t, hv, e2.symm⟩))).trans ((Below.heap_alloc _ _ _ hjl).trans e'))
    have := hgrow.size
    have h9 : (W.alloc tmp).heap.size = W.heap.size + 1 := by simp
    omega
  · rcases e' with e' | ⟨v2, T, h, hb⟩
    · exact .inl (.inl e')
    · rw [show (w1.setCell ⟨ob, 0, none⟩ v').heap[ob]? = _ from hv2] at h
      injection h with h
      injection h with h
      have h : #[v'] = #[v2] := h
      injection h with h
      injection h with h
      subst h
      rcases hblk with h | h
      · exact .inl (.inr ⟨v, t, hv, h ▸ hb⟩)
      · rw [h] at hb
        injection hb with hb
        have h9 : (W.alloc tmp).heap.size = W.heap.size + 1 := by simp
        exact .inr (by omega)
theorem TrAt.open {w0 : World} {B : Nat} (x : TrAt w0 B) : ∃ (r tk k : Int) (e : Bool) (L : List Rp.Tr) (A : Option Addr) (c : Nat), x.t = .node r tk k e L ∧ x.cs = [.int .i64 r, .int .i64 tk, .int .i64 k, .bool e, .slice A L.length c] := by
  obtain ⟨way, A, c, xt, xcs, xh, xok⟩ := x
  obtain ⟨r, tk, k, e, L⟩ := xt
  unfold TrR at xh
  obtain ⟨A', c', xs, h, _⟩ := xh
  exact ⟨r, tk, k, e, L, A', c', rfl, h⟩
theorem projT_one {w0 : World} {B : Nat} (x : TrAt w0 B) : projT [x] = [(x.way, x.t)] := rfl
/-- the leaves among some parts -/
def lvs (l : List (List Int × Rp.Tr)) : List Int := (l.filter fun x => Tt.leafB x.2).map fun x => Tt.tokT x.2
theorem lvs_hit (l : List (List Int × Rp.Tr)) {x : List Int × Rp.Tr} (h : Tt.leafB x.2 = true) : lvs (l ++ [x]) = lvs l ++ [Tt.tokT x.2] := by simp [lvs, h]
theorem lvs_miss (l : List (List Int × Rp.Tr)) {x : List Int × Rp.Tr} (h : Tt.leafB x.2 = false) : lvs (l ++ [x]) = lvs l := by simp [lvs, h]
section
variable {w0 : World} {B : Nat}
set_option maxHeartbeats 16000000 in
theorem leaves_any (t : Rp.Tr) (cs : List Value) (w : World) (hn : TrR w0 B t cs) (hok : Rp.okT t) (hsz : Rp.szT t ≤ 1000000000) (hb : Below B w0 w) (hB : B ≤ w.heap.size) :
    Calls Tryz.prog 12 #[.agg cs.toArray] w (NumsP (Tt.leavesT t) w) := by
  obtain ⟨zi, hz, hz0, hz1, hz2⟩ := info_of infoZ
  obtain ⟨u0, u1, u2, u3, u4, rfl⟩ : ∃ u0 u1 u2 u3 u4, cs = [u0, u1, u2, u3, u4] := by
    have := hn.len
    match cs, this with
    | [u0, u1, u2, u3, u4], _ => exact ⟨_, _, _, _, _, rfl⟩
  refine (callsIn_wide (n := 5)).1 ?_
  refine callsIn_of_wp_marks Tryz.func12 rfl trivial ?_ rfl
  simp only [Tryz.ntmps12, List.size_toArray, List.length_cons, List.length_nil, Nat.reduceAdd, Nat.reduceSub, Array.replicate_succ, Array.replicate_zero, List.push_toArray, List.append_toArray, List.nil_append, List.cons_append]
  gi_wp2_with fail
  refine ⟨trivial, (callsIn_wide.2 (trees_parts _ u0 u1 u2 u3 u4 rfl _)).mono ?_⟩
  rintro _ w' ⟨rfl, rfl⟩
  gi_wp2_with fail
  have bO := (Boxed.new (w.alloc (.cells #[u0, u1, u2, u3, u4] 24)) 25 (.slice none 0 0)).alloc (.cells #[u0, u1, u2, u3, u4] 24)
  have bX := heap_alloc_new ((w.alloc (.cells #[u0, u1, u2, u3, u4] 24)).alloc (.cells #[.slice none 0 0] 25)) (.cells #[u0, u1, u2, u3, u4] 24)
  simp only [World.size_alloc] at bO bX
  have hB0 : Below w.heap.size w (((w.alloc (.cells #[u0, u1, u2, u3, u4] 24)).alloc (.cells #[.slice none 0 0] 25)).alloc (.cells #[u0, u1, u2, u3, u4] 24)) :=
    (((Below.refl _ w).alloc (Nat.le_refl _) _).alloc (by simp) _).alloc (by simp; omega) _
  have hsz0 : (((w.alloc (.cells #[u0, u1, u2, u3, u4] 24)).alloc (.cells #[.slice none 0 0] 25)).alloc (.cells #[u0, u1, u2, u3, u4] 24)).heap.size = w.heap.size + 3 := by simp
  obtain ⟨W0, hW0⟩ : ∃ W0, ((w.alloc (.cells #[u0, u1, u2, u3, u4] 24)).alloc (.cells #[.slice none 0 0] 25)).alloc (.cells #[u0, u1, u2, u3, u4] 24) = W0 := ⟨_, rfl⟩
  rw [hW0] at bO bX hB0 hsz0 ⊢
  clear hW0
  refine range_rd (by omega) (gf := 83) (lb := #[.pointer (some ⟨w.heap.size + 1 + 1, 0, none⟩)]) rfl (enters_of Tryz.func83 (by kernel_rfl) rfl) (B := B) (S := fun k => k = w.heap.size + 1) (ob := w.heap.size + 1) (by omega) (by omega)
    (parts_stops (w0 := w0) (B := B) (fun k => k = w.heap.size + 1) (w.heap.size + 1) t _ W0 (w.heap.size + 1 + 1) hn hok hsz (hb.trans (hB0.mono hB)) (by omega) bX (by omega)) (Below.refl _ _) (fun _ => rfl)
    (fun pre W => (∃ v, Boxed W (w.heap.size + 1) 25 v ∧ W.ownsRow w.heap.size 3 1 v (lvs (projT pre)).length ((lvs (projT pre)).map (Value.int .i64)) ∧ True) ∧ Below w.heap.size w W)
    (fun _ _ => False)
    (OwnFrom.and (Own.from (holdsRow_own w.heap.size (w.heap.size + 1) 25 3 1 (fun pre => (lvs (projT pre)).length) (fun pre => (lvs (projT pre)).map (Value.int .i64)) (fun _ _ => True)) _) (ownFrom_below (Nat.le_refl _) (by omega)))
    (fun _ _ _ _ h _ _ => h)
    (fun pre W h k hk => by obtain ⟨⟨v, h1, h2, _⟩, _⟩ := h; exact cw_lt h1 h2 (fun j e => by subst e; exact h1.lt) hk)
    ⟨⟨_, bO, World.ownsRow_nil _ _ _ _, trivial⟩, hB0⟩
    (fun x a' W => ∃ Bx, w.heap.size + 1 < Bx ∧ W.heap[Bx]? = some (.cells x.cs.toArray 24 (0, 0)) ∧ a' = { tmps := #[.agg #[u0, u1, u2, u3, u4], .pointer (some ⟨w.heap.size, 0, none⟩), .pointer (some ⟨w.heap.size + 1, 0, none⟩), undef, .pointer (some ⟨Bx, 0, none⟩), .agg #[u0, u1, u2, u3, u4], .func (.func 83) #[] #[.pointer (some ⟨w.heap.size + 1 + 1, 0, none⟩)], .slice x.A x.way.length x.c, .agg x.cs.toArray, undef, undef, undef, undef, undef, undef, undef, undef, undef], defers := [] })
    (fun x a' _ X Y row hs hg hr => by obtain ⟨Bx, e1, e2, e3⟩ := hs; exact ⟨Bx, e1, cells_own Bx (fun (_ : Unit) => x.cs.toArray) _ () X Y row e2 hg (fun r e => (hr r e).2), e3⟩)
    ?assign ?body ?done ?stop
  case assign =>
    rintro l pre ⟨way, A, c, xt, xcs, xh, xok⟩ W K ⟨⟨v, hv, hrow, _⟩, hB1⟩ hrd hK
    obtain ⟨xr, xk, xd, xe, xA, xn, xc, rfl⟩ := xh.form
    have HK := hid hK
    clear hK
    simp only [TrAt.enc]
    gi_wp2_with fail
    have hob : w.heap.size + 1 < W.heap.size := hv.lt
    exact HK.out _ _ ((KeepsOthers.alloc _ _).from _) (KpW.of (below_new W _) (Nat.le_trans hB hB1.size) hob) ⟨⟨v, hv.alloc _, hrow.alloc _, trivial⟩, hB1.alloc hB1.size _⟩ ⟨W.heap.size, by omega, heap_alloc_new W _, rfl⟩
  case body =>
    rintro l pre x a' W hl ⟨r, hr⟩ ⟨⟨v, hv, hrow, _⟩, hB1⟩ ⟨Bx, hBx, bX1, rfl⟩ hlt
    have hleaf := CallsIn.inRound l (callsIn_wide (n := 2) |>.2 (leafT_any x.t x.cs W x.h))
    obtain ⟨xr, xk, xd, xe, xL, xA, xc, hxt, hxc⟩ := x.open
    obtain ⟨xn, hxn⟩ : ∃ n, xL.length = n := ⟨_, rfl⟩
    obtain ⟨q, hq⟩ : ∃ q, Tt.leafB x.t = q := ⟨_, rfl⟩
    rw [hq] at hleaf
    rw [hxc, hxn] at hleaf bX1
    simp only [hxc, hxn]
    have HXT := hid hxt
    have k0 : W.cell? ⟨Bx, 0, none⟩ = some (.int .i64 xr) := by rw [Lib.cell_of_heap bX1]; rfl
    have k1 : W.cell? ⟨Bx, 1, none⟩ = some (.int .i64 xk) := by rw [Lib.cell_of_heap bX1]; rfl
    have k2 : W.cell? ⟨Bx, 2, none⟩ = some (.int .i64 xd) := by rw [Lib.cell_of_heap bX1]; rfl
    have k3 : W.cell? ⟨Bx, 3, none⟩ = some (.bool xe) := by rw [Lib.cell_of_heap bX1]; rfl
    have k4 : W.cell? ⟨Bx, 4, none⟩ = some (.slice xA xn xc) := by rw [Lib.cell_of_heap bX1]; rfl
    have HLE := hid hleaf
    have HQ := hid hq
    have HI := hid (And.intro hv (And.intro hrow (And.intro hB1 (And.intro bX1 (And.intro hlt hr)))))
    clear hleaf hq hxn hxc hxt hv hrow hB1 bX1 hlt hr
    gi_wp2_with fail
    refine ⟨trivial, HLE.out.mono ?_⟩
    rintro _ W2 ⟨rfl, hb2⟩
    obtain ⟨hv, hrow, hB1, bX1, hlt, hr⟩ := HI.out
    have hg := grown_of hb2
    have hv2 : Boxed W2 (w.heap.size + 1) 25 v := hv.kept hg (by simp)
    have hrow2 := ownsRow_below hrow hb2 (Nat.le_refl _)
    have bX2 := (hb2.block _ (heap_lt bX1)).trans bX1
    have hB2 := hB1.trans (hb2.mono hB1.size)
    have hk12 : KpW B (fun k => k = w.heap.size + 1) (w.heap.size + 1) W W2 := KpW.of hb2 (Nat.le_trans hB hB1.size) hv.lt
    have HI2 := hid (And.intro hv2 (And.intro hrow2 (And.intro hB2 (And.intro hk12 (And.intro hlt hg)))))
    have cO := hv2.cell
    have fO := hv2.frozen
    have l1 : W2.cell? ⟨Bx, 1, none⟩ = some (.int .i64 xk) := by rw [Lib.cell_of_heap bX2]; rfl
    clear hv hrow hB1 hlt hr hg hv2 hrow2 bX1 bX2 hB2 hk12 hb2 k0 k1 k2 k3 k4
    have hpl : (lvs (projT pre)).length ≤ pre.length := by
      unfold lvs projT
      rw [List.length_map]
      exact Nat.le_trans (List.length_filter_le _ _) (by simp)
    have hN : (Tt.partsT [] t).length ≤ 1000000000 := by rw [Tt.partsT_len]; exact hsz
    cases q
    · clear cO fO l1 HLE HI
      gi_wp2_with fail
      obtain ⟨hv2, hrow2, hB2, hk12, hlt, hg⟩ := HI2.out
      refine ⟨KeepsFrom.of_grownBy hg (fun j e => by cases e), hk12, ⟨v, hv2, ?_, trivial⟩, hB2⟩
      rw [projT_append, projT_one, lvs_miss _ (by exact HQ.out)]
      exact hrow2
    · obtain ⟨A8, c8, rfl⟩ := row_form HI2.out.2.1
      obtain ⟨m, hm⟩ : ∃ m, (lvs (projT pre)).length = m := ⟨_, rfl⟩
      have HM := hid hm
      have hm9 : m < 1000000000 := by have := HI2.out.2.2.2.2.1; omega
      rw [hm] at cO
      have hrw : W2.ownsRow w.heap.size 3 1 (.slice A8 m c8) m ((lvs (projT pre)).map (Value.int .i64)) := by rw [← hm]; exact HI2.out.2.1
      have hbx : Boxed W2 (w.heap.size + 1) 25 (.slice A8 m c8) := by rw [← hm]; exact HI2.out.1
      have HRW := hid hrw
      have HBX := hid hbx
      clear hm hrw hbx hpl hN HLE HI
      gi_wp2_with (gi_at_builtin; go_must (refine wpListIn_append_at _ rfl _ _ 25 rfl w.heap.size 3 zi (.int .i64 0) 1 8 Tryz.underlying25 hz hz0 hz1 hz2 rfl (by decide) _ _ _ rfl (HRW.out.alloc _) ⟨W2.heap.size, 0, none⟩ 1 1 [.int .i64 xk] rfl rfl (cell_one_new _ _ _) (by simp [Value.oneCell']) (by simp only [maxLen]; omega) (by omega) (by have := HI2.out.2.2.1.size; simp; omega) ?_); intro v' w1 hown' hgrow hblk; obtain ⟨g', cap', rfl⟩ := ownsRow_succ hown'; have happ := HBX.out.appended (by decide) HRW.out HI2.out.2.2.1.size (by omega) hown' hgrow; have HAP := hid happ; have HKP := hid (kpW_appended (B := B) (S := fun k => k = w.heap.size + 1) HBX.out (by decide) HRW.out hB HI2.out.2.2.1.size (by omega) rfl hown' hgrow hblk); have hc1 := HAP.out.1.cell; have hf1 := HAP.out.1.frozen; clear happ hown' hgrow hblk)
      obtain ⟨hv2, hrow2, hB2, hk12, hlt, hg⟩ := HI2.out
      refine ⟨(KeepsFrom.of_grownBy hg (fun j e => by cases e)).trans (HAP.out.2.2.2.1.from _), hk12.trans HKP.out, ⟨_, HAP.out.2.1, ?_, trivial⟩, hB2.trans HAP.out.2.2.2.2⟩
      rw [projT_append, projT_one, lvs_hit _ (by exact HQ.out), List.length_append, List.map_append, HM.out, HXT.out]
      exact HAP.out.2.2.1
  case done =>
    rintro D ys W hD hys ⟨⟨v, hv, hrow, _⟩, hB1⟩ hK
    have hl : lvs (projT ys) = Tt.leavesT t := by rw [hys]; rfl
    rw [hl] at hrow
    obtain ⟨A8, c8, rfl⟩ := row_form hrow
    obtain ⟨m, hm⟩ : ∃ m, (Tt.leavesT t).length = m := ⟨_, rfl⟩
    have hmc : m ≤ c8 := by rw [← hm]; exact own_cap hrow
    have cO := hv.cell
    have fO := hv.frozen
    rw [hm] at cO
    have HI := hid (And.intro hv (And.intro hrow (And.intro hB1 (And.intro hm hK))))
    clear hv hrow hB1 hm hK hys hl
    gi_wp2_with fail
    refine ⟨trivial, (callsIn_wide.2 (clipZ_any A8 m c8 W hmc)).mono ?_⟩
    rintro _ _ ⟨rfl, rfl⟩
    gi_wp2_with fail
    obtain ⟨hv, hrow, hB1, hm, hK⟩ := HI.out
    have hK' := (KeepsOthers.setCell W ⟨w.heap.size + 1, 0, none⟩ (.slice A8 m m)).same D _ hK rfl
    refine ⟨by simp, .inl ⟨_, _, rfl, run_takeDeferred hK', ?_⟩⟩
    have hc5 := cell_kept (hv.set (.slice A8 m m)).cell (grownBy_putObj' _ D (.deferred none)) (fun r e => by cases e; exact ⟨_, hK', rfl⟩)
    have hbl : Below w.heap.size W ((W.setCell ⟨w.heap.size + 1, 0, none⟩ (.slice A8 m m)).putObj D (.deferred none)) := ((Below.refl _ W).setCell (p := ⟨w.heap.size + 1, 0, none⟩) (by simp) _).trans (belowK_b (w := w) (Nat.le_refl _) _ D _ _ (by omega) hK' rfl rfl)
    refine ⟨.slice A8 m m, ?_, A8, by rw [hm], ?_, hB1.trans hbl⟩
    · simp [results, Tryz.f12, go_sem, hc5]
    · have hne := hv.not_row (by decide) hrow
      have h1 : ((W.setCell ⟨w.heap.size + 1, 0, none⟩ (.slice A8 m m)).putObj D (.deferred none)).ownsRow w.heap.size 3 1 (.slice A8 (Tt.leavesT t).length c8) (Tt.leavesT t).length ((Tt.leavesT t).map (Value.int .i64)) :=
        ownsRow_putObj (hrow.kept (grownBy_setCell' W (w.heap.size + 1) _) (.inr hne.symm)) _ hK' rfl
      exact RO.of_own0 h1 fun b e => e
  case stop =>
    rintro D pre W hD hpre h hK
    exact h.elim
end
end Go.Proofs.YtpbnfinmjnpkpaaGreatDoor
/-
  The way to a token (trees.To): the walk.
-/
namespace Go.Proofs.YtpbnfinmjnpkpaaGreatDoor
open Go.RowKit Go.Shelf
set_option maxRecDepth 100000
attribute [local go_sem] Oper.semAt_some
theorem reads_own {n : Nat} {A : Option Addr} {xs : List Value} (b : Nat) : OwnFrom b (fun (_ : Unit) W => Reads W W.heap.size 1 A n xs) := fun _ X Y row h hg hr =>
  ⟨h.1, fun hn => by
    obtain ⟨b, off, hA, hb, hc⟩ := h.2 hn
    exact ⟨b, off, hA, Nat.lt_of_lt_of_le hb hg.size, fun j u hu => cell_kept (hc j u hu) hg (fun r e => (hr r e).2)⟩⟩
theorem reads_next {n s : Nat} {A : Option Addr} {xs : List Value} {W W' : World} (h : Reads W W.heap.size s A n xs) (hb : Below W.heap.size W W') : Reads W' W'.heap.size s A n xs := (h.below hb).more hb.size
/-- what writes the caller's boxes alone -/
theorem kpW_only {B ob : Nat} {S : Nat → Prop} {W W' : World} (h : Only S W W') (hS : ∀ k, S k → B ≤ k) (hB : B ≤ W.heap.size) (hob : ∀ v T, W'.heap[ob]? = some (.cells #[v] T (0, 0)) → v.ownBlock = none) : KpW B S ob W W' := by
  refine ⟨h.below' hS hB, fun k cs T e hc => (h.block k (heap_lt e) (fun hs => hc (.inl hs))).trans e, fun k e => .inl ?_⟩
  rcases e with e | ⟨v, T, e, hv⟩
  · exact .inl e
  · rw [hob v T e] at hv
    cases hv
theorem cw_lt0 {S : Nat → Prop} {ob k : Nat} {t : TypeId} {v : Value} {W : World} (hv : Boxed W ob t v) (hn : v.ownBlock = none) (hS : ∀ j, S j → j < W.heap.size) (h : Cw S ob W k) : k < W.heap.size := by
  rcases h with h | ⟨v', T, h, hb⟩
  · exact hS k h
  · rw [show W.heap[ob]? = _ from hv] at h
    injection h with h
    injection h with h
    have h : #[v] = #[v'] := h
    injection h with h
    injection h with h
    subst h
    rw [hn] at hb
    cases hb
/-- a box holds a slice that was cut to its length -/
theorem holdsCut_own {β : Type} (n₀ B : Nat) (t e : TypeId) (size : Nat) (k : β → Nat) (f : β → List Value) : Own (fun s W => ∃ A c, Boxed W B t (.slice A (k s) (k s)) ∧ W.ownsRow n₀ e size (.slice A (k s) c) (k s) (f s)) := by
  rintro s X Y row ⟨A, c, hv, hr⟩ hg hrow
  refine ⟨A, c, hv.kept hg (fun e' => ?_), hr.kept hg ?_⟩
  · obtain ⟨o, ho, hc⟩ := hrow B e'.symm
    rw [show X.heap[B]? = _ from hv] at ho; cases ho; cases hc
  · rcases hr.2 with ⟨h0, _⟩ | ⟨g, cap, cur, h0, _, hgb, _⟩
    · exact .inl (by rw [h0]; rfl)
    · refine .inr fun e' => ?_
      obtain ⟨o, ho, hc⟩ := hrow g (by rw [← e', h0]; rfl)
      rw [hgb] at ho; cases ho; cases hc
theorem own_lower {w : World} {b b' n s : Nat} {T : TypeId} {v : Value} {xs : List Value} (h : w.ownsRow b T s v n xs) (hb : b' ≤ b) : w.ownsRow b' T s v n xs := by
  obtain ⟨h1, h2 | ⟨g, c, cur, hv, hbg, h3⟩⟩ := h
  · exact ⟨h1, .inl h2⟩
  · exact ⟨h1, .inr ⟨g, c, cur, hv, Nat.le_trans hb hbg, h3⟩⟩
/-- what is looked for -/
def hitT (place : Int) (x : List Int × Rp.Tr) : Bool := Tt.leafB x.2 && Tt.tokT x.2 == place
def wayOf (place : Int) (l : List (List Int × Rp.Tr)) : List Int := ((l.find? (hitT place)).map (·.1)).getD []
def ToP (t : Rp.Tr) (place : Int) (w : World) (e : Ending) (W' : World) : Prop := (∃ A ok, e = .returned (.tuple #[.slice A ((Tt.toT t place).getD []).length ((Tt.toT t place).getD []).length, .bool ok]) ∧ ok = (Tt.toT t place).isSome ∧ RO W' (fun b => b < w.heap.size) 1 A ((Tt.toT t place).getD []).length (((Tt.toT t place).getD []).map (Value.int .i64))) ∧ Below w.heap.size w W'
theorem find_prefix {α : Type} {p : α → Bool} {a b : List α} (h : a <+: b) (hs : (a.find? p).isSome) : b.find? p = a.find? p := by
  obtain ⟨c, rfl⟩ := h
  rw [List.find?_append]
  cases hf : a.find? p with
  | none => rw [hf] at hs; cases hs
  | some x => rfl
section
variable {w0 : World} {B : Nat}
set_option maxHeartbeats 16000000 in
theorem to_any (t : Rp.Tr) (cs : List Value) (place : Int) (w : World) (hn : TrR w0 B t cs) (hok : Rp.okT t) (hsz : Rp.szT t ≤ 1000000000) (hb : Below B w0 w) (hB : B ≤ w.heap.size) :
    Calls Tryz.prog 13 #[.agg cs.toArray, .int .i64 place] w (ToP t place w) := by
  obtain ⟨u0, u1, u2, u3, u4, rfl⟩ : ∃ u0 u1 u2 u3 u4, cs = [u0, u1, u2, u3, u4] := by
    have := hn.len
    match cs, this with
    | [u0, u1, u2, u3, u4], _ => exact ⟨_, _, _, _, _, rfl⟩
  refine (callsIn_wide (n := 5)).1 ?_
  refine callsIn_of_wp_marks Tryz.func13 rfl trivial ?_ rfl
  simp only [Tryz.ntmps13, List.size_toArray, List.length_cons, List.length_nil, Nat.reduceAdd, Nat.reduceSub, Array.replicate_succ, Array.replicate_zero, List.push_toArray, List.append_toArray, List.nil_append, List.cons_append]
  gi_wp2_with fail
  refine ⟨trivial, (callsIn_wide.2 (trees_parts _ u0 u1 u2 u3 u4 rfl _)).mono ?_⟩
  rintro _ w' ⟨rfl, rfl⟩
  gi_wp2_with fail
  have bP := (((Boxed.new (w.alloc (.cells #[u0, u1, u2, u3, u4] 24)) 3 (.int .i64 place)).alloc (.cells #[.slice none 0 0] 25)).alloc (.cells #[.bool false] 4)).alloc (.cells #[u0, u1, u2, u3, u4] 24)
  have bO := ((Boxed.new ((w.alloc (.cells #[u0, u1, u2, u3, u4] 24)).alloc (.cells #[.int .i64 place] 3)) 25 (.slice none 0 0)).alloc (.cells #[.bool false] 4)).alloc (.cells #[u0, u1, u2, u3, u4] 24)
  have bK := (Boxed.new (((w.alloc (.cells #[u0, u1, u2, u3, u4] 24)).alloc (.cells #[.int .i64 place] 3)).alloc (.cells #[.slice none 0 0] 25)) 4 (.bool false)).alloc (.cells #[u0, u1, u2, u3, u4] 24)
  have bX := heap_alloc_new ((((w.alloc (.cells #[u0, u1, u2, u3, u4] 24)).alloc (.cells #[.int .i64 place] 3)).alloc (.cells #[.slice none 0 0] 25)).alloc (.cells #[.bool false] 4)) (.cells #[u0, u1, u2, u3, u4] 24)
  simp only [World.size_alloc] at bP bO bK bX
  have hB0 : Below w.heap.size w (((((w.alloc (.cells #[u0, u1, u2, u3, u4] 24)).alloc (.cells #[.int .i64 place] 3)).alloc (.cells #[.slice none 0 0] 25)).alloc (.cells #[.bool false] 4)).alloc (.cells #[u0, u1, u2, u3, u4] 24)) :=
    (((((Below.refl _ w).alloc (Nat.le_refl _) _).alloc (by simp) _).alloc (by simp; omega) _).alloc (by simp; omega) _).alloc (by simp; omega) _
  have hsz0 : (((((w.alloc (.cells #[u0, u1, u2, u3, u4] 24)).alloc (.cells #[.int .i64 place] 3)).alloc (.cells #[.slice none 0 0] 25)).alloc (.cells #[.bool false] 4)).alloc (.cells #[u0, u1, u2, u3, u4] 24)).heap.size = w.heap.size + 5 := by simp
  obtain ⟨W0, hW0⟩ : ∃ W0, ((((w.alloc (.cells #[u0, u1, u2, u3, u4] 24)).alloc (.cells #[.int .i64 place] 3)).alloc (.cells #[.slice none 0 0] 25)).alloc (.cells #[.bool false] 4)).alloc (.cells #[u0, u1, u2, u3, u4] 24) = W0 := ⟨_, rfl⟩
  rw [hW0] at bP bO bK bX hB0 hsz0 ⊢
  clear hW0
  refine range_rd (by omega) (gf := 83) (lb := #[.pointer (some ⟨w.heap.size + 1 + 1 + 1 + 1, 0, none⟩)]) rfl (enters_of Tryz.func83 (by kernel_rfl) rfl) (B := B) (S := fun k => k = w.heap.size + 1 + 1 ∨ k = w.heap.size + 1 + 1 + 1) (ob := w.heap.size + 1 + 1 + 1) (by omega) (by omega)
    (parts_stops (w0 := w0) (B := B) (fun k => k = w.heap.size + 1 + 1 ∨ k = w.heap.size + 1 + 1 + 1) (w.heap.size + 1 + 1 + 1) t _ W0 (w.heap.size + 1 + 1 + 1 + 1) hn hok hsz (hb.trans (hB0.mono hB)) (by omega) bX (by omega)) (Below.refl _ _) (fun _ => rfl)
    (fun pre W => ((((projT pre).find? (hitT place) = none ∧ Boxed W (w.heap.size + 1) 3 (.int .i64 place)) ∧ Boxed W (w.heap.size + 1 + 1) 25 (.slice none 0 0)) ∧ Boxed W (w.heap.size + 1 + 1 + 1) 4 (.bool false)) ∧ Below w.heap.size w W)
    (fun pre W => ((((projT pre).find? (hitT place)).isSome = true ∧ ∃ A c, Boxed W (w.heap.size + 1 + 1) 25 (.slice A (wayOf place (projT pre)).length (wayOf place (projT pre)).length) ∧ W.ownsRow w.heap.size 3 1 (.slice A (wayOf place (projT pre)).length c) (wayOf place (projT pre)).length ((wayOf place (projT pre)).map (Value.int .i64))) ∧ Boxed W (w.heap.size + 1 + 1 + 1) 4 (.bool true)) ∧ Below w.heap.size w W)
    (OwnFrom.and (OwnFrom.and (OwnFrom.and (OwnFrom.and (ownFrom_pure _ _) (Own.from (boxed_own _ _ _) _)) (Own.from (boxed_own _ _ _) _)) (Own.from (boxed_own _ _ _) _)) (ownFrom_below (Nat.le_refl _) (by omega)))
    (OwnFrom.and (OwnFrom.and (OwnFrom.and (ownFrom_pure _ _) (Own.from (holdsCut_own w.heap.size (w.heap.size + 1 + 1) 25 3 1 (fun pre => (wayOf place (projT pre)).length) (fun pre => (wayOf place (projT pre)).map (Value.int .i64))) _)) (Own.from (boxed_own _ _ _) _)) (ownFrom_below (Nat.le_refl _) (by omega)))
    (fun pre W h k hk => by obtain ⟨⟨⟨_, h1⟩, h2⟩, _⟩ := h; exact cw_lt0 h2 rfl (fun j e => by rcases e with e | e <;> subst e <;> first | exact h1.lt | exact h2.lt) hk)
    ⟨⟨⟨⟨rfl, bP⟩, bO⟩, bK⟩, hB0⟩
    (fun x a' W => ∃ Bx, w.heap.size + 1 + 1 + 1 < Bx ∧ (W.heap[Bx]? = some (.cells x.cs.toArray 24 (0, 0)) ∧ Reads W W.heap.size 1 x.A x.way.length (x.way.map (Value.int .i64))) ∧ (x.way.length ≤ x.c ∧ x.way.length ≤ 1000000000) ∧ a' = { tmps := #[.agg #[u0, u1, u2, u3, u4], .int .i64 place, .pointer (some ⟨w.heap.size, 0, none⟩), .pointer (some ⟨w.heap.size + 1, 0, none⟩), .pointer (some ⟨w.heap.size + 1 + 1, 0, none⟩), .pointer (some ⟨w.heap.size + 1 + 1 + 1, 0, none⟩), .slice x.A x.way.length x.c, .pointer (some ⟨Bx, 0, none⟩), .agg #[u0, u1, u2, u3, u4], .func (.func 83) #[] #[.pointer (some ⟨w.heap.size + 1 + 1 + 1 + 1, 0, none⟩)], .slice x.A x.way.length x.c, .agg x.cs.toArray, undef, undef, undef, undef, undef, undef, undef, undef, undef, undef, undef], defers := [] })
    (fun x a' _ X Y row hs hg hr => by obtain ⟨Bx, e1, ⟨e2, e3⟩, e4⟩ := hs; exact ⟨Bx, e1, ⟨cells_own Bx (fun (_ : Unit) => x.cs.toArray) _ () X Y row e2 hg (fun r e => (hr r e).2), reads_own _ () X Y row e3 hg hr⟩, e4⟩)
    ?assign ?body ?done ?stop
  case assign =>
    rintro l pre ⟨way, A, c, xt, xcs, xh, xok⟩ W K ⟨⟨⟨⟨hf, hp⟩, hv⟩, hk⟩, hB1⟩ hrd hK
    obtain ⟨xr, xk, xd, xe, xA, xn, xc, rfl⟩ := xh.form
    have HK := hid hK
    clear hK
    simp only [TrAt.enc]
    gi_wp2_with fail
    have hob : w.heap.size + 1 + 1 + 1 < W.heap.size := hk.lt
    refine HK.out _ _ ((KeepsOthers.alloc _ _).from _) (KpW.of (below_new W _) (Nat.le_trans hB hB1.size) hob) ⟨⟨⟨⟨hf, hp.alloc _⟩, hv.alloc _⟩, hk.alloc _⟩, hB1.alloc hB1.size _⟩ ⟨W.heap.size, by omega, ⟨heap_alloc_new W _, reads_next hrd.1.reads (below_new W _)⟩, ⟨hrd.1.1, by have := hrd.2; dsimp only at this ⊢; omega⟩, ?_⟩
    rfl
  case body =>
    rintro l pre x a' W hl ⟨r, hr⟩ ⟨⟨⟨⟨hf, hp⟩, hv⟩, hk⟩, hB1⟩ ⟨Bx, hBx, ⟨bX1, hrd⟩, ⟨hcap, hwl⟩, rfl⟩ hlt
    have hleaf := CallsIn.inRound l (callsIn_wide (n := 2) |>.2 (leafT_any x.t x.cs W x.h))
    obtain ⟨xr, xk, xd, xe, xL, xA, xc, hxt, hxc⟩ := x.open
    obtain ⟨xn, hxn⟩ : ∃ n, xL.length = n := ⟨_, rfl⟩
    obtain ⟨q, hq⟩ : ∃ q, Tt.leafB x.t = q := ⟨_, rfl⟩
    obtain ⟨m, hm⟩ : ∃ m, x.way.length = m := ⟨_, rfl⟩
    rw [hq] at hleaf
    rw [hxc, hxn] at hleaf bX1
    rw [hm] at hrd hcap hwl
    simp only [hxc, hxn, hm]
    have k0 : W.cell? ⟨Bx, 0, none⟩ = some (.int .i64 xr) := by rw [Lib.cell_of_heap bX1]; rfl
    have k1 : W.cell? ⟨Bx, 1, none⟩ = some (.int .i64 xk) := by rw [Lib.cell_of_heap bX1]; rfl
    have k2 : W.cell? ⟨Bx, 2, none⟩ = some (.int .i64 xd) := by rw [Lib.cell_of_heap bX1]; rfl
    have k3 : W.cell? ⟨Bx, 3, none⟩ = some (.bool xe) := by rw [Lib.cell_of_heap bX1]; rfl
    have k4 : W.cell? ⟨Bx, 4, none⟩ = some (.slice xA xn xc) := by rw [Lib.cell_of_heap bX1]; rfl
    have HLE := hid hleaf
    have HH : Hid (hitT place (x.way, x.t) = (q && xk == place)) := hid (by unfold hitT; dsimp only; rw [hq, hxt]; rfl)
    have HM := hid hm
    have HWL := hid hwl
    have HI := hid (And.intro hf (And.intro hp (And.intro hv (And.intro hk (And.intro hB1 (And.intro bX1 (And.intro hrd hr)))))))
    clear hleaf hq hxn hxc hxt hm hf hp hv hk hB1 bX1 hrd hr hwl
    gi_wp2_with fail
    refine ⟨trivial, HLE.out.mono ?_⟩
    rintro _ W2 ⟨rfl, hb2⟩
    obtain ⟨hf, hp, hv, hk, hB1, bX1, hrd, hr⟩ := HI.out
    have hg := grown_of hb2
    have hp2 := hp.kept hg (by simp)
    have hv2 := hv.kept hg (by simp)
    have hk2 := hk.kept hg (by simp)
    have bX2 := (hb2.block _ (heap_lt bX1)).trans bX1
    have hB2 := hB1.trans (hb2.mono hB1.size)
    have hrd2 := reads_next hrd hb2
    have hk12 : KpW B (fun k => k = w.heap.size + 1 + 1 ∨ k = w.heap.size + 1 + 1 + 1) (w.heap.size + 1 + 1 + 1) W W2 := KpW.of hb2 (Nat.le_trans hB hB1.size) hk.lt
    have HI2 := hid (And.intro hf (And.intro hp2 (And.intro hv2 (And.intro hk2 (And.intro hB2 (And.intro hk12 (And.intro hrd2 hg)))))))
    have cP := hp2.cell
    have l1 : W2.cell? ⟨Bx, 1, none⟩ = some (.int .i64 xk) := by rw [Lib.cell_of_heap bX2]; rfl
    clear hf hp hv hk hB1 hr hg hp2 hv2 hk2 bX1 bX2 hB2 hrd hrd2 hk12 hb2 k0 k1 k2 k3 k4 HLE HI
    have hmiss : (q && xk == place) = false → Hid (((((projT (pre ++ [x])).find? (hitT place) = none ∧ Boxed W2 (w.heap.size + 1) 3 (.int .i64 place)) ∧ Boxed W2 (w.heap.size + 1 + 1) 25 (.slice none 0 0)) ∧ Boxed W2 (w.heap.size + 1 + 1 + 1) 4 (.bool false)) ∧ Below w.heap.size w W2) := fun h => by
      obtain ⟨hf, hp2, hv2, hk2, hB2, hk12, hrd2, hg⟩ := HI2.out
      refine hid ⟨⟨⟨⟨?_, hp2⟩, hv2⟩, hk2⟩, hB2⟩
      rw [projT_append, projT_one, List.find?_append, hf, Option.none_or, List.find?_cons_of_neg (by rw [HH.out, h]; exact Bool.false_ne_true), List.find?_nil]
    cases q
    · have HMI := hmiss rfl
      clear cP l1 hmiss
      gi_wp2_with fail
      exact ⟨KeepsFrom.of_grownBy HI2.out.2.2.2.2.2.2.2 (fun j e => by cases e), HI2.out.2.2.2.2.2.1, HMI.out⟩
    · by_cases hpl : xk = place
      · have hpe : (xk == place) = true := by simp [hpl]
        have HPE := hid hpe
        have HCL := hid (CallsIn.inRound l (callsIn_wide (n := 2) |>.2 (cloneZ_any x.A m x.c W2.heap.size _ W2 HWL.out HI2.out.2.2.2.2.2.2.1 (by intro v hv; obtain ⟨y, _, rfl⟩ := List.mem_map.1 hv; rfl))))
        clear hmiss hpl
        gi_wp2_with fail
        refine ⟨trivial, HCL.out.mono ?_⟩
        rintro _ W3 ⟨A5, c5, rfl, hown5, hb3⟩
        have HCP := hid (CallsIn.inRound l (callsIn_wide (n := 2) |>.2 (clipZ_any A5 m c5 W3 (own_cap hown5))))
        have HO5 := hid hown5
        have HB3 := hid hb3
        clear hown5 hb3 cP l1 HCL
        gi_wp2_with fail
        refine ⟨trivial, HCP.out.mono ?_⟩
        rintro _ _ ⟨rfl, rfl⟩
        obtain ⟨hf, hp2, hv2, hk2, hB2, hk12, hrd2, hg⟩ := HI2.out
        have hg3 := grown_of HB3.out
        have hv3 := hv2.kept hg3 (by simp)
        have hk3 := hk2.kept hg3 (by simp)
        have cV := hv3.cell
        have fV := hv3.frozen
        have hk4 := hk3.other (B' := w.heap.size + 1 + 1) (by omega) (.slice A5 m m)
        have cK := hk4.cell
        have fK := hk4.frozen
        have HW2 := hid hB2.size
        have HI3 := hid (And.intro hf (And.intro hv3 (And.intro hk3 (And.intro (hB2.trans (HB3.out.mono hB2.size)) (And.intro (hk12.trans (KpW.of HB3.out (Nat.le_trans hB hB2.size) hk2.lt)) (And.intro hg hg3))))))
        clear hf hp2 hv2 hk2 hB2 hk12 hrd2 hg hg3 hv3 hk3 hk4 HI2 HCP
        gi_wp2_with fail
        obtain ⟨hf, hv3, hk3, hB3, hk13, hg, hg3⟩ := HI3.out
        have hfd : (projT (pre ++ [x])).find? (hitT place) = some (x.way, x.t) := by
          rw [projT_append, projT_one, List.find?_append, hf, Option.none_or, List.find?_cons_of_pos (by rw [HH.out, HPE.out]; rfl)]
        have hwo : wayOf place (projT (pre ++ [x])) = x.way := by unfold wayOf; rw [hfd]; rfl
        have hn3 := hv3.not_row (by decide) HO5.out
        have hn4 := hk3.not_row (by decide) HO5.out
        have hrow := own_lower ((HO5.out.kept (grownBy_setCell' W3 (w.heap.size + 1 + 1) (.slice A5 m m)) (.inr hn3.symm)).kept (grownBy_setCell' _ (w.heap.size + 1 + 1 + 1) (.bool true)) (.inr hn4.symm)) HW2.out
        have hbx := (hv3.set (.slice A5 m m)).other (B' := w.heap.size + 1 + 1 + 1) (by omega) (.bool true)
        have hbk := (hk3.other (B' := w.heap.size + 1 + 1) (by omega) (.slice A5 m m)).set (.bool true)
        refine ⟨(KeepsFrom.of_grownBy hg (fun j e => by cases e)).trans ((KeepsFrom.of_grownBy hg3 (fun j e => by cases e)).trans (((KeepsOthers.setCell _ _ _).trans (KeepsOthers.setCell _ _ _)).from _)), hk13.trans (kpW_only ((Only.of_set W3 (w.heap.size + 1 + 1) 0 (.slice A5 m m)).more (fun b _ e => Or.inl e) |>.trans ((Only.of_set _ (w.heap.size + 1 + 1 + 1) 0 (.bool true)).more fun b _ e => Or.inr e) fun _ _ e => e) (fun k e => by rcases e with e | e <;> omega) (Nat.le_trans hB hB3.size) (fun v T e => ?_)), ⟨⟨⟨by rw [hfd]; rfl, A5, c5, ?_⟩, hbk⟩, ?_⟩⟩
        · rw [show _ = _ from hbk] at e
          injection e with e
          injection e with e
          have e : #[Value.bool true] = #[v] := e
          injection e with e
          injection e with e
          subst e
          rfl
        · rw [hwo, HM.out]
          exact ⟨hbx, hrow⟩
        · exact (hB3.setCell (p := ⟨w.heap.size + 1 + 1, 0, none⟩) (by simp; omega) _).setCell (p := ⟨w.heap.size + 1 + 1 + 1, 0, none⟩) (by simp; omega) _
      · have hpe : (xk == place) = false := by simp [hpl]
        have HMI := hmiss (by rw [hpe]; rfl)
        clear hmiss hpl
        gi_wp2_with fail
        exact ⟨KeepsFrom.of_grownBy HI2.out.2.2.2.2.2.2.2 (fun j e => by cases e), HI2.out.2.2.2.2.2.1, HMI.out⟩
  case done =>
    rintro D ys W hD hys ⟨⟨⟨⟨hf, hp⟩, hv⟩, hk⟩, hB1⟩ hK
    have cV := hv.cell
    have fV := hv.frozen
    have hk4 := hk.other (B' := w.heap.size + 1 + 1) (by omega) (.slice none 0 0)
    have cK := hk4.cell
    have fK := hk4.frozen
    have HI := hid (And.intro hf (And.intro hv (And.intro hk (And.intro hB1 (And.intro hK hys)))))
    clear hf hp hv hk hB1 hK hys hk4
    gi_wp2_with fail
    obtain ⟨hf, hv, hk, hB1, hK, hys⟩ := HI.out
    have hK' := ((KeepsOthers.setCell W ⟨w.heap.size + 1 + 1, 0, none⟩ (.slice none 0 0)).trans (KeepsOthers.setCell _ ⟨w.heap.size + 1 + 1 + 1, 0, none⟩ (.bool false))).same D _ hK rfl
    refine ⟨by simp, .inl ⟨_, _, rfl, run_takeDeferred hK', ?_⟩⟩
    have b1 := (hv.set (.slice none 0 0)).other (B' := w.heap.size + 1 + 1 + 1) (by omega) (.bool false)
    have b2 := (hk.other (B' := w.heap.size + 1 + 1) (by omega) (.slice none 0 0)).set (.bool false)
    have hc5 := cell_kept b1.cell (grownBy_putObj' _ D (.deferred none)) (fun r e => by cases e; exact ⟨_, hK', rfl⟩)
    have hc6 := cell_kept b2.cell (grownBy_putObj' _ D (.deferred none)) (fun r e => by cases e; exact ⟨_, hK', rfl⟩)
    have hto : Tt.toT t place = none := by
      unfold Tt.toT
      rw [hys] at hf
      exact congrArg (Option.map (·.1)) hf
    refine ⟨.tuple #[.slice none 0 0, .bool false], ?_, ⟨none, false, by rw [hto]; rfl, by rw [hto]; rfl, by rw [hto]; exact ⟨rfl, fun e => absurd e (Nat.lt_irrefl _)⟩⟩, hB1.trans (((Below.refl _ W).setCell (p := ⟨w.heap.size + 1 + 1, 0, none⟩) (by simp; omega) _ |>.setCell (p := ⟨w.heap.size + 1 + 1 + 1, 0, none⟩) (by simp; omega) _).trans (belowK_b (w := w) (Nat.le_refl _) _ D _ _ (by omega) hK' rfl rfl))⟩
    simp [results, Tryz.f13, go_sem, hc5, hc6]
  case stop =>
    rintro D pre W hD hpre ⟨⟨⟨hf, A, c, hv, hrow⟩, hk⟩, hB1⟩ hK
    have HI := hid (And.intro hf (And.intro hv (And.intro hrow (And.intro hk (And.intro hB1 hK)))))
    clear hf hv hrow hk hB1 hK
    gi_wp2_with fail
    obtain ⟨hf, hv, hrow, hk, hB1, hK⟩ := HI.out
    refine ⟨by simp, .inl ⟨_, _, rfl, run_takeDeferred hK, ?_⟩⟩
    have hc5 := cell_kept hv.cell (grownBy_putObj' _ D (.deferred none)) (fun r e => by cases e; exact ⟨_, hK, rfl⟩)
    have hc6 := cell_kept hk.cell (grownBy_putObj' _ D (.deferred none)) (fun r e => by cases e; exact ⟨_, hK, rfl⟩)
    have hfp := find_prefix hpre hf
    have hto : (Tt.toT t place).getD [] = wayOf place (projT pre) := by
      unfold Tt.toT wayOf
      rw [← hfp]
      rfl
    have hso : (Tt.toT t place).isSome = true := by
      unfold Tt.toT
      rw [Option.isSome_map, show (fun x : List Int × Rp.Tr => Tt.leafB x.2 && Tt.tokT x.2 == place) = hitT place from rfl, hfp, hf]
    refine ⟨.tuple #[.slice A (wayOf place (projT pre)).length (wayOf place (projT pre)).length, .bool true], ?_, ⟨A, true, by rw [hto], hso.symm, ?_⟩, hB1.trans (belowK_b (w := w) (Nat.le_refl _) _ D _ _ (by omega) hK rfl rfl)⟩
    · simp [results, Tryz.f13, go_sem, hc5, hc6]
    · rw [hto]
      exact RO.of_own0 (ownsRow_putObj hrow _ hK rfl) fun b e => e
end
end Go.Proofs.YtpbnfinmjnpkpaaGreatDoor
