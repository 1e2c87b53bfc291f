/-
  Drivers: a parse, as it lies in memory: its record, memo, stack of walks, trees. Plain lemmas.
-/
import Derived.Test.YtgflanlniejflaaPar
import Derived.Test.YtgflanlniejflaaDrvInv
namespace Go.Proofs.Ytgflanlniejflaa
open Go.RowKit Go.Maps
set_option maxRecDepth 100000
/-! ## What is known, as two maps -/
def fRules (K : List Drv.K4) : Int → Int → Option Int := fun a b => Drv.know K 2 a b
def fPicks (nd : Nat) (K : List Drv.K4) : Int → Int → Option Int := fun a b => if a < nd then Drv.know K 0 a b else Drv.know K 1 (a - nd) b
theorem know_none_of {K : List Drv.K4} {a b p t a' b' p' : Int} (h : ¬ (a = a' ∧ b = b' ∧ p = p')) : Drv.know (Drv.say K a b p t) a' b' p' = Drv.know K a' b' p' := by
  rw [Drv.know_say]
  cases Drv.know K a' b' p' with
  | some u => rfl
  | none => simp only; rw [if_neg h]
theorem know_put {K : List Drv.K4} {a b p t b' p' : Int} : Drv.know (Drv.say K a b p t) a b' p' = match Drv.know K a b' p' with
    | some u => some u
    | none => if b = b' ∧ p = p' then some t else none := by
  rw [Drv.know_say]
  cases Drv.know K a b' p' with
  | some u => rfl
  | none => simp
theorem fRules_say2 (K : List Drv.K4) (a p t : Int) : fRules (Drv.say K 2 a p t) = putF (fRules K) a p t := by
  funext a' p'
  exact know_put
theorem fPicks_say2 (nd : Nat) (K : List Drv.K4) (a p t : Int) : fPicks nd (Drv.say K 2 a p t) = fPicks nd K := by
  funext a' p'
  unfold fPicks
  rw [know_none_of (by omega), know_none_of (by omega)]
theorem fRules_say (K : List Drv.K4) (a b p t : Int) (h : a ≠ 2) : fRules (Drv.say K a b p t) = fRules K := by
  funext a' p'
  unfold fRules
  rw [know_none_of (by omega)]
theorem fPicks_say0 (nd : Nat) (K : List Drv.K4) (a p t : Int) (h : a < nd) : fPicks nd (Drv.say K 0 a p t) = putF (fPicks nd K) a p t := by
  funext a' p'
  unfold fPicks putF
  by_cases h' : a' < nd
  · simp only [if_pos h']
    exact know_put
  · simp only [if_neg h']
    rw [know_none_of (by omega)]
    cases Drv.know K 1 (a' - nd) p' with
    | some u => rfl
    | none => simp only; rw [if_neg (by omega)]
theorem fPicks_say1 (nd : Nat) (K : List Drv.K4) (a p t : Int) (h : 0 ≤ a) : fPicks nd (Drv.say K 1 a p t) = putF (fPicks nd K) (nd + a) p t := by
  funext a' p'
  unfold fPicks putF
  by_cases h' : a' < nd
  · simp only [if_pos h']
    rw [know_none_of (by omega)]
    cases Drv.know K 0 a' p' with
    | some u => rfl
    | none => simp only; rw [if_neg (by omega)]
  · simp only [if_neg h']
    rw [know_put]
    cases Drv.know K 1 (a' - nd) p' with
    | some u => rfl
    | none =>
      simp only
      by_cases e : a = a' - nd ∧ p = p'
      · rw [if_pos e, if_pos (by omega)]
      · rw [if_neg e, if_neg (by omega)]
/-! ## Trees -/
mutual
def TrV (w : World) (S : Nat → Prop) : Drv.Tr → List Value → Prop
  | .node r t k e subs, vs => ∃ A c xs, vs = [.int .i64 r, .int .i64 t, .int .i64 k, .bool e, .slice A subs.length c] ∧ RO w S 5 A subs.length xs ∧ TrsV w S subs xs
def TrsV (w : World) (S : Nat → Prop) : List Drv.Tr → List Value → Prop
  | [], vs => vs = []
  | t :: l, vs => ∃ a b, vs = a ++ b ∧ TrV w S t a ∧ TrsV w S l b
end
mutual
theorem TrV.only {w w' : World} {S S' : Nat → Prop} (ho : Only S w w') (hS : ∀ b, b < w.heap.size → S' b → S b) : ∀ (t : Drv.Tr) (vs : List Value), TrV w S t vs → TrV w' S' t vs
  | .node _ _ _ _ subs, _, h => by
    unfold TrV at h ⊢
    obtain ⟨A, c, xs, h1, h2, h3⟩ := h
    exact ⟨A, c, xs, h1, h2.only ho hS, TrsV.only ho hS subs xs h3⟩
theorem TrsV.only {w w' : World} {S S' : Nat → Prop} (ho : Only S w w') (hS : ∀ b, b < w.heap.size → S' b → S b) : ∀ (l : List Drv.Tr) (vs : List Value), TrsV w S l vs → TrsV w' S' l vs
  | [], _, h => by unfold TrsV at h ⊢; exact h
  | t :: l, _, h => by
    unfold TrsV at h ⊢
    obtain ⟨a, b, h1, h2, h3⟩ := h
    exact ⟨a, b, h1, TrV.only ho hS t a h2, TrsV.only ho hS l b h3⟩
end
theorem TrV.len {w : World} {S : Nat → Prop} {t : Drv.Tr} {vs : List Value} (h : TrV w S t vs) : vs.length = 5 := by
  cases t with
  | node r t k e subs =>
    unfold TrV at h
    obtain ⟨A, c, xs, rfl, _⟩ := h
    rfl
theorem TrsV.len {w : World} {S : Nat → Prop} : ∀ {l : List Drv.Tr} {vs : List Value}, TrsV w S l vs → vs.length = l.length * 5
  | [], _, h => by unfold TrsV at h; rw [h]; rfl
  | t :: l, _, h => by
    unfold TrsV at h
    obtain ⟨a, b, rfl, h2, h3⟩ := h
    rw [List.length_append, h2.len, TrsV.len h3, List.length_cons]
    omega
theorem TrsV.snoc {w : World} {S : Nat → Prop} {t : Drv.Tr} {a : List Value} (ht : TrV w S t a) : ∀ {l : List Drv.Tr} {vs : List Value}, TrsV w S l vs → TrsV w S (l ++ [t]) (vs ++ a)
  | [], _, h => by
    unfold TrsV at h
    subst h
    show TrsV w S [t] a
    unfold TrsV
    exact ⟨a, [], by simp, ht, by unfold TrsV; rfl⟩
  | x :: l, _, h => by
    unfold TrsV at h
    obtain ⟨p, q, rfl, h2, h3⟩ := h
    show TrsV w S (x :: (l ++ [t])) _
    unfold TrsV
    exact ⟨p, q ++ a, by rw [List.append_assoc], h2, TrsV.snoc ht h3⟩
/-- trees that lie in blocks from B on, none of which is of S -/
def TrB (w : World) (S : Nat → Prop) (B : Nat) (t : Drv.Tr) (vs : List Value) : Prop := TrV w (fun j => S j ∨ j < B) t vs
def TrsB (w : World) (S : Nat → Prop) (B : Nat) (l : List Drv.Tr) (vs : List Value) : Prop := TrsV w (fun j => S j ∨ j < B) l vs
theorem TrB.only {w w' : World} {S S' : Nat → Prop} {B : Nat} (ho : Only S w w') (hS : ∀ b, b < w.heap.size → S' b → S b) (t : Drv.Tr) (vs : List Value) (h : TrB w S B t vs) : TrB w' S' B t vs :=
  TrV.only (ho.more fun _ _ e => .inl e) (fun b hb e => e.imp (hS b hb) id) t vs h
theorem TrsB.only {w w' : World} {S S' : Nat → Prop} {B : Nat} (ho : Only S w w') (hS : ∀ b, b < w.heap.size → S' b → S b) (l : List Drv.Tr) (vs : List Value) (h : TrsB w S B l vs) : TrsB w' S' B l vs :=
  TrsV.only (ho.more fun _ _ e => .inl e) (fun b hb e => e.imp (hS b hb) id) l vs h
theorem TrsB.snoc {w : World} {S : Nat → Prop} {B : Nat} {t : Drv.Tr} {a : List Value} (ht : TrB w S B t a) {l : List Drv.Tr} {vs : List Value} (h : TrsB w S B l vs) : TrsB w S B (l ++ [t]) (vs ++ a) := TrsV.snoc ht h
/-! ## Walks -/
def WalkAt (w : World) (S : Nat → Prop) (B0 g : Nat) (s : Value) (x : Drv.Wk) : Prop :=
  ∃ A ca xs, w.heap[g]? = some (.cells (walkCells (x.sort : Nat) x.what x.start x.state x.over s (.slice A x.alts.length ca)) 116 (0, 0)) ∧ RO w S 1 A x.alts.length (x.alts.map (Value.int .i64)) ∧ w.ownsRow B0 65 5 s x.subs.length xs ∧ TrsB w S B0 x.subs xs ∧ x.alts.length ≤ ca
/-- nothing of the walk's own is turned -/
theorem WalkAt.only {w w' : World} {S S' S2 : Nat → Prop} {B0 g : Nat} {s : Value} {x : Drv.Wk} (h : WalkAt w S B0 g s x) (ho : Only S2 w w') (h1 : ∀ b, b < w.heap.size → S2 b → S b) (h2 : ∀ b, b < w.heap.size → S' b → S b) (hg : ¬ S2 g) (hs : ∀ k, s.ownBlock = some k → ¬ S2 k) : WalkAt w' S' B0 g s x := by
  obtain ⟨A, ca, xs, q1, q2, q3, q4⟩ := h
  have ho' := ho.more h1
  exact ⟨A, ca, xs, (ho.block g (heap_lt q1) hg).trans q1, q2.only ho' h2, ownsRow_only q3 ho hs, TrsB.only ho' h2 _ _ q4.1, q4.2⟩
/-- what stays while a parse goes on -/
structure Fx where
  B0 : Nat
  P : Nat
  pc : Pc
  br : Nat
  bp : Nat
  c : Drv.DC
/-- where the stack of walks lies: the slice, the walks' blocks and their Subs, the top first -/
structure Vx where
  vo : Value
  gs : List Nat
  ss : List Value
/-- the blocks that a parse turns -/
def TS (f : Fx) (v : Vx) (k : Nat) : Prop := k = f.P ∨ MemoS f.pc.M f.br f.bp k ∨ v.vo.ownBlock = some k ∨ k ∈ v.gs ∨ ∃ s ∈ v.ss, s.ownBlock = some k
/-- a parse in memory -/
structure PstAt (w : World) (f : Fx) (v : Vx) (k : Drv.Cf) : Prop where
  par : ∃ r t q b s, ParAt w f.P f.pc ⟨k.used, k.deep, k.spec, v.vo, k.pos, (Drv.nonreal k.opn : Nat), r, t, q, b, s, k.e, k.ended⟩ ∧ TrB w (TS f v) f.B0 k.tree [.int .i64 r, .int .i64 t, .int .i64 q, .bool b, s]
  memo : MemoAt w f.pc.M f.br f.bp k.known.length f.c.starts.length (f.c.decs.length + f.c.preds.length : Nat) f.c.w.length (fRules k.known) (fPicks f.c.decs.length k.known)
  row : OwnO w f.B0 152 1 v.vo k.opn.length (v.gs.reverse.map fun g => .pointer (some ⟨g, 0, none⟩))
  gl : v.gs.length = k.opn.length
  sl : v.ss.length = k.opn.length
  walks : ∀ (i : Nat) (x : Drv.Wk) (g : Nat) (s : Value), k.opn[i]? = some x → v.gs[i]? = some g → v.ss[i]? = some s → WalkAt w (TS f v) f.B0 g s x
  gd : v.gs.Pairwise (· ≠ ·)
  sd : v.ss.Pairwise fun s s' => ∀ j, s.ownBlock = some j → s'.ownBlock ≠ some j
  ge : ∀ j, TS f v j → f.B0 ≤ j
  rd : ∀ j, v.vo.ownBlock = some j → j ≠ f.P ∧ ¬ MemoS f.pc.M f.br f.bp j ∧ j ∉ v.gs ∧ ∀ s ∈ v.ss, s.ownBlock ≠ some j
theorem not_map {w : World} {b n k : Nat} {F : Int → Int → Option Int} {cs : Array Value} {T : TypeId} (h : OwnF w b n F) (hk : w.heap[k]? = some (.cells cs T (0, 0))) : b ≠ k := by
  rintro rfl
  obtain ⟨m, D, _, ⟨es, cl, hb, _⟩, _⟩ := h
  rw [hk] at hb
  cases hb
theorem not_cells {w : World} {a b : Nat} {cs ds : Array Value} {T U : TypeId} (h : w.heap[a]? = some (.cells cs T (0, 0))) (g : w.heap[b]? = some (.cells ds U (0, 0))) (hne : T ≠ U) : a ≠ b := by
  rintro rfl
  rw [h] at g
  injection g with g
  injection g with _ g _
  exact hne g
section
variable {w : World} {f : Fx} {v : Vx} {k : Drv.Cf}
theorem PstAt.blkP (h : PstAt w f v k) : ∃ cs, w.heap[f.P]? = some (.cells cs 112 (0, 0)) := by
  obtain ⟨r, t, q, b, s, hp, _⟩ := h.par
  exact ⟨_, hp⟩
theorem PstAt.at (h : PstAt w f v k) {i : Nat} (hi : i < k.opn.length) : ∃ x g s, k.opn[i]? = some x ∧ v.gs[i]? = some g ∧ v.ss[i]? = some s ∧ WalkAt w (TS f v) f.B0 g s x := by
  have h1 := h.gl
  have h2 := h.sl
  have e0 := List.getElem?_eq_getElem hi
  have e1 := List.getElem?_eq_getElem (l := v.gs) (i := i) (by omega)
  have e2 := List.getElem?_eq_getElem (l := v.ss) (i := i) (by omega)
  exact ⟨_, _, _, e0, e1, e2, h.walks i _ _ _ e0 e1 e2⟩
theorem PstAt.gblk (h : PstAt w f v k) {g : Nat} (hg : g ∈ v.gs) : ∃ cs, w.heap[g]? = some (.cells cs 116 (0, 0)) := by
  obtain ⟨i, hi, e⟩ := List.getElem_of_mem hg
  have h1 := h.gl
  obtain ⟨x, g', s, _, e1, _, A, ca, xs, q1, _⟩ := h.at (i := i) (by omega)
  rw [List.getElem?_eq_getElem hi, e] at e1
  injection e1 with e1
  subst e1
  exact ⟨_, q1⟩
theorem PstAt.srow (h : PstAt w f v k) {s : Value} (hs : s ∈ v.ss) : ∃ n xs, w.ownsRow f.B0 65 5 s n xs := by
  obtain ⟨i, hi, e⟩ := List.getElem_of_mem hs
  have h1 := h.sl
  obtain ⟨x, g, s', _, _, e1, A, ca, xs, _, _, q3, _⟩ := h.at (i := i) (by omega)
  rw [List.getElem?_eq_getElem hi, e] at e1
  injection e1 with e1
  subst e1
  exact ⟨_, _, q3⟩
/-- nothing but the record's own block bears its place -/
theorem PstAt.neP (h : PstAt w f v k) : (∀ j, MemoS f.pc.M f.br f.bp j → j ≠ f.P) ∧ (∀ j, v.vo.ownBlock = some j → j ≠ f.P) ∧ (∀ g ∈ v.gs, g ≠ f.P) ∧ (∀ s ∈ v.ss, ∀ j, s.ownBlock = some j → j ≠ f.P) := by
  obtain ⟨cs, hp⟩ := h.blkP
  refine ⟨fun j hj => ?_, fun j hj => (h.rd j hj).1, fun g hg => ?_, fun s hs j hj => ?_⟩
  · obtain ⟨ca, ck, hm⟩ := h.memo.blk
    rcases hj with rfl | rfl | rfl
    · exact not_cells hm hp (by decide)
    · exact not_map h.memo.rules hp
    · exact not_map h.memo.picks hp
  · obtain ⟨cs', hg'⟩ := h.gblk hg
    exact not_cells hg' hp (by decide)
  · obtain ⟨n, xs, hr⟩ := h.srow hs
    rintro rfl
    exact row_not hr hp (by decide) hj
theorem PstAt.ltTS (h : PstAt w f v k) : ∀ j, TS f v j → j < w.heap.size := by
  intro j hj
  rcases hj with rfl | (rfl | rfl | rfl) | hj | hj | ⟨s, hs, hj⟩
  · obtain ⟨cs, hp⟩ := h.blkP; exact heap_lt hp
  · obtain ⟨ca, ck, hm⟩ := h.memo.blk; exact heap_lt hm
  · exact h.memo.rules.lt
  · exact h.memo.picks.lt
  · exact (h.row.lt j hj).2
  · obtain ⟨cs', hg'⟩ := h.gblk hj; exact heap_lt hg'
  · obtain ⟨n, xs, hr⟩ := h.srow hs; exact (hr.lt j hj).2
/-- the record alone is turned -/
theorem PstAt.parSet {w' : World} (h : PstAt w f v k) (ho : Only (fun j => j = f.P) w w') (k' : Drv.Cf) (e1 : k'.opn = k.opn) (e2 : k'.known = k.known) (e3 : k'.tree = k.tree)
    (hp : ∀ r t q b s, ParAt w f.P f.pc ⟨k.used, k.deep, k.spec, v.vo, k.pos, (Drv.nonreal k.opn : Nat), r, t, q, b, s, k.e, k.ended⟩ → ParAt w' f.P f.pc ⟨k'.used, k'.deep, k'.spec, v.vo, k'.pos, (Drv.nonreal k.opn : Nat), r, t, q, b, s, k'.e, k'.ended⟩) : PstAt w' f v k' := by
  obtain ⟨n1, n2, n3, n4⟩ := h.neP
  obtain ⟨r, t, q, b, s, hpar, htr⟩ := h.par
  have ho' := ho.more (S' := TS f v) fun j _ e => .inl e
  refine ⟨⟨r, t, q, b, s, by rw [e1]; exact hp r t q b s hpar, by rw [e3]; exact TrB.only ho' (fun _ _ e => e) _ _ htr⟩, ?_, ?_, by rw [e1]; exact h.gl, by rw [e1]; exact h.sl, ?_, h.gd, h.sd, h.ge, h.rd⟩
  · rw [e2]; exact h.memo.only ho n1
  · rw [e1]; exact h.row.only ho n2
  · intro i x g s' h1 h2 h3
    rw [e1] at h1
    exact (h.walks i x g s' h1 h2 h3).only ho (fun j _ e => .inl e) (fun _ _ e => e) (n3 g (List.mem_of_getElem? h2)) (n4 s' (List.mem_of_getElem? h3))
theorem PstAt.below {w' : World} {S : Nat → Prop} (h : PstAt w f v k) (ho : Only S w w') (hS : ∀ j, S j → f.B0 ≤ j) : Below f.B0 w w' := ho.below' hS (by
  obtain ⟨cs, hp⟩ := h.blkP
  have := heap_lt hp
  have := h.ge f.P (.inl rfl)
  omega)
theorem PstAt.geP (h : PstAt w f v k) : f.B0 ≤ f.P := h.ge f.P (.inl rfl)
end
set_option maxHeartbeats 400000 in
theorem endP_any (w : World) (f : Fx) (v : Vx) (k : Drv.Cf) (e : Int) (h : PstAt w f v k) :
    Calls Try.prog 56 #[.pointer (some ⟨f.P, 0, none⟩), .int .i64 e] w fun r w' => r = .returned (.tuple #[]) ∧ PstAt w' f v (k.fin e) ∧ Below f.B0 w w' := by
  obtain ⟨r, t, q, b, s, hpar, _⟩ := h.par
  refine (end_any f.P f.pc _ e w hpar).mono ?_
  rintro r' w' ⟨rfl, ho, hp⟩
  refine ⟨rfl, h.parSet ho (k.fin e) rfl rfl rfl (fun r1 t1 q1 b1 s1 h1 => ?_), h.below ho fun j e => by rw [e]; exact h.geP⟩
  have h2 : parCells f.pc ⟨k.used, k.deep, k.spec, v.vo, k.pos, (Drv.nonreal k.opn : Nat), r, t, q, b, s, k.e, k.ended⟩ = parCells f.pc ⟨k.used, k.deep, k.spec, v.vo, k.pos, (Drv.nonreal k.opn : Nat), r1, t1, q1, b1, s1, k.e, k.ended⟩ := by
    have := hpar.symm.trans h1
    injection this with this
    injection this
  simp only [parCells, Array.mk.injEq, List.cons.injEq, Value.int.injEq, Value.bool.injEq, true_and, and_true] at h2
  obtain ⟨rfl, rfl, rfl, rfl, rfl⟩ := h2
  exact hp
end Go.Proofs.Ytgflanlniejflaa
