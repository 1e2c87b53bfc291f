/-
  Looks: CfRcL, CfRm (texts joined).
-/
import Derived.ArgAppend
import Derived.Test.YtnpcjbdolmmaeaaGreatDoorL01
import Derived.Test.YtnpcjbdolmmaeaaGreatDoorL11
import Derived.Test.YtnpcjbdolmmaeaaGreatDoorL21
import Derived.Test.YtnpcjbdolmmaeaaGreatDoorL22
namespace Go.Proofs.YtnpcjbdolmmaeaaGreatDoor
namespace Cf
open Drv
def Sz (v : Vw) (x : Cfg) : Prop := has v x = true ∧ x.stack.length ≤ 5601
theorem come_len {v : Vw} {x y : Cfg} (h : y ∈ comeOf v x) : y.stack.length ≤ x.stack.length + 1 := by
  unfold comeOf at h
  rcases List.mem_append.1 h with h | h
  · obtain ⟨e, _, h⟩ := List.mem_flatMap.1 h
    unfold comeE at h
    split at h
    · rw [List.mem_singleton] at h; subst h; exact Nat.le_succ _
    · split at h
      · rw [List.mem_singleton] at h; subst h; exact Nat.le_succ _
      · split at h
        · rw [List.mem_singleton] at h; subst h
          show (x.stack ++ [e.to]).length ≤ _
          simp
        · cases h
  · obtain ⟨t, _, h⟩ := List.mem_flatMap.1 h
    split at h
    · rw [List.mem_singleton] at h; subst h
      show x.stack.dropLast.length ≤ _
      rw [List.length_dropLast]; omega
    · cases h
structure PuI (v : Vw) (k : Nat) (p : List Cfg × List Cfg) : Prop where
  m : p.1.length ≤ k
  q : p.2.length ≤ k
  sm : ∀ x ∈ p.1, Sz v x
theorem PuI.step {v : Vw} {k : Nat} {p : List Cfg × List Cfg} (h : PuI v k p) {x : Cfg} (hx : x.stack.length ≤ 5601) : PuI v (k + 1) (pushR v p x) := by
  unfold pushR
  split
  · exact ⟨Nat.le_succ_of_le h.m, Nat.le_succ_of_le h.q, h.sm⟩
  · next hh =>
    have hh : has v x = true := by simpa using hh
    cases hp : (putL p.1 x).2 with
    | true =>
      refine ⟨by rw [putL_len _ _ hp]; exact Nat.succ_le_succ h.m, by rw [if_pos rfl, List.length_append, List.length_singleton]; exact Nat.succ_le_succ h.q, fun y hy => ?_⟩
      rcases (putL_mem p.1 x y hp).1 hy with e | e
      · exact h.sm y e
      · subst e; exact ⟨hh, hx⟩
    | false =>
      have : (putL p.1 x).1 = p.1 := by
        rw [putL_ix] at hp ⊢
        split at hp
        · next e => rw [if_pos e]
        · cases hp
      rw [if_neg (by decide), this]
      exact ⟨Nat.le_succ_of_le h.m, Nat.le_succ_of_le h.q, h.sm⟩
theorem PuI.take {v : Vw} {k : Nat} {p : List Cfg × List Cfg} (h : PuI v k p) : ∀ (l : List Cfg), (∀ x ∈ l, x.stack.length ≤ 5601) → PuI v (k + l.length) (l.foldl (pushR v) p)
  | [], _ => h
  | x :: l, hl => by
    have := PuI.take (h.step (hl x (by simp))) l fun y hy => hl y (by simp [hy])
    rw [List.foldl_cons, List.length_cons]
    exact ⟨Nat.le_trans this.m (by omega), Nat.le_trans this.q (by omega), this.sm⟩
theorem PuI.start (v : Vw) : PuI v 0 ([], []) := ⟨Nat.le_refl _, Nat.le_refl _, fun _ h => by cases h⟩
structure RcI (v : Vw) (l : List Cfg) (n : Nat) (c : Cl) (met q kept : List Cfg) (over : Bool) : Prop where
  run : Run v c n
  cl : closed v l = runC v (2002 - n) n c
  ov : c.over = over
  tl : over = false → Tells c n met q ∧ KT c.kept kept
  fuel : n ≤ 2001
theorem RcI.start {v : Vw} {l : List Cfg} (hl : ∀ x ∈ l, Bd v x) : RcI v l 0 (Cf.start v l) (l.foldl (pushR v) ([], [])).1 (l.foldl (pushR v) ([], [])).2 [] (decide (2000 < (l.foldl (pushR v) ([], [])).1.length)) := by
  have ht : Tells (Cf.start v l) 0 (l.foldl (pushR v) ([], [])).1 (l.foldl (pushR v) ([], [])).2 := Tells.pushes (c := ⟨[], [], false⟩) (at0 := 0) l ⟨List.Pairwise.nil, fun _ => Iff.rfl, rfl, rfl, Nat.le_refl _⟩
  refine ⟨Run.start l hl Run.start0, rfl, ?_, fun _ => ⟨ht, ?_⟩, by omega⟩
  · rw [ht.len]
    exact meets_over v l ⟨[], [], false⟩ rfl
  · have : (Cf.start v l).kept = [] := meets_kept v l _
    rw [this]; exact KT.start
section
variable {v : Vw} {l : List Cfg} {n : Nat} {c : Cl} {met q kept : List Cfg} {x : Cfg}
theorem RcI.len (h : RcI v l n c met q kept false) : c.wait.length ≤ 2000 ∧ met.length ≤ 2000 ∧ q.length ≤ 2000 ∧ n ≤ 2000 := by
  have h1 := h.run.m h.ov
  have h2 := (h.tl rfl).1.len
  have h3 := congrArg List.length (h.tl rfl).1.q
  have h4 := (h.tl rfl).1.at0
  rw [List.length_drop] at h3
  omega
theorem RcI.sz (h : RcI v l n c met q kept false) (w : OkW v) : ∀ x ∈ met, Sz v x := fun x hx => by
  have hx := ((h.tl rfl).1.mem x).1 hx
  obtain ⟨m, hb⟩ := h.run.b
  exact ⟨h.run.has x hx, Nat.le_succ_of_le ((hb.wait x hx).len w)⟩
theorem RcI.qb (h : RcI v l n c met q kept false) : ∀ x ∈ q, Bd v x ∧ has v x = true := fun x hx => by
  rw [(h.tl rfl).1.q] at hx
  have hx := List.mem_of_mem_drop hx
  obtain ⟨m, hb⟩ := h.run.b
  exact ⟨hb.wait x hx, h.run.has x hx⟩
theorem RcI.kw (h : RcI v l n c met q kept false) : ∀ x ∈ kept, ∃ y ∈ c.wait, x = y ∨ x = endC y := fun x hx => h.run.kw x (((h.tl rfl).2.mem x).1 hx)
theorem RcI.ksz (h : RcI v l n c met q kept false) (w : OkW v) : ∀ x ∈ kept, Sz v x := fun x hx => by
  obtain ⟨y, hy, e⟩ := h.kw x hx
  obtain ⟨m, hb⟩ := h.run.b
  have h1 := h.run.has y hy
  have h2 := Nat.le_succ_of_le ((hb.wait y hy).len w)
  rcases e with e | e
  · subst e; exact ⟨h1, h2⟩
  · subst e; exact ⟨h1, h2⟩
theorem RcI.klen (h : RcI v l n c met q kept false) : kept.length ≤ 4000 := by
  have h1 := pigeon (fun x : Cfg => x) kept (c.wait ++ c.wait.map endC) (h.tl rfl).2.dst (fun x hx => by
    obtain ⟨y, hy, e | e⟩ := h.kw x hx
    · subst e; exact List.mem_append_left _ hy
    · subst e; exact List.mem_append_right _ (List.mem_map_of_mem hy))
  have h2 := h.len.1
  simp only [List.length_append, List.length_map] at h1
  omega
theorem RcI.at (h : RcI v l n c met (x :: q) kept false) : ∃ hn : n < c.wait.length, c.wait[n] = x := by
  have h1 := (h.tl rfl).1.q
  have h2 : n < c.wait.length := by
    have := congrArg List.length h1
    simp at this; omega
  refine ⟨h2, ?_⟩
  rw [List.drop_eq_getElem_cons h2] at h1
  injection h1 with h1
  exact h1.symm
theorem RcI.cl1 (h : RcI v l n c met (x :: q) kept false) : closed v l = runC v (2002 - (n + 1)) (n + 1) (close1 v c x) := by
  obtain ⟨hn, hx⟩ := h.at
  have h2 := h.len.2.2.2
  have h3 := runC_step (v := v) (f := 2001 - n) h.ov hn
  rw [h.cl, show 2002 - n = 2001 - n + 1 by omega, h3, hx]
  congr 1
  omega
theorem RcI.run1 (h : RcI v l n c met (x :: q) kept false) (w : OkW v) : Run v (close1 v c x) (n + 1) := by
  obtain ⟨hn, hx⟩ := h.at
  have := h.run.next w hn
  rw [hx] at this
  exact this
theorem RcI.end_ (h : RcI v l n c met (x :: q) kept false) (w : OkW v) (he : (turnR v x).ended = true) : RcI v l (n + 1) (close1 v c x) met q (putL kept (turnR v x)).1 false := by
  obtain ⟨h1, h2⟩ := h.tl rfl
  obtain ⟨h3, h4, h5⟩ := step_end h1 h2 h.ov he
  have := h.len.2.2.2
  exact ⟨h.run1 w, h.cl1, h5, fun _ => ⟨h3, h4⟩, by omega⟩
theorem RcI.full (h : RcI v l n c met (x :: q) kept false) (w : OkW v) (he : (turnR v x).ended = false) (hf : fullOf v x = true) (met' q' kept' : List Cfg) : RcI v l (n + 1) (close1 v c x) met' q' kept' true := by
  have := h.len.2.2.2
  exact ⟨h.run1 w, h.cl1, step_full he hf, fun e => (by cases e), by omega⟩
theorem RcI.more (h : RcI v l n c met (x :: q) kept false) (w : OkW v) (he : (turnR v x).ended = false) (hf : fullOf v x = false) :
    RcI v l (n + 1) (close1 v c x) ((comeOf v x).foldl (pushR v) (met, q)).1 ((comeOf v x).foldl (pushR v) (met, q)).2 (if staysOf v x = true then (putL kept x).1 else kept) (decide (2000 < ((comeOf v x).foldl (pushR v) (met, q)).1.length)) := by
  obtain ⟨h1, h2⟩ := h.tl rfl
  obtain ⟨h3, h4, h5⟩ := step_more h1 h2 h.ov (h.run.m h.ov) he hf
  have := h.len.2.2.2
  exact ⟨h.run1 w, h.cl1, h5, fun _ => ⟨h3, h4⟩, by omega⟩
theorem RcI.done {over : Bool} (h : RcI v l n c met q kept over) (hd : over = true ∨ q = []) : closed v l = c := by
  rw [h.cl]
  cases over with
  | true => exact runC_done (.inl h.ov)
  | false =>
    have hq : q = [] := by rcases hd with e | e; cases e; exact e
    have h1 := congrArg List.length (h.tl rfl).1.q
    rw [hq, List.length_drop] at h1
    exact runC_done (.inr (by simp at h1; omega))
theorem RcI.set_over {A : List Int} (h : RcI v l n c met q kept true) (hh : ∀ x ∈ l, has v x = true) (hA : Alts l A) : IsSet v l ⟨[], A, true⟩ ∧ SetB v ⟨[], A, true⟩ := by
  refine ⟨?_, ⟨fun _ h => (by cases h), Nat.zero_le _⟩⟩
  unfold IsSet
  rw [h.done (.inl rfl), if_pos h.ov, List.filter_eq_self.2 hh]
  exact ⟨rfl, rfl, hA⟩
theorem RcI.set_end {A : List Int} (h : RcI v l n c met [] kept false) (hA : Alts (outR (sureOf v kept) kept) A) : IsSet v l ⟨outR (sureOf v kept) kept, A, false⟩ ∧ SetB v ⟨outR (sureOf v kept) kept, A, false⟩ := by
  have h2 := (h.tl rfl).2
  have hc := h2.canon (sureOf v kept)
  have h1 := h.run.set h.ov hc
  refine ⟨?_, ⟨h1.1, h1.2⟩⟩
  unfold IsSet
  rw [h.done (.inr rfl), if_neg (by rw [h.ov]; decide), ← h2.sure]
  exact ⟨rfl, hc, hA⟩
end
def sureStep (m : Int) (x : Cfg) : Int := if x.ended = true ∧ x.exact = true ∧ x.alt < m then x.alt else m
theorem sure_steps (v : Vw) (l : List Cfg) : sureOf v l = l.foldl sureStep v.d.ends.length := by
  unfold sureOf
  have : ∀ (l : List Cfg) (m : Int), (l.filter fun x => x.ended && x.exact).foldl (fun m x => min m x.alt) m = l.foldl sureStep m := by
    intro l
    induction l with
    | nil => intro m; rfl
    | cons x l ih =>
      intro m
      rw [List.foldl_cons, ← ih]
      unfold sureStep
      cases h1 : x.ended
      · rw [List.filter_cons_of_neg (by simp [h1]), if_neg (fun h => by cases h.1)]
      · cases h2 : x.exact
        · rw [List.filter_cons_of_neg (by simp [h1, h2]), if_neg (fun h => by cases h.2.1)]
        · rw [List.filter_cons_of_pos (by rw [h1, h2]; rfl), List.foldl_cons]
          congr 1
          by_cases h3 : x.alt < m
          · rw [if_pos ⟨rfl, rfl, h3⟩]; omega
          · rw [if_neg (fun h => h3 h.2.2)]; omega
  exact this l _
end Cf
end Go.Proofs.YtnpcjbdolmmaeaaGreatDoor
namespace Go.Proofs.YtnpcjbdolmmaeaaGreatDoor
open Go.RowKit
set_option maxRecDepth 100000
def Ow (w : World) (B0 : Nat) (S : Nat → Prop) (u : Value) (l : List Cf.Cfg) : Prop := ∃ vs, w.ownsRow B0 103 5 u l.length vs ∧ CfsV w S l vs
def QAt (w : World) (B0 : Nat) (v : Value) (n : Nat) (xs : List Value) : Prop :=
  xs.length = n * 5 ∧ ((v = .slice none 0 0 ∧ n = 0) ∨ ∃ b off c cur, v = .slice (some ⟨b, off, none⟩) n c ∧ B0 ≤ b ∧ w.heap[b]? = some (.cells cur 103 (0, 0)) ∧ off + c * 5 ≤ cur.size ∧ n ≤ c ∧ c ≤ maxLen ∧ ∀ j u, xs[j]? = some u → cur[off + j]? = some u)
def Oq (w : World) (B0 : Nat) (S : Nat → Prop) (u : Value) (l : List Cf.Cfg) : Prop := ∃ vs, QAt w B0 u l.length vs ∧ CfsV w S l vs
theorem QAt.of_own {w : World} {B0 n : Nat} {v : Value} {xs : List Value} (h : w.ownsRow B0 103 5 v n xs) : QAt w B0 v n xs := by
  refine ⟨h.1, ?_⟩
  rcases h.2 with h2 | ⟨g, cap, cur, hv, hg, hh, h3, h4, h5, h6⟩
  · exact .inl h2
  · refine .inr ⟨g, 0, cap, cur, hv, hg, hh, by omega, h3, h4, fun j u hu => ?_⟩
    rw [← h6, List.getElem?_take] at hu
    split at hu
    · rw [Nat.zero_add]; simpa using hu
    · cases hu
theorem QAt.lt {w : World} {B0 n : Nat} {v : Value} {xs : List Value} (h : QAt w B0 v n xs) : ∀ k, v.ownBlock = some k → B0 ≤ k ∧ k < w.heap.size := by
  intro k hk
  rcases h.2 with ⟨rfl, _⟩ | ⟨b, off, c, cur, rfl, hb, hh, _⟩
  · cases hk
  · injection hk with hk
    have hk : b = k := hk
    subst hk
    exact ⟨hb, heap_lt hh⟩
theorem QAt.only {w w' : World} {B0 n : Nat} {v : Value} {xs : List Value} {S : Nat → Prop} (h : QAt w B0 v n xs) (ho : Only S w w') (hn : ∀ k, v.ownBlock = some k → ¬ S k) : QAt w' B0 v n xs := by
  refine ⟨h.1, ?_⟩
  rcases h.2 with h2 | ⟨b, off, c, cur, rfl, hb, hh, h3⟩
  · exact .inl h2
  · exact .inr ⟨b, off, c, cur, rfl, hb, (ho.block b (heap_lt hh) (hn b rfl)).trans hh, h3⟩
theorem QAt.tail {w : World} {B0 n : Nat} {v : Value} {xs : List Value} (h : QAt w B0 v (n + 1) xs) : ∃ b off c, v = .slice (some ⟨b, off, none⟩) (n + 1) c ∧ b < w.heap.size ∧ n + 1 ≤ c ∧ c ≤ maxLen ∧ (∀ j u, xs[j]? = some u → w.cell? ⟨b, off + j, none⟩ = some u) ∧
    QAt w B0 (.slice (if c = 1 then some ⟨b, off, none⟩ else some ⟨b, off + 5, none⟩) n (c - 1)) n (xs.drop 5) := by
  obtain ⟨hl, h⟩ := h
  rcases h with ⟨_, h⟩ | ⟨b, off, c, cur, rfl, hb, hh, h3, h4, h5, h6⟩
  · omega
  refine ⟨b, off, c, rfl, heap_lt hh, h4, h5, fun j u hu => by rw [Lib.cell_of_heap hh]; exact h6 j u hu, by rw [List.length_drop]; omega, .inr ?_⟩
  by_cases hc : c = 1
  · rw [if_pos hc]
    refine ⟨b, off, c - 1, cur, rfl, hb, hh, by omega, by omega, by omega, fun j u hu => ?_⟩
    rw [List.getElem?_drop] at hu
    have : 5 + j < xs.length := (List.getElem?_eq_some_iff.1 hu).1
    omega
  · rw [if_neg hc]
    refine ⟨b, off + 5, c - 1, cur, rfl, hb, hh, by omega, by omega, by omega, fun j u hu => ?_⟩
    rw [List.getElem?_drop] at hu
    rw [← h6 _ u hu]
    congr 1
    omega
theorem Ow.only {w w' : World} {B0 : Nat} {S S' S0 : Nat → Prop} {u : Value} {l : List Cf.Cfg} (h : Ow w B0 S u l) (ho : Only S0 w w') (h0 : ∀ k, S0 k → S k) (hn : ∀ k, u.ownBlock = some k → ¬ S0 k) (hS : ∀ b, b < w.heap.size → S' b → S b) : Ow w' B0 S' u l := by
  obtain ⟨vs, h1, h2⟩ := h
  exact ⟨vs, ownsRow_only h1 ho hn, h2.only (ho.more fun k _ => h0 k) hS⟩
theorem Oq.only {w w' : World} {B0 : Nat} {S S' S0 : Nat → Prop} {u : Value} {l : List Cf.Cfg} (h : Oq w B0 S u l) (ho : Only S0 w w') (h0 : ∀ k, S0 k → S k) (hn : ∀ k, u.ownBlock = some k → ¬ S0 k) (hS : ∀ b, b < w.heap.size → S' b → S b) : Oq w' B0 S' u l := by
  obtain ⟨vs, h1, h2⟩ := h
  exact ⟨vs, h1.only ho hn, h2.only (ho.more fun k _ => h0 k) hS⟩
theorem Ow.lt {w : World} {B0 : Nat} {S : Nat → Prop} {u : Value} {l : List Cf.Cfg} (h : Ow w B0 S u l) : ∀ k, u.ownBlock = some k → B0 ≤ k ∧ k < w.heap.size := by
  obtain ⟨vs, h1, _⟩ := h
  exact h1.lt
theorem Oq.lt {w : World} {B0 : Nat} {S : Nat → Prop} {u : Value} {l : List Cf.Cfg} (h : Oq w B0 S u l) : ∀ k, u.ownBlock = some k → B0 ≤ k ∧ k < w.heap.size := by
  obtain ⟨vs, h1, _⟩ := h
  exact h1.lt
theorem Ow.nil (w : World) (B0 : Nat) (S : Nat → Prop) : Ow w B0 S (.slice none 0 0) [] := ⟨[], World.ownsRow_nil _ _ _ _, rfl⟩
theorem Ow.q {w : World} {B0 : Nat} {S : Nat → Prop} {u : Value} {l : List Cf.Cfg} (h : Ow w B0 S u l) : Oq w B0 S u l := by
  obtain ⟨vs, h1, h2⟩ := h
  exact ⟨vs, .of_own h1, h2⟩
def RS (S0 : Nat → Prop) (um uk uh uq : Value) (b : Nat) : Prop := um.ownBlock = some b ∨ uk.ownBlock = some b ∨ uh.ownBlock = some b ∨ uq.ownBlock = some b ∨ S0 b
def NE (a b : Value) : Prop := ∀ k, a.ownBlock = some k → b.ownBlock ≠ some k
theorem NE.symm {a b : Value} (h : NE a b) : NE b a := fun k hk e => h k e hk
theorem NE.nil (a : Value) : NE a (.slice none 0 0) := fun _ _ e => by cases e
def Gr (w : World) (u u' : Value) : Prop := u'.ownBlock = u.ownBlock ∨ ∀ k, u'.ownBlock = some k → w.heap.size ≤ k
theorem NE.gr {w : World} {a b b' : Value} (h : NE a b) (hb : Gr w b b') (ha : ∀ k, a.ownBlock = some k → k < w.heap.size) : NE a b' := by
  intro k hk e
  rcases hb with e' | h'
  · rw [e'] at e; exact h k hk e
  · have := h' k e; have := ha k hk; omega
structure RcR (S0 : Nat → Prop) (w : World) (B0 : Nat) (um uk uh uq : Value) (met kept had wait : List Cf.Cfg) : Prop where
  m : Ow w B0 (RS S0 um uk uh uq) um met
  k : Ow w B0 (RS S0 um uk uh uq) uk kept
  h : Ow w B0 (RS S0 um uk uh uq) uh had
  q : Oq w B0 (RS S0 um uk uh uq) uq wait
  nmk : NE um uk
  nmh : NE um uh
  nmq : NE um uq
  nkh : NE uk uh
  nkq : NE uk uq
  nhq : NE uh uq
theorem RcR.start (S0 : Nat → Prop) (w : World) (B0 : Nat) : RcR S0 w B0 (.slice none 0 0) (.slice none 0 0) (.slice none 0 0) (.slice none 0 0) [] [] [] [] :=
  ⟨Ow.nil _ _ _, Ow.nil _ _ _, Ow.nil _ _ _, (Ow.nil _ _ _).q, NE.nil _, NE.nil _, NE.nil _, NE.nil _, NE.nil _, NE.nil _⟩
theorem RcR.lt {S0 : Nat → Prop} {w : World} {B0 : Nat} {um uk uh uq : Value} {met kept had wait : List Cf.Cfg} (h : RcR S0 w B0 um uk uh uq met kept had wait) : ∀ k, RS (fun _ => False) um uk uh uq k → B0 ≤ k ∧ k < w.heap.size := by
  intro k hk
  rcases hk with e | e | e | e | e
  · exact h.m.lt k e
  · exact h.k.lt k e
  · exact h.h.lt k e
  · exact h.q.lt k e
  · exact e.elim
theorem RcR.below {S0 : Nat → Prop} {w w' : World} {B0 : Nat} {um uk uh uq : Value} {met kept had wait : List Cf.Cfg} (h : RcR S0 w B0 um uk uh uq met kept had wait) (hb : Below w.heap.size w w') : RcR S0 w' B0 um uk uh uq met kept had wait := by
  have ho : Only (fun _ => False) w w' := Only.of_below hb
  exact ⟨h.m.only ho (fun _ e => e.elim) (fun _ _ e => e) (fun _ _ e => e), h.k.only ho (fun _ e => e.elim) (fun _ _ e => e) (fun _ _ e => e), h.h.only ho (fun _ e => e.elim) (fun _ _ e => e) (fun _ _ e => e), h.q.only ho (fun _ e => e.elim) (fun _ _ e => e) (fun _ _ e => e), h.nmk, h.nmh, h.nmq, h.nkh, h.nkq, h.nhq⟩
theorem rs_gr {S0 : Nat → Prop} {w : World} {um uk uh uq um' uk' uh' uq' : Value} (h1 : um' = um ∨ Gr w um um') (h2 : uk' = uk ∨ Gr w uk uk') (h3 : uh' = uh ∨ Gr w uh uh') (h4 : uq' = uq ∨ Gr w uq uq') : ∀ b, b < w.heap.size → RS S0 um' uk' uh' uq' b → RS S0 um uk uh uq b := by
  have one : ∀ {u u' : Value}, (u' = u ∨ Gr w u u') → ∀ b, b < w.heap.size → u'.ownBlock = some b → u.ownBlock = some b := by
    intro u u' h b hb e
    rcases h with rfl | h | h
    · exact e
    · rw [← h]; exact e
    · have := h b e; omega
  intro b hb e
  rcases e with e | e | e | e | e
  · exact .inl (one h1 b hb e)
  · exact .inr (.inl (one h2 b hb e))
  · exact .inr (.inr (.inl (one h3 b hb e)))
  · exact .inr (.inr (.inr (.inl (one h4 b hb e))))
  · exact .inr (.inr (.inr (.inr e)))
theorem RcR.turn_m {S0 : Nat → Prop} {w w' : World} {B0 : Nat} {um uk uh uq um' : Value} {met kept had wait met' : List Cf.Cfg} (h : RcR S0 w B0 um uk uh uq met kept had wait) (ho : Only (fun k => um.ownBlock = some k) w w') (hu : Gr w um um') (hr : Ow w' B0 (RS S0 um' uk uh uq) um' met') :
    RcR S0 w' B0 um' uk uh uq met' kept had wait := by
  have hS := rs_gr (S0 := S0) (w := w) (um := um) (um' := um') (uk := uk) (uh := uh) (uq := uq) (.inr hu) (.inl rfl) (.inl rfl) (.inl rfl)
  exact ⟨hr, h.k.only ho (fun _ e => .inl e) (fun k e e' => h.nmk k e' e) hS, h.h.only ho (fun _ e => .inl e) (fun k e e' => h.nmh k e' e) hS, h.q.only ho (fun _ e => .inl e) (fun k e e' => h.nmq k e' e) hS,
    (h.nmk.symm.gr hu fun k e => (h.k.lt k e).2).symm, (h.nmh.symm.gr hu fun k e => (h.h.lt k e).2).symm, (h.nmq.symm.gr hu fun k e => (h.q.lt k e).2).symm, h.nkh, h.nkq, h.nhq⟩
theorem RcR.turn_k {S0 : Nat → Prop} {w w' : World} {B0 : Nat} {um uk uh uq uk' : Value} {met kept had wait kept' : List Cf.Cfg} (h : RcR S0 w B0 um uk uh uq met kept had wait) (ho : Only (fun k => uk.ownBlock = some k) w w') (hu : Gr w uk uk') (hr : Ow w' B0 (RS S0 um uk' uh uq) uk' kept') :
    RcR S0 w' B0 um uk' uh uq met kept' had wait := by
  have hS := rs_gr (S0 := S0) (w := w) (um := um) (uk := uk) (uk' := uk') (uh := uh) (uq := uq) (.inl rfl) (.inr hu) (.inl rfl) (.inl rfl)
  exact ⟨h.m.only ho (fun _ e => .inr (.inl e)) (fun k e e' => h.nmk k e e') hS, hr, h.h.only ho (fun _ e => .inr (.inl e)) (fun k e e' => h.nkh k e' e) hS, h.q.only ho (fun _ e => .inr (.inl e)) (fun k e e' => h.nkq k e' e) hS,
    h.nmk.gr hu fun k e => (h.m.lt k e).2, h.nmh, h.nmq, (h.nkh.symm.gr hu fun k e => (h.h.lt k e).2).symm, (h.nkq.symm.gr hu fun k e => (h.q.lt k e).2).symm, h.nhq⟩
theorem RcR.turn_h {S0 : Nat → Prop} {w w' : World} {B0 : Nat} {um uk uh uq uh' : Value} {met kept had wait had' : List Cf.Cfg} (h : RcR S0 w B0 um uk uh uq met kept had wait) (ho : Only (fun k => uh.ownBlock = some k) w w') (hu : Gr w uh uh') (hr : Ow w' B0 (RS S0 um uk uh' uq) uh' had') :
    RcR S0 w' B0 um uk uh' uq met kept had' wait := by
  have hS := rs_gr (S0 := S0) (w := w) (um := um) (uk := uk) (uh := uh) (uh' := uh') (uq := uq) (.inl rfl) (.inl rfl) (.inr hu) (.inl rfl)
  exact ⟨h.m.only ho (fun _ e => .inr (.inr (.inl e))) (fun k e e' => h.nmh k e e') hS, h.k.only ho (fun _ e => .inr (.inr (.inl e))) (fun k e e' => h.nkh k e e') hS, hr, h.q.only ho (fun _ e => .inr (.inr (.inl e))) (fun k e e' => h.nhq k e' e) hS,
    h.nmk, h.nmh.gr hu fun k e => (h.m.lt k e).2, h.nmq, h.nkh.gr hu fun k e => (h.k.lt k e).2, h.nkq, (h.nhq.symm.gr hu fun k e => (h.q.lt k e).2).symm⟩
theorem RcR.turn_q {S0 : Nat → Prop} {w w' : World} {B0 : Nat} {um uk uh uq uq' : Value} {met kept had wait wait' : List Cf.Cfg} (h : RcR S0 w B0 um uk uh uq met kept had wait) (ho : Only (fun k => uq.ownBlock = some k) w w') (hu : Gr w uq uq') (hr : Oq w' B0 (RS S0 um uk uh uq') uq' wait') :
    RcR S0 w' B0 um uk uh uq' met kept had wait' := by
  have hS := rs_gr (S0 := S0) (w := w) (um := um) (uk := uk) (uh := uh) (uq := uq) (uq' := uq') (.inl rfl) (.inl rfl) (.inl rfl) (.inr hu)
  exact ⟨h.m.only ho (fun _ e => .inr (.inr (.inr (.inl e)))) (fun k e e' => h.nmq k e e') hS, h.k.only ho (fun _ e => .inr (.inr (.inr (.inl e)))) (fun k e e' => h.nkq k e e') hS, h.h.only ho (fun _ e => .inr (.inr (.inr (.inl e)))) (fun k e e' => h.nhq k e e') hS, hr,
    h.nmk, h.nmh, h.nmq.gr hu fun k e => (h.m.lt k e).2, h.nkh, h.nkq.gr hu fun k e => (h.k.lt k e).2, h.nhq.gr hu fun k e => (h.h.lt k e).2⟩
theorem Ow.snoc {w w' : World} {B0 : Nat} {S S' : Nat → Prop} {u' : Value} {l : List Cf.Cfg} {vs : List Value} {x : Cf.Cfg} {A : Option Addr} {c : Nat} (hcv : CfsV w S l vs) (hc : x.stack.length ≤ c) (hr : RO w S 1 A x.stack.length (x.stack.map (Value.int .i64))) (ho : Only S w w') (hS : ∀ b, b < w.heap.size → S' b → S b)
    (hown : w'.ownsRow B0 103 5 u' (l.length + 1) (vs ++ cfC x A c)) : Ow w' B0 S' u' (l ++ [x]) :=
  ⟨_, by rw [List.length_append]; exact hown, CfsV.only ho hS (CfsV.snoc ⟨A, c, rfl, hc, hr⟩ hcv)⟩
theorem Oq.snoc {w w' : World} {B0 : Nat} {S S' : Nat → Prop} {u' : Value} {l : List Cf.Cfg} {vs : List Value} {x : Cf.Cfg} {A : Option Addr} {c : Nat} (hcv : CfsV w S l vs) (hc : x.stack.length ≤ c) (hr : RO w S 1 A x.stack.length (x.stack.map (Value.int .i64))) (ho : Only S w w') (hS : ∀ b, b < w.heap.size → S' b → S b)
    (hown : QAt w' B0 u' (l.length + 1) (vs ++ cfC x A c)) : Oq w' B0 S' u' (l ++ [x]) :=
  ⟨_, by rw [List.length_append]; exact hown, CfsV.only ho hS (CfsV.snoc ⟨A, c, rfl, hc, hr⟩ hcv)⟩
theorem setCells_block (g : Nat) (e : TypeId) : ∀ (vs : List Value) (o : Nat) (w : World) (cur : Array Value), w.heap[g]? = some (.cells cur e (0, 0)) → o + vs.length ≤ cur.size →
    ∃ cur' : Array Value, (w.setCells g o vs).heap[g]? = some (.cells cur' e (0, 0)) ∧ cur'.size = cur.size ∧ (∀ k, cur'[k]? = if o ≤ k ∧ k < o + vs.length then vs[k - o]? else cur[k]?) ∧ Only (fun k => k = g) w (w.setCells g o vs)
  | [], o, w, cur, h, _ => ⟨cur, h, rfl, fun k => by rw [if_neg (by rw [List.length_nil]; omega)], Only.refl _ _⟩
  | v :: vs, o, w, cur, h, hl => by
    rw [List.length_cons] at hl
    obtain ⟨cur', h1, h2, h3, h4⟩ := setCells_block g e vs (o + 1) (w.setCell ⟨g, o, none⟩ v) (cur.setIfInBounds o v) (heap_setCell_same w g o _ _ v h) (by simp; omega)
    refine ⟨cur', h1, by rw [h2]; simp, fun k => ?_, (Only.of_set w g o v).trans h4 fun _ _ e => e⟩
    rw [h3 k, List.length_cons]
    by_cases hk : k = o
    · subst hk
      rw [if_neg (by omega), if_pos (by omega), Nat.sub_self, Array.getElem?_setIfInBounds, if_pos rfl, if_pos (by omega)]
      rfl
    · by_cases h5 : o + 1 ≤ k ∧ k < o + 1 + vs.length
      · rw [if_pos h5, if_pos (by omega), show k - o = (k - (o + 1)) + 1 by omega]
        rfl
      · rw [if_neg h5, if_neg (by omega), Array.getElem?_setIfInBounds, if_neg (by omega)]
theorem wpList_pushQ5 (w : World) {ops : Array Oper} {rest : List Oper} {o : Oper} {a : Act} {Q : Exit → Act → World → Prop} (hgd : o.guard = none) (s x : Operand)
    (ho : o.op = .call { callee := .builtin .append, args := #[s, x], argTypes := #[45, 45] })
    (B0 : Nat) (v : Value) (n : Nat) (xs : List Value) (hs : a.eval s = v) (hq : QAt w B0 v n xs)
    (cs : List Value) (b : Nat) (hx : a.eval x = .slice (some ⟨b, 0, none⟩) 1 1) (hbs : b = w.heap.size) (hl : cs.length = 5) (h1 : ∀ u ∈ cs, u.oneCell' = true) (hn : n + 1 ≤ 1000000000) (hB : B0 ≤ w.heap.size)
    (h : ∀ v' w', QAt w' B0 v' (n + 1) (xs ++ cs) → Gr w v v' → Only (fun k => v.ownBlock = some k) w w' → wpList Tryz.prog ops Q rest (a.put o.dst v') w') : wpList Tryz.prog ops Q (o :: rest) a (w.alloc (.cells cs.toArray 103)) := by
  obtain ⟨iC, hiC, hzC, hsC, hyC⟩ := info_of infoRC
  obtain ⟨hlx, hq⟩ := hq
  rcases hq with ⟨rfl, rfl⟩ | ⟨g, off, c, cur, rfl, hbg, hg, hoc, hxc, hcm, hcells⟩
  · have hxs : xs = [] := List.eq_nil_of_length_eq_zero (by omega)
    subst hxs
    refine wpList_push4 w hgd s x 45 ho B0 103 iC _ 5 48 Tryz.underlying45 hiC hzC hsC hyC rfl (by omega) (.slice none 0 0) 0 [] hs (World.ownsRow_nil _ _ _ _) cs 1 b hx hbs (by omega) h1 (by omega) (by simp only [maxLen]; omega) (by omega) hB ?_
    intro g c w' hown hg hO
    refine h _ _ (.of_own hown) (.inr fun k hk => ?_) hO
    rcases hg with e | e
    · cases e
    · injection hk with hk
      have hk : g = k := hk
      omega
  · rw [hbs] at hx
    have hgl := heap_lt hg
    have hgW : (w.alloc (.cells cs.toArray 103)).heap[g]? = some (.cells cur 103 (0, 0)) := (Below.heap_alloc w _ _ hgl).trans hg
    refine wpList_append_arg (P := Tryz.prog) (w.alloc (.cells cs.toArray 103)) hgd s x _ ho 103 iC _ 5 48 Tryz.underlying45 hiC hzC hsC hyC rfl (by omega) g off n c xs hs hlx
      (fun j y hy => by rw [Lib.cell_of_heap hgW]; exact hcells j y hy) ⟨w.heap.size, 0, none⟩ 1 1 cs hx hl (fun j y hy => ?_) h1
      (fun hroom j hj => ?_) (by simp only [maxLen]; omega) (by omega) (fun hroom => ?_) (fun hgrow v' w' hown hgr => ?_)
    · rw [addr_off, cell_new]
      simpa using hy
    · refine ⟨?_, Lib.frozen_of_heap hgW _⟩
      rw [Lib.cell_of_heap hgW, Array.getElem?_eq_getElem (by omega)]
      rfl
    · obtain ⟨cur', q1, q2, q3, q4⟩ := setCells_block g 103 cs (off + n * 5) _ cur hgW (by omega)
      refine h _ _ ⟨by rw [List.length_append]; omega, .inr ⟨g, off, c, cur', rfl, hbg, q1, by omega, by omega, hcm, fun j y hy => ?_⟩⟩ (.inl rfl) ?_
      · rw [q3]
        rcases Nat.lt_or_ge j xs.length with hj | hj
        · rw [List.getElem?_append_left hj] at hy
          rw [if_neg (by omega)]
          exact hcells j y hy
        · rw [List.getElem?_append_right hj] at hy
          have hj1 : j - xs.length < cs.length := (List.getElem?_eq_some_iff.1 hy).1
          rw [if_pos (by omega), show off + j - (off + n * 5) = j - xs.length by omega]
          exact hy
      · exact ((Only.of_below (below_new w _)).trans q4 fun _ _ e => e).more fun k _ e => by rw [e]; rfl
    · have hsz : (w.alloc (.cells cs.toArray 103)).heap.size = w.heap.size + 1 := by simp
      refine h _ _ (.of_own (own_lower hown (by omega))) (.inr fun k hk => ?_) ⟨hgr.os, hgr.tape, hgr.output, by have := hgr.size; omega, fun k hk _ => ?_⟩
      · have := (hown.lt k hk).1; omega
      · rw [hgr.block k (by omega) (by simp)]
        exact Below.heap_alloc w _ _ hk
theorem CfR.farS {S0 : Nat → Prop} {w : World} {A : Option Addr} {l : List Cf.Cfg} (h : CfR w S0 A l) (j : Nat) (hj : j < l.length) : ∃ b off B c, A = some ⟨b, off, none⟩ ∧ b < w.heap.size ∧ l[j].stack.length ≤ c ∧ ∀ wz, Below w.heap.size w wz → (RO wz (fun k => S0 k ∨ w.heap.size ≤ k) 1 B l[j].stack.length (l[j].stack.map (Value.int .i64)) ∧
    wz.cell? ⟨b, off + j * 5, none⟩ = some (.int .i64 l[j].alt) ∧ wz.cell? ⟨b, off + j * 5 + 1, none⟩ = some (.int .i64 l[j].state) ∧ wz.cell? ⟨b, off + j * 5 + 2, none⟩ = some (.slice B l[j].stack.length c) ∧ wz.cell? ⟨b, off + j * 5 + 3, none⟩ = some (.bool l[j].exact) ∧ wz.cell? ⟨b, off + j * 5 + 4, none⟩ = some (.bool l[j].ended)) := by
  obtain ⟨b, off, B, c, hA, hb, _, hc, hr, r0, r1, r2, r3, r4⟩ := h.at j hj
  refine ⟨b, off, B, c, hA, hb, hc, fun wz hz => ⟨hr.only (Only.of_below hz) (fun b hb e => e.elim id (fun e => by omega)), ?_, ?_, ?_, ?_, ?_⟩⟩
  · exact (hz.cell (p := ⟨b, off + j * 5, none⟩) hb).trans r0
  · exact (hz.cell (p := ⟨b, off + j * 5 + 1, none⟩) hb).trans r1
  · exact (hz.cell (p := ⟨b, off + j * 5 + 2, none⟩) hb).trans r2
  · exact (hz.cell (p := ⟨b, off + j * 5 + 3, none⟩) hb).trans r3
  · exact (hz.cell (p := ⟨b, off + j * 5 + 4, none⟩) hb).trans r4
theorem CfR.far {w : World} {A : Option Addr} {l : List Cf.Cfg} (h : CfR w (fun _ => False) A l) (j : Nat) (hj : j < l.length) : ∃ b off B c, A = some ⟨b, off, none⟩ ∧ b < w.heap.size ∧ l[j].stack.length ≤ c ∧ ∀ wz, Below w.heap.size w wz → (RO wz (fun k => w.heap.size ≤ k) 1 B l[j].stack.length (l[j].stack.map (Value.int .i64)) ∧
    wz.cell? ⟨b, off + j * 5, none⟩ = some (.int .i64 l[j].alt) ∧ wz.cell? ⟨b, off + j * 5 + 1, none⟩ = some (.int .i64 l[j].state) ∧ wz.cell? ⟨b, off + j * 5 + 2, none⟩ = some (.slice B l[j].stack.length c) ∧ wz.cell? ⟨b, off + j * 5 + 3, none⟩ = some (.bool l[j].exact) ∧ wz.cell? ⟨b, off + j * 5 + 4, none⟩ = some (.bool l[j].ended)) := by
  obtain ⟨b, off, B, c, hA, hb, hc, hf⟩ := h.farS j hj
  exact ⟨b, off, B, c, hA, hb, hc, fun wz hz => ⟨(hf wz hz).1.only (Only.refl _ _) (fun _ _ e => .inr e), (hf wz hz).2⟩⟩
theorem RO.weak {w : World} {S S' : Nat → Prop} {n s : Nat} {A : Option Addr} {xs : List Value} (h : RO w S s A n xs) (hS : ∀ b, b < w.heap.size → S' b → S b) : RO w S' s A n xs := h.only (Only.refl _ _) hS
theorem QAt.form {w : World} {B0 n : Nat} {v : Value} {xs : List Value} (h : QAt w B0 v n xs) : ∃ A c, v = .slice A n c := by
  rcases h.2 with ⟨rfl, rfl⟩ | ⟨b, off, c, cur, rfl, _⟩
  · exact ⟨none, 0, rfl⟩
  · exact ⟨_, c, rfl⟩
theorem gr_of {w : World} {v : Value} {g o n c : Nat} (h : v.ownBlock = some g ∨ w.heap.size < g) : Gr w v (.slice (some ⟨g, o, none⟩) n c) := by
  rcases h with h | h
  · exact .inl h.symm
  · refine .inr fun k hk => ?_
    injection hk with hk
    have hk : g = k := hk
    omega
section
variable {S0 : Nat → Prop} {w w' : World} {B0 : Nat} {um uk uh uq u' : Value} {met kept had wait L' : List Cf.Cfg} {vs vs' : List Value} {x : Cf.Cfg} {A : Option Addr} {c g cg : Nat}
theorem RcR.push_h (h : RcR S0 w B0 um uk uh uq met kept had wait) (hcv : CfsV w (RS S0 um uk uh uq) had vs) (hc : x.stack.length ≤ c) (hr : RO w (RS S0 um uk uh uq) 1 A x.stack.length (x.stack.map (Value.int .i64))) (ho : Only (fun k => uh.ownBlock = some k) w w') (hg : uh.ownBlock = some g ∨ w.heap.size < g)
    (hown : w'.ownsRow B0 103 5 (.slice (some ⟨g, 0, none⟩) (had.length + 1) cg) (had.length + 1) (vs ++ cfC x A c)) : RcR S0 w' B0 um uk (.slice (some ⟨g, 0, none⟩) (had.length + 1) cg) uq met kept (had ++ [x]) wait :=
  h.turn_h ho (gr_of hg) (Ow.snoc hcv hc hr (ho.more fun _ _ e => .inr (.inr (.inl e))) (rs_gr (.inl rfl) (.inl rfl) (.inr (gr_of hg)) (.inl rfl)) hown)
theorem RcR.push_q (h : RcR S0 w B0 um uk uh uq met kept had wait) (hcv : CfsV w (RS S0 um uk uh uq) wait vs) (hc : x.stack.length ≤ c) (hr : RO w (RS S0 um uk uh uq) 1 A x.stack.length (x.stack.map (Value.int .i64))) (ho : Only (fun k => uq.ownBlock = some k) w w') (hg : Gr w uq u')
    (hown : QAt w' B0 u' (wait.length + 1) (vs ++ cfC x A c)) : RcR S0 w' B0 um uk uh u' met kept had (wait ++ [x]) :=
  h.turn_q ho hg (Oq.snoc hcv hc hr (ho.more fun _ _ e => .inr (.inr (.inr (.inl e)))) (rs_gr (.inl rfl) (.inl rfl) (.inl rfl) (.inr hg)) hown)
theorem RcR.put_m (h : RcR S0 w B0 um uk uh uq met kept had wait) (hown : w'.ownsRow B0 103 5 u' L'.length vs') (hcv : ∀ S' : Nat → Prop, (∀ b, b < w.heap.size → S' b → RS S0 um uk uh uq b) → CfsV w' S' L' vs') (ho : Only (fun k => um.ownBlock = some k) w w') (hg : Gr w um u') :
    RcR S0 w' B0 u' uk uh uq L' kept had wait := h.turn_m ho hg ⟨vs', hown, hcv _ (rs_gr (.inr hg) (.inl rfl) (.inl rfl) (.inl rfl))⟩
theorem RcR.put_k (h : RcR S0 w B0 um uk uh uq met kept had wait) (hown : w'.ownsRow B0 103 5 u' L'.length vs') (hcv : ∀ S' : Nat → Prop, (∀ b, b < w.heap.size → S' b → RS S0 um uk uh uq b) → CfsV w' S' L' vs') (ho : Only (fun k => uk.ownBlock = some k) w w') (hg : Gr w uk u') :
    RcR S0 w' B0 um u' uh uq met L' had wait := h.turn_k ho hg ⟨vs', hown, hcv _ (rs_gr (.inl rfl) (.inr hg) (.inl rfl) (.inl rfl))⟩
theorem RcR.stay (h : RcR S0 w B0 um uk uh uq met kept had wait) (hB : B0 ≤ w.heap.size) {S : Nat → Prop} (ho : Only S w w') (hS : ∀ k, S k → RS (fun _ => False) um uk uh uq k) : Below B0 w w' := ho.below' (fun k hk => (h.lt k (hS k hk)).1) hB
theorem RcR.weak {n s B1 : Nat} {xs : List Value} (h : RcR S0 w B0 um uk uh uq met kept had wait) (hr : RO w (fun k => S0 k ∨ B1 ≤ k) s A n xs) (hB : B1 ≤ B0) : RO w (RS S0 um uk uh uq) s A n xs := RO.weak hr fun k _ e => by
  rcases e with e | e | e | e | e
  · exact .inr (Nat.le_trans hB (h.m.lt k e).1)
  · exact .inr (Nat.le_trans hB (h.k.lt k e).1)
  · exact .inr (Nat.le_trans hB (h.h.lt k e).1)
  · exact .inr (Nat.le_trans hB (h.q.lt k e).1)
  · exact .inl e
theorem RcR.ltS (h : RcR S0 w B0 um uk uh uq met kept had wait) (h0 : ∀ b, S0 b → b < w.heap.size) : ∀ k, RS S0 um uk uh uq k → k < w.heap.size := by
  intro k e
  rcases e with e | e | e | e | e
  · exact (h.m.lt k e).2
  · exact (h.k.lt k e).2
  · exact (h.h.lt k e).2
  · exact (h.q.lt k e).2
  · exact h0 k e
theorem RcR.ro {S : Nat → Prop} {um' uk' uh' uq' : Value} {n s : Nat} {xs : List Value} (h : RO w (RS S0 um uk uh uq) s A n xs) (ho : Only S w w') (hS : ∀ k, S k → RS S0 um uk uh uq k) (hR : ∀ b, b < w.heap.size → RS S0 um' uk' uh' uq' b → RS S0 um uk uh uq b) : RO w' (RS S0 um' uk' uh' uq') s A n xs :=
  h.only (ho.more fun k _ => hS k) hR
end
theorem CfR.lit {w : World} {S : Nat → Prop} {b off : Nat} {l : List Cf.Cfg} (h : CfR w S (some ⟨b, off, none⟩) l) (i : Nat) (hi : i < l.length) : ∃ B c, b < w.heap.size ∧ l[i].stack.length ≤ c ∧ RO w S 1 B l[i].stack.length (l[i].stack.map (Value.int .i64)) ∧
    w.cell? ⟨b, off + i * 5, none⟩ = some (.int .i64 l[i].alt) ∧ w.cell? ⟨b, off + i * 5 + 1, none⟩ = some (.int .i64 l[i].state) ∧ w.cell? ⟨b, off + i * 5 + 2, none⟩ = some (.slice B l[i].stack.length c) ∧ w.cell? ⟨b, off + i * 5 + 3, none⟩ = some (.bool l[i].exact) ∧ w.cell? ⟨b, off + i * 5 + 4, none⟩ = some (.bool l[i].ended) := by
  obtain ⟨b', off', B, c, hA, hb, _, hc, hr, hx⟩ := h.at i hi
  injection hA with hA
  injection hA with h1 h2 _
  subst h1 h2
  exact ⟨B, c, hb, hc, hr, hx⟩
theorem CfR.some {w : World} {S : Nat → Prop} {A : Option Addr} {l : List Cf.Cfg} (h : CfR w S A l) (i : Nat) (hi : i < l.length) : ∃ b off, A = .some ⟨b, off, none⟩ := by
  obtain ⟨b, off, B, c, hA, _⟩ := h.at i hi
  exact ⟨b, off, hA⟩
end Go.Proofs.YtnpcjbdolmmaeaaGreatDoor
namespace Go.Proofs.YtnpcjbdolmmaeaaGreatDoor
open Go.RowKit
set_option maxRecDepth 100000
structure Bxd (p : Prop) : Prop where
  out : p
def NoInt (w : World) (k : Nat) : Prop := ∀ o z, w.cell? ⟨k, o, none⟩ ≠ some (.int .i64 z)
theorem NoInt.of {w : World} {k : Nat} {T : TypeId} {a1 a2 : Option Addr} {n1 n2 c1 c2 : Nat} {b : Bool} (h : w.heap[k]? = some (.cells #[.slice a1 n1 c1, .slice a2 n2 c2, .bool b] T (0, 0))) : NoInt w k := by
  intro o z e
  rw [Lib.cell_of_heap h] at e
  match o, e with
  | 0, e => cases e
  | 1, e => cases e
  | 2, e => cases e
  | o + 3, e => simp at e
theorem RO.not_or {w : World} {S : Nat → Prop} {k n : Nat} {A : Option Addr} {l : List Int} (h : RO w S 1 A n (l.map (Value.int .i64))) (hk : NoInt w k) : RO w (fun b => b = k ∨ S b) 1 A n (l.map (Value.int .i64)) := by
  refine ⟨h.1, fun hn => ?_⟩
  obtain ⟨b, off, e, hb, hns, hc⟩ := h.2 hn
  refine ⟨b, off, e, hb, fun e => e.elim (fun e => ?_) hns, hc⟩
  have h1 := h.1
  rw [List.length_map] at h1
  have h0 := hc 0 (.int .i64 l[0]) (by rw [List.getElem?_map, List.getElem?_eq_getElem (by omega)]; rfl)
  rw [e] at h0
  exact hk _ _ h0
theorem CfsV.not_or {w : World} {S : Nat → Prop} {k : Nat} (hk : NoInt w k) : ∀ {l : List Cf.Cfg} {vs : List Value}, CfsV w S l vs → CfsV w (fun b => b = k ∨ S b) l vs
  | [], _, h => h
  | _ :: _, _, h => by
    obtain ⟨a, b, e, ⟨A, c, ea, hc, hr⟩, h2⟩ := h
    exact ⟨a, b, e, ⟨A, c, ea, hc, hr.not_or hk⟩, CfsV.not_or hk h2⟩
theorem CfR.not_or {w : World} {S : Nat → Prop} {k : Nat} {A : Option Addr} {l : List Cf.Cfg} (h : CfR w S A l) (hk : NoInt w k) : CfR w (fun b => b = k ∨ S b) A l := by
  obtain ⟨vs, hr, hv⟩ := h
  refine ⟨vs, ⟨hr.1, fun hn => ?_⟩, hv.not_or hk⟩
  obtain ⟨b, off, e, hb, hns, hc⟩ := hr.2 hn
  refine ⟨b, off, e, hb, fun e => e.elim (fun e => ?_) hns, hc⟩
  obtain ⟨A1, c1, _, _, h5⟩ := hv.at 0 hn
  have h0 := hc 0 (.int .i64 l[0].alt) (by have := h5 0 (by omega); rw [Nat.zero_mul, Nat.zero_add] at this; rw [this]; rfl)
  rw [e] at h0
  exact hk _ _ h0
theorem RO.of_own0 {w : World} {base : Nat} {T : TypeId} {size n : Nat} {A : Option Addr} {c : Nat} {xs : List Value} {S : Nat → Prop} (h : w.ownsRow base T size (.slice A n c) n xs) (hS : ∀ b, S b → b < base) : RO w S size A n xs := by
  have h2 := RO.of_reads (S := fun _ => False) (Reads.of_own h) (Nat.le_refl _) (fun _ e => e.elim)
  refine ⟨h2.1, fun hn => ?_⟩
  obtain ⟨b, off, e, hb, _, hc⟩ := h2.2 hn
  refine ⟨b, off, e, hb, fun hs => ?_, hc⟩
  have := hS b hs
  have := (h.lt b (by rw [e]; rfl)).1
  omega
theorem CfsV.unsnoc {w : World} {S : Nat → Prop} {y : Cf.Cfg} : ∀ {l : List Cf.Cfg} {vs : List Value}, CfsV w S (l ++ [y]) vs → ∃ va A c, vs = va ++ cfC y A c ∧ CfsV w S l va ∧ y.stack.length ≤ c ∧ RO w S 1 A y.stack.length (y.stack.map (Value.int .i64))
  | [], _, h => by
    obtain ⟨a, b, e, ⟨A, c, ea, hc, hr⟩, h2⟩ := h
    have h2 : b = [] := h2
    exact ⟨[], A, c, by rw [e, ea, h2]; simp, rfl, hc, hr⟩
  | x :: l, _, h => by
    obtain ⟨a, b, e, h1, h2⟩ := h
    obtain ⟨va, A, c, e2, h3, hc, hr⟩ := CfsV.unsnoc h2
    exact ⟨a ++ va, A, c, by rw [e, e2, List.append_assoc], ⟨a, va, rfl, h1, h3⟩, hc, hr⟩
theorem FI.last {w0 wr : World} {S : Nat → Prop} {u : Value} {L : List Cf.Cfg} {y : Cf.Cfg} (h : FI w0 S u (L ++ [y]) wr) : ∃ g c A cy, u = .slice (some ⟨g, 0, none⟩) (L.length + 1) c ∧ g < wr.heap.size ∧ (∀ i, wr.frozen? ⟨g, i, none⟩ = false) ∧ Reads wr wr.heap.size 1 A y.stack.length (y.stack.map (Value.int .i64)) ∧
    wr.cell? ⟨g, L.length * 5, none⟩ = some (.int .i64 y.alt) ∧ wr.cell? ⟨g, L.length * 5 + 1, none⟩ = some (.int .i64 y.state) ∧ wr.cell? ⟨g, L.length * 5 + 2, none⟩ = some (.slice A y.stack.length cy) ∧ wr.cell? ⟨g, L.length * 5 + 3, none⟩ = some (.bool y.exact) ∧ wr.cell? ⟨g, L.length * 5 + 4, none⟩ = some (.bool y.ended) ∧
    FI w0 S u (L ++ [Cf.exq y]) (wr.setCell ⟨g, L.length * 5 + 3, none⟩ (.bool true)) := by
  obtain ⟨vs, hown, hcv, hb⟩ := h
  obtain ⟨va, A, cy, rfl, hva, hc, hr⟩ := hcv.unsnoc
  have hlv := hva.len
  rw [List.length_append, List.length_singleton] at hown
  rcases hown.2 with ⟨_, h0⟩ | ⟨g, cap, cur, rfl, hbg, hg, hcc, hcm, hsz, htk⟩
  · omega
  have cells := hown.cells (g := g) rfl
  have hcell : ∀ k u, (cfC y A cy)[k]? = some u → wr.cell? ⟨g, L.length * 5 + k, none⟩ = some u := fun k u hu => by
    have := cells (L.length * 5 + k) u (by rw [List.getElem?_append_right (by omega), hlv, show L.length * 5 + k - L.length * 5 = k by omega]; exact hu)
    rw [addr_off] at this
    simpa using this
  refine ⟨g, cap, A, cy, rfl, heap_lt hg, Lib.frozen_of_heap hg, hr.reads, hcell 0 _ rfl, hcell 1 _ rfl, hcell 2 _ rfl, hcell 3 _ rfl, hcell 4 _ rfl, ?_⟩
  have hst := (hown.stored (L.length * 5 + 3) (.bool true)).1
  have hset : Only (fun k => k = g) wr (wr.setCell ⟨g, L.length * 5 + 3, none⟩ (.bool true)) := Only.of_set _ _ _ _
  refine ⟨_, by rw [List.length_append, List.length_singleton]; exact hst, ?_, hb.trans (hset.below' (fun k e => by omega) hb.size)⟩
  have hxs : (va ++ cfC y A cy).set (L.length * 5 + 3) (.bool true) = va ++ cfC (Cf.exq y) A cy := by
    rw [List.set_append_right _ _ (by omega), hlv, show L.length * 5 + 3 - L.length * 5 = 3 by omega]
    rfl
  rw [hxs]
  have hs : ∀ k, k = g → (S k ∧ k < w0.heap.size) ∨ (Value.slice (some ⟨g, 0, none⟩) (L.length + 1) cap).ownBlock = some k := fun k e => .inr (by rw [e]; rfl)
  exact CfsV.only (hset.more fun k _ e => hs k e) (fun _ _ e => e) (CfsV.snoc (x := Cf.exq y) ⟨A, cy, rfl, hc, hr⟩ hva)
namespace Cf
theorem outStep_len (s : Int) (acc : List Cfg) (x : Cfg) : (outStep s acc x).length ≤ acc.length + 1 := by
  unfold outStep
  split
  · omega
  · split
    · simp
    · split
      · simp only [List.length_append, List.length_dropLast, List.length_singleton]; omega
      · simp
theorem outR_len (s : Int) (l : List Cfg) : (outR s l).length ≤ l.length := by
  have : ∀ (l : List Cfg) (acc : List Cfg), (l.foldl (outStep s) acc).length ≤ acc.length + l.length := by
    intro l
    induction l with
    | nil => intro acc; exact Nat.le_refl _
    | cons x l ih =>
      intro acc
      have h1 := ih (outStep s acc x)
      have h2 := outStep_len s acc x
      rw [List.foldl_cons, List.length_cons]
      omega
  have := this l []
  simpa [outR] using this
theorem outStep_skip {s : Int} {acc : List Cfg} {x : Cfg} (h : s < x.alt) : outStep s acc x = acc := by unfold outStep; rw [if_pos h]
theorem outStep_nil {s : Int} {x : Cfg} (h : ¬ s < x.alt) : outStep s [] x = [x] := by unfold outStep; rw [if_neg h]; rfl
theorem outStep_one {s : Int} {acc : List Cfg} {x y : Cfg} (h : ¬ s < x.alt) (ho : ord y x = 1) : outStep s (acc ++ [y]) x = acc ++ [exq y] := by
  unfold outStep; rw [if_neg h, List.getLast?_concat]; dsimp only; rw [if_pos ho, List.dropLast_concat]
theorem outStep_new {s : Int} {acc : List Cfg} {x y : Cfg} (h : ¬ s < x.alt) (ho : ord y x ≠ 1) : outStep s (acc ++ [y]) x = acc ++ [y] ++ [x] := by
  unfold outStep; rw [if_neg h, List.getLast?_concat]; dsimp only; rw [if_neg ho]
end Cf
end Go.Proofs.YtnpcjbdolmmaeaaGreatDoor
