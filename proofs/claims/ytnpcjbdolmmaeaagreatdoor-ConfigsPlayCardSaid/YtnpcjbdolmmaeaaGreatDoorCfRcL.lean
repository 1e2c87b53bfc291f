/-
  Configs: plain law of the document's closing gone through: what holds amid it, what it answers.
-/
import Derived.Test.YtnpcjbdolmmaeaaGreatDoorCfRef
import Derived.Test.YtnpcjbdolmmaeaaGreatDoorCfInv
namespace Go.Proofs.YtnpcjbdolmmaeaaGreatDoor
namespace Cf
open Drv
def Sz (v : Vw) (x : Cfg) : Prop := has v x = true ∧ x.stack.length ≤ 5601
theorem come_len {v : Vw} {x y : Cfg} (h : y ∈ comeOf v x) : y.stack.length ≤ x.stack.length + 1 := by
  unfold comeOf at h
  rcases List.mem_append.1 h with h | h
  · obtain ⟨e, _, h⟩ := List.mem_flatMap.1 h
    unfold comeE at h
    split at h
    · rw [List.mem_singleton] at h; subst h; exact Nat.le_succ _
    · split at h
      · rw [List.mem_singleton] at h; subst h; exact Nat.le_succ _
      · split at h
        · rw [List.mem_singleton] at h; subst h
          show (x.stack ++ [e.to]).length ≤ _
          simp
        · cases h
  · obtain ⟨t, _, h⟩ := List.mem_flatMap.1 h
    split at h
    · rw [List.mem_singleton] at h; subst h
      show x.stack.dropLast.length ≤ _
      rw [List.length_dropLast]; omega
    · cases h
/-- amid the pushes -/
structure PuI (v : Vw) (k : Nat) (p : List Cfg × List Cfg) : Prop where
  m : p.1.length ≤ k
  q : p.2.length ≤ k
  sm : ∀ x ∈ p.1, Sz v x
theorem PuI.step {v : Vw} {k : Nat} {p : List Cfg × List Cfg} (h : PuI v k p) {x : Cfg} (hx : x.stack.length ≤ 5601) : PuI v (k + 1) (pushR v p x) := by
  unfold pushR
  split
  · exact ⟨Nat.le_succ_of_le h.m, Nat.le_succ_of_le h.q, h.sm⟩
  · next hh =>
    have hh : has v x = true := by simpa using hh
    cases hp : (putL p.1 x).2 with
    | true =>
      refine ⟨by rw [putL_len _ _ hp]; exact Nat.succ_le_succ h.m, by rw [if_pos rfl, List.length_append, List.length_singleton]; exact Nat.succ_le_succ h.q, fun y hy => ?_⟩
      rcases (putL_mem p.1 x y hp).1 hy with e | e
      · exact h.sm y e
      · subst e; exact ⟨hh, hx⟩
    | false =>
      have : (putL p.1 x).1 = p.1 := by
        rw [putL_ix] at hp ⊢
        split at hp
        · next e => rw [if_pos e]
        · cases hp
      rw [if_neg (by decide), this]
      exact ⟨Nat.le_succ_of_le h.m, Nat.le_succ_of_le h.q, h.sm⟩
theorem PuI.take {v : Vw} {k : Nat} {p : List Cfg × List Cfg} (h : PuI v k p) : ∀ (l : List Cfg), (∀ x ∈ l, x.stack.length ≤ 5601) → PuI v (k + l.length) (l.foldl (pushR v) p)
  | [], _ => h
  | x :: l, hl => by
    have := PuI.take (h.step (hl x (by simp))) l fun y hy => hl y (by simp [hy])
    rw [List.foldl_cons, List.length_cons]
    exact ⟨Nat.le_trans this.m (by omega), Nat.le_trans this.q (by omega), this.sm⟩
theorem PuI.start (v : Vw) : PuI v 0 ([], []) := ⟨Nat.le_refl _, Nat.le_refl _, fun _ h => by cases h⟩
/-- the main loop: what holds at its head -/
structure RcI (v : Vw) (l : List Cfg) (n : Nat) (c : Cl) (met q kept : List Cfg) (over : Bool) : Prop where
  run : Run v c n
  cl : closed v l = runC v (2002 - n) n c
  ov : c.over = over
  tl : over = false → Tells c n met q ∧ KT c.kept kept
  fuel : n ≤ 2001
theorem RcI.start {v : Vw} {l : List Cfg} (hl : ∀ x ∈ l, Bd v x) : RcI v l 0 (Cf.start v l) (l.foldl (pushR v) ([], [])).1 (l.foldl (pushR v) ([], [])).2 [] (decide (2000 < (l.foldl (pushR v) ([], [])).1.length)) := by
  have ht : Tells (Cf.start v l) 0 (l.foldl (pushR v) ([], [])).1 (l.foldl (pushR v) ([], [])).2 := Tells.pushes (c := ⟨[], [], false⟩) (at0 := 0) l ⟨List.Pairwise.nil, fun _ => Iff.rfl, rfl, rfl, Nat.le_refl _⟩
  refine ⟨Run.start l hl Run.start0, rfl, ?_, fun _ => ⟨ht, ?_⟩, by omega⟩
  · rw [ht.len]
    exact meets_over v l ⟨[], [], false⟩ rfl
  · have : (Cf.start v l).kept = [] := meets_kept v l _
    rw [this]; exact KT.start
section
variable {v : Vw} {l : List Cfg} {n : Nat} {c : Cl} {met q kept : List Cfg} {x : Cfg}
theorem RcI.len (h : RcI v l n c met q kept false) : c.wait.length ≤ 2000 ∧ met.length ≤ 2000 ∧ q.length ≤ 2000 ∧ n ≤ 2000 := by
  have h1 := h.run.m h.ov
  have h2 := (h.tl rfl).1.len
  have h3 := congrArg List.length (h.tl rfl).1.q
  have h4 := (h.tl rfl).1.at0
  rw [List.length_drop] at h3
  omega
theorem RcI.sz (h : RcI v l n c met q kept false) (w : OkW v) : ∀ x ∈ met, Sz v x := fun x hx => by
  have hx := ((h.tl rfl).1.mem x).1 hx
  obtain ⟨m, hb⟩ := h.run.b
  exact ⟨h.run.has x hx, Nat.le_succ_of_le ((hb.wait x hx).len w)⟩
theorem RcI.qb (h : RcI v l n c met q kept false) : ∀ x ∈ q, Bd v x ∧ has v x = true := fun x hx => by
  rw [(h.tl rfl).1.q] at hx
  have hx := List.mem_of_mem_drop hx
  obtain ⟨m, hb⟩ := h.run.b
  exact ⟨hb.wait x hx, h.run.has x hx⟩
theorem RcI.kw (h : RcI v l n c met q kept false) : ∀ x ∈ kept, ∃ y ∈ c.wait, x = y ∨ x = endC y := fun x hx => h.run.kw x (((h.tl rfl).2.mem x).1 hx)
theorem RcI.ksz (h : RcI v l n c met q kept false) (w : OkW v) : ∀ x ∈ kept, Sz v x := fun x hx => by
  obtain ⟨y, hy, e⟩ := h.kw x hx
  obtain ⟨m, hb⟩ := h.run.b
  have h1 := h.run.has y hy
  have h2 := Nat.le_succ_of_le ((hb.wait y hy).len w)
  rcases e with e | e
  · subst e; exact ⟨h1, h2⟩
  · subst e; exact ⟨h1, h2⟩
theorem RcI.klen (h : RcI v l n c met q kept false) : kept.length ≤ 4000 := by
  have h1 := pigeon (fun x : Cfg => x) kept (c.wait ++ c.wait.map endC) (h.tl rfl).2.dst (fun x hx => by
    obtain ⟨y, hy, e | e⟩ := h.kw x hx
    · subst e; exact List.mem_append_left _ hy
    · subst e; exact List.mem_append_right _ (List.mem_map_of_mem hy))
  have h2 := h.len.1
  simp only [List.length_append, List.length_map] at h1
  omega
theorem RcI.at (h : RcI v l n c met (x :: q) kept false) : ∃ hn : n < c.wait.length, c.wait[n] = x := by
  have h1 := (h.tl rfl).1.q
  have h2 : n < c.wait.length := by
    have := congrArg List.length h1
    simp at this; omega
  refine ⟨h2, ?_⟩
  rw [List.drop_eq_getElem_cons h2] at h1
  injection h1 with h1
  exact h1.symm
theorem RcI.cl1 (h : RcI v l n c met (x :: q) kept false) : closed v l = runC v (2002 - (n + 1)) (n + 1) (close1 v c x) := by
  obtain ⟨hn, hx⟩ := h.at
  have h2 := h.len.2.2.2
  have h3 := runC_step (v := v) (f := 2001 - n) h.ov hn
  rw [h.cl, show 2002 - n = 2001 - n + 1 by omega, h3, hx]
  congr 1
  omega
theorem RcI.run1 (h : RcI v l n c met (x :: q) kept false) (w : OkW v) : Run v (close1 v c x) (n + 1) := by
  obtain ⟨hn, hx⟩ := h.at
  have := h.run.next w hn
  rw [hx] at this
  exact this
theorem RcI.end_ (h : RcI v l n c met (x :: q) kept false) (w : OkW v) (he : (turnR v x).ended = true) : RcI v l (n + 1) (close1 v c x) met q (putL kept (turnR v x)).1 false := by
  obtain ⟨h1, h2⟩ := h.tl rfl
  obtain ⟨h3, h4, h5⟩ := step_end h1 h2 h.ov he
  have := h.len.2.2.2
  exact ⟨h.run1 w, h.cl1, h5, fun _ => ⟨h3, h4⟩, by omega⟩
theorem RcI.full (h : RcI v l n c met (x :: q) kept false) (w : OkW v) (he : (turnR v x).ended = false) (hf : fullOf v x = true) (met' q' kept' : List Cfg) : RcI v l (n + 1) (close1 v c x) met' q' kept' true := by
  have := h.len.2.2.2
  exact ⟨h.run1 w, h.cl1, step_full he hf, fun e => (by cases e), by omega⟩
theorem RcI.more (h : RcI v l n c met (x :: q) kept false) (w : OkW v) (he : (turnR v x).ended = false) (hf : fullOf v x = false) :
    RcI v l (n + 1) (close1 v c x) ((comeOf v x).foldl (pushR v) (met, q)).1 ((comeOf v x).foldl (pushR v) (met, q)).2 (if staysOf v x = true then (putL kept x).1 else kept) (decide (2000 < ((comeOf v x).foldl (pushR v) (met, q)).1.length)) := by
  obtain ⟨h1, h2⟩ := h.tl rfl
  obtain ⟨h3, h4, h5⟩ := step_more h1 h2 h.ov (h.run.m h.ov) he hf
  have := h.len.2.2.2
  exact ⟨h.run1 w, h.cl1, h5, fun _ => ⟨h3, h4⟩, by omega⟩
theorem RcI.done {over : Bool} (h : RcI v l n c met q kept over) (hd : over = true ∨ q = []) : closed v l = c := by
  rw [h.cl]
  cases over with
  | true => exact runC_done (.inl h.ov)
  | false =>
    have hq : q = [] := by rcases hd with e | e; cases e; exact e
    have h1 := congrArg List.length (h.tl rfl).1.q
    rw [hq, List.length_drop] at h1
    exact runC_done (.inr (by simp at h1; omega))
theorem RcI.set_over {A : List Int} (h : RcI v l n c met q kept true) (hh : ∀ x ∈ l, has v x = true) (hA : Alts l A) : IsSet v l ⟨[], A, true⟩ ∧ SetB v ⟨[], A, true⟩ := by
  refine ⟨?_, ⟨fun _ h => (by cases h), Nat.zero_le _⟩⟩
  unfold IsSet
  rw [h.done (.inl rfl), if_pos h.ov, List.filter_eq_self.2 hh]
  exact ⟨rfl, rfl, hA⟩
theorem RcI.set_end {A : List Int} (h : RcI v l n c met [] kept false) (hA : Alts (outR (sureOf v kept) kept) A) : IsSet v l ⟨outR (sureOf v kept) kept, A, false⟩ ∧ SetB v ⟨outR (sureOf v kept) kept, A, false⟩ := by
  have h2 := (h.tl rfl).2
  have hc := h2.canon (sureOf v kept)
  have h1 := h.run.set h.ov hc
  refine ⟨?_, ⟨h1.1, h1.2⟩⟩
  unfold IsSet
  rw [h.done (.inr rfl), if_neg (by rw [h.ov]; decide), ← h2.sure]
  exact ⟨rfl, hc, hA⟩
end
/-- the least one that surely ended, one by one -/
def sureStep (m : Int) (x : Cfg) : Int := if x.ended = true ∧ x.exact = true ∧ x.alt < m then x.alt else m
theorem sure_steps (v : Vw) (l : List Cfg) : sureOf v l = l.foldl sureStep v.d.ends.length := by
  unfold sureOf
  have : ∀ (l : List Cfg) (m : Int), (l.filter fun x => x.ended && x.exact).foldl (fun m x => min m x.alt) m = l.foldl sureStep m := by
    intro l
    induction l with
    | nil => intro m; rfl
    | cons x l ih =>
      intro m
      rw [List.foldl_cons, ← ih]
      unfold sureStep
      cases h1 : x.ended
      · rw [List.filter_cons_of_neg (by simp [h1]), if_neg (fun h => by cases h.1)]
      · cases h2 : x.exact
        · rw [List.filter_cons_of_neg (by simp [h1, h2]), if_neg (fun h => by cases h.2.1)]
        · rw [List.filter_cons_of_pos (by rw [h1, h2]; rfl), List.foldl_cons]
          congr 1
          by_cases h3 : x.alt < m
          · rw [if_pos ⟨rfl, rfl, h3⟩]; omega
          · rw [if_neg (fun h => h3 h.2.2)]; omega
  exact this l _
theorem sureStep_le (m : Int) (x : Cfg) : sureStep m x ≤ m := by unfold sureStep; split <;> omega
end Cf
end Go.Proofs.YtnpcjbdolmmaeaaGreatDoor
