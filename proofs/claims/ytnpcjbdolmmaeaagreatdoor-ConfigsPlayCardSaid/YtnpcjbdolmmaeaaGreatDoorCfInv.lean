/-
  Sizes along a closing: stacks hold each state at most as often as the bound says; how long the lists grow: plain.
-/
import Derived.Test.YtnpcjbdolmmaeaaGreatDoorCfLaw
namespace Go.Proofs.YtnpcjbdolmmaeaaGreatDoor
namespace Cf
open Drv
def In64 (n : Int) : Prop := -9223372036854775808 ≤ n ∧ n ≤ 9223372036854775807
/-- a configuration of a view's: its stack holds states, each at most 'bound' times -/
structure Bd (v : Vw) (x : Cfg) : Prop where
  alt : In64 x.alt
  state : In64 x.state
  stk : ∀ n ∈ x.stack, 0 ≤ n ∧ n < (v.n.states.length : Int)
  cnt : ∀ n ∈ x.stack, ((x.stack.count n : Nat) : Int) ≤ v.bound
/-- a view whose net has few states and edges, and all that edges tell is there -/
structure OkW (v : Vw) : Prop where
  states : v.n.states.length ≤ 700
  edges : ∀ s ∈ v.n.states, s.edges.length ≤ 700
  bound : 1 ≤ v.bound ∧ v.bound ≤ 8
  to : ∀ s ∈ v.n.states, ∀ e ∈ s.edges, 0 ≤ e.to ∧ e.to < (v.n.states.length : Int)
  what : ∀ s ∈ v.n.states, ∀ e ∈ s.edges, e.kind = 2 → 0 ≤ e.what ∧ e.what < (v.n.starts.length : Int)
  starts : ∀ q ∈ v.n.starts, 0 ≤ q ∧ q < (v.n.states.length : Int)
theorem len_filter_split {α : Type} (p : α → Bool) : ∀ l : List α, l.length = (l.filter p).length + (l.filter fun x => !p x).length
  | [] => rfl
  | x :: l => by
    have := len_filter_split p l
    by_cases h : p x = true
    · simp [h]; omega
    · have h : p x = false := by simpa using h
      simp [h]; omega
theorem count_len (b : Nat) : ∀ (N : Nat) (l : List Int), (∀ n ∈ l, 0 ≤ n ∧ n < (N : Int)) → (∀ n ∈ l, l.count n ≤ b) → l.length ≤ N * b
  | 0, l, h, _ => by
    cases l with
    | nil => simp
    | cons x l => have := h x (by simp); omega
  | N + 1, l, h, hc => by
    have h1 := len_filter_split (fun n : Int => n == (N : Int)) l
    have h2 : (l.filter fun n : Int => n == (N : Int)).length ≤ b := by
      rw [← List.countP_eq_length_filter]
      by_cases hm : (N : Int) ∈ l
      · exact hc _ hm
      · have : List.count (N : Int) l = 0 := List.count_eq_zero.2 hm
        unfold List.count at this
        omega
    have h3 := count_len b N (l.filter fun n : Int => !(n == (N : Int))) (fun n hn => by
      have := h n (List.mem_filter.1 hn).1
      have h4 : ¬ n = (N : Int) := by simpa using (List.mem_filter.1 hn).2
      omega) (fun n hn => Nat.le_trans (List.Sublist.count_le n List.filter_sublist) (hc n (List.mem_filter.1 hn).1))
    have h5 : (N + 1) * b = N * b + b := Nat.succ_mul _ _
    omega
theorem Bd.len {v : Vw} {x : Cfg} (h : Bd v x) (k : OkW v) : x.stack.length ≤ 5600 := by
  have h1 := count_len v.bound.toNat v.n.states.length x.stack h.stk (fun n hn => by have := h.cnt n hn; omega)
  have h2 : v.n.states.length * v.bound.toNat ≤ 700 * 8 := Nat.mul_le_mul k.states (by have := k.bound.2; omega)
  omega
theorem state64 {v : Vw} (k : OkW v) {n : Int} (h : 0 ≤ n ∧ n < (v.n.states.length : Int)) : In64 n := by
  have := k.states
  constructor <;> omega
theorem Bd.at {v : Vw} {x : Cfg} (h : Bd v x) (k : OkW v) {n : Int} (hn : 0 ≤ n ∧ n < (v.n.states.length : Int)) (p : Bool) : Bd v (atC x n x.stack p) := ⟨h.alt, state64 k hn, h.stk, h.cnt⟩
theorem Bd.push {v : Vw} {x : Cfg} (h : Bd v x) (k : OkW v) {n m : Int} (hn : 0 ≤ n ∧ n < (v.n.states.length : Int)) (hm : 0 ≤ m ∧ m < (v.n.states.length : Int)) (hc : ¬ v.bound ≤ ((x.stack.count m : Nat) : Int)) (p : Bool) : Bd v (atC x n (x.stack ++ [m]) p) := by
  refine ⟨h.alt, state64 k hn, fun a ha => ?_, fun a ha => ?_⟩
  · rcases List.mem_append.1 ha with ha | ha
    · exact h.stk a ha
    · rw [List.mem_singleton.1 ha]; exact hm
  · show (((x.stack ++ [m]).count a : Nat) : Int) ≤ v.bound
    rw [List.count_append]
    by_cases e : a = m
    · subst e
      simp only [List.count_singleton_self]
      omega
    · have h0 : List.count a [m] = 0 := List.count_eq_zero.2 (by simpa using e)
      rw [h0]
      rcases List.mem_append.1 ha with ha | ha
      · have := h.cnt a ha; omega
      · exact absurd (List.mem_singleton.1 ha) e
theorem Bd.back {v : Vw} {x : Cfg} (h : Bd v x) (k : OkW v) (hne : x.stack ≠ []) (p : Bool) : Bd v (atC x (x.stack.getLastD 0) x.stack.dropLast p) := by
  refine ⟨h.alt, state64 k (h.stk _ ?_), fun a ha => h.stk a (List.dropLast_subset _ ha), fun a ha => ?_⟩
  · have : x.stack.getLastD 0 = x.stack.getLast hne := by
      rw [List.getLastD_eq_getLast?, List.getLast?_eq_some_getLast hne]; rfl
    rw [this]; exact List.getLast_mem hne
  · have h1 : x.stack.dropLast.count a ≤ x.stack.count a := List.Sublist.count_le a (List.dropLast_sublist _)
    have h2 := h.cnt a (List.dropLast_subset _ ha)
    show ((x.stack.dropLast.count a : Nat) : Int) ≤ v.bound
    omega
theorem Bd.end {v : Vw} {x : Cfg} (h : Bd v x) : Bd v ⟨x.alt, x.state, x.stack, x.exact, true⟩ := ⟨h.alt, h.state, h.stk, h.cnt⟩
/-- a closing's configurations are such; how many there are -/
structure ClB (v : Vw) (c : Cl) (m k : Nat) : Prop where
  wait : ∀ x ∈ c.wait, Bd v x
  kept : ∀ x ∈ c.kept, Bd v x
  m : c.wait.length ≤ m
  k : c.kept.length ≤ k
theorem ClB.mono {v : Vw} {c : Cl} {m k m' k' : Nat} (h : ClB v c m k) (hm : m ≤ m') (hk : k ≤ k') : ClB v c m' k' := ⟨h.wait, h.kept, Nat.le_trans h.m hm, Nat.le_trans h.k hk⟩
theorem ClB.meet {v : Vw} {c : Cl} {m k : Nat} (h : ClB v c m k) {x : Cfg} (hx : Bd v x) : ClB v (meet v c x) (m + 1) k := by
  unfold Cf.meet
  split
  · exact h.mono (Nat.le_succ _) (Nat.le_refl _)
  · refine ⟨fun y hy => ?_, h.kept, ?_, h.k⟩
    · rcases List.mem_append.1 hy with hy | hy
      · exact h.wait y hy
      · rw [List.mem_singleton.1 hy]; exact hx
    · have := h.m; simp; omega
theorem ClB.keep {v : Vw} {c : Cl} {m k : Nat} (h : ClB v c m k) {x : Cfg} (hx : Bd v x) : ClB v (keep c x) m (k + 1) := by
  refine ⟨h.wait, fun y hy => ?_, h.m, ?_⟩
  · rcases List.mem_append.1 hy with hy | hy
    · exact h.kept y hy
    · rw [List.mem_singleton.1 hy]; exact hx
  · have := h.k; unfold Cf.keep; simp; omega
theorem ClB.by1 {v : Vw} {c : Cl} {m k : Nat} (h : ClB v c m k) (w : OkW v) {x : Cfg} (hx : Bd v x) {s : NSt} (hs : s ∈ v.n.states) {e : Ed} (he : e ∈ s.edges) (p : Bool) : ClB v (by1 v x p c e) (m + 1) (k + 1) := by
  have ht := w.to s hs e he
  unfold Cf.by1
  split
  · exact (h.meet (hx.at w ht p)).mono (Nat.le_refl _) (Nat.le_succ _)
  · split
    · exact (h.meet (hx.at w ht false)).mono (Nat.le_refl _) (Nat.le_succ _)
    · split
      · exact (h.keep hx).mono (Nat.le_succ _) (Nat.le_refl _)
      · split
        · next h2 =>
          split
          · exact ⟨h.wait, h.kept, Nat.le_succ_of_le h.m, Nat.le_succ_of_le h.k⟩
          · next hc =>
            refine (h.meet (hx.push w ?_ ht hc true)).mono (Nat.le_refl _) (Nat.le_succ _)
            have hw := w.what s hs e he h2
            rw [List.getD_eq_getElem?_getD, List.getElem?_eq_getElem (by omega)]
            exact w.starts _ (List.getElem_mem _)
        · exact h.mono (Nat.le_succ _) (Nat.le_succ _)
theorem ClB.fold {v : Vw} (w : OkW v) {x : Cfg} (hx : Bd v x) {s : NSt} (hs : s ∈ v.n.states) (p : Bool) : ∀ (l : List Ed) {c : Cl} {m k : Nat}, (∀ e ∈ l, e ∈ s.edges) → ClB v c m k → ClB v (l.foldl (Cf.by1 v x p) c) (m + l.length) (k + l.length)
  | [], _, _, _, _, h => h
  | e :: l, c, m, k, hl, h => by
    have h1 := ClB.fold w hx hs p l (fun e he => hl e (by simp [he])) (h.by1 w hx hs (hl e (by simp)) p)
    rw [List.foldl_cons, List.length_cons]
    exact h1.mono (by omega) (by omega)
theorem stOf_mem {v : Vw} {x : Cfg} (h : 0 ≤ x.state ∧ x.state < (v.n.states.length : Int)) : stOf v x ∈ v.n.states := by
  unfold stOf
  rw [List.getD_eq_getElem?_getD, List.getElem?_eq_getElem (by omega)]
  exact List.getElem_mem _
theorem has_state {v : Vw} {x : Cfg} (h : has v x = true) : 0 ≤ x.alt ∧ x.alt < (v.d.ends.length : Int) ∧ 0 ≤ x.state ∧ x.state < (v.n.states.length : Int) := by
  unfold has at h
  simp only [Bool.and_eq_true, decide_eq_true_eq] at h
  exact ⟨h.1.1.1, h.1.1.2, h.1.2, h.2⟩
theorem ClB.close1 {v : Vw} {c : Cl} {m k : Nat} (h : ClB v c m k) (w : OkW v) {x : Cfg} (hx : Bd v x) (hh : has v x = true) : ClB v (close1 v c x) (m + 701) (k + 701) := by
  have hst := stOf_mem (has_state hh).2.2
  have hl := w.edges _ hst
  unfold Cf.close1
  split
  · exact (h.keep hx).mono (by omega) (by omega)
  · split
    · exact (h.keep hx.end).mono (by omega) (by omega)
    · have h1 := ClB.fold w hx hst (decide ((stOf v x).ends.length = 0)) (stOf v x).edges (fun _ e => e) h
      unfold back1
      split
      · exact h1.mono (by omega) (by omega)
      · next hc =>
        refine (h1.meet (hx.back w (fun e => hc (.inl e)) true)).mono (by omega) (by omega)
/-- all that was met is a view's -/
def AllHas (v : Vw) (c : Cl) : Prop := ∀ x ∈ c.wait, has v x = true
theorem AllHas.meet {v : Vw} {c : Cl} (h : AllHas v c) (x : Cfg) : AllHas v (Cf.meet v c x) := by
  unfold Cf.meet
  split
  · exact h
  · next hn =>
    intro y hy
    rcases List.mem_append.1 hy with hy | hy
    · exact h y hy
    · rw [List.mem_singleton.1 hy]
      cases hq : has v x with
      | true => rfl
      | false => exact absurd (.inr hq) hn
theorem AllHas.by1 {v : Vw} {c : Cl} (h : AllHas v c) (x : Cfg) (p : Bool) (e : Ed) : AllHas v (Cf.by1 v x p c e) := by
  unfold Cf.by1
  repeat' split
  all_goals first | exact h.meet _ | exact h
theorem AllHas.fold {v : Vw} (x : Cfg) (p : Bool) : ∀ (l : List Ed) {c : Cl}, AllHas v c → AllHas v (l.foldl (Cf.by1 v x p) c)
  | [], _, h => h
  | e :: l, _, h => AllHas.fold x p l (h.by1 x p e)
theorem AllHas.close1 {v : Vw} {c : Cl} (h : AllHas v c) (x : Cfg) : AllHas v (Cf.close1 v c x) := by
  unfold Cf.close1 back1
  repeat' split
  · exact h
  · exact h
  · exact h.fold _ _ _
  · exact (h.fold _ _ _).meet _
end Cf
end Go.Proofs.YtnpcjbdolmmaeaaGreatDoor

/-
  How many configurations a set has; all are a view's: plain.
-/
namespace Go.Proofs.YtnpcjbdolmmaeaaGreatDoor
namespace Cf
open Drv
theorem pigeon {α β : Type} [DecidableEq β] (f : α → β) : ∀ (l : List α) (m : List β), l.Pairwise (fun a b => f a ≠ f b) → (∀ x ∈ l, f x ∈ m) → l.length ≤ m.length
  | [], _, _, _ => Nat.zero_le _
  | x :: l, m, hp, hm => by
    have h1 := List.pairwise_cons.1 hp
    have hx := hm x (by simp)
    have h2 := pigeon f l (m.erase (f x)) h1.2 (fun y hy => (List.mem_erase_of_ne (fun e => h1.1 y hy e.symm)).2 (hm y (by simp [hy])))
    rw [List.length_erase_of_mem hx] at h2
    have := List.length_pos_of_mem hx
    simp only [List.length_cons]
    omega
def endC (x : Cfg) : Cfg := ⟨x.alt, x.state, x.stack, x.exact, true⟩
def norm (x : Cfg) : Cfg := ⟨x.alt, x.state, x.stack, true, x.ended⟩
theorem norm_like {a b : Cfg} (h : norm a = norm b) : Like a b := by
  obtain ⟨a1, a2, a3, a4, a5⟩ := a
  obtain ⟨b1, b2, b3, b4, b5⟩ := b
  simp only [norm, Cfg.mk.injEq] at h
  exact ⟨h.1, h.2.1, h.2.2.1, h.2.2.2.2⟩
theorem like_norm {a b : Cfg} (h : Like a b) : norm a = norm b := by
  obtain ⟨h1, h2, h3, h4⟩ := h
  unfold norm; rw [h1, h2, h3, h4]
theorem rise_few {L W : List Cfg} (h : Rise L) (k : ∀ x ∈ L, ∃ y ∈ W, Like x y ∨ Like x (endC y)) : L.length ≤ 2 * W.length := by
  have h1 := pigeon norm L ((W ++ W.map endC).map norm) (h.imp fun {a b} hab e => by
    have := (ord_one a b).2 (norm_like e)
    omega) (fun x hx => by
    obtain ⟨y, hy, e | e⟩ := k x hx
    · rw [like_norm e]; exact List.mem_map_of_mem (List.mem_append_left _ hy)
    · rw [like_norm e]; exact List.mem_map_of_mem (List.mem_append_right _ (List.mem_map_of_mem hy)))
  simp only [List.length_map, List.length_append] at h1
  omega
/-- what is kept came of what was met -/
def KW (c : Cl) : Prop := ∀ y ∈ c.kept, ∃ x ∈ c.wait, y = x ∨ y = endC x
theorem KW.more {c c' : Cl} (h : KW c) (hk : c'.kept = c.kept) (hw : ∃ r, c'.wait = c.wait ++ r) : KW c' := by
  intro y hy
  rw [hk] at hy
  obtain ⟨x, hx, e⟩ := h y hy
  obtain ⟨r, hr⟩ := hw
  exact ⟨x, by rw [hr]; exact List.mem_append_left _ hx, e⟩
theorem kept_meet (v : Vw) (c : Cl) (x : Cfg) : (meet v c x).kept = c.kept := by unfold meet; split <;> rfl
theorem KW.meet {v : Vw} {c : Cl} (h : KW c) (x : Cfg) : KW (Cf.meet v c x) := h.more (kept_meet v c x) (meet_wait v c x)
theorem KW.keep {c : Cl} (h : KW c) {x y : Cfg} (hx : x ∈ c.wait) (hy : y = x ∨ y = endC x) : KW (Cf.keep c y) := by
  intro z hz
  rcases List.mem_append.1 hz with hz | hz
  · exact h z hz
  · rw [List.mem_singleton.1 hz]; exact ⟨x, hx, hy⟩
theorem KW.by1 {v : Vw} {c : Cl} (h : KW c) {x : Cfg} (hx : x ∈ c.wait) (p : Bool) (e : Ed) : KW (Cf.by1 v x p c e) := by
  unfold Cf.by1
  repeat' split
  · exact h.meet _
  · exact h.meet _
  · exact h.keep hx (.inl rfl)
  · exact h
  · exact h.meet _
  · exact h
theorem KW.fold {v : Vw} {x : Cfg} (p : Bool) : ∀ (l : List Ed) {c : Cl}, KW c → x ∈ c.wait → KW (l.foldl (Cf.by1 v x p) c)
  | [], _, h, _ => h
  | e :: l, c, h, hx => KW.fold p l (h.by1 hx p e) (by
    obtain ⟨r, hr⟩ := by1_wait v x p c e
    rw [hr]; exact List.mem_append_left _ hx)
theorem KW.close1 {v : Vw} {c : Cl} (h : KW c) {x : Cfg} (hx : x ∈ c.wait) : KW (Cf.close1 v c x) := by
  unfold Cf.close1 back1
  repeat' split
  · exact h.keep hx (.inl rfl)
  · exact h.keep hx (.inr rfl)
  · exact h.fold _ _ hx
  · exact (h.fold _ _ hx).meet _
/-- a set of a view's -/
structure SetB (v : Vw) (s : St) : Prop where
  ok : ∀ x ∈ s.configs, Bd v x ∧ has v x = true
  few : s.configs.length ≤ 4000
theorem Bd.like {v : Vw} {x y : Cfg} (h : Bd v x) (k : Like y x) : Bd v y := by
  obtain ⟨k1, k2, k3, _⟩ := k
  exact ⟨by rw [k1]; exact h.alt, by rw [k2]; exact h.state, by rw [k3]; exact h.stk, by rw [k3]; exact h.cnt⟩
theorem has_like {v : Vw} {x y : Cfg} (k : Like y x) : has v y = has v x := by
  obtain ⟨k1, k2, _, _⟩ := k
  unfold has; rw [k1, k2]
/-- what holds along the closing, at a place -/
structure Run (v : Vw) (c : Cl) (i : Nat) : Prop where
  b : ∃ m, ClB v c m (i * 701)
  m : c.over = false → c.wait.length ≤ 2000
  has : AllHas v c
  kw : KW c
theorem Run.next {v : Vw} {c : Cl} {i : Nat} (h : Run v c i) (w : OkW v) (hi : i < c.wait.length) : Run v (close1 v c c.wait[i]) (i + 1) := by
  obtain ⟨m, hb⟩ := h.b
  have hx := List.getElem_mem hi
  exact ⟨⟨m + 701, (hb.close1 w (hb.wait _ hx) (h.has _ hx)).mono (Nat.le_refl _) (by omega)⟩, close1_few h.m _, h.has.close1 _, h.kw.close1 hx⟩
theorem Run.start {v : Vw} : ∀ (l : List Cfg) {c : Cl} (_ : ∀ x ∈ l, Bd v x) (_ : Run v c 0), Run v (l.foldl (meet v) c) 0
  | [], _, _, h => h
  | x :: l, c, hl, h => by
    obtain ⟨m, hb⟩ := h.b
    exact Run.start l (fun y hy => hl y (by simp [hy])) ⟨⟨m + 1, hb.meet (hl x (by simp))⟩, meet_few h.m x, h.has.meet x, h.kw.meet x⟩
theorem Run.start0 {v : Vw} : Run v ⟨[], [], false⟩ 0 := ⟨⟨0, ⟨fun _ h => (by cases h), fun _ h => (by cases h), Nat.le_refl _, Nat.le_refl _⟩⟩, fun _ => by simp, fun _ h => (by cases h), fun _ h => (by cases h)⟩
theorem Run.set {v : Vw} {c : Cl} {i : Nat} {s : List Cfg} {sure : Int} (h : Run v c i) (ho : c.over = false) (hc : Canon (c.kept.filter fun x => decide (x.alt ≤ sure)) s) : (∀ x ∈ s, Bd v x ∧ Cf.has v x = true) ∧ s.length ≤ 4000 := by
  have hk : ∀ x ∈ s, ∃ y ∈ c.wait, Like x y ∨ Like x (endC y) := fun x hx => by
    obtain ⟨y, hy, e⟩ := hc.of x hx
    obtain ⟨z, hz, e2⟩ := h.kw y (List.mem_filter.1 hy).1
    rcases e2 with e2 | e2
    · subst e2; exact ⟨_, hz, .inl e⟩
    · subst e2; exact ⟨_, hz, .inr e⟩
  obtain ⟨m, hb⟩ := h.b
  refine ⟨fun x hx => ?_, ?_⟩
  · obtain ⟨y, hy, e | e⟩ := hk x hx
    · exact ⟨(hb.wait y hy).like e, by rw [has_like e]; exact h.has y hy⟩
    · exact ⟨(hb.wait y hy).end.like e, by rw [has_like e]; exact h.has y hy⟩
  · have h1 := rise_few hc.rise hk
    have h2 := h.m ho
    omega
/-- where a decision begins -/
theorem start_bd {v : Vw} (w : OkW v) (hd : v.d ∈ v.n.states) : (∀ x ∈ startL v, Bd v x) ∧ (startL v).length ≤ 700 := by
  have h1 := w.edges _ hd
  refine ⟨fun x hx => ?_, by unfold startL; rw [List.length_map, List.length_zipIdx]; exact h1⟩
  unfold startL at hx
  obtain ⟨⟨e, i⟩, hp, rfl⟩ := List.mem_map.1 hx
  have h2 := List.mem_zipIdx hp
  have h3 : e ∈ v.d.edges := by rw [h2.2.2]; exact List.getElem_mem _
  refine ⟨?_, state64 w (w.to _ hd e h3), fun _ h => (by cases h), fun _ h => (by cases h)⟩
  show In64 (i : Int)
  constructor <;> omega
theorem flatMap_len {α β : Type} (f : α → List β) (n : Nat) : ∀ (l : List α), (∀ x ∈ l, (f x).length ≤ n) → (l.flatMap f).length ≤ l.length * n
  | [], _ => by simp
  | x :: r, h => by
    have h1 := flatMap_len f n r fun y hy => h y (List.mem_cons_of_mem _ hy)
    have h2 := h x (by simp)
    simp only [List.flatMap_cons, List.length_append, List.length_cons, Nat.add_mul] at *
    omega
theorem move_bd {v : Vw} (w : OkW v) {s : St} (hs : SetB v s) (tok : Int) : (∀ x ∈ moveL v s tok, Bd v x) ∧ (moveL v s tok).length ≤ 2800000 := by
  constructor
  · intro x hx
    unfold moveL at hx
    obtain ⟨y, hy, hx⟩ := List.mem_flatMap.1 hx
    obtain ⟨hb, hh⟩ := hs.ok y hy
    rw [if_neg (by rw [hh]; decide)] at hx
    split at hx
    · rw [List.mem_singleton.1 hx]; exact hb
    · obtain ⟨e, he, hx⟩ := List.mem_filterMap.1 hx
      split at hx
      · injection hx with hx
        subst hx
        exact hb.at w (w.to _ (stOf_mem (has_state hh).2.2) e he) true
      · cases hx
  · have h1 := flatMap_len (fun x => if has v x = false then [] else if x.ended = true then [x] else (stOf v x).edges.filterMap fun e => if e.kind = 1 ∧ e.what = tok then some (atC x e.to x.stack true) else none) 700 s.configs (fun x hx => by
      obtain ⟨hb, hh⟩ := hs.ok x hx
      rw [if_neg (by rw [hh]; decide)]
      split
      · simp
      · exact Nat.le_trans (List.length_filterMap_le _ _) (w.edges _ (stOf_mem (has_state hh).2.2)))
    have h2 := hs.few
    unfold moveL
    omega
/-- the alternatives of a list are told by the list's members -/
theorem Alts.of_mem {l m : List Cfg} {A : List Int} (h : Alts l A) (k : ∀ a, (∃ x ∈ l, x.alt = a) ↔ ∃ x ∈ m, x.alt = a) : Alts m A := ⟨h.rise, fun a => (h.mem a).trans (k a)⟩
end Cf
end Go.Proofs.YtnpcjbdolmmaeaaGreatDoor
