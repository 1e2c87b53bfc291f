/-
  Sizes along a closing: stacks hold each state at most as often as the bound says; how long the lists grow: plain.
-/
import Derived.Test.YtnpcjbdolmmaeaaDoorCfLaw
namespace Go.Proofs.YtnpcjbdolmmaeaaDoor
namespace Cf
open Drv
def In64 (n : Int) : Prop := -9223372036854775808 ≤ n ∧ n ≤ 9223372036854775807
/-- a configuration of a view's: its stack holds states, each at most 'bound' times -/
structure Bd (v : Vw) (x : Cfg) : Prop where
  alt : In64 x.alt
  state : In64 x.state
  stk : ∀ n ∈ x.stack, 0 ≤ n ∧ n < (v.n.states.length : Int)
  cnt : ∀ n ∈ x.stack, ((x.stack.count n : Nat) : Int) ≤ v.bound
/-- a view whose net has few states and edges, and all that edges tell is there -/
structure OkW (v : Vw) : Prop where
  states : v.n.states.length ≤ 700
  edges : ∀ s ∈ v.n.states, s.edges.length ≤ 700
  bound : 1 ≤ v.bound ∧ v.bound ≤ 8
  to : ∀ s ∈ v.n.states, ∀ e ∈ s.edges, 0 ≤ e.to ∧ e.to < (v.n.states.length : Int)
  what : ∀ s ∈ v.n.states, ∀ e ∈ s.edges, e.kind = 2 → 0 ≤ e.what ∧ e.what < (v.n.starts.length : Int)
  starts : ∀ q ∈ v.n.starts, 0 ≤ q ∧ q < (v.n.states.length : Int)
theorem len_filter_split {α : Type} (p : α → Bool) : ∀ l : List α, l.length = (l.filter p).length + (l.filter fun x => !p x).length
  | [] => rfl
  | x :: l => by
    have := len_filter_split p l
    by_cases h : p x = true
    · simp [h]; omega
    · have h : p x = false := by simpa using h
      simp [h]; omega
theorem count_len (b : Nat) : ∀ (N : Nat) (l : List Int), (∀ n ∈ l, 0 ≤ n ∧ n < (N : Int)) → (∀ n ∈ l, l.count n ≤ b) → l.length ≤ N * b
  | 0, l, h, _ => by
    cases l with
    | nil => simp
    | cons x l => have := h x (by simp); omega
  | N + 1, l, h, hc => by
    have h1 := len_filter_split (fun n : Int => n == (N : Int)) l
    have h2 : (l.filter fun n : Int => n == (N : Int)).length ≤ b := by
      rw [← List.countP_eq_length_filter]
      by_cases hm : (N : Int) ∈ l
      · exact hc _ hm
      · have : List.count (N : Int) l = 0 := List.count_eq_zero.2 hm
        unfold List.count at this
        omega
    have h3 := count_len b N (l.filter fun n : Int => !(n == (N : Int))) (fun n hn => by
      have := h n (List.mem_filter.1 hn).1
      have h4 : ¬ n = (N : Int) := by simpa using (List.mem_filter.1 hn).2
      omega) (fun n hn => Nat.le_trans (List.Sublist.count_le n List.filter_sublist) (hc n (List.mem_filter.1 hn).1))
    have h5 : (N + 1) * b = N * b + b := Nat.succ_mul _ _
    omega
theorem Bd.len {v : Vw} {x : Cfg} (h : Bd v x) (k : OkW v) : x.stack.length ≤ 5600 := by
  have h1 := count_len v.bound.toNat v.n.states.length x.stack h.stk (fun n hn => by have := h.cnt n hn; omega)
  have h2 : v.n.states.length * v.bound.toNat ≤ 700 * 8 := Nat.mul_le_mul k.states (by have := k.bound.2; omega)
  omega
theorem state64 {v : Vw} (k : OkW v) {n : Int} (h : 0 ≤ n ∧ n < (v.n.states.length : Int)) : In64 n := by
  have := k.states
  constructor <;> omega
theorem Bd.at {v : Vw} {x : Cfg} (h : Bd v x) (k : OkW v) {n : Int} (hn : 0 ≤ n ∧ n < (v.n.states.length : Int)) (p : Bool) : Bd v (atC x n x.stack p) := ⟨h.alt, state64 k hn, h.stk, h.cnt⟩
theorem Bd.push {v : Vw} {x : Cfg} (h : Bd v x) (k : OkW v) {n m : Int} (hn : 0 ≤ n ∧ n < (v.n.states.length : Int)) (hm : 0 ≤ m ∧ m < (v.n.states.length : Int)) (hc : ¬ v.bound ≤ ((x.stack.count m : Nat) : Int)) (p : Bool) : Bd v (atC x n (x.stack ++ [m]) p) := by
  refine ⟨h.alt, state64 k hn, fun a ha => ?_, fun a ha => ?_⟩
  · rcases List.mem_append.1 ha with ha | ha
    · exact h.stk a ha
    · rw [List.mem_singleton.1 ha]; exact hm
  · show (((x.stack ++ [m]).count a : Nat) : Int) ≤ v.bound
    rw [List.count_append]
    by_cases e : a = m
    · subst e
      simp only [List.count_singleton_self]
      omega
    · have h0 : List.count a [m] = 0 := List.count_eq_zero.2 (by simpa using e)
      rw [h0]
      rcases List.mem_append.1 ha with ha | ha
      · have := h.cnt a ha; omega
      · exact absurd (List.mem_singleton.1 ha) e
theorem Bd.back {v : Vw} {x : Cfg} (h : Bd v x) (k : OkW v) (hne : x.stack ≠ []) (p : Bool) : Bd v (atC x (x.stack.getLastD 0) x.stack.dropLast p) := by
  refine ⟨h.alt, state64 k (h.stk _ ?_), fun a ha => h.stk a (List.dropLast_subset _ ha), fun a ha => ?_⟩
  · have : x.stack.getLastD 0 = x.stack.getLast hne := by
      rw [List.getLastD_eq_getLast?, List.getLast?_eq_some_getLast hne]; rfl
    rw [this]; exact List.getLast_mem hne
  · have h1 : x.stack.dropLast.count a ≤ x.stack.count a := List.Sublist.count_le a (List.dropLast_sublist _)
    have h2 := h.cnt a (List.dropLast_subset _ ha)
    show ((x.stack.dropLast.count a : Nat) : Int) ≤ v.bound
    omega
theorem Bd.end {v : Vw} {x : Cfg} (h : Bd v x) : Bd v ⟨x.alt, x.state, x.stack, x.exact, true⟩ := ⟨h.alt, h.state, h.stk, h.cnt⟩
/-- a closing's configurations are such; how many there are -/
structure ClB (v : Vw) (c : Cl) (m k : Nat) : Prop where
  wait : ∀ x ∈ c.wait, Bd v x
  kept : ∀ x ∈ c.kept, Bd v x
  m : c.wait.length ≤ m
  k : c.kept.length ≤ k
theorem ClB.mono {v : Vw} {c : Cl} {m k m' k' : Nat} (h : ClB v c m k) (hm : m ≤ m') (hk : k ≤ k') : ClB v c m' k' := ⟨h.wait, h.kept, Nat.le_trans h.m hm, Nat.le_trans h.k hk⟩
theorem ClB.meet {v : Vw} {c : Cl} {m k : Nat} (h : ClB v c m k) {x : Cfg} (hx : Bd v x) : ClB v (meet v c x) (m + 1) k := by
  unfold Cf.meet
  split
  · exact h.mono (Nat.le_succ _) (Nat.le_refl _)
  · refine ⟨fun y hy => ?_, h.kept, ?_, h.k⟩
    · rcases List.mem_append.1 hy with hy | hy
      · exact h.wait y hy
      · rw [List.mem_singleton.1 hy]; exact hx
    · have := h.m; simp; omega
theorem ClB.keep {v : Vw} {c : Cl} {m k : Nat} (h : ClB v c m k) {x : Cfg} (hx : Bd v x) : ClB v (keep c x) m (k + 1) := by
  refine ⟨h.wait, fun y hy => ?_, h.m, ?_⟩
  · rcases List.mem_append.1 hy with hy | hy
    · exact h.kept y hy
    · rw [List.mem_singleton.1 hy]; exact hx
  · have := h.k; unfold Cf.keep; simp; omega
theorem ClB.by1 {v : Vw} {c : Cl} {m k : Nat} (h : ClB v c m k) (w : OkW v) {x : Cfg} (hx : Bd v x) {s : NSt} (hs : s ∈ v.n.states) {e : Ed} (he : e ∈ s.edges) (p : Bool) : ClB v (by1 v x p c e) (m + 1) (k + 1) := by
  have ht := w.to s hs e he
  unfold Cf.by1
  split
  · exact (h.meet (hx.at w ht p)).mono (Nat.le_refl _) (Nat.le_succ _)
  · split
    · exact (h.meet (hx.at w ht false)).mono (Nat.le_refl _) (Nat.le_succ _)
    · split
      · exact (h.keep hx).mono (Nat.le_succ _) (Nat.le_refl _)
      · split
        · next h2 =>
          split
          · exact ⟨h.wait, h.kept, Nat.le_succ_of_le h.m, Nat.le_succ_of_le h.k⟩
          · next hc =>
            refine (h.meet (hx.push w ?_ ht hc true)).mono (Nat.le_refl _) (Nat.le_succ _)
            have hw := w.what s hs e he h2
            rw [List.getD_eq_getElem?_getD, List.getElem?_eq_getElem (by omega)]
            exact w.starts _ (List.getElem_mem _)
        · exact h.mono (Nat.le_succ _) (Nat.le_succ _)
theorem ClB.fold {v : Vw} (w : OkW v) {x : Cfg} (hx : Bd v x) {s : NSt} (hs : s ∈ v.n.states) (p : Bool) : ∀ (l : List Ed) {c : Cl} {m k : Nat}, (∀ e ∈ l, e ∈ s.edges) → ClB v c m k → ClB v (l.foldl (Cf.by1 v x p) c) (m + l.length) (k + l.length)
  | [], _, _, _, _, h => h
  | e :: l, c, m, k, hl, h => by
    have h1 := ClB.fold w hx hs p l (fun e he => hl e (by simp [he])) (h.by1 w hx hs (hl e (by simp)) p)
    rw [List.foldl_cons, List.length_cons]
    exact h1.mono (by omega) (by omega)
theorem stOf_mem {v : Vw} {x : Cfg} (h : 0 ≤ x.state ∧ x.state < (v.n.states.length : Int)) : stOf v x ∈ v.n.states := by
  unfold stOf
  rw [List.getD_eq_getElem?_getD, List.getElem?_eq_getElem (by omega)]
  exact List.getElem_mem _
theorem has_state {v : Vw} {x : Cfg} (h : has v x = true) : 0 ≤ x.alt ∧ x.alt < (v.d.ends.length : Int) ∧ 0 ≤ x.state ∧ x.state < (v.n.states.length : Int) := by
  unfold has at h
  simp only [Bool.and_eq_true, decide_eq_true_eq] at h
  exact ⟨h.1.1.1, h.1.1.2, h.1.2, h.2⟩
theorem ClB.close1 {v : Vw} {c : Cl} {m k : Nat} (h : ClB v c m k) (w : OkW v) {x : Cfg} (hx : Bd v x) (hh : has v x = true) : ClB v (close1 v c x) (m + 701) (k + 701) := by
  have hst := stOf_mem (has_state hh).2.2
  have hl := w.edges _ hst
  unfold Cf.close1
  split
  · exact (h.keep hx).mono (by omega) (by omega)
  · split
    · exact (h.keep hx.end).mono (by omega) (by omega)
    · have h1 := ClB.fold w hx hst (decide ((stOf v x).ends.length = 0)) (stOf v x).edges (fun _ e => e) h
      unfold back1
      split
      · exact h1.mono (by omega) (by omega)
      · next hc =>
        refine (h1.meet (hx.back w (fun e => hc (.inl e)) true)).mono (by omega) (by omega)
/-- all that was met is a view's -/
def AllHas (v : Vw) (c : Cl) : Prop := ∀ x ∈ c.wait, has v x = true
theorem AllHas.meet {v : Vw} {c : Cl} (h : AllHas v c) (x : Cfg) : AllHas v (Cf.meet v c x) := by
  unfold Cf.meet
  split
  · exact h
  · next hn =>
    intro y hy
    rcases List.mem_append.1 hy with hy | hy
    · exact h y hy
    · rw [List.mem_singleton.1 hy]
      cases hq : has v x with
      | true => rfl
      | false => exact absurd (.inr hq) hn
theorem AllHas.by1 {v : Vw} {c : Cl} (h : AllHas v c) (x : Cfg) (p : Bool) (e : Ed) : AllHas v (Cf.by1 v x p c e) := by
  unfold Cf.by1
  repeat' split
  all_goals first | exact h.meet _ | exact h
theorem AllHas.fold {v : Vw} (x : Cfg) (p : Bool) : ∀ (l : List Ed) {c : Cl}, AllHas v c → AllHas v (l.foldl (Cf.by1 v x p) c)
  | [], _, h => h
  | e :: l, _, h => AllHas.fold x p l (h.by1 x p e)
theorem AllHas.close1 {v : Vw} {c : Cl} (h : AllHas v c) (x : Cfg) : AllHas v (Cf.close1 v c x) := by
  unfold Cf.close1 back1
  repeat' split
  · exact h
  · exact h
  · exact h.fold _ _ _
  · exact (h.fold _ _ _).meet _
end Cf
end Go.Proofs.YtnpcjbdolmmaeaaDoor
