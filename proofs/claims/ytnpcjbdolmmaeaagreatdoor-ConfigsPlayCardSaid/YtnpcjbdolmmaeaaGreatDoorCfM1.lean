/-
  The reference's May of a net: plain lemmas.
-/
import Derived.Test.YtnpcjbdolmmaeaaGreatDoorCfNm
import Derived.Test.YtnpcjbdolmmaeaaGreatDoorNetM
import Derived.Deep.LoopGhost
namespace Go.Proofs.YtnpcjbdolmmaeaaGreatDoor
open Go.RowKit Go.Maps
set_option maxRecDepth 100000
namespace Drv
theorem edgeB_iff (n : NNet) (e : Ed) : edgeB n e = true ↔ (0 ≤ e.kind ∧ e.kind ≤ 3 ∧ 0 ≤ e.what ∧ (e.kind = 0 → e.what = 0) ∧ (e.kind = 2 → e.what < n.starts.length) ∧ (e.kind = 3 → e.what < n.preds.length) ∧ 0 ≤ e.to ∧ e.to < n.states.length) := by
  unfold edgeB stateB
  simp only [Bool.and_eq_true, decide_eq_true_eq, Bool.or_eq_true, beq_iff_eq]
  constructor
  · rintro ⟨⟨⟨⟨h0, h1⟩, h2⟩, h3⟩, h4, h5⟩
    refine ⟨h0, h1, h2, fun e => ?_, fun e => ?_, fun e => ?_, h4, h5⟩
    · rw [if_neg (by omega), if_neg (by omega)] at h3; omega
    · rw [if_pos e] at h3; omega
    · rw [if_neg (by omega), if_pos e] at h3; omega
  · rintro ⟨h0, h1, h2, h3, h4, h5, h6, h7⟩
    refine ⟨⟨⟨⟨h0, h1⟩, h2⟩, ?_⟩, h6, h7⟩
    by_cases k1 : e.kind = 1
    · exact .inl k1
    · refine .inr ?_
      by_cases k2 : e.kind = 2
      · rw [if_pos k2]; exact h4 k2
      · rw [if_neg k2]
        by_cases k3 : e.kind = 3
        · rw [if_pos k3]; exact h5 k3
        · rw [if_neg k3]; have := h3 (by omega); omega
/-- an edge that may be, of a state -/
def edgeS (n : NNet) (s : NSt) (e : Ed) : Prop := edgeB n e = true ∧ (s.ends.length ≠ 0 → e.kind = 0)
theorem stMay_iff (n : NNet) (s : NSt) : stMay n s = true ↔ ((∀ e ∈ s.edges, edgeS n s e) ∧ (s.ends.length ≠ 0 → s.ends.length = s.edges.length ∧ 2 ≤ s.ends.length ∧ ∀ i ∈ s.ends, 0 ≤ i ∧ i < n.states.length)) := by
  unfold stMay edgeS stateB
  simp only [Bool.and_eq_true, Bool.or_eq_true, beq_iff_eq, decide_eq_true_eq, List.all_eq_true]
  constructor
  · rintro ⟨h1, h2⟩
    refine ⟨fun e he => ⟨h1 e he, fun hn => ?_⟩, fun hn => ?_⟩
    · rcases h2 with h2 | h2
      · exact absurd h2 hn
      · exact h2.1.2 e he
    · rcases h2 with h2 | h2
      · exact absurd h2 hn
      · exact ⟨h2.1.1.1, h2.1.1.2, h2.2⟩
  · rintro ⟨h1, h2⟩
    refine ⟨fun e he => (h1 e he).1, ?_⟩
    by_cases hn : s.ends.length = 0
    · exact .inl hn
    · obtain ⟨a, b, c⟩ := h2 hn
      exact .inr ⟨⟨⟨a, b⟩, fun e he => (h1 e he).2 hn⟩, c⟩
theorem mayNet_iff (n : NNet) : mayNet n = true ↔ (n.starts.length = n.stops.length ∧ (∀ i ∈ n.starts, 0 ≤ i ∧ i < n.states.length) ∧ (∀ i ∈ n.stops, 0 ≤ i ∧ i < n.states.length) ∧ (∀ i ∈ n.preds, 0 ≤ i ∧ i < (n.states.length : Int) - 1) ∧
    (∀ s ∈ n.states, stMay n s = true ∧ 0 ≤ s.rule ∧ s.rule < n.starts.length) ∧ decsOf n.states = n.decs) := by
  unfold mayNet stateB
  simp only [Bool.and_eq_true, beq_iff_eq, List.all_eq_true, decide_eq_true_eq, and_assoc]
theorem mayNet_no {n : NNet} (h : ¬ (n.starts.length = n.stops.length ∧ (∀ i ∈ n.starts, 0 ≤ i ∧ i < n.states.length) ∧ (∀ i ∈ n.stops, 0 ≤ i ∧ i < n.states.length) ∧ (∀ i ∈ n.preds, 0 ≤ i ∧ i < (n.states.length : Int) - 1) ∧
    (∀ s ∈ n.states, stMay n s = true ∧ 0 ≤ s.rule ∧ s.rule < n.starts.length) ∧ decsOf n.states = n.decs)) : mayNet n = false := by
  cases hm : mayNet n with
  | false => rfl
  | true => exact absurd ((mayNet_iff n).1 hm) h
end Drv
end Go.Proofs.YtnpcjbdolmmaeaaGreatDoor

/-
  The reference's May of a net: the walk.
-/
namespace Go.Proofs.YtnpcjbdolmmaeaaGreatDoor
open Go.RowKit Go.Maps
set_option maxRecDepth 100000
/-- what May answers -/
def RMayP (b : Bool) (w : World) (e : Ending) (w' : World) : Prop := e = .returned (.bool b) ∧ Below w.heap.size w w'
theorem rmay_no {n : Drv.NNet} {w w' : World} (h : Drv.mayNet n = false) (hb : Below w.heap.size w w') : RMayP (Drv.mayNet n) w (.returned (.bool false)) w' := ⟨by rw [h], hb⟩
namespace Drv
structure Ok1 (n : NNet) (k : Nat) : Prop where
  a : ∀ i (h : i < n.starts.length), i < k → 0 ≤ n.starts[i] ∧ n.starts[i] < n.states.length
  b : ∀ i (h : i < n.stops.length), i < k → 0 ≤ n.stops[i] ∧ n.stops[i] < n.states.length
theorem Ok1.bad {n : NNet} {k : Nat} (h1 : k < n.starts.length) (h2 : k < n.stops.length) (h : ¬ (0 ≤ n.starts[k] ∧ n.starts[k] < n.states.length ∧ 0 ≤ n.stops[k] ∧ n.stops[k] < n.states.length)) : mayNet n = false :=
  mayNet_no fun g => h ⟨(g.2.1 _ (List.getElem_mem h1)).1, (g.2.1 _ (List.getElem_mem h1)).2, (g.2.2.1 _ (List.getElem_mem h2)).1, (g.2.2.1 _ (List.getElem_mem h2)).2⟩
theorem Ok1.next {n : NNet} {k : Nat} (g : Ok1 n k) (h1 : k < n.starts.length) (h2 : k < n.stops.length) (h : 0 ≤ n.starts[k] ∧ n.starts[k] < n.states.length ∧ 0 ≤ n.stops[k] ∧ n.stops[k] < n.states.length) : Ok1 n (k + 1) :=
  ⟨fun i hi hk => by
    rcases Nat.lt_succ_iff_lt_or_eq.1 hk with h3 | rfl
    · exact g.a i hi h3
    · exact ⟨h.1, h.2.1⟩, fun i hi hk => by
    rcases Nat.lt_succ_iff_lt_or_eq.1 hk with h3 | rfl
    · exact g.b i hi h3
    · exact ⟨h.2.2.1, h.2.2.2⟩⟩
structure Ok2 (n : NNet) (k : Nat) : Prop where
  a : ∀ i (h : i < n.preds.length), i < k → 0 ≤ n.preds[i] ∧ n.preds[i] < (n.states.length : Int) - 1
theorem Ok2.bad {n : NNet} {k : Nat} (h1 : k < n.preds.length) (h : ¬ (0 ≤ n.preds[k] ∧ n.preds[k] < (n.states.length : Int) - 1)) : mayNet n = false :=
  mayNet_no fun g => h (g.2.2.2.1 _ (List.getElem_mem h1))
theorem Ok2.next {n : NNet} {k : Nat} (g : Ok2 n k) (h1 : k < n.preds.length) (h : 0 ≤ n.preds[k] ∧ n.preds[k] < (n.states.length : Int) - 1) : Ok2 n (k + 1) :=
  ⟨fun i hi hk => by
    rcases Nat.lt_succ_iff_lt_or_eq.1 hk with h3 | rfl
    · exact g.a i hi h3
    · exact h⟩
/-- states ahead of number k may be; the decisions among them are the first kd ones -/
structure Ok3 (n : NNet) (k kd : Nat) : Prop where
  a : ∀ i (h : i < n.states.length), i < k → stMay n n.states[i] = true ∧ 0 ≤ n.states[i].rule ∧ n.states[i].rule < n.starts.length
  d : decsOf (n.states.take k) = n.decs.take kd
  l : kd ≤ n.decs.length
theorem Ok3.bad {n : NNet} {k : Nat} (h1 : k < n.states.length) (h : ¬ (stMay n n.states[k] = true ∧ 0 ≤ n.states[k].rule ∧ n.states[k].rule < n.starts.length)) : mayNet n = false :=
  mayNet_no fun g => h (g.2.2.2.2.1 _ (List.getElem_mem h1))
theorem decsOf_pre (l : List NSt) : ∀ m k, k ≤ m → ∃ r, decsOf (l.take m) = decsOf (l.take k) ++ r
  | 0, k, h => ⟨[], by rw [show k = 0 by omega]; simp⟩
  | m + 1, k, h => by
    rcases Nat.lt_or_ge k (m + 1) with h1 | h1
    · obtain ⟨r, hr⟩ := decsOf_pre l m k (by omega)
      by_cases hm : m < l.length
      · exact ⟨_, by rw [decsOf_take l m hm, hr, List.append_assoc]⟩
      · exact ⟨r, by rw [List.take_of_length_le (by omega), ← hr, List.take_of_length_le (by omega)]⟩
    · exact ⟨[], by rw [show k = m + 1 by omega]; simp⟩
theorem Ok3.badD {n : NNet} {k kd : Nat} (g : Ok3 n k kd) (h1 : k < n.states.length) (he : n.states[k].ends.length ≠ 0) (h : ∀ (hd : kd < n.decs.length), n.decs[kd] ≠ (k : Int)) : mayNet n = false := by
  refine mayNet_no fun g2 => ?_
  have h2 := g2.2.2.2.2.2
  have h3 := decsOf_take n.states k h1
  rw [if_neg he, g.d] at h3
  obtain ⟨r, hr⟩ := decsOf_pre n.states n.states.length (k + 1) (by omega)
  rw [List.take_length, h2, h3] at hr
  have hlt : kd < n.decs.length := by
    have h4 := congrArg List.length hr
    simp only [List.length_append, List.length_take, List.length_cons, List.length_nil] at h4
    have := g.l
    omega
  refine h hlt ?_
  have h5 : n.decs[kd]? = (n.decs.take kd ++ [(k : Int)] ++ r)[kd]? := by rw [← hr]
  rw [List.append_assoc, List.getElem?_append_right (by rw [List.length_take]; omega), List.length_take, Nat.min_eq_left (by omega), Nat.sub_self, List.getElem?_eq_getElem hlt] at h5
  simpa using h5
theorem Ok3.next0 {n : NNet} {k kd : Nat} (g : Ok3 n k kd) (h1 : k < n.states.length) (h : stMay n n.states[k] = true ∧ 0 ≤ n.states[k].rule ∧ n.states[k].rule < n.starts.length) (he : n.states[k].ends.length = 0) : Ok3 n (k + 1) kd :=
  ⟨fun i hi hk => by
    rcases Nat.lt_succ_iff_lt_or_eq.1 hk with h3 | rfl
    · exact g.a i hi h3
    · exact h, by rw [decsOf_take n.states k h1, if_pos he, List.append_nil]; exact g.d, g.l⟩
theorem Ok3.next1 {n : NNet} {k kd : Nat} (g : Ok3 n k kd) (h1 : k < n.states.length) (h : stMay n n.states[k] = true ∧ 0 ≤ n.states[k].rule ∧ n.states[k].rule < n.starts.length) (he : n.states[k].ends.length ≠ 0) (hd : kd < n.decs.length) (hk : n.decs[kd] = (k : Int)) : Ok3 n (k + 1) (kd + 1) :=
  ⟨fun i hi hk => by
    rcases Nat.lt_succ_iff_lt_or_eq.1 hk with h3 | rfl
    · exact g.a i hi h3
    · exact h, by rw [decsOf_take n.states k h1, if_neg he, g.d, List.take_succ_eq_append_getElem hd, hk], by omega⟩
theorem Ok3.done {n : NNet} {kd : Nat} (h0 : n.starts.length = n.stops.length) (h1 : Ok1 n n.starts.length) (h2 : Ok2 n n.preds.length) (h3 : Ok3 n n.states.length kd) : mayNet n = decide (kd = n.decs.length) := by
  have hd := h3.d
  rw [List.take_length] at hd
  by_cases hk : kd = n.decs.length
  · rw [decide_eq_true hk]
    rw [hk, List.take_length] at hd
    refine (mayNet_iff n).2 ⟨h0, fun i hi => ?_, fun i hi => ?_, fun i hi => ?_, fun s hs => ?_, hd⟩
    · obtain ⟨j, hj, rfl⟩ := List.mem_iff_getElem.1 hi
      exact h1.a j hj hj
    · obtain ⟨j, hj, rfl⟩ := List.mem_iff_getElem.1 hi
      exact h1.b j hj (by omega)
    · obtain ⟨j, hj, rfl⟩ := List.mem_iff_getElem.1 hi
      exact h2.a j hj hj
    · obtain ⟨j, hj, rfl⟩ := List.mem_iff_getElem.1 hs
      exact h3.a j hj hj
  · rw [decide_eq_false hk]
    refine mayNet_no fun g => hk ?_
    have h4 := congrArg List.length (hd.symm.trans g.2.2.2.2.2)
    rw [List.length_take] at h4
    have := h3.l
    omega
/-- amid a state's edges, amid its ends -/
structure Ok4 (n : NNet) (s : NSt) (k : Nat) : Prop where
  a : ∀ i (h : i < s.edges.length), i < k → edgeS n s s.edges[i]
theorem Ok4.next {n : NNet} {s : NSt} {k : Nat} (g : Ok4 n s k) (h1 : k < s.edges.length) (h : edgeS n s s.edges[k]) : Ok4 n s (k + 1) :=
  ⟨fun i hi hk => by
    rcases Nat.lt_succ_iff_lt_or_eq.1 hk with h3 | rfl
    · exact g.a i hi h3
    · exact h⟩
theorem edgeS_bad {n : NNet} {s : NSt} {k : Nat} (h1 : k < s.edges.length) (h : ¬ edgeS n s s.edges[k]) : ¬ (stMay n s = true) := fun g => h (((stMay_iff n s).1 g).1 _ (List.getElem_mem h1))
structure Ok5 (n : NNet) (s : NSt) (k : Nat) : Prop where
  a : ∀ i (h : i < s.ends.length), i < k → 0 ≤ s.ends[i] ∧ s.ends[i] < n.states.length
theorem Ok5.next {n : NNet} {s : NSt} {k : Nat} (g : Ok5 n s k) (h1 : k < s.ends.length) (h : 0 ≤ s.ends[k] ∧ s.ends[k] < n.states.length) : Ok5 n s (k + 1) :=
  ⟨fun i hi hk => by
    rcases Nat.lt_succ_iff_lt_or_eq.1 hk with h3 | rfl
    · exact g.a i hi h3
    · exact h⟩
theorem Ok4.done0 {n : NNet} {s : NSt} (g : Ok4 n s s.edges.length) (h : s.ends.length = 0) : stMay n s = true :=
  (stMay_iff n s).2 ⟨fun e he => by
    obtain ⟨j, hj, rfl⟩ := List.mem_iff_getElem.1 he
    exact g.a j hj hj, fun h2 => absurd h h2⟩
theorem Ok4.done1 {n : NNet} {s : NSt} (g : Ok4 n s s.edges.length) (h1 : s.ends.length = s.edges.length) (h2 : 2 ≤ s.ends.length) (g2 : Ok5 n s s.ends.length) : stMay n s = true :=
  (stMay_iff n s).2 ⟨fun e he => by
    obtain ⟨j, hj, rfl⟩ := List.mem_iff_getElem.1 he
    exact g.a j hj hj, fun _ => ⟨h1, h2, fun i hi => by
    obtain ⟨j, hj, rfl⟩ := List.mem_iff_getElem.1 hi
    exact g2.a j hj hj⟩⟩
end Drv
end Go.Proofs.YtnpcjbdolmmaeaaGreatDoor
