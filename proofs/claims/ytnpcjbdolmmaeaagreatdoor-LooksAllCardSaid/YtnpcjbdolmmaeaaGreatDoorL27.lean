/-
  Looks: CfM1, CfM3 (texts joined).
-/
import Derived.Deep.LoopGhost
import Derived.Test.YtnpcjbdolmmaeaaGreatDoorL05
import Derived.Test.YtnpcjbdolmmaeaaGreatDoorL17
import Derived.Test.YtnpcjbdolmmaeaaGreatDoorL22
namespace Go.Proofs.YtnpcjbdolmmaeaaGreatDoor
open Go.RowKit Go.Maps
set_option maxRecDepth 100000
namespace Drv
theorem edgeB_iff (n : NNet) (e : Ed) : edgeB n e = true ↔ (0 ≤ e.kind ∧ e.kind ≤ 3 ∧ 0 ≤ e.what ∧ (e.kind = 0 → e.what = 0) ∧ (e.kind = 2 → e.what < n.starts.length) ∧ (e.kind = 3 → e.what < n.preds.length) ∧ 0 ≤ e.to ∧ e.to < n.states.length) := by
  unfold edgeB stateB
  simp only [Bool.and_eq_true, decide_eq_true_eq, Bool.or_eq_true, beq_iff_eq]
  constructor
  · rintro ⟨⟨⟨⟨h0, h1⟩, h2⟩, h3⟩, h4, h5⟩
    refine ⟨h0, h1, h2, fun e => ?_, fun e => ?_, fun e => ?_, h4, h5⟩
    · rw [if_neg (by omega), if_neg (by omega)] at h3; omega
    · rw [if_pos e] at h3; omega
    · rw [if_neg (by omega), if_pos e] at h3; omega
  · rintro ⟨h0, h1, h2, h3, h4, h5, h6, h7⟩
    refine ⟨⟨⟨⟨h0, h1⟩, h2⟩, ?_⟩, h6, h7⟩
    by_cases k1 : e.kind = 1
    · exact .inl k1
    · refine .inr ?_
      by_cases k2 : e.kind = 2
      · rw [if_pos k2]; exact h4 k2
      · rw [if_neg k2]
        by_cases k3 : e.kind = 3
        · rw [if_pos k3]; exact h5 k3
        · rw [if_neg k3]; have := h3 (by omega); omega
def edgeS (n : NNet) (s : NSt) (e : Ed) : Prop := edgeB n e = true ∧ (s.ends.length ≠ 0 → e.kind = 0)
theorem stMay_iff (n : NNet) (s : NSt) : stMay n s = true ↔ ((∀ e ∈ s.edges, edgeS n s e) ∧ (s.ends.length ≠ 0 → s.ends.length = s.edges.length ∧ 2 ≤ s.ends.length ∧ ∀ i ∈ s.ends, 0 ≤ i ∧ i < n.states.length)) := by
  unfold stMay edgeS stateB
  simp only [Bool.and_eq_true, Bool.or_eq_true, beq_iff_eq, decide_eq_true_eq, List.all_eq_true]
  constructor
  · rintro ⟨h1, h2⟩
    refine ⟨fun e he => ⟨h1 e he, fun hn => ?_⟩, fun hn => ?_⟩
    · rcases h2 with h2 | h2
      · exact absurd h2 hn
      · exact h2.1.2 e he
    · rcases h2 with h2 | h2
      · exact absurd h2 hn
      · exact ⟨h2.1.1.1, h2.1.1.2, h2.2⟩
  · rintro ⟨h1, h2⟩
    refine ⟨fun e he => (h1 e he).1, ?_⟩
    by_cases hn : s.ends.length = 0
    · exact .inl hn
    · obtain ⟨a, b, c⟩ := h2 hn
      exact .inr ⟨⟨⟨a, b⟩, fun e he => (h1 e he).2 hn⟩, c⟩
theorem mayNet_iff (n : NNet) : mayNet n = true ↔ (n.starts.length = n.stops.length ∧ (∀ i ∈ n.starts, 0 ≤ i ∧ i < n.states.length) ∧ (∀ i ∈ n.stops, 0 ≤ i ∧ i < n.states.length) ∧ (∀ i ∈ n.preds, 0 ≤ i ∧ i < (n.states.length : Int) - 1) ∧
    (∀ s ∈ n.states, stMay n s = true ∧ 0 ≤ s.rule ∧ s.rule < n.starts.length) ∧ decsOf n.states = n.decs) := by
  unfold mayNet stateB
  simp only [Bool.and_eq_true, beq_iff_eq, List.all_eq_true, decide_eq_true_eq, and_assoc]
theorem mayNet_no {n : NNet} (h : ¬ (n.starts.length = n.stops.length ∧ (∀ i ∈ n.starts, 0 ≤ i ∧ i < n.states.length) ∧ (∀ i ∈ n.stops, 0 ≤ i ∧ i < n.states.length) ∧ (∀ i ∈ n.preds, 0 ≤ i ∧ i < (n.states.length : Int) - 1) ∧
    (∀ s ∈ n.states, stMay n s = true ∧ 0 ≤ s.rule ∧ s.rule < n.starts.length) ∧ decsOf n.states = n.decs)) : mayNet n = false := by
  cases hm : mayNet n with
  | false => rfl
  | true => exact absurd ((mayNet_iff n).1 hm) h
end Drv
end Go.Proofs.YtnpcjbdolmmaeaaGreatDoor
namespace Go.Proofs.YtnpcjbdolmmaeaaGreatDoor
open Go.RowKit Go.Maps
set_option maxRecDepth 100000
def RMayP (b : Bool) (w : World) (e : Ending) (w' : World) : Prop := e = .returned (.bool b) ∧ Below w.heap.size w w'
theorem rmay_no {n : Drv.NNet} {w w' : World} (h : Drv.mayNet n = false) (hb : Below w.heap.size w w') : RMayP (Drv.mayNet n) w (.returned (.bool false)) w' := ⟨by rw [h], hb⟩
namespace Drv
structure Ok1 (n : NNet) (k : Nat) : Prop where
  a : ∀ i (h : i < n.starts.length), i < k → 0 ≤ n.starts[i] ∧ n.starts[i] < n.states.length
  b : ∀ i (h : i < n.stops.length), i < k → 0 ≤ n.stops[i] ∧ n.stops[i] < n.states.length
theorem Ok1.bad {n : NNet} {k : Nat} (h1 : k < n.starts.length) (h2 : k < n.stops.length) (h : ¬ (0 ≤ n.starts[k] ∧ n.starts[k] < n.states.length ∧ 0 ≤ n.stops[k] ∧ n.stops[k] < n.states.length)) : mayNet n = false :=
  mayNet_no fun g => h ⟨(g.2.1 _ (List.getElem_mem h1)).1, (g.2.1 _ (List.getElem_mem h1)).2, (g.2.2.1 _ (List.getElem_mem h2)).1, (g.2.2.1 _ (List.getElem_mem h2)).2⟩
theorem Ok1.next {n : NNet} {k : Nat} (g : Ok1 n k) (h1 : k < n.starts.length) (h2 : k < n.stops.length) (h : 0 ≤ n.starts[k] ∧ n.starts[k] < n.states.length ∧ 0 ≤ n.stops[k] ∧ n.stops[k] < n.states.length) : Ok1 n (k + 1) :=
  ⟨fun i hi hk => by
    rcases Nat.lt_succ_iff_lt_or_eq.1 hk with h3 | rfl
    · exact g.a i hi h3
    · exact ⟨h.1, h.2.1⟩, fun i hi hk => by
    rcases Nat.lt_succ_iff_lt_or_eq.1 hk with h3 | rfl
    · exact g.b i hi h3
    · exact ⟨h.2.2.1, h.2.2.2⟩⟩
structure Ok2 (n : NNet) (k : Nat) : Prop where
  a : ∀ i (h : i < n.preds.length), i < k → 0 ≤ n.preds[i] ∧ n.preds[i] < (n.states.length : Int) - 1
theorem Ok2.bad {n : NNet} {k : Nat} (h1 : k < n.preds.length) (h : ¬ (0 ≤ n.preds[k] ∧ n.preds[k] < (n.states.length : Int) - 1)) : mayNet n = false :=
  mayNet_no fun g => h (g.2.2.2.1 _ (List.getElem_mem h1))
theorem Ok2.next {n : NNet} {k : Nat} (g : Ok2 n k) (h1 : k < n.preds.length) (h : 0 ≤ n.preds[k] ∧ n.preds[k] < (n.states.length : Int) - 1) : Ok2 n (k + 1) :=
  ⟨fun i hi hk => by
    rcases Nat.lt_succ_iff_lt_or_eq.1 hk with h3 | rfl
    · exact g.a i hi h3
    · exact h⟩
structure Ok3 (n : NNet) (k kd : Nat) : Prop where
  a : ∀ i (h : i < n.states.length), i < k → stMay n n.states[i] = true ∧ 0 ≤ n.states[i].rule ∧ n.states[i].rule < n.starts.length
  d : decsOf (n.states.take k) = n.decs.take kd
  l : kd ≤ n.decs.length
theorem Ok3.bad {n : NNet} {k : Nat} (h1 : k < n.states.length) (h : ¬ (stMay n n.states[k] = true ∧ 0 ≤ n.states[k].rule ∧ n.states[k].rule < n.starts.length)) : mayNet n = false :=
  mayNet_no fun g => h (g.2.2.2.2.1 _ (List.getElem_mem h1))
theorem decsOf_pre (l : List NSt) : ∀ m k, k ≤ m → ∃ r, decsOf (l.take m) = decsOf (l.take k) ++ r
  | 0, k, h => ⟨[], by rw [show k = 0 by omega]; simp⟩
  | m + 1, k, h => by
    rcases Nat.lt_or_ge k (m + 1) with h1 | h1
    · obtain ⟨r, hr⟩ := decsOf_pre l m k (by omega)
      by_cases hm : m < l.length
      · exact ⟨_, by rw [decsOf_take l m hm, hr, List.append_assoc]⟩
      · exact ⟨r, by rw [List.take_of_length_le (by omega), ← hr, List.take_of_length_le (by omega)]⟩
    · exact ⟨[], by rw [show k = m + 1 by omega]; simp⟩
theorem Ok3.badD {n : NNet} {k kd : Nat} (g : Ok3 n k kd) (h1 : k < n.states.length) (he : n.states[k].ends.length ≠ 0) (h : ∀ (hd : kd < n.decs.length), n.decs[kd] ≠ (k : Int)) : mayNet n = false := by
  refine mayNet_no fun g2 => ?_
  have h2 := g2.2.2.2.2.2
  have h3 := decsOf_take n.states k h1
  rw [if_neg he, g.d] at h3
  obtain ⟨r, hr⟩ := decsOf_pre n.states n.states.length (k + 1) (by omega)
  rw [List.take_length, h2, h3] at hr
  have hlt : kd < n.decs.length := by
    have h4 := congrArg List.length hr
    simp only [List.length_append, List.length_take, List.length_cons, List.length_nil] at h4
    have := g.l
    omega
  refine h hlt ?_
  have h5 : n.decs[kd]? = (n.decs.take kd ++ [(k : Int)] ++ r)[kd]? := by rw [← hr]
  rw [List.append_assoc, List.getElem?_append_right (by rw [List.length_take]; omega), List.length_take, Nat.min_eq_left (by omega), Nat.sub_self, List.getElem?_eq_getElem hlt] at h5
  simpa using h5
theorem Ok3.next0 {n : NNet} {k kd : Nat} (g : Ok3 n k kd) (h1 : k < n.states.length) (h : stMay n n.states[k] = true ∧ 0 ≤ n.states[k].rule ∧ n.states[k].rule < n.starts.length) (he : n.states[k].ends.length = 0) : Ok3 n (k + 1) kd :=
  ⟨fun i hi hk => by
    rcases Nat.lt_succ_iff_lt_or_eq.1 hk with h3 | rfl
    · exact g.a i hi h3
    · exact h, by rw [decsOf_take n.states k h1, if_pos he, List.append_nil]; exact g.d, g.l⟩
theorem Ok3.next1 {n : NNet} {k kd : Nat} (g : Ok3 n k kd) (h1 : k < n.states.length) (h : stMay n n.states[k] = true ∧ 0 ≤ n.states[k].rule ∧ n.states[k].rule < n.starts.length) (he : n.states[k].ends.length ≠ 0) (hd : kd < n.decs.length) (hk : n.decs[kd] = (k : Int)) : Ok3 n (k + 1) (kd + 1) :=
  ⟨fun i hi hk => by
    rcases Nat.lt_succ_iff_lt_or_eq.1 hk with h3 | rfl
    · exact g.a i hi h3
    · exact h, by rw [decsOf_take n.states k h1, if_neg he, g.d, List.take_succ_eq_append_getElem hd, hk], by omega⟩
theorem Ok3.done {n : NNet} {kd : Nat} (h0 : n.starts.length = n.stops.length) (h1 : Ok1 n n.starts.length) (h2 : Ok2 n n.preds.length) (h3 : Ok3 n n.states.length kd) : mayNet n = decide (kd = n.decs.length) := by
  have hd := h3.d
  rw [List.take_length] at hd
  by_cases hk : kd = n.decs.length
  · rw [decide_eq_true hk]
    rw [hk, List.take_length] at hd
    refine (mayNet_iff n).2 ⟨h0, fun i hi => ?_, fun i hi => ?_, fun i hi => ?_, fun s hs => ?_, hd⟩
    · obtain ⟨j, hj, rfl⟩ := List.mem_iff_getElem.1 hi
      exact h1.a j hj hj
    · obtain ⟨j, hj, rfl⟩ := List.mem_iff_getElem.1 hi
      exact h1.b j hj (by omega)
    · obtain ⟨j, hj, rfl⟩ := List.mem_iff_getElem.1 hi
      exact h2.a j hj hj
    · obtain ⟨j, hj, rfl⟩ := List.mem_iff_getElem.1 hs
      exact h3.a j hj hj
  · rw [decide_eq_false hk]
    refine mayNet_no fun g => hk ?_
    have h4 := congrArg List.length (hd.symm.trans g.2.2.2.2.2)
    rw [List.length_take] at h4
    have := h3.l
    omega
structure Ok4 (n : NNet) (s : NSt) (k : Nat) : Prop where
  a : ∀ i (h : i < s.edges.length), i < k → edgeS n s s.edges[i]
theorem Ok4.next {n : NNet} {s : NSt} {k : Nat} (g : Ok4 n s k) (h1 : k < s.edges.length) (h : edgeS n s s.edges[k]) : Ok4 n s (k + 1) :=
  ⟨fun i hi hk => by
    rcases Nat.lt_succ_iff_lt_or_eq.1 hk with h3 | rfl
    · exact g.a i hi h3
    · exact h⟩
theorem edgeS_bad {n : NNet} {s : NSt} {k : Nat} (h1 : k < s.edges.length) (h : ¬ edgeS n s s.edges[k]) : ¬ (stMay n s = true) := fun g => h (((stMay_iff n s).1 g).1 _ (List.getElem_mem h1))
structure Ok5 (n : NNet) (s : NSt) (k : Nat) : Prop where
  a : ∀ i (h : i < s.ends.length), i < k → 0 ≤ s.ends[i] ∧ s.ends[i] < n.states.length
theorem Ok5.next {n : NNet} {s : NSt} {k : Nat} (g : Ok5 n s k) (h1 : k < s.ends.length) (h : 0 ≤ s.ends[k] ∧ s.ends[k] < n.states.length) : Ok5 n s (k + 1) :=
  ⟨fun i hi hk => by
    rcases Nat.lt_succ_iff_lt_or_eq.1 hk with h3 | rfl
    · exact g.a i hi h3
    · exact h⟩
theorem Ok4.done0 {n : NNet} {s : NSt} (g : Ok4 n s s.edges.length) (h : s.ends.length = 0) : stMay n s = true :=
  (stMay_iff n s).2 ⟨fun e he => by
    obtain ⟨j, hj, rfl⟩ := List.mem_iff_getElem.1 he
    exact g.a j hj hj, fun h2 => absurd h h2⟩
theorem Ok4.done1 {n : NNet} {s : NSt} (g : Ok4 n s s.edges.length) (h1 : s.ends.length = s.edges.length) (h2 : 2 ≤ s.ends.length) (g2 : Ok5 n s s.ends.length) : stMay n s = true :=
  (stMay_iff n s).2 ⟨fun e he => by
    obtain ⟨j, hj, rfl⟩ := List.mem_iff_getElem.1 he
    exact g.a j hj hj, fun _ => ⟨h1, h2, fun i hi => by
    obtain ⟨j, hj, rfl⟩ := List.mem_iff_getElem.1 hi
    exact g2.a j hj hj⟩⟩
end Drv
end Go.Proofs.YtnpcjbdolmmaeaaGreatDoor
namespace Go.Proofs.YtnpcjbdolmmaeaaGreatDoor
open Go.RowKit Go.Maps
set_option maxRecDepth 100000
def netCells (SA TA UA QA DA : Option Addr) (nS nT nU nQ nD sc tc uc qc dc : Nat) : Array Value := #[.slice SA nS sc, .slice TA nT tc, .slice UA nU uc, .slice QA nQ qc, .slice DA nD dc]
set_option maxHeartbeats 25600000 in
theorem rnetMay_any (w : World) (n : Drv.NNet) (SA TA UA QA DA : Option Addr) (sc tc uc qc dc : Nat) (h : NetRf w w.heap.size SA TA UA QA DA n) (hs : NetS n) :
    Calls Tryz.prog 29 #[netAgg SA TA UA QA DA sc tc uc qc dc n] w (RMayP (Drv.mayNet n) w) := by
  obtain ⟨nS, hnS⟩ : ∃ m, n.states.length = m := ⟨_, rfl⟩
  obtain ⟨nT, hnT⟩ : ∃ m, n.starts.length = m := ⟨_, rfl⟩
  obtain ⟨nU, hnU⟩ : ∃ m, n.stops.length = m := ⟨_, rfl⟩
  obtain ⟨nQ, hnQ⟩ : ∃ m, n.preds.length = m := ⟨_, rfl⟩
  obtain ⟨nD, hnD⟩ : ∃ m, n.decs.length = m := ⟨_, rfl⟩
  have hS6 : nS ≤ 1000000 := by rw [← hnS]; exact hs.states
  have hT6 : nT ≤ 1000000 := by rw [← hnT]; exact hs.starts
  have hQ6 : nQ ≤ 1000000 := by rw [← hnQ]; exact hs.preds
  have hD6 : nD ≤ 1000000 := by rw [← hnD]; exact hs.decs
  obtain ⟨w1, hw1⟩ : ∃ x, x = w.alloc (.cells (netCells SA TA UA QA DA nS nT nU nQ nD sc tc uc qc dc) 38) := ⟨_, rfl⟩
  have b1 : Below w.heap.size w w1 := by rw [hw1]; exact below_new _ _
  have T1 : w1.heap[w.heap.size]? = some (.cells (netCells SA TA UA QA DA nS nT nU nQ nD sc tc uc qc dc) 38 (0, 0)) := by rw [hw1]; exact heap_alloc_new _ _
  have HW1 := hid hw1.symm
  have HB1 := hid b1
  have H := hid h
  have HS := hid hs
  have CN := hid (fun (w' : World) (hb : Below w1.heap.size w1 w') => (show w'.cell? ⟨w.heap.size, 0, none⟩ = some (.slice SA nS sc) ∧ w'.cell? ⟨w.heap.size, 1, none⟩ = some (.slice TA nT tc) ∧ w'.cell? ⟨w.heap.size, 2, none⟩ = some (.slice UA nU uc) ∧ w'.cell? ⟨w.heap.size, 3, none⟩ = some (.slice QA nQ qc) ∧ w'.cell? ⟨w.heap.size, 4, none⟩ = some (.slice DA nD dc) from by
    have T := (hb.block _ (heap_lt T1)).trans T1
    refine ⟨?_, ?_, ?_, ?_, ?_⟩ <;> (rw [Lib.cell_of_heap T]; rfl)))
  unfold netAgg
  rw [hnS, hnT, hnU, hnQ, hnD]
  have HNS := hid hnS
  have HNT := hid hnT
  have HNU := hid hnU
  have HNQ := hid hnQ
  have HND := hid hnD
  have hb1s := heap_lt T1
  clear h hs hw1 b1 T1 hnS hnT hnU hnQ hnD
  obtain ⟨cn0, cn1, cn2, cn3, cn4⟩ := CN.out w1 (Below.refl _ _)
  unfold netCells at HW1
  go_enter Tryz.func29, Tryz.ntmps29
  go_upto_region 1 with fail
  rw [HW1.out]
  clear HW1
  have H1 := hid (H.out.below HB1.out)
  by_cases hTU : nT = nU
  · subst hTU
    have g0 : ((nT : Int) != (nT : Int)) = false := by simp
    go_wp2_with fail
    go_loop [4] (fun i => ∃ k : Nat, k ≤ nT ∧ i = .int .i64 k ∧ Hid (Drv.Ok1 n k)) (fun i => nT - (intOf i).toNat)
    case atStart => exact ⟨0, Nat.zero_le _, rfl, hid ⟨fun _ _ h => absurd h (Nat.not_lt_zero _), fun _ _ h => absurd h (Nat.not_lt_zero _)⟩⟩
    case round =>
      obtain ⟨k, hk, rfl, HK⟩ := hrel
      by_cases hlt : k < nT
      · as_aux_lemma =>
          have hltI : (k : Int) < (nT : Int) := by omega
          have hkT : k < n.starts.length := by rw [HNT.out]; exact hlt
          have hkU : k < n.stops.length := by rw [HNU.out]; exact hlt
          obtain ⟨tb, to', rfl, htb, ct⟩ := H1.out.starts.2 (by omega)
          obtain ⟨ub, uo, rfl, hub, cu⟩ := H1.out.stops.2 (by omega)
          have x0 := ct k _ (by rw [List.getElem?_map, List.getElem?_eq_getElem hkT]; rfl)
          have y0 := cu k _ (by rw [List.getElem?_map, List.getElem?_eq_getElem hkU]; rfl)
          have BAD := hid (fun h => rmay_no (Drv.Ok1.bad hkT hkU h) HB1.out)
          have NEXT := hid (fun h => HK.out.next hkT hkU h)
          rw [HNS.out] at BAD NEXT
          generalize n.starts[k] = tv at x0 BAD NEXT
          generalize n.stops[k] = uv at y0 BAD NEXT
          clear ct cu HK
          go_wp2_with fail
          all_goals first
            | (go_ret; exact BAD.out (by omega))
            | skip
          go_round
          case rel => exact ⟨k + 1, by omega, by go_num, hid (NEXT.out (by omega))⟩
          case measure => simp [intOf]; omega
      · have hkn : nT = k := by omega
        subst hkn
        have hltI : ¬ (nT : Int) < (nT : Int) := by omega
        go_wp2_with fail
        go_loop [5] (fun i => ∃ q : Nat, q ≤ nQ ∧ i = .int .i64 q ∧ Hid (Drv.Ok2 n q)) (fun i => nQ - (intOf i).toNat)
        case atStart => exact ⟨0, Nat.zero_le _, rfl, hid ⟨fun _ _ h => absurd h (Nat.not_lt_zero _)⟩⟩
        case round =>
          obtain ⟨q, hq, rfl, HQ⟩ := hrel
          by_cases hlt : q < nQ
          · as_aux_lemma =>
              have hltI2 : (q : Int) < (nQ : Int) := by omega
              have hqQ : q < n.preds.length := by rw [HNQ.out]; exact hlt
              obtain ⟨tb, to', rfl, htb, ct⟩ := H1.out.preds.2 (by omega)
              have x0 := ct q _ (by rw [List.getElem?_map, List.getElem?_eq_getElem hqQ]; rfl)
              have BAD := hid (fun h => rmay_no (Drv.Ok2.bad hqQ h) HB1.out)
              have NEXT := hid (fun h => HQ.out.next hqQ h)
              rw [HNS.out] at BAD NEXT
              generalize n.preds[q] = tv at x0 BAD NEXT
              clear ct HQ HK
              go_wp2_with fail
              all_goals first
                | (go_ret; exact BAD.out (by omega))
                | skip
              go_round
              case rel => exact ⟨q + 1, by omega, by go_num, hid (NEXT.out (by omega))⟩
              case measure => simp [intOf]; omega
          · have hqn : nQ = q := by omega
            subst hqn
            have hltI2 : ¬ (nQ : Int) < (nQ : Int) := by omega
            clear cn0 cn1 cn2 cn3 cn4
            obtain ⟨cn0, cn1, cn2, cn3, cn4⟩ := CN.out w1 (Below.refl _ _)
            go_wp2_with fail
            go_loopw [6, 7] (fun d i wr => ∃ (m kd : Nat), m ≤ nS ∧ kd ≤ nD ∧ d = .int .i64 kd ∧ i = .int .i64 m ∧ Hid (Below w1.heap.size w1 wr ∧ Drv.Ok3 n m kd)) (fun _ i _ => nS - (intOf i).toNat)
            case atStart => exact ⟨0, 0, Nat.zero_le _, Nat.zero_le _, rfl, rfl, hid ⟨Below.refl _ _, ⟨fun _ _ h => absurd h (Nat.not_lt_zero _), by simp [Drv.decsOf], Nat.zero_le _⟩⟩⟩
            case round =>
              obtain ⟨m, kd, hm, hkd, rfl, rfl, HM⟩ := hrel
              clear cn0 cn1 cn2 cn3 cn4
              obtain ⟨cn0, cn1, cn2, cn3, cn4⟩ := CN.out wr HM.out.1
              have HBR := hid HM.out.1
              have HBW := hid (HB1.out.trans (HM.out.1.mono (by omega)))
              by_cases hlt : m < nS
              · as_aux_lemma =>
                  have hmI : (m : Int) < (nS : Int) := by omega
                  have hml : m < n.states.length := by rw [HNS.out]; exact hlt
                  obtain ⟨b, off, EA, ec, XA, xc, rfl, hbl, e0, e1, e2, r0, r1⟩ := H.out.sts.at hml
                  have e0 := (HBW.out.cell (p := ⟨b, off + m * 3, none⟩) hbl).trans e0
                  have e1 := (HBW.out.cell (p := ⟨b, off + m * 3 + 1, none⟩) hbl).trans e1
                  have e2 := (HBW.out.cell (p := ⟨b, off + m * 3 + 2, none⟩) hbl).trans e2
                  have hsz := HS.out.st _ (List.getElem_mem hml)
                  have BAD3 := hid (fun h => Drv.Ok3.bad hml h)
                  have BADD := hid (fun he h => HM.out.2.badD hml he h)
                  have NEXT0 := hid (fun h he => HM.out.2.next0 hml h he)
                  have NEXT1 := hid (fun h he hd hk => HM.out.2.next1 hml h he hd hk)
                  generalize n.states[m] = s at e0 e1 e2 r0 r1 hsz BAD3 BADD NEXT0 NEXT1
                  obtain ⟨nE, hnE⟩ : ∃ m, s.edges.length = m := ⟨_, rfl⟩
                  obtain ⟨nX, hnX⟩ : ∃ m, s.ends.length = m := ⟨_, rfl⟩
                  rw [hnE] at e1 r0 hsz
                  rw [hnX] at e2 r1 hsz
                  obtain ⟨hE6, hX6, _⟩ := hsz
                  have HNE := hid hnE
                  have HNX := hid hnX
                  have R0 := hid r0
                  have R1 := hid r1
                  clear hnE hnX r0 r1 HM
                  obtain ⟨rl, hrl⟩ : ∃ r, s.rule = r := ⟨_, rfl⟩
                  rw [hrl] at e0
                  have HRL := hid hrl
                  clear hrl
                  have hwr : w.heap.size ≤ wr.heap.size := HBW.out.size
                  obtain ⟨w2, hw2⟩ : ∃ x, x = wr.alloc (.cells #[.int .i64 rl, .slice EA nE ec, .slice XA nX xc] 97) := ⟨_, rfl⟩
                  have b2 : Below wr.heap.size wr w2 := by rw [hw2]; exact below_new _ _
                  have T2 : w2.heap[wr.heap.size]? = some (.cells #[.int .i64 rl, .slice EA nE ec, .slice XA nX xc] 97 (0, 0)) := by rw [hw2]; exact heap_alloc_new _ _
                  have HW2 := hid hw2.symm
                  have HB2 := hid (HBW.out.trans (b2.mono hwr))
                  have HBR2 := hid (HBR.out.trans (b2.mono HBR.out.size))
                  have hg2 := heap_lt T2
                  have SN := hid (fun (w' : World) (hb : Below w2.heap.size w2 w') => (show w'.cell? ⟨wr.heap.size, 0, none⟩ = some (.int .i64 rl) ∧ w'.cell? ⟨wr.heap.size, 1, none⟩ = some (.slice EA nE ec) ∧ w'.cell? ⟨wr.heap.size, 2, none⟩ = some (.slice XA nX xc) from by
                    have T := (hb.block _ hg2).trans T2
                    refine ⟨?_, ?_, ?_⟩ <;> (rw [Lib.cell_of_heap T]; rfl)))
                  clear hw2 b2 T2
                  go_upto_region 19 with fail
                  rw [HW2.out]
                  generalize hgg : wr.heap.size = gg at SN hg2 ⊢
                  clear HW2 e0 e1 e2 hgg cn0 cn1 cn2 cn3 cn4
                  obtain ⟨cn0, cn1, cn2, cn3, cn4⟩ := CN.out w2 HBR2.out
                  obtain ⟨s0, s1, s2⟩ := SN.out w2 (Below.refl _ _)
                  by_cases hr : 0 ≤ rl ∧ rl < nT
                  · have d1 : decide (rl < 0) = false := by rw [decide_eq_false_iff_not]; omega
                    have d2 : decide ((nT : Int) ≤ rl) = false := by rw [decide_eq_false_iff_not]; omega
                    have HRR : Hid (0 ≤ s.rule ∧ s.rule < n.starts.length) := hid (by rw [HRL.out, HNT.out]; exact hr)
                    clear hr
                    go_wp2_with fail
                    go_loopw [9] (fun i wq => ∃ j : Nat, j ≤ nE ∧ i = .int .i64 j ∧ Hid (Below w2.heap.size w2 wq ∧ Drv.Ok4 n s j)) (fun i _ => nE - (intOf i).toNat)
                    case atStart => exact ⟨0, Nat.zero_le _, rfl, hid ⟨Below.refl _ _, ⟨fun _ _ h => absurd h (Nat.not_lt_zero _)⟩⟩⟩
                    case round =>
                      rename World => wq
                      obtain ⟨j, hj, rfl, HJ⟩ := hrel
                      clear cn0 cn1 cn2 cn3 cn4 s0 s1 s2 d1 d2
                      have HBQ := hid (HB2.out.trans (HJ.out.1.mono HB2.out.size))
                      obtain ⟨cn0, cn1, cn2, cn3, cn4⟩ := CN.out wq (HBR2.out.trans (HJ.out.1.mono HBR2.out.size))
                      obtain ⟨s0, s1, s2⟩ := SN.out wq HJ.out.1
                      by_cases hjl : j < nE
                      · as_aux_lemma =>
                          have hjI : (j : Int) < (nE : Int) := by omega
                          have hjs : j < s.edges.length := by rw [HNE.out]; exact hjl
                          obtain ⟨eb, eo, rfl, heb, ce⟩ := (R0.out.below HBQ.out).2 (by omega)
                          have f0 := ce _ _ (flat_get encEf 3 (fun _ => rfl) s.edges j hjs 0 (by omega))
                          have f1 := ce _ _ (flat_get encEf 3 (fun _ => rfl) s.edges j hjs 1 (by omega))
                          have f2 := ce _ _ (flat_get encEf 3 (fun _ => rfl) s.edges j hjs 2 (by omega))
                          have x0 : wq.cell? ⟨eb, eo + (j * 3 + 0), none⟩ = some (.int .i64 s.edges[j].kind) := f0
                          have x1 : wq.cell? ⟨eb, eo + (j * 3 + 1), none⟩ = some (.int .i64 s.edges[j].what) := f1
                          have x2 : wq.cell? ⟨eb, eo + (j * 3 + 2), none⟩ = some (.int .i64 s.edges[j].to) := f2
                          rw [Nat.add_zero] at x0
                          rw [← Nat.add_assoc] at x1 x2
                          have BAD := hid (fun w' (hb : Below w.heap.size w w') h => rmay_no (BAD3.out fun g => Drv.edgeS_bad hjs h g.1) hb)
                          have NEXT := hid (fun h => HJ.out.2.next hjs h)
                          unfold Drv.edgeS at BAD NEXT
                          rw [Drv.edgeB_iff, HNT.out, HNQ.out, HNS.out, HNX.out] at BAD NEXT
                          generalize s.edges[j] = e at x0 x1 x2 BAD NEXT
                          obtain ⟨ek, ew, et⟩ := e
                          simp only at x0 x1 x2 BAD NEXT
                          have HJ1 := hid HJ.out.1
                          clear f0 f1 f2 ce HJ BAD3 BADD NEXT0 NEXT1 HK HQ
                          obtain ⟨w4, hw4⟩ : ∃ x, x = wq.alloc (.cells #[.int .i64 ek, .int .i64 ew, .int .i64 et] 101) := ⟨_, rfl⟩
                          have b4 : Below wq.heap.size wq w4 := by rw [hw4]; exact below_new _ _
                          have T4 : w4.heap[wq.heap.size]? = some (.cells #[.int .i64 ek, .int .i64 ew, .int .i64 et] 101 (0, 0)) := by rw [hw4]; exact heap_alloc_new _ _
                          have HW4 := hid hw4.symm
                          have HB4 := hid (HBQ.out.trans (b4.mono HBQ.out.size))
                          have HBR4 := hid ((HBR2.out.trans (HJ1.out.mono HBR2.out.size)).trans (b4.mono (by have := HBR2.out.size; have := HJ1.out.size; omega)))
                          have HJ4 := hid (HJ1.out.trans (b4.mono HJ1.out.size))
                          have y0 : w4.cell? ⟨wq.heap.size, 0, none⟩ = some (.int .i64 ek) := by rw [Lib.cell_of_heap T4]; rfl
                          have y1 : w4.cell? ⟨wq.heap.size, 1, none⟩ = some (.int .i64 ew) := by rw [Lib.cell_of_heap T4]; rfl
                          have y2 : w4.cell? ⟨wq.heap.size, 2, none⟩ = some (.int .i64 et) := by rw [Lib.cell_of_heap T4]; rfl
                          clear hw4 b4 T4
                          go_upto_region 25 with fail
                          rw [HW4.out]
                          generalize wq.heap.size = g4 at y0 y1 y2 ⊢
                          clear HW4 x0 x1 x2 cn0 cn1 cn2 cn3 cn4 s0 s1 s2
                          obtain ⟨cn0, cn1, cn2, cn3, cn4⟩ := CN.out w4 HBR4.out
                          obtain ⟨s0, s1, s2⟩ := SN.out w4 HJ4.out
                          go_wp2_with fail
                          all_goals first
                            | (go_ret; exact BAD.out _ HB4.out (by omega))
                            | (go_roundw; (case rel => exact ⟨j + 1, by omega, by go_num, hid ⟨HJ4.out, NEXT.out (by omega)⟩⟩); (case measure => simp [intOf]; omega))
                      · have hjn : nE = j := by omega
                        subst hjn
                        have hjI : ¬ (nE : Int) < (nE : Int) := by omega
                        have HJ1 := hid HJ.out.1
                        have HJ2 := hid HJ.out.2
                        have HWQ := hid (HBR2.out.trans (HJ.out.1.mono HBR2.out.size))
                        clear HJ
                        by_cases hX0 : nX = 0
                        · subst hX0
                          have HN := hid (NEXT0.out ⟨Drv.Ok4.done0 (by rw [HNE.out]; exact HJ2.out) HNX.out, HRR.out⟩ HNX.out)
                          clear BAD3 BADD NEXT0 NEXT1 HJ2
                          go_wp2_with fail
                          go_roundw
                          case rel => exact ⟨m + 1, kd, by omega, hkd, rfl, by go_num, hid ⟨HWQ.out, HN.out⟩⟩
                          case measure => simp [intOf]; omega
                        · have hXn : s.ends.length ≠ 0 := by rw [HNX.out]; exact hX0
                          have hx1 : (nX == 0) = false := by rw [beq_eq_false_iff_ne]; exact hX0
                          have hx2 : ((nX : Int) == 0) = false := by rw [beq_eq_false_iff_ne]; omega
                          by_cases hkD : kd < nD
                          · have hkDl : kd < n.decs.length := by rw [HND.out]; exact hkD
                            obtain ⟨db, do', rfl, hdb, cd⟩ := (H.out.decs.below HBQ.out).2 (by omega)
                            have x0 := cd kd _ (by rw [List.getElem?_map, List.getElem?_eq_getElem hkDl]; rfl)
                            have hkI : (kd : Int) < (nD : Int) := by omega
                            have hD1 : decide (nD ≤ kd) = false := by rw [decide_eq_false_iff_not]; omega
                            have hD2 : decide ((nD : Int) ≤ (kd : Int)) = false := by rw [decide_eq_false_iff_not]; omega
                            obtain ⟨dv, hdv⟩ : ∃ v, n.decs[kd] = v := ⟨_, rfl⟩
                            rw [hdv] at x0
                            by_cases hA : 2 ≤ nX ∧ nX = nE ∧ dv = (m : Int)
                            · obtain ⟨hA1, hA2, hA3⟩ := hA
                              have HN := hid (fun g => NEXT1.out ⟨Drv.Ok4.done1 (by rw [HNE.out]; exact HJ2.out) (by rw [HNX.out, HNE.out]; exact hA2) (by rw [HNX.out]; exact hA1) (by rw [HNX.out]; exact g), HRR.out⟩ hXn hkDl (hdv.trans hA3))
                              subst hA3
                              obtain rfl := hA2.symm
                              clear BADD NEXT0 NEXT1 HJ2 hdv hx1 hx2 hX0 cd
                              have k1 : decide (nE < 2) = false := by rw [decide_eq_false_iff_not]; omega
                              have k2 : decide ((nE : Int) < 2) = false := by rw [decide_eq_false_iff_not]; omega
                              go_wp2_with fail
                              go_loop [11] (fun i => ∃ q : Nat, q ≤ nE ∧ i = .int .i64 q ∧ Hid (Drv.Ok5 n s q)) (fun i => nE - (intOf i).toNat)
                              case atStart => exact ⟨0, Nat.zero_le _, rfl, hid ⟨fun _ _ h => absurd h (Nat.not_lt_zero _)⟩⟩
                              case round =>
                                obtain ⟨q, hq, rfl, HQ5⟩ := hrel
                                by_cases hql : q < nE
                                · have hqI : (q : Int) < (nE : Int) := by omega
                                  have hqs : q < s.ends.length := by rw [HNX.out]; exact hql
                                  obtain ⟨xb, xo, rfl, hxb, cx⟩ := (R1.out.below HBQ.out).2 (by omega)
                                  have y0 := cx q _ (by rw [List.getElem?_map, List.getElem?_eq_getElem hqs]; rfl)
                                  have BAD := hid (fun w' (hb : Below w.heap.size w w') (h : ¬ (0 ≤ s.ends[q] ∧ s.ends[q] < (n.states.length : Int))) => rmay_no (BAD3.out fun g => h ((((Drv.stMay_iff n s).1 g.1).2 hXn).2.2 _ (List.getElem_mem hqs))) hb)
                                  have NEXT := hid (fun h => HQ5.out.next hqs h)
                                  rw [HNS.out] at BAD NEXT
                                  generalize s.ends[q] = tv at y0 BAD NEXT
                                  clear cx HQ5 BAD3 x0
                                  go_wp2_with fail
                                  all_goals first
                                    | (go_ret; exact BAD.out _ HBQ.out (by omega))
                                    | skip
                                  go_round
                                  case rel => exact ⟨q + 1, by omega, by go_num, hid (NEXT.out (by omega))⟩
                                  case measure => simp [intOf]; omega
                                · have hqn : nE = q := by omega
                                  subst hqn
                                  have hqI : ¬ (nE : Int) < (nE : Int) := by omega
                                  have HF := hid (HN.out HQ5.out)
                                  clear HN HQ5 x0
                                  go_wp2_with fail
                                  go_roundw
                                  case rel => exact ⟨m + 1, kd + 1, by omega, by omega, by go_num, by go_num, hid ⟨HWQ.out, HF.out⟩⟩
                                  case measure => simp [intOf]; omega
                            · have HF := hid (fun w' (hb : Below w.heap.size w w') => rmay_no (n := n) (by
                                by_cases h2 : 2 ≤ nX ∧ nX = nE
                                · exact BADD.out hXn fun _ e => hA ⟨h2.1, h2.2, hdv.symm.trans e⟩
                                · refine BAD3.out fun g => h2 ?_
                                  have h3 := ((Drv.stMay_iff n s).1 g.1).2 hXn
                                  rw [HNX.out, HNE.out] at h3
                                  exact ⟨h3.2.1, h3.1⟩) hb)
                              clear BADD NEXT0 NEXT1 HJ2 hdv cd BAD3
                              by_cases q1 : nX < 2
                              · have k1 : decide (nX < 2) = true := by rw [decide_eq_true_eq]; exact q1
                                have k2 : decide ((nX : Int) < 2) = true := by rw [decide_eq_true_eq]; omega
                                clear q1 hA
                                go_wp2_with fail
                                go_ret
                                exact HF.out _ HBQ.out
                              · have k1 : decide (nX < 2) = false := by rw [decide_eq_false_iff_not]; exact q1
                                have k2 : decide ((nX : Int) < 2) = false := by rw [decide_eq_false_iff_not]; omega
                                by_cases q2 : nX = nE
                                · subst q2
                                  have k3 : (dv != (m : Int)) = true := by rw [bne_iff_ne]; exact fun e => hA ⟨by omega, rfl, e⟩
                                  clear q1 hA
                                  go_wp2_with fail
                                  go_ret
                                  exact HF.out _ HBQ.out
                                · have k3 : ((nX : Int) != (nE : Int)) = true := by rw [bne_iff_ne]; omega
                                  have k4 : (nX != nE) = true := by rw [bne_iff_ne]; exact q2
                                  clear q1 hA q2
                                  go_wp2_with fail
                                  go_ret
                                  exact HF.out _ HBQ.out
                          · have HF := hid (fun w' (hb : Below w.heap.size w w') => rmay_no (n := n) (BADD.out hXn fun hd _ => by rw [HND.out] at hd; omega) hb)
                            clear BADD NEXT0 NEXT1 HJ2 BAD3
                            go_wp2_with fail
                            all_goals first
                              | (go_ret; exact HF.out _ HBQ.out)
                              | (exfalso; omega)
                  · have HF := hid (fun w' (hb : Below w.heap.size w w') => rmay_no (BAD3.out fun g => hr (by rw [← HRL.out, ← HNT.out]; exact g.2)) hb)
                    go_wp2_with fail
                    all_goals first
                      | (go_ret; exact HF.out _ HB2.out)
                      | (exfalso; omega)
              · have hmn : nS = m := by omega
                subst hmn
                have hmI : ¬ (nS : Int) < (nS : Int) := by omega
                have hdn := Drv.Ok3.done (n := n) (kd := kd) (by rw [HNT.out, HNU.out]) (by rw [HNT.out]; exact HK.out) (by rw [HNQ.out]; exact HQ.out) (by rw [HNS.out]; exact HM.out.2)
                rw [HND.out] at hdn
                by_cases hkD : kd = nD
                · rw [decide_eq_true hkD] at hdn
                  have f1 : ((kd : Int) == (nD : Int)) = true := by rw [beq_iff_eq]; omega
                  have f2 : (kd == nD) = true := by rw [beq_iff_eq]; exact hkD
                  have HF : Hid (RMayP (Drv.mayNet n) w (.returned (.bool true)) wr) := hid ⟨by rw [hdn], HBW.out⟩
                  clear hdn hkD
                  go_wp2_with fail
                  go_ret
                  exact HF.out
                · rw [decide_eq_false hkD] at hdn
                  have f1 : ((kd : Int) == (nD : Int)) = false := by rw [beq_eq_false_iff_ne]; omega
                  have f2 : (kd == nD) = false := by rw [beq_eq_false_iff_ne]; exact hkD
                  have HF : Hid (RMayP (Drv.mayNet n) w (.returned (.bool false)) wr) := hid ⟨by rw [hdn], HBW.out⟩
                  clear hdn hkD
                  go_wp2_with fail
                  go_ret
                  exact HF.out
  · have g0 : ((nT : Int) != (nU : Int)) = true := by rw [bne_iff_ne]; omega
    have HF := hid (rmay_no (Drv.mayNet_no fun g => hTU (by rw [← HNT.out, ← HNU.out]; exact g.1)) HB1.out)
    clear hTU
    go_wp2_with fail
    go_ret
    exact HF.out
end Go.Proofs.YtnpcjbdolmmaeaaGreatDoor
