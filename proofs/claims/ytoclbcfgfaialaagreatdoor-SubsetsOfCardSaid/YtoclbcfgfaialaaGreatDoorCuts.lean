/-
  ranges.cuts: the walk, over the shelf's contracts of slices.Sort and slices.Compact at int64.
-/
import Derived.Test.YtoclbcfgfaialaaGreatDoorNeat
import Derived.Test.YtoclbcfgfaialaaGreatDoorLL
import Derived.Lib.SlicesCompact
import Derived.Lib.QuietBelow
import Derived.Deep.RegionHeld3
import Derived.Deep.DeepCutAuto
namespace Go.Proofs.YtoclbcfgfaialaaGreatDoor
open Go.RowKit
open Go.Sort (putRow putCells Holds heap_grow_old grow_empty mapBlock onCells grow)
set_option maxRecDepth 100000
/-- what compact makes of a list that rises: it rises strictly, and has the same members -/
theorem compactUpTo_law (d : Array Int) (hs : ∀ i j, i < j → j < d.size → d[i]! ≤ d[j]!) (m : Nat) (hm : m ≤ d.size) :
    (Lib.compactUpTo d m).Pairwise (· < ·) ∧ (∀ x, x ∈ Lib.compactUpTo d m ↔ ∃ j, j < m ∧ d[j]! = x) ∧ (∀ x ∈ Lib.compactUpTo d m, 0 < m ∧ x ≤ d[m-1]!) := by
  induction m with
  | zero => simp [Lib.compactUpTo]
  | succ m ih =>
    obtain ⟨i1, i2, i3⟩ := ih (by omega)
    rw [Lib.compactUpTo_succ]
    rcases Nat.eq_zero_or_pos m with h0 | h0
    · subst h0
      have : Lib.keeps d 0 = true := by simp [Lib.keeps]
      rw [this]
      simp [Lib.compactUpTo]
      exact fun x => eq_comm
    · have hle := hs (m-1) m (by omega) (by omega)
      by_cases hd : d[m]! = d[m-1]!
      · rw [Lib.keeps_neg h0 hd]
        simp only [Bool.false_eq_true, if_false, List.append_nil]
        refine ⟨i1, fun x => ?_, fun x hx => ?_⟩
        · rw [i2]
          constructor
          · rintro ⟨j, hj, rfl⟩; exact ⟨j, by omega, rfl⟩
          · rintro ⟨j, hj, rfl⟩
            by_cases e : j = m
            · subst e; exact ⟨j - 1, by omega, hd.symm⟩
            · exact ⟨j, by omega, rfl⟩
        · have := i3 x hx
          simp only [Nat.add_sub_cancel]
          exact ⟨by omega, by omega⟩
      · rw [Lib.keeps_pos hd]
        simp only [if_true]
        refine ⟨?_, fun x => ?_, fun x hx => ?_⟩
        · rw [List.pairwise_append]
          refine ⟨i1, List.pairwise_singleton _ _, fun a ha b hb => ?_⟩
          simp at hb; subst hb
          have := i3 a ha
          omega
        · rw [List.mem_append, i2]
          constructor
          · rintro (⟨j, hj, rfl⟩ | h)
            · exact ⟨j, by omega, rfl⟩
            · simp at h; exact ⟨m, by omega, h.symm⟩
          · rintro ⟨j, hj, rfl⟩
            by_cases e : j = m
            · subst e; exact .inr (by simp)
            · exact .inl ⟨j, by omega, rfl⟩
        · simp only [Nat.add_sub_cancel]
          rcases List.mem_append.1 hx with h | h
          · have := i3 x h; exact ⟨by omega, by omega⟩
          · simp at h; subst h; exact ⟨by omega, Int.le_refl _⟩
def leI (x y : Int) : Bool := decide (x ≤ y)
/-- the places, each once, rising -/
def placesOf (l : List Int) : List Int := Lib.compact (l.mergeSort fun x y => decide (x ≤ y))
theorem placesOf_law (l : List Int) : (placesOf l).Pairwise (· < ·) ∧ ∀ x, x ∈ placesOf l ↔ x ∈ l := by
  have hs := List.pairwise_mergeSort (le := fun x y : Int => decide (x ≤ y)) (fun a b c h1 h2 => by simp at *; omega) (fun a b => by simp; omega) l
  have hp := List.mergeSort_perm l (fun x y : Int => decide (x ≤ y))
  unfold placesOf Lib.compact
  generalize l.mergeSort (fun x y : Int => decide (x ≤ y)) = s at hs hp
  have hg : ∀ i (h : i < s.length), s.toArray[i]! = s[i] := fun i h => by rw [getElem!_pos s.toArray i (by simpa using h)]; simp
  obtain ⟨a1, a2, _⟩ := compactUpTo_law s.toArray (fun i j hij hj => by
    have hj' : j < s.length := by simpa using hj
    rw [hg i (by omega), hg j hj']
    have := (List.pairwise_iff_getElem.1 hs) i j (by omega) hj' hij
    simpa using this) s.length (by simp)
  refine ⟨a1, fun x => ?_⟩
  rw [a2, ← hp.mem_iff, List.mem_iff_getElem]
  constructor
  · rintro ⟨j, hj, h⟩; exact ⟨j, hj, by rw [← hg j hj]; exact h⟩
  · rintro ⟨j, hj, h⟩; exact ⟨j, hj, by rw [hg j hj]; exact h⟩
theorem placesOf_len (l : List Int) : (placesOf l).length ≤ l.length := by
  unfold placesOf Lib.compact Lib.compactUpTo
  rw [List.length_map]
  exact Nat.le_trans (List.length_filter_le _ _) (by simp)
/-- all between each two places -/
def pairs : List Int → List Rg
  | a :: b :: r => (a, b - 1) :: pairs (b :: r)
  | _ => []
theorem pairs_len : ∀ l : List Int, (pairs l).length = l.length - 1
  | [] => rfl
  | [_] => rfl
  | a :: b :: r => by simp [pairs, pairs_len (b :: r)]
theorem pairs_snoc : ∀ (l : List Int) (a b : Int), pairs (l ++ [a] ++ [b]) = pairs (l ++ [a]) ++ [(a, b - 1)]
  | [], a, b => rfl
  | [x], a, b => rfl
  | x :: y :: r, a, b => by
    have := pairs_snoc (y :: r) a b
    simp only [List.cons_append] at this ⊢
    simp only [pairs, this, List.cons_append]
theorem pairs_take (l : List Int) (k : Nat) (h : k + 1 < l.length) : pairs (l.take (k+2)) = pairs (l.take (k+1)) ++ [(l[k], l[k+1] - 1)] := by
  rw [List.take_succ_eq_append_getElem (i := k+1) h, List.take_succ_eq_append_getElem (i := k) (by omega), pairs_snoc]
/-- a row of int64 of the call's own, written over as a whole -/
theorem own_putRow {w : World} {base g cap n : Nat} {zs zs' : List Int} {q : Nat} {os : Array Obj} (h : w.ownsRow base 2 1 (.slice (some ⟨g, 0, none⟩) n cap) n (zs.map (Value.int .i64))) (hz : zs'.length = n) :
    (grow (putRow (Value.int .i64) (Sort.ahead w q) g 0 zs'.toArray) os).ownsRow base 2 1 (.slice (some ⟨g, 0, none⟩) n cap) n (zs'.map (Value.int .i64)) ∧
    (∀ W, base ≤ w.heap.size → Below base W w → Below base W (grow (putRow (Value.int .i64) (Sort.ahead w q) g 0 zs'.toArray) os)) := by
  have hlt := (h.lt g rfl).2
  have hbg := (h.lt g rfl).1
  obtain ⟨h1, h2⟩ := h
  rcases h2 with ⟨h2, _⟩ | ⟨g', cap', cur, hv, hg, hh, hnc, hcm, hcs, htk⟩
  · cases h2
  · injection hv with hv1 _ hv3
    injection hv1 with hv1
    injection hv1 with hv1
    subst hv1 hv3
    constructor
    · refine ⟨by simp [hz], .inr ⟨g, cap, putCells (Value.int .i64) 0 zs'.toArray cur, rfl, hg, ?_, hnc, hcm, by simpa [putCells] using hcs, ?_⟩⟩
      · rw [heap_grow_old _ _ (by simpa using hlt)]
        simp only [putRow, mapBlock, Array.getElem?_modify]
        rw [if_pos trivial]
        show Option.map _ (w.heap[g]?) = _
        rw [hh]
        rfl
      · apply List.ext_getElem?
        intro t
        rw [List.getElem?_take]
        by_cases ht : t < n
        · rw [if_pos (by omega), Array.getElem?_toList, putCells, Array.getElem?_mapIdx, Array.getElem?_eq_getElem (by omega), List.getElem?_map, List.getElem?_eq_getElem (by omega)]
          simp only [Option.map_some]
          rw [if_pos (by simp; omega), getElem!_pos _ _ (by simp; omega)]
          simp
        · rw [if_neg (by omega), List.getElem?_eq_none (by simp; omega)]
    · intro W hbase hW
      refine ⟨hW.os, hW.tape, hW.output, Nat.le_trans hW.size (by simp), fun k hk => ?_⟩
      rw [heap_grow_old _ _ (by simp; omega)]
      simp only [putRow, mapBlock, Array.getElem?_modify]
      rw [if_neg (by omega)]
      exact hW.block k hk
theorem holds_own {w : World} {base g cap n : Nat} {zs : List Int} (h : w.ownsRow base 2 1 (.slice (some ⟨g, 0, none⟩) n cap) n (zs.map (Value.int .i64))) : Holds (Value.int .i64) w g 0 zs.toArray := by
  intro j hj
  have hj' : j < zs.length := by simpa using hj
  refine ⟨?_, own_frozen h _⟩
  have := h.cells (g := g) rfl j (.int .i64 zs[j]) (by simp [hj'])
  rw [getElem!_pos zs.toArray j hj]
  have e : (⟨g, 0, none⟩ : Addr).add j = ⟨g, 0 + j, none⟩ := by
    unfold Addr.add; by_cases h : j = 0 <;> simp [h]
  rw [e] at this
  simpa using this
/-- slices.Sort at a row of the call's own -/
theorem sortI_any (base : Nat) (v : Value) (zs : List Int) (w : World) (hm : zs.length ≤ 100000000) (hown : w.ownsRow base 2 1 v zs.length (zs.map (Value.int .i64))) :
    Calls Tryz.prog 79 #[v] w fun e w' => e = .returned (.tuple #[]) ∧ w'.ownsRow base 2 1 v zs.length ((zs.mergeSort fun x y => decide (x ≤ y)).map (Value.int .i64)) ∧ (∀ W, base ≤ w.heap.size → Below base W w → Below base W w') := by
  rcases hown.2 with ⟨rfl, h0⟩ | ⟨g, cap, cur, rfl, _⟩
  · have hl : zs = [] := List.eq_nil_of_length_eq_zero h0
    subst hl
    exact (Tryz.slices_Sort_int_none_f79 none 0 w).mono fun e w' ⟨he, hw⟩ => ⟨he, by rw [hw]; simpa using hown, fun W _ hW => by rw [hw]; exact hW⟩
  · refine (Tryz.slices_Sort_int_f79 g 0 cap zs w (holds_own hown) (hown.lt g rfl).2 (by omega)).mono ?_
    rintro e w' ⟨he, q, os, hw⟩
    have := own_putRow (q := q) (os := os) hown (zs' := zs.mergeSort fun x y => decide (x ≤ y)) (List.length_mergeSort _)
    rw [hw]
    exact ⟨he, this.1, this.2⟩
/-- slices.Compact at a row of the call's own -/
theorem compactI_any (base : Nat) (v : Value) (zs : List Int) (w : World) (hm : zs.length ≤ 100000000) (hown : w.ownsRow base 2 1 v zs.length (zs.map (Value.int .i64))) :
    Calls Tryz.prog 80 #[v] w fun e w' => ∃ v', e = .returned v' ∧ w'.ownsRow base 2 1 v' (Lib.compact zs).length ((Lib.compact zs).map (Value.int .i64)) ∧ (∀ W, base ≤ w.heap.size → Below base W w → Below base W w') := by
  rcases hown.2 with ⟨rfl, h0⟩ | ⟨g, cap, cur, rfl, _, _, hnc, _⟩
  · have hl : zs = [] := List.eq_nil_of_length_eq_zero h0
    subst hl
    exact (Tryz.slices_Compact_int_empty_f80 none 0 w).mono fun e w' ⟨he, hw⟩ => ⟨_, he, by rw [hw]; simpa [Lib.compact, Lib.compactUpTo] using hown, fun W _ hW => by rw [hw]; exact hW⟩
  · refine (Tryz.slices_Compact_int_f80 g 0 cap zs w (holds_own hown) (by omega) hnc).mono ?_
    rintro e w' ⟨he, q, hw⟩
    have hcl : (Lib.compact zs).length ≤ zs.length := by
      unfold Lib.compact Lib.compactUpTo
      rw [List.length_map]
      exact Nat.le_trans (List.length_filter_le _ _) (by simp)
    have := own_putRow (q := q) (os := #[]) hown (zs' := Lib.compact zs ++ List.replicate (zs.length - (Lib.compact zs).length) 0) (by simp; omega)
    rw [grow_empty] at this
    rw [hw]
    refine ⟨_, he, ?_, this.2⟩
    obtain ⟨_, h2⟩ := this.1
    rcases h2 with ⟨h2, _⟩ | ⟨g', cap', cur', hv, hg', hh', hnc', hcm', hcs', htk'⟩
    · cases h2
    · injection hv with hv1 _ hv3
      injection hv1 with hv1
      injection hv1 with hv1
      subst hv1 hv3
      refine ⟨by simp, .inr ⟨g, cap, cur', rfl, hg', hh', by omega, hcm', hcs', ?_⟩⟩
      have h3 : (cur'.toList.take (zs.length * 1)).take (Lib.compact zs).length = (Lib.compact zs).map (Value.int .i64) := by
        rw [htk']; simp
      rw [List.take_take, Nat.min_eq_left (by omega)] at h3
      simpa using h3
/-- where a list of ranges begins to hold, or is over -/
def endsL (l : List Rg) : List Int := (l.filter someB).flatMap fun r => [r.1, r.2 + 1]
def endsOf (lls : List (List Rg)) : List Int := lls.flatMap endsL
theorem endsL_len (l : List Rg) : (endsL l).length ≤ 2 * l.length := by
  have : ∀ m : List Rg, (m.flatMap fun r => [r.1, r.2 + 1]).length = 2 * m.length := by
    intro m
    induction m with
    | nil => rfl
    | cons x r ih => rw [List.flatMap_cons, List.length_append, ih]; simp; omega
  unfold endsL
  rw [this]
  have := List.length_filter_le someB l
  omega
theorem endsOf_len (lls : List (List Rg)) : (endsOf lls).length ≤ 2 * lls.flatten.length := by
  induction lls with
  | nil => simp [endsOf]
  | cons x r ih =>
    have := endsL_len x
    simp only [endsOf, List.flatMap_cons, List.length_append, List.flatten_cons] at *
    omega
theorem endsOf_take (lls : List (List Rg)) (k : Nat) (hk : k < lls.length) : endsOf (lls.take (k+1)) = endsOf (lls.take k) ++ endsL lls[k] := by
  rw [List.take_succ_eq_append_getElem hk, endsOf, List.flatMap_append]; simp only [List.flatMap_cons, List.flatMap_nil, List.append_nil]; rfl
/-- one list's ends, so far -/
def endsTo (l : List Rg) (j : Nat) : List Int := ((l.filter someB).take j).flatMap fun r => [r.1, r.2 + 1]
def sofar (es : List Int) (q : List Rg) (j : Nat) : List Int := es ++ endsTo q j
theorem endsTo_snoc (l : List Rg) (j : Nat) (h : j < (l.filter someB).length) : endsTo l (j+1) = endsTo l j ++ [(l.filter someB)[j].1, (l.filter someB)[j].2 + 1] := by
  unfold endsTo
  rw [List.take_succ_eq_append_getElem h, List.flatMap_append]; simp only [List.flatMap_cons, List.flatMap_nil, List.append_nil]
theorem endsTo_len (l : List Rg) (j : Nat) : (endsTo l j).length ≤ 2 * j := by
  have : ∀ m : List Rg, (m.flatMap fun r => [r.1, r.2 + 1]).length = 2 * m.length := by
    intro m
    induction m with
    | nil => rfl
    | cons x r ih => rw [List.flatMap_cons, List.length_append, ih]; simp; omega
  unfold endsTo
  rw [this, List.length_take]
  omega
theorem places_wf {lls : List (List Rg)} (hwf : WfL lls.flatten) : ∀ x ∈ placesOf (endsOf lls), -2147483648 ≤ x ∧ x ≤ 2147483648 := by
  intro x hx
  rw [(placesOf_law _).2] at hx
  obtain ⟨l, hl, hx⟩ := List.mem_flatMap.1 hx
  obtain ⟨r, hr, hx⟩ := List.mem_flatMap.1 hx
  have h1 := hwf r (List.mem_flatten.2 ⟨l, hl, (List.mem_filter.1 hr).1⟩)
  unfold Wf at h1
  simp at hx
  omega
set_option maxHeartbeats 1600000 in
theorem cuts_at (A : Option Addr) (c : Nat) (lls : List (List Rg)) (pl : List Int) (m : List Rg) (w : World) (hl : lls.length ≤ 1000) (hpl : Hid (placesOf (endsOf lls) = pl)) (hmm : Hid (pairs pl = m)) (hm : lls.flatten.length ≤ 1000000) (hwf : WfL lls.flatten) (h : LL w A lls) :
    Calls Tryz.prog 63 #[.slice A lls.length c] w fun e w' => ∃ v, e = .returned v ∧ w'.ownsRow w.heap.size 66 2 v m.length (flat encR m) ∧ Below w.heap.size w w' := by
  obtain ⟨i0, hi, hz0, hz1, hz2⟩ := info_parts infoR
  obtain ⟨i1, gi, gz0, gz1, gz2⟩ := info_parts info64
  have hme := endsOf_len lls
  go_enter Tryz.func63, Tryz.ntmps63
  go_wp2
  go_loopw [3, 11] (fun v i wr => ∃ k : Nat, k ≤ lls.length ∧ i = .int .i64 k ∧ wr.ownsRow w.heap.size 2 1 v (endsOf (lls.take k)).length ((endsOf (lls.take k)).map (Value.int .i64)) ∧ Below w.heap.size w wr) (fun _ i _ => lls.length - (intOf i).toNat)
  case atStart => exact ⟨0, Nat.zero_le _, rfl, by simpa [endsOf] using World.ownsRow_nil w _ 2 1, Below.refl _ _⟩
  case round =>
    obtain ⟨k, hk, rfl, hown, hb⟩ := hrel
    by_cases hlt : k < lls.length
    · obtain ⟨b, off, Ai, ci, rfl, hbl, hc, hri⟩ := h.at k hlt
      have hc' := (hb.cell (p := ⟨b, off + k, none⟩) hbl).trans hc
      have hri' := hri.next hb
      have hf1 := hid (endsOf_take lls k hlt)
      have hqwf : WfL lls[k] := fun r hr => hwf r (List.mem_flatten.2 ⟨_, List.getElem_mem hlt, hr⟩)
      have hql : lls[k].length ≤ lls.flatten.length := by
        have := flatten_take_len lls k hlt
        have := flatten_take_le lls (k+1)
        omega
      have hel : (endsOf (lls.take k)).length ≤ 2 * lls.flatten.length := by
        have := endsOf_len (lls.take k)
        have := flatten_take_le lls k
        omega
      generalize hq : lls[k] = q at hc' hri' hf1 hql hqwf
      clear hq hri hc
      generalize hg0 : endsOf (lls.take k) = es at hown hf1 hel
      clear hg0
      go_wp2_with fail
      refine (kept_any 74 #[] someB some_enters Ai ci q wr (by omega) hri' (some_pred _)).mono ?_
      rintro e w1 ⟨v1, rfl, hown1, hb1⟩
      obtain ⟨A1, c1, rfl, hr1, hc1⟩ := Reads.own hown1
      have hfl := List.length_filter_le someB q
      generalize hg : q.filter someB = qf at hown1 hr1 hc1 hfl
      have HG := hid hg
      clear hg
      have hownw := ownsRow_below hown hb1 (Nat.le_refl _)
      have hbw := hb.trans (hb1.mono hb.size)
      have hqw : WfL qf := by
        intro r hr
        rw [← HG.out] at hr
        exact hqwf r (List.mem_filter.1 hr).1
      clear hr1
      go_wp2_with fail
      go_loopw [3, 18] (fun v i w2 => ∃ j : Nat, j ≤ qf.length ∧ i = .int .i64 j ∧ w2.ownsRow w.heap.size 2 1 v (sofar es q j).length ((sofar es q j).map (Value.int .i64)) ∧ w2.ownsRow wr.heap.size 66 2 (.slice A1 qf.length c1) qf.length (flat encR qf) ∧ Below w.heap.size w w2) (fun _ i _ => qf.length - (intOf i).toNat)
      case atStart => exact ⟨0, Nat.zero_le _, rfl, by simpa [sofar, endsTo] using hownw, hown1, hbw⟩
      case round =>
        clear hown1 hownw
        obtain ⟨j, hj, rfl, hownv, hownq, hb2⟩ := hrel
        by_cases hlj : j < qf.length
        · have hr9 := Reads.of_own hownq
          obtain ⟨b2, off2, rfl, hbl2, d0, d1⟩ := readsR hr9 (Below.refl _ _) j hlj
          have hz := hqw _ (List.getElem_mem hlj)
          have hsn := endsTo_snoc q j (by rw [HG.out]; exact hlj)
          have hsl := endsTo_len q j
          simp only [HG.out] at hsn
          generalize hzz : qf[j] = z at d0 d1 hz hsn
          clear hzz hr9
          obtain ⟨⟨z1, z2⟩, ⟨z3, z4⟩⟩ := hz
          have hlen : (sofar es q j).length ≤ 5000000 := by simp [sofar]; omega
          have hsa : sofar es q (j+1) = sofar es q j ++ [z.1, z.2 + 1] := by rw [sofar, hsn, ← List.append_assoc]; rfl
          generalize hga : sofar es q j = ea at hownv hlen hsa
          have HSA := hid hsa
          clear hga hsn hsl hsa
          go_wp2_with (at_builtin; go_must (refine wpList_push2 _ rfl _ _ 94 rfl w.heap.size 2 i1 _ 1 8 Tryz.underlying94 gi gz0 gz1 gz2 rfl (by omega) _ _ _ rfl (hownv.alloc _) [.int .i64 z.1, .int .i64 (z.2 + 1)] 2 _ rfl (by simp) rfl (by simp [Value.oneCell']) (by simp only [maxLen]; omega) (by omega) (hb2.alloc hb2.size _).size ?_); intro v' w' hown' hsz' hB' hK')
          go_roundw
          case rel =>
            refine ⟨j + 1, by omega, by go_num, ?_, hK' _ _ _ _ _ _ (hownq.alloc _) (own_ne (hownq.alloc _) (hownv.alloc (.cells #[] 0)) (by decide)), hB' _ (hb2.alloc hb2.size _)⟩
            rw [HSA.out, List.length_append, List.map_append]
            exact hown'
          case measure => simp [intOf]; omega
        · have hjl : j = qf.length := by omega
          subst hjl
          have e : sofar es q qf.length = es ++ endsL q := by rw [← HG.out, sofar, endsTo, List.take_length]; rfl
          rw [e] at hownv
          go_wp2
          go_roundw
          case rel => exact ⟨k + 1, by omega, by go_num, by rw [hf1.out]; exact hownv, hb2⟩
          case measure => simp [intOf]; omega
    · have hkl : k = lls.length := by omega
      subst hkl
      rw [List.take_length] at hown
      generalize hge : endsOf lls = es at hown hme
      have HGE := hid hge
      clear hge
      go_wp2_with fail
      refine (sortI_any w.heap.size _ es wr (by omega) hown).mono ?_
      rintro e w1 ⟨rfl, hown1, hb1⟩
      have hb1 := hb1 w hb.size hb
      have hls : (es.mergeSort fun x y => decide (x ≤ y)).length = es.length := List.length_mergeSort _
      have hpl' : Lib.compact (es.mergeSort fun x y => decide (x ≤ y)) = pl := by rw [← hpl.out, HGE.out]; rfl
      have hwp : ∀ x ∈ pl, -2147483648 ≤ x ∧ x ≤ 2147483648 := by rw [← hpl.out]; exact places_wf hwf
      have hrp : pl.Pairwise (· < ·) := by rw [← hpl.out]; exact (placesOf_law _).1
      have hlp : pl.length ≤ es.length := by rw [← hpl.out, HGE.out]; exact placesOf_len _
      generalize (es.mergeSort fun x y => decide (x ≤ y)) = ss at hown1 hls hpl'
      rw [← hls] at hown1
      have HPL := hid hpl'
      have HLS := hid hls
      clear hpl' hls
      go_wp2_with fail
      refine (compactI_any w.heap.size _ ss w1 (by rw [HLS.out]; omega) hown1).mono ?_
      rintro e w2 ⟨v2, rfl, hown2, hb2⟩
      have hb2 := hb2 w hb1.size hb1
      rw [HPL.out] at hown2
      obtain ⟨A2, c2, rfl, hr2, hc2⟩ := Reads.own hown2
      go_wp2_with fail
      go_loopw [2, 8] (fun v i w3 => ∃ k : Nat, (k = 0 ∨ k + 1 ≤ pl.length) ∧ i = .int .i64 (k + 1 : Nat) ∧ w3.ownsRow w2.heap.size 66 2 v (pairs (pl.take (k+1))).length (flat encR (pairs (pl.take (k+1)))) ∧ Below w2.heap.size w2 w3) (fun _ i _ => pl.length + 1 - (intOf i).toNat)
      case atStart =>
        refine ⟨0, .inl rfl, rfl, ?_, Below.refl _ _⟩
        have : pairs (pl.take (0+1)) = [] := by cases pl <;> rfl
        rw [this]
        exact World.ownsRow_nil w2 _ 66 2
      case round =>
        obtain ⟨k, hk, rfl, hown3, hb3⟩ := hrel
        have hkp : k ≤ pl.length := by omega
        by_cases hlt : k + 1 < pl.length
        · obtain ⟨b, off, rfl, hbl, hcell⟩ := hr2.2 (by omega)
          have d0 := (hb3.cell (p := ⟨b, off + k, none⟩) hbl).trans (hcell k _ (by rw [List.getElem?_map, List.getElem?_eq_getElem (by omega)]; rfl))
          have d1 := (hb3.cell (p := ⟨b, off + (k+1), none⟩) hbl).trans (hcell (k+1) _ (by rw [List.getElem?_map, List.getElem?_eq_getElem hlt]; rfl))
          have hx0 := hwp _ (List.getElem_mem (show k < pl.length by omega))
          have hx1 := hwp _ (List.getElem_mem hlt)
          have hx01 := (List.pairwise_iff_getElem.1 hrp) k (k+1) (by omega) hlt (by omega)
          have hpt := pairs_take pl k hlt
          have hpn : (pairs (pl.take (k+1))).length ≤ k := by rw [pairs_len]; simp; omega
          generalize hg0 : pl[k] = x0 at d0 hx0 hx01 hpt
          generalize hg1 : pl[k+1] = x1 at d1 hx1 hx01 hpt
          generalize hg2 : pairs (pl.take (k+1)) = mk at hown3 hpt hpn
          clear hg0 hg1 hg2 hcell
          have HPT := hid hpt
          clear hpt
          obtain ⟨x2, x3⟩ := hx0
          obtain ⟨x4, x5⟩ := hx1
          have hi1 : ((k : Int) + 1) < (pl.length : Int) := by omega
          go_wp2_with fail
          have f0 : wr.drew.cell? ⟨b, off + k, none⟩ = some (.int .i64 x0) := d0
          have f1 : wr.drew.cell? ⟨b, off + (k+1), none⟩ = some (.int .i64 x1) := d1
          have e1 : IntKind.i64.wrap (k : Int) = k := w64 (by omega) (by omega)
          have e2 : IntKind.i64.wrap (x1 - 1) = x1 - 1 := w64 (by omega) (by omega)
          have e3 : IntKind.i32.wrap x0 = x0 := w32 (by omega) (by omega)
          have e4 : IntKind.i32.wrap (x1 - 1) = x1 - 1 := w32 (by omega) (by omega)
          have e5 : (k : Int) < (pl.length : Int) := by omega
          have e6 : (0 : Int) ≤ (k : Int) := by omega
          have e7 : (0 : Int) ≤ (k : Int) + 1 := by omega
          have e8 : (k : Int).toNat = k := by omega
          have e9 : ((k : Int) + 1).toNat = k + 1 := by omega
          have hown4 : wr.drew.ownsRow w2.heap.size 66 2 u2 mk.length (flat encR mk) := own_drewN hown3 1
          have hb4 : Below w2.heap.size w2 wr.drew := below_drewN hb3 1
          go_region_law (first | (refine step_push _ rfl _ _ 28 rfl w2.heap.size 66 i0 _ 2 8 Tryz.underlying28 hi hz0 hz1 hz2 rfl (by omega) _ _ _ rfl hown4 [.int .i32 x0, .int .i32 (x1 - 1)] 1 _ rfl (by simp) rfl (by simp [Value.oneCell']) (by simp only [maxLen]; omega) (by omega) hb4.size ?_; intro v' w' hown' hsz' hB' hK'))
          all_goals
            clear e1 e2 e3 e4 e5 e6 e7 e8 e9 f0 f1
            go_wp2
            go_roundw
            case rel => exact ⟨k + 1, by omega, by go_num, by rw [HPT.out, List.length_append, flat_append]; exact hown', hB' _ hb4⟩
            case measure => simp [intOf]; omega
        · have hfin : pairs (pl.take (k+1)) = m := by
            rw [← hmm.out]
            congr 1
            exact List.take_of_length_le (by omega)
          rw [hfin] at hown3
          have hlt' : ¬ ((k : Int) + 1) < (pl.length : Int) := by omega
          go_wp2
          go_ret
          exact ⟨_, rfl, ownsRow_base hown3 hb2.size, hb2.trans (hb3.mono hb2.size)⟩
end Go.Proofs.YtoclbcfgfaialaaGreatDoor

/-
  Has in a region that draws; the pieces between places. Small lemmas.
-/
namespace Go.Proofs.YtoclbcfgfaialaaGreatDoor
open Go.RowKit
open Go.Sort (grow)
set_option maxRecDepth 100000
theorem has_quiet (A : Option Addr) (c : Nat) (l : List Rg) (x : Int) (w : World) (d : Nat) (os : Array Obj) (hm : l.length ≤ 10000000) (hr : Reads w w.heap.size 2 A l.length (flat encR l)) :
   Calls Tryz.prog 31 #[.slice A l.length c, .int .i32 x] (grow (redrawn w d) os) fun e w'' => e = .returned (.bool (hasB l x)) ∧ ∃ p : Regrown, w'' = grow (redrawn w p.d) p.os :=
  Calls.regrown_of (has_any A c l x _ hm (hr.next (below_regrown w d os)))
theorem pairs_wf {lls : List (List Rg)} (hwf : WfL lls.flatten) : WfL (pairs (placesOf (endsOf lls))) := by
  have h1 := places_wf hwf
  have h2 := (placesOf_law (endsOf lls)).1
  generalize placesOf (endsOf lls) = p at h1 h2
  induction p with
  | nil => exact WfL.nil
  | cons a r ih =>
    cases r with
    | nil => exact WfL.nil
    | cons b r =>
      intro x hx
      rw [List.pairwise_cons] at h2
      have h3 := h2.1 b (by simp)
      have h4 := h1 a (by simp)
      have h5 := h1 b (by simp)
      simp only [pairs, List.mem_cons] at hx
      rcases hx with rfl | hx
      · unfold Wf; simp only; omega
      · exact ih (fun y hy => h1 y (by simp [hy])) h2.2 x hx
end Go.Proofs.YtoclbcfgfaialaaGreatDoor
