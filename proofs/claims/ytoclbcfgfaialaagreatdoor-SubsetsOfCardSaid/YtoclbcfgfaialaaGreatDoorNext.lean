/-
  slices.Sort and slices.Compact at int: the walks, over the shelf's contracts; next: the walk.
-/
import Derived.Test.YtoclbcfgfaialaaGreatDoorState
import Derived.Test.YtoclbcfgfaialaaGreatDoorCuts
import Derived.Lib.SlicesCompact
namespace Go.Proofs.YtoclbcfgfaialaaGreatDoor
open Go.RowKit
open Go.Sort (putRow putCells Holds heap_grow_old grow_empty mapBlock onCells grow)
set_option maxRecDepth 100000
/-- a row of int of the call's own, written over as a whole -/
theorem own_putRowN {w : World} {base g cap n : Nat} {zs zs' : List Int} {q : Nat} {os : Array Obj} (h : w.ownsRow base 3 1 (.slice (some ⟨g, 0, none⟩) n cap) n (zs.map (Value.int .i64))) (hz : zs'.length = n) :
    (grow (putRow (Value.int .i64) (Sort.ahead w q) g 0 zs'.toArray) os).ownsRow base 3 1 (.slice (some ⟨g, 0, none⟩) n cap) n (zs'.map (Value.int .i64)) ∧
    (∀ W, base ≤ w.heap.size → Below base W w → Below base W (grow (putRow (Value.int .i64) (Sort.ahead w q) g 0 zs'.toArray) os)) := by
  have hlt := (h.lt g rfl).2
  have hbg := (h.lt g rfl).1
  obtain ⟨h1, h2⟩ := h
  rcases h2 with ⟨h2, _⟩ | ⟨g', cap', cur, hv, hg, hh, hnc, hcm, hcs, htk⟩
  · cases h2
  · injection hv with hv1 _ hv3
    injection hv1 with hv1
    injection hv1 with hv1
    subst hv1 hv3
    constructor
    · refine ⟨by simp [hz], .inr ⟨g, cap, putCells (Value.int .i64) 0 zs'.toArray cur, rfl, hg, ?_, hnc, hcm, by simpa [putCells] using hcs, ?_⟩⟩
      · rw [heap_grow_old _ _ (by simpa using hlt)]
        simp only [putRow, mapBlock, Array.getElem?_modify]
        rw [if_pos trivial]
        show Option.map _ (w.heap[g]?) = _
        rw [hh]
        rfl
      · apply List.ext_getElem?
        intro t
        rw [List.getElem?_take]
        by_cases ht : t < n
        · rw [if_pos (by omega), Array.getElem?_toList, putCells, Array.getElem?_mapIdx, Array.getElem?_eq_getElem (by omega), List.getElem?_map, List.getElem?_eq_getElem (by omega)]
          simp only [Option.map_some]
          rw [if_pos (by simp; omega), getElem!_pos _ _ (by simp; omega)]
          simp
        · rw [if_neg (by omega), List.getElem?_eq_none (by simp; omega)]
    · intro W hbase hW
      refine ⟨hW.os, hW.tape, hW.output, Nat.le_trans hW.size (by simp), fun k hk => ?_⟩
      rw [heap_grow_old _ _ (by simp; omega)]
      simp only [putRow, mapBlock, Array.getElem?_modify]
      rw [if_neg (by omega)]
      exact hW.block k hk
theorem holds_ownN {w : World} {base g cap n : Nat} {zs : List Int} (h : w.ownsRow base 3 1 (.slice (some ⟨g, 0, none⟩) n cap) n (zs.map (Value.int .i64))) : Holds (Value.int .i64) w g 0 zs.toArray := by
  intro j hj
  have hj' : j < zs.length := by simpa using hj
  refine ⟨?_, own_frozen h _⟩
  have := h.cells (g := g) rfl j (.int .i64 zs[j]) (by simp [hj'])
  rw [getElem!_pos zs.toArray j hj]
  have e : (⟨g, 0, none⟩ : Addr).add j = ⟨g, 0 + j, none⟩ := by
    unfold Addr.add; by_cases h : j = 0 <;> simp [h]
  rw [e] at this
  simpa using this
/-- slices.Sort at a row of the call's own -/
theorem sortN_any (base : Nat) (v : Value) (zs : List Int) (w : World) (hm : zs.length ≤ 100000000) (hown : w.ownsRow base 3 1 v zs.length (zs.map (Value.int .i64))) :
    Calls Tryz.prog 81 #[v] w fun e w' => e = .returned (.tuple #[]) ∧ w'.ownsRow base 3 1 v zs.length ((zs.mergeSort fun x y => decide (x ≤ y)).map (Value.int .i64)) ∧ (∀ W, base ≤ w.heap.size → Below base W w → Below base W w') := by
  rcases hown.2 with ⟨rfl, h0⟩ | ⟨g, cap, cur, rfl, _⟩
  · have hl : zs = [] := List.eq_nil_of_length_eq_zero h0
    subst hl
    first | exact (Tryz.slices_Sort_int_none_f81 none 0 w).mono fun e w' ⟨he, hw⟩ => ⟨he, by rw [hw]; simpa using hown, fun W _ hW => by rw [hw]; exact hW⟩ | exact (Tryz.slices_Sort_int_none none 0 w).mono fun e w' ⟨he, hw⟩ => ⟨he, by rw [hw]; simpa using hown, fun W _ hW => by rw [hw]; exact hW⟩
  · refine (Tryz.slices_Sort_int_f81 g 0 cap zs w (holds_ownN hown) (hown.lt g rfl).2 (by omega)).mono ?_
    rintro e w' ⟨he, q, os, hw⟩
    have := own_putRowN (q := q) (os := os) hown (zs' := zs.mergeSort fun x y => decide (x ≤ y)) (List.length_mergeSort _)
    rw [hw]
    exact ⟨he, this.1, this.2⟩
/-- slices.Compact at a row of the call's own -/
theorem compactN_any (base : Nat) (v : Value) (zs : List Int) (w : World) (hm : zs.length ≤ 100000000) (hown : w.ownsRow base 3 1 v zs.length (zs.map (Value.int .i64))) :
    Calls Tryz.prog 82 #[v] w fun e w' => ∃ v', e = .returned v' ∧ w'.ownsRow base 3 1 v' (Lib.compact zs).length ((Lib.compact zs).map (Value.int .i64)) ∧ (∀ W, base ≤ w.heap.size → Below base W w → Below base W w') := by
  rcases hown.2 with ⟨rfl, h0⟩ | ⟨g, cap, cur, rfl, _, _, hnc, _⟩
  · have hl : zs = [] := List.eq_nil_of_length_eq_zero h0
    subst hl
    exact (Tryz.slices_Compact_int_empty none 0 w).mono fun e w' ⟨he, hw⟩ => ⟨_, he, by rw [hw]; simpa [Lib.compact, Lib.compactUpTo] using hown, fun W _ hW => by rw [hw]; exact hW⟩
  · refine (Tryz.slices_Compact_int g 0 cap zs w (holds_ownN hown) (by omega) hnc).mono ?_
    rintro e w' ⟨he, q, hw⟩
    have hcl : (Lib.compact zs).length ≤ zs.length := by
      unfold Lib.compact Lib.compactUpTo
      rw [List.length_map]
      exact Nat.le_trans (List.length_filter_le _ _) (by simp)
    have := own_putRowN (q := q) (os := #[]) hown (zs' := Lib.compact zs ++ List.replicate (zs.length - (Lib.compact zs).length) 0) (by simp; omega)
    rw [grow_empty] at this
    rw [hw]
    refine ⟨_, he, ?_, this.2⟩
    obtain ⟨_, h2⟩ := this.1
    rcases h2 with ⟨h2, _⟩ | ⟨g', cap', cur', hv, hg', hh', hnc', hcm', hcs', htk'⟩
    · cases h2
    · injection hv with hv1 _ hv3
      injection hv1 with hv1
      injection hv1 with hv1
      subst hv1 hv3
      refine ⟨by simp, .inr ⟨g, cap, cur', rfl, hg', hh', by omega, hcm', hcs', ?_⟩⟩
      have h3 : (cur'.toList.take (zs.length * 1)).take (Lib.compact zs).length = (Lib.compact zs).map (Value.int .i64) := by
        rw [htk']; simp
      rw [List.take_take, Nat.min_eq_left (by omega)] at h3
      simpa using h3
theorem take_flatMap {α β : Type} (f : α → List β) (l : List α) (k : Nat) (h : k < l.length) : (l.take (k+1)).flatMap f = (l.take k).flatMap f ++ f l[k] := by
  rw [List.take_succ_eq_append_getElem h, List.flatMap_append]; simp
theorem flatMap_le {α β : Type} (f : α → List β) (n : Nat) : ∀ (l : List α), (∀ x ∈ l, (f x).length ≤ n) → (l.flatMap f).length ≤ n * l.length
  | [], _ => by simp
  | x :: r, h => by
    have h1 := flatMap_le f n r fun y hy => h y (List.mem_cons_of_mem _ hy)
    have h2 := h x (by simp)
    simp only [List.flatMap_cons, List.length_append, List.length_cons, Nat.mul_add] at *
    omega
def followsOf (a : Au) (o : List Int) : List Int := o.flatMap fun p => (a.at p).follow
set_option maxHeartbeats 1600000 in
theorem next_any (c : Ctx) (v : Vr) (m : Mk) (s : Nat) (w : World) (h : MkSt c v m w) (hSX : ∀ k, SX c v k → c.B0 ≤ k ∧ k < w.heap.size) (hs : s < m.opens.length)
    (hop : Hid (∀ o ∈ m.opens, o.length ≤ 100 ∧ ∀ p ∈ o, 0 ≤ p ∧ p < c.a.places.length)) (hfl : Hid (∀ p ∈ c.a.places, p.follow.length ≤ 100)) :
    Calls Tryz.prog 64 #[.pointer (some ⟨c.M, 0, none⟩), .int .i64 s] w fun e w' => ∃ A' c', e = .returned (.slice A' (nextM c.a m.opens s).length c') ∧ RO w' (SX c v) 1 A' (nextM c.a m.opens s).length ((nextM c.a m.opens s).map (Value.int .i64)) ∧ Below w.heap.size w w' := by
  have hM := h.M_lt
  have hB := h.hB
  have k0 : w.cell? ⟨c.M, 0, none⟩ = some (.slice c.PA c.a.places.length c.cp) := h.cell 0
  have k1 : w.cell? ⟨c.M, 1, none⟩ = some (.slice c.FA c.a.first.length c.cf) := h.cell 1
  have k7 : w.cell? ⟨c.M, 7, none⟩ = some v.vo := h.cell 7
  by_cases hs0 : s = 0
  · subst hs0
    have hnm : nextM c.a m.opens 0 = c.a.first := by simp [nextM]
    have HN := hid hnm
    clear hnm
    go_enter Tryz.func64, Tryz.ntmps64
    go_wp2
    go_ret
    rw [HN.out]
    exact ⟨_, _, rfl, RO.of_reads h.fst hB fun b hb => (hSX b hb).1, Below.refl _ _⟩
  · have hnm : nextM c.a m.opens s = placesOf (followsOf c.a m.opens[s]) := by
      simp only [nextM, if_neg hs0, List.getD_eq_getElem?_getD, List.getElem?_eq_getElem hs, Option.getD_some, followsOf]
    have HN := hid hnm
    clear hnm
    obtain ⟨els, hrow, hov⟩ := h.own
    obtain ⟨Ao, co, hvo, hro, _⟩ := Reads.own hrow
    rw [hvo] at k7
    obtain ⟨bo, oo, rfl, hbo, hco⟩ := hro.2 (by omega)
    obtain ⟨Ai, ci, he, hri⟩ := hov.2 s hs
    have c0 : w.cell? ⟨bo, oo + s, none⟩ = some (.slice Ai m.opens[s].length ci) := hco s _ he
    have hrr := hri.reads
    obtain ⟨hol, hop1⟩ := hop.out _ (List.getElem_mem hs)
    generalize m.opens[s] = o at c0 hrr hol hop1 HN
    have HP := hid hop1
    clear hri he hov hrow hvo hop hop1 hco hro
    have hff : Hid (∀ p ∈ o, (c.a.at p).follow.length ≤ 100) := hid fun p hp => by
      have h1 := HP.out p hp
      have : p.toNat < c.a.places.length := by omega
      unfold Au.at
      rw [List.getD_eq_getElem?_getD, List.getElem?_eq_getElem this]
      exact hfl.out _ (List.getElem_mem this)
    obtain ⟨i2, hi2, hz2, hs2, hy2⟩ := info_parts infoInt
    have hpos : 0 < s := by omega
    have hs0' : ¬ (s : Int) = 0 := by omega
    have hs1 : ((s : Int) == 0) = false := by simp; omega
    have hP := h.pls.more hB
    clear k1 hs0
    go_enter Tryz.func64, Tryz.ntmps64
    go_wp2
    go_loopw [5, 23] (fun u i wr => ∃ k : Nat, k ≤ o.length ∧ i = .int .i64 k ∧ wr.ownsRow w.heap.size 3 1 u (followsOf c.a (o.take k)).length ((followsOf c.a (o.take k)).map (Value.int .i64)) ∧ Below w.heap.size w wr) (fun _ i _ => o.length - (intOf i).toNat)
    case atStart => exact ⟨0, Nat.zero_le _, rfl, World.ownsRow_nil w _ _ _, Below.refl _ _⟩
    case round =>
      obtain ⟨k, hk, rfl, hown, hb⟩ := hrel
      by_cases hlt : k < o.length
      · obtain ⟨b, off, rfl, hbl, d0⟩ := readsI hrr hb k hlt
        have hpk := HP.out _ (List.getElem_mem hlt)
        have hfk := hff.out _ (List.getElem_mem hlt)
        have HS := hid (take_flatMap (fun p => (c.a.at p).follow) o k hlt)
        have hlen : (followsOf c.a (o.take k)).length ≤ 10000 := by
          have h1 := flatMap_le (fun p => (c.a.at p).follow) 100 (o.take k) fun p hp => hff.out p (List.mem_of_mem_take hp)
          have h2 := List.length_take_le k o
          unfold followsOf
          omega
        have HF : Hid (followsOf c.a (o.take (k+1)) = followsOf c.a (o.take k) ++ (c.a.at o[k]).follow) := hid HS.out
        clear HS
        have cM := (hb.cell (p := ⟨c.M, 0, none⟩) hM).trans k0
        generalize o[k] = p at d0 hpk hfk HF
        obtain ⟨q, rfl⟩ : ∃ q : Nat, p = q := ⟨p.toNat, by omega⟩
        have hq : q < c.a.places.length := by omega
        obtain ⟨b2, off2, SA, cs, FA, cf, hPA, hbl2, e0, e1, e2, e3, _, rF⟩ := (hP.below hb).at q hq
        rw [hPA] at cM
        have HA : c.a.at (q : Int) = c.a.places[q] := by
          unfold Au.at
          rw [Int.toNat_natCast, List.getD_eq_getElem?_getD, List.getElem?_eq_getElem hq]; rfl
        rw [HA] at hfk HF
        clear HA hpk e0 e1 e2
        have rF := rF.more hb.size
        generalize c.a.places[q] = x at e3 rF hfk HF
        generalize followsOf c.a (o.take k) = F at hown hlen HF
        generalize x.follow = fo at e3 rF hfk HF
        have hcells : ∀ u ∈ fo.map (Value.int .i64), u.oneCell' = true := by
          intro u hu
          obtain ⟨y, _, rfl⟩ := List.mem_map.1 hu
          rfl
        have hmx : F.length + fo.length ≤ maxLen := by simp only [maxLen]; omega
        have hmy : (F.length + fo.length) * 8 ≤ 140737488355328 := by omega
        go_wp2_with (at_builtin; go_must (refine wpList_append_reads _ rfl _ _ 23 rfl w.heap.size 3 i2 _ 1 8 Tryz.underlying23 hi2 hz2 hs2 hy2 rfl (by omega) _ _ _ rfl hown _ FA fo.length cf _ rfl rF hcells hmx hmy hb.size ?_); intro v' w' hown' hsz' hB')
        go_roundw
        case rel => exact ⟨k + 1, by omega, by go_num, by rw [HF.out, List.length_append, List.map_append]; exact hown', hB' _ hb⟩
        case measure => simp [intOf]; omega
      · have hkl : k = o.length := by omega
        subst hkl
        rw [List.take_length] at hown
        have hlen : (followsOf c.a o).length ≤ 10000 := by
          have h1 := flatMap_le (fun p => (c.a.at p).follow) 100 o fun p hp => hff.out p hp
          unfold followsOf
          omega
        have HB := hid hb
        have hsz := hb.size
        generalize followsOf c.a o = F at hown hlen HN
        go_wp2_with fail
        refine (sortN_any w.heap.size _ F _ (by omega) hown).mono ?_
        rintro e w1 ⟨rfl, hown1, hB1⟩
        have hb1 := hB1 w hsz HB.out
        have hls : (F.mergeSort fun x y => decide (x ≤ y)).length = F.length := List.length_mergeSort _
        have hpl' : placesOf F = Lib.compact (F.mergeSort fun x y => decide (x ≤ y)) := rfl
        generalize (F.mergeSort fun x y => decide (x ≤ y)) = ss at hown1 hls hpl'
        rw [← hls] at hown1
        rw [hpl'] at HN
        have hls2 : ss.length ≤ 100000000 := by omega
        clear hpl' hls hown
        go_wp2_with fail
        refine (compactN_any w.heap.size _ ss w1 hls2 hown1).mono ?_
        rintro e w2 ⟨v2, rfl, hown2, hB2⟩
        have hb2 := hB2 w hb1.size hb1
        obtain ⟨A2, c2, rfl, hr2, hc2⟩ := Reads.own hown2
        have hro : RO w2 (SX c v) 1 A2 (Lib.compact ss).length ((Lib.compact ss).map (Value.int .i64)) := by
          refine ⟨hr2.1, fun hn => ?_⟩
          obtain ⟨b, off, e1, e2, e3⟩ := hr2.2 hn
          refine ⟨b, off, e1, e2, fun e => ?_, e3⟩
          have h1 := (hSX b e).2
          have h2 := (hown2.lt b (by rw [e1]; rfl)).1
          omega
        go_wp2
        go_ret
        rw [HN.out]
        exact ⟨_, _, rfl, hro, hb2⟩
end Go.Proofs.YtoclbcfgfaialaaGreatDoor
