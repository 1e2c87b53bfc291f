/-
  Looks: CfNx, CfAl (texts joined).
-/
import Derived.Lib.SlicesCompact
import Derived.Test.YtnpcjbdolmmaeaaGreatDoorL02
import Derived.Test.YtnpcjbdolmmaeaaGreatDoorL03
import Derived.Test.YtnpcjbdolmmaeaaGreatDoorL07
import Derived.Test.YtnpcjbdolmmaeaaGreatDoorL09
namespace Go.Proofs.YtnpcjbdolmmaeaaGreatDoor
open Go.RowKit
open Go.Sort (putRow putCells Holds heap_grow_old grow_empty mapBlock onCells grow)
set_option maxRecDepth 100000
theorem compactUpTo_law (d : Array Int) (hs : ∀ i j, i < j → j < d.size → d[i]! ≤ d[j]!) (m : Nat) (hm : m ≤ d.size) :
    (Lib.compactUpTo d m).Pairwise (· < ·) ∧ (∀ x, x ∈ Lib.compactUpTo d m ↔ ∃ j, j < m ∧ d[j]! = x) ∧ (∀ x ∈ Lib.compactUpTo d m, 0 < m ∧ x ≤ d[m-1]!) := by
  induction m with
  | zero => simp [Lib.compactUpTo]
  | succ m ih =>
    obtain ⟨i1, i2, i3⟩ := ih (by omega)
    rw [Lib.compactUpTo_succ]
    rcases Nat.eq_zero_or_pos m with h0 | h0
    · subst h0
      have : Lib.keeps d 0 = true := by simp [Lib.keeps]
      rw [this]
      simp [Lib.compactUpTo]
      exact fun x => eq_comm
    · have hle := hs (m-1) m (by omega) (by omega)
      by_cases hd : d[m]! = d[m-1]!
      · rw [Lib.keeps_neg h0 hd]
        simp only [Bool.false_eq_true, if_false, List.append_nil]
        refine ⟨i1, fun x => ?_, fun x hx => ?_⟩
        · rw [i2]
          constructor
          · rintro ⟨j, hj, rfl⟩; exact ⟨j, by omega, rfl⟩
          · rintro ⟨j, hj, rfl⟩
            by_cases e : j = m
            · subst e; exact ⟨j - 1, by omega, hd.symm⟩
            · exact ⟨j, by omega, rfl⟩
        · have := i3 x hx
          simp only [Nat.add_sub_cancel]
          exact ⟨by omega, by omega⟩
      · rw [Lib.keeps_pos hd]
        simp only [if_true]
        refine ⟨?_, fun x => ?_, fun x hx => ?_⟩
        · rw [List.pairwise_append]
          refine ⟨i1, List.pairwise_singleton _ _, fun a ha b hb => ?_⟩
          simp at hb; subst hb
          have := i3 a ha
          omega
        · rw [List.mem_append, i2]
          constructor
          · rintro (⟨j, hj, rfl⟩ | h)
            · exact ⟨j, by omega, rfl⟩
            · simp at h; exact ⟨m, by omega, h.symm⟩
          · rintro ⟨j, hj, rfl⟩
            by_cases e : j = m
            · subst e; exact .inr (by simp)
            · exact .inl ⟨j, by omega, rfl⟩
        · simp only [Nat.add_sub_cancel]
          rcases List.mem_append.1 hx with h | h
          · have := i3 x h; exact ⟨by omega, by omega⟩
          · simp at h; subst h; exact ⟨by omega, Int.le_refl _⟩
def leI (x y : Int) : Bool := decide (x ≤ y)
def placesOf (l : List Int) : List Int := Lib.compact (l.mergeSort fun x y => decide (x ≤ y))
theorem placesOf_law (l : List Int) : (placesOf l).Pairwise (· < ·) ∧ ∀ x, x ∈ placesOf l ↔ x ∈ l := by
  have hs := List.pairwise_mergeSort (le := fun x y : Int => decide (x ≤ y)) (fun a b c h1 h2 => by simp at *; omega) (fun a b => by simp; omega) l
  have hp := List.mergeSort_perm l (fun x y : Int => decide (x ≤ y))
  unfold placesOf Lib.compact
  generalize l.mergeSort (fun x y : Int => decide (x ≤ y)) = s at hs hp
  have hg : ∀ i (h : i < s.length), s.toArray[i]! = s[i] := fun i h => by rw [getElem!_pos s.toArray i (by simpa using h)]; simp
  obtain ⟨a1, a2, _⟩ := compactUpTo_law s.toArray (fun i j hij hj => by
    have hj' : j < s.length := by simpa using hj
    rw [hg i (by omega), hg j hj']
    have := (List.pairwise_iff_getElem.1 hs) i j (by omega) hj' hij
    simpa using this) s.length (by simp)
  refine ⟨a1, fun x => ?_⟩
  rw [a2, ← hp.mem_iff, List.mem_iff_getElem]
  constructor
  · rintro ⟨j, hj, h⟩; exact ⟨j, hj, by rw [← hg j hj]; exact h⟩
  · rintro ⟨j, hj, h⟩; exact ⟨j, hj, by rw [hg j hj]; exact h⟩
theorem own_putRowN {w : World} {base g cap n : Nat} {zs zs' : List Int} {q : Nat} {os : Array Obj} (h : w.ownsRow base 3 1 (.slice (some ⟨g, 0, none⟩) n cap) n (zs.map (Value.int .i64))) (hz : zs'.length = n) :
    (grow (putRow (Value.int .i64) (Sort.ahead w q) g 0 zs'.toArray) os).ownsRow base 3 1 (.slice (some ⟨g, 0, none⟩) n cap) n (zs'.map (Value.int .i64)) ∧
    (∀ W, base ≤ w.heap.size → Below base W w → Below base W (grow (putRow (Value.int .i64) (Sort.ahead w q) g 0 zs'.toArray) os)) := by
  have hlt := (h.lt g rfl).2
  have hbg := (h.lt g rfl).1
  obtain ⟨h1, h2⟩ := h
  rcases h2 with ⟨h2, _⟩ | ⟨g', cap', cur, hv, hg, hh, hnc, hcm, hcs, htk⟩
  · cases h2
  · injection hv with hv1 _ hv3
    injection hv1 with hv1
    injection hv1 with hv1
    subst hv1 hv3
    constructor
    · refine ⟨by simp [hz], .inr ⟨g, cap, putCells (Value.int .i64) 0 zs'.toArray cur, rfl, hg, ?_, hnc, hcm, by simpa [putCells] using hcs, ?_⟩⟩
      · rw [heap_grow_old _ _ (by simpa using hlt)]
        simp only [putRow, mapBlock, Array.getElem?_modify]
        rw [if_pos trivial]
        show Option.map _ (w.heap[g]?) = _
        rw [hh]
        rfl
      · apply List.ext_getElem?
        intro t
        rw [List.getElem?_take]
        by_cases ht : t < n
        · rw [if_pos (by omega), Array.getElem?_toList, putCells, Array.getElem?_mapIdx, Array.getElem?_eq_getElem (by omega), List.getElem?_map, List.getElem?_eq_getElem (by omega)]
          simp only [Option.map_some]
          rw [if_pos (by simp; omega), getElem!_pos _ _ (by simp; omega)]
          simp
        · rw [if_neg (by omega), List.getElem?_eq_none (by simp; omega)]
    · intro W hbase hW
      refine ⟨hW.os, hW.tape, hW.output, Nat.le_trans hW.size (by simp), fun k hk => ?_⟩
      rw [heap_grow_old _ _ (by simp; omega)]
      simp only [putRow, mapBlock, Array.getElem?_modify]
      rw [if_neg (by omega)]
      exact hW.block k hk
theorem holds_ownN {w : World} {base g cap n : Nat} {zs : List Int} (h : w.ownsRow base 3 1 (.slice (some ⟨g, 0, none⟩) n cap) n (zs.map (Value.int .i64))) : Holds (Value.int .i64) w g 0 zs.toArray := by
  intro j hj
  have hj' : j < zs.length := by simpa using hj
  refine ⟨?_, own_frozen h _⟩
  have := h.cells (g := g) rfl j (.int .i64 zs[j]) (by simp [hj'])
  rw [getElem!_pos zs.toArray j hj]
  have e : (⟨g, 0, none⟩ : Addr).add j = ⟨g, 0 + j, none⟩ := by
    unfold Addr.add; by_cases h : j = 0 <;> simp [h]
  rw [e] at this
  simpa using this
theorem sortN_any (base : Nat) (v : Value) (zs : List Int) (w : World) (hm : zs.length ≤ 100000000) (hown : w.ownsRow base 3 1 v zs.length (zs.map (Value.int .i64))) :
    Calls Tryz.prog 81 #[v] w fun e w' => e = .returned (.tuple #[]) ∧ w'.ownsRow base 3 1 v zs.length ((zs.mergeSort fun x y => decide (x ≤ y)).map (Value.int .i64)) ∧ (∀ W, base ≤ w.heap.size → Below base W w → Below base W w') := by
  rcases hown.2 with ⟨rfl, h0⟩ | ⟨g, cap, cur, rfl, _⟩
  · have hl : zs = [] := List.eq_nil_of_length_eq_zero h0
    subst hl
    first | exact (Tryz.slices_Sort_int_none_f81 none 0 w).mono fun e w' ⟨he, hw⟩ => ⟨he, by rw [hw]; simpa using hown, fun W _ hW => by rw [hw]; exact hW⟩ | exact (Tryz.slices_Sort_int_none none 0 w).mono fun e w' ⟨he, hw⟩ => ⟨he, by rw [hw]; simpa using hown, fun W _ hW => by rw [hw]; exact hW⟩
  · first | refine (Tryz.slices_Sort_int_f81 g 0 cap zs w (holds_ownN hown) (hown.lt g rfl).2 (by omega)).mono ?_ | refine (Tryz.slices_Sort_int g 0 cap zs w (holds_ownN hown) (hown.lt g rfl).2 (by omega)).mono ?_
    rintro e w' ⟨he, q, os, hw⟩
    have := own_putRowN (q := q) (os := os) hown (zs' := zs.mergeSort fun x y => decide (x ≤ y)) (List.length_mergeSort _)
    rw [hw]
    exact ⟨he, this.1, this.2⟩
theorem compactN_any (base : Nat) (v : Value) (zs : List Int) (w : World) (hm : zs.length ≤ 100000000) (hown : w.ownsRow base 3 1 v zs.length (zs.map (Value.int .i64))) :
    Calls Tryz.prog 82 #[v] w fun e w' => ∃ v', e = .returned v' ∧ w'.ownsRow base 3 1 v' (Lib.compact zs).length ((Lib.compact zs).map (Value.int .i64)) ∧ (∀ W, base ≤ w.heap.size → Below base W w → Below base W w') := by
  rcases hown.2 with ⟨rfl, h0⟩ | ⟨g, cap, cur, rfl, _, _, hnc, _⟩
  · have hl : zs = [] := List.eq_nil_of_length_eq_zero h0
    subst hl
    exact (Tryz.slices_Compact_int_empty none 0 w).mono fun e w' ⟨he, hw⟩ => ⟨_, he, by rw [hw]; simpa [Lib.compact, Lib.compactUpTo] using hown, fun W _ hW => by rw [hw]; exact hW⟩
  · refine (Tryz.slices_Compact_int g 0 cap zs w (holds_ownN hown) (by omega) hnc).mono ?_
    rintro e w' ⟨he, q, hw⟩
    have hcl : (Lib.compact zs).length ≤ zs.length := by
      unfold Lib.compact Lib.compactUpTo
      rw [List.length_map]
      exact Nat.le_trans (List.length_filter_le _ _) (by simp)
    have := own_putRowN (q := q) (os := #[]) hown (zs' := Lib.compact zs ++ List.replicate (zs.length - (Lib.compact zs).length) 0) (by simp; omega)
    rw [grow_empty] at this
    rw [hw]
    refine ⟨_, he, ?_, this.2⟩
    obtain ⟨_, h2⟩ := this.1
    rcases h2 with ⟨h2, _⟩ | ⟨g', cap', cur', hv, hg', hh', hnc', hcm', hcs', htk'⟩
    · cases h2
    · injection hv with hv1 _ hv3
      injection hv1 with hv1
      injection hv1 with hv1
      subst hv1 hv3
      refine ⟨by simp, .inr ⟨g, cap, cur', rfl, hg', hh', by omega, hcm', hcs', ?_⟩⟩
      have h3 : (cur'.toList.take (zs.length * 1)).take (Lib.compact zs).length = (Lib.compact zs).map (Value.int .i64) := by
        rw [htk']; simp
      rw [List.take_take, Nat.min_eq_left (by omega)] at h3
      simpa using h3
end Go.Proofs.YtnpcjbdolmmaeaaGreatDoor
namespace Go.Proofs.YtnpcjbdolmmaeaaGreatDoor
open Go.RowKit Go.Maps
set_option maxRecDepth 100000
theorem clipZ_any (A : Option Addr) (n c : Nat) (w : World) (hc : n ≤ c) : Calls Tryz.prog 57 #[.slice A n c] w fun e w' => e = .returned (.slice A n n) ∧ w' = w := by
  go_enter Tryz.func57, Tryz.ntmps57
  go_wp2
  go_ret
  exact ⟨rfl, rfl⟩
def CfR (w : World) (S : Nat → Prop) (A : Option Addr) (l : List Cf.Cfg) : Prop := ∃ vs, RO w S 5 A l.length vs ∧ CfsV w S l vs
theorem CfR.only {w w' : World} {S S' : Nat → Prop} {A : Option Addr} {l : List Cf.Cfg} (h : CfR w S A l) (ho : Only S w w') (hS : ∀ b, b < w.heap.size → S' b → S b) : CfR w' S' A l := by
  obtain ⟨vs, h1, h2⟩ := h
  exact ⟨vs, h1.only ho hS, h2.only ho hS⟩
theorem CfR.below {w w' : World} {A : Option Addr} {l : List Cf.Cfg} (h : CfR w (fun _ => False) A l) (hb : Below w.heap.size w w') : CfR w' (fun _ => False) A l := h.only (Only.of_below hb) (fun _ _ e => e)
theorem CfR.at {w : World} {S : Nat → Prop} {A : Option Addr} {l : List Cf.Cfg} (h : CfR w S A l) (i : Nat) (hi : i < l.length) : ∃ b off B c, A = some ⟨b, off, none⟩ ∧ b < w.heap.size ∧ ¬ S b ∧ l[i].stack.length ≤ c ∧ RO w S 1 B l[i].stack.length (l[i].stack.map (Value.int .i64)) ∧
    w.cell? ⟨b, off + i * 5, none⟩ = some (.int .i64 l[i].alt) ∧ w.cell? ⟨b, off + i * 5 + 1, none⟩ = some (.int .i64 l[i].state) ∧ w.cell? ⟨b, off + i * 5 + 2, none⟩ = some (.slice B l[i].stack.length c) ∧ w.cell? ⟨b, off + i * 5 + 3, none⟩ = some (.bool l[i].exact) ∧ w.cell? ⟨b, off + i * 5 + 4, none⟩ = some (.bool l[i].ended) := by
  obtain ⟨vs, h1, h2⟩ := h
  obtain ⟨b, off, hA, hb, hn, hc⟩ := h1.2 (by omega)
  obtain ⟨B, c, hcc, r, hk⟩ := h2.at i hi
  refine ⟨b, off, B, c, hA, hb, hn, hcc, r, hc _ _ (by rw [show i * 5 = i * 5 + 0 from rfl, hk 0 (by omega)]; rfl), ?_, ?_, ?_, ?_⟩
  · have := hc _ _ (hk 1 (by omega)); rwa [← Nat.add_assoc] at this
  · have := hc _ _ (hk 2 (by omega)); rwa [← Nat.add_assoc] at this
  · have := hc _ _ (hk 3 (by omega)); rwa [← Nat.add_assoc] at this
  · have := hc _ _ (hk 4 (by omega)); rwa [← Nat.add_assoc] at this
def altsOf (l : List Cf.Cfg) : List Int := placesOf (l.map fun x => x.alt)
theorem altsOf_alts (l : List Cf.Cfg) : Cf.Alts l (altsOf l) := by
  obtain ⟨h1, h2⟩ := placesOf_law (l.map fun x => x.alt)
  exact ⟨h1, fun a => by unfold altsOf; rw [h2]; simp⟩
def AlP (l : List Cf.Cfg) (w : World) (e : Ending) (w' : World) : Prop := ∃ A, e = .returned (.slice A (altsOf l).length (altsOf l).length) ∧ OwnC w' w.heap.size 3 1 (.slice A (altsOf l).length (altsOf l).length) (altsOf l).length ((altsOf l).map (Value.int .i64)) ∧ Below w.heap.size w w'
set_option maxHeartbeats 4000000 in
theorem alts_any (l : List Cf.Cfg) (S : Nat → Prop) (A : Option Addr) (c : Nat) (w : World) (hr : CfR w S A l) (hl : l.length ≤ 100000000) :
    Calls Tryz.prog 53 #[.slice A l.length c] w (AlP l w) := by
  obtain ⟨i0, hi, hz0, hz1, hz2⟩ := info_of infoZ
  have HR := hid hr
  clear hr
  go_enter Tryz.func53, Tryz.ntmps53
  go_wp2
  go_loopw [3, 5, 8] (fun v _ i wr => ∃ j : Nat, j ≤ l.length ∧ i = .int .i64 (j : Int) ∧ wr.ownsRow w.heap.size 3 1 v j (((l.take j).map fun x => x.alt).map (Value.int .i64)) ∧ Below w.heap.size w wr) (fun _ _ i _ => l.length - (intOf i).toNat)
  case atStart => exact ⟨0, Nat.zero_le _, rfl, World.ownsRow_nil w _ 3 1, Below.refl _ _⟩
  case round =>
    obtain ⟨j, hj, rfl, hown, hb⟩ := hrel
    by_cases hlt : j < l.length
    · obtain ⟨b, off, B, cb, hA, hbl, _, _, _, r0, r1, r2, r3, r4⟩ := HR.out.at j hlt
      have hsn : (((l.take (j + 1)).map fun x => x.alt).map (Value.int .i64)) = (((l.take j).map fun x => x.alt).map (Value.int .i64)) ++ [.int .i64 l[j].alt] := by
        rw [List.take_succ_eq_append_getElem hlt, List.map_append, List.map_append]; rfl
      have HSN := hid hsn
      clear hsn
      generalize l[j].alt = x0 at r0 HSN
      generalize l[j].state = x1 at r1
      generalize l[j].stack.length = x2 at r2
      generalize l[j].exact = x3 at r3
      generalize l[j].ended = x4 at r4
      have r0 := (hb.cell (p := ⟨b, off + j * 5, none⟩) hbl).trans r0
      have r1 := (hb.cell (p := ⟨b, off + j * 5 + 1, none⟩) hbl).trans r1
      have r2 := (hb.cell (p := ⟨b, off + j * 5 + 2, none⟩) hbl).trans r2
      have r3 := (hb.cell (p := ⟨b, off + j * 5 + 3, none⟩) hbl).trans r3
      have r4 := (hb.cell (p := ⟨b, off + j * 5 + 4, none⟩) hbl).trans r4
      rw [hA]
      have HA := hid hA
      clear hA
      go_wp2_with (at_builtin; refine wpList_push _ rfl _ _ 23 rfl w.heap.size 3 i0 _ 1 8 Tryz.underlying23 hi hz0 hz1 hz2 rfl (by omega) _ _ _ rfl (hown.alloc _) [.int .i64 x0] 1 _ rfl (by simp) rfl (by simp [Value.oneCell']) (by simp only [maxLen]; omega) (by omega) (hb.alloc hb.size _).size ?_; intro v' w' hown' hsz' hB')
      go_roundw
      case rel => exact ⟨j + 1, hlt, by go_num, by rw [HSN.out]; exact hown', hB' _ (hb.alloc hb.size _)⟩
      case measure => simp [intOf]; omega
    · have hje : j = l.length := by omega
      subst hje
      rw [List.take_length] at hown
      have hlm : (l.map fun x => x.alt).length = l.length := List.length_map _
      generalize hzs : (l.map fun x => x.alt) = zs at hown hlm
      rw [← hlm] at hown
      have HZS := hid hzs
      have HLM := hid hlm
      have hmm : zs.length ≤ 100000000 := by omega
      clear hzs hlm
      go_wp2_with fail
      go_at_call 81
      refine (sortN_any w.heap.size _ zs wr hmm hown).mono ?_
      rintro _ w2 ⟨rfl, hown2, hb2⟩
      have hb2 := hb2 w hb.size hb
      have hml : (zs.mergeSort fun x y => decide (x ≤ y)).length = zs.length := List.length_mergeSort _
      have HP := hid (show placesOf zs = Lib.compact (zs.mergeSort fun x y => decide (x ≤ y)) from rfl)
      generalize (zs.mergeSort fun x y => decide (x ≤ y)) = ss at hown2 hml HP
      rw [← hml] at hown2
      have HML := hid hml
      have hms : ss.length ≤ 100000000 := by omega
      clear hml
      go_wp2_with fail
      go_at_call 82
      refine (compactN_any w.heap.size _ ss w2 hms hown2).mono ?_
      rintro _ w3 ⟨v', rfl, hown3, hb3⟩
      have hb3 := hb3 w hb2.size hb2
      obtain ⟨A3, c3, rfl, _, hc3⟩ := Reads.own hown3
      go_wp2_with fail
      go_at_call 57
      refine (clipZ_any A3 _ c3 w3 hc3).mono ?_
      rintro _ w4 ⟨rfl, rfl⟩
      go_wp2
      go_ret
      have hal : altsOf l = Lib.compact ss := by unfold altsOf; rw [HZS.out]; exact HP.out
      unfold AlP
      rw [hal]
      exact ⟨A3, rfl, (OwnC.of hown3).clip, hb3⟩
end Go.Proofs.YtnpcjbdolmmaeaaGreatDoor
