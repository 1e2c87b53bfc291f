/-
  slices.Grow at nil, slices.Concat of lists of numbers: the walks.
-/
import Derived.Test.YtnpcjbdolmmaeaaDoorCfSk
import Derived.Lib.AppendZeros
namespace Go.Proofs.YtnpcjbdolmmaeaaDoor
open Go.RowKit
set_option maxRecDepth 100000
theorem cellsZ (zs : List Int) : ∀ u ∈ zs.map (Value.int .i64), u.oneCell' = true := by
  intro u hu
  obtain ⟨x, _, rfl⟩ := List.mem_map.1 hu
  rfl
theorem flattenZ_len (lls : List (List Int)) (k : Nat) (hk : k < lls.length) : (lls.take (k+1)).flatten.length = (lls.take k).flatten.length + lls[k].length := by
  rw [List.take_succ_eq_append_getElem hk, List.flatten_append, List.length_append]; simp only [List.flatten_cons, List.flatten_nil, List.append_nil]
theorem flattenZ (lls : List (List Int)) (k : Nat) (hk : k < lls.length) : (lls.take (k+1)).flatten = (lls.take k).flatten ++ lls[k] := by
  rw [List.take_succ_eq_append_getElem hk, List.flatten_append]; simp only [List.flatten_cons, List.flatten_nil, List.append_nil]
theorem flattenZ_le (lls : List (List Int)) (k : Nat) : (lls.take k).flatten.length ≤ lls.flatten.length := by
  have : lls.flatten = (lls.take k).flatten ++ (lls.drop k).flatten := by rw [← List.flatten_append, List.take_append_drop]
  rw [this]; simp
set_option maxHeartbeats 800000 in
theorem growZ_any (n : Nat) (w : World) (hn : n ≤ 10000000) : Calls Tryd.prog 62 #[.slice none 0 0, .int .i64 n] w fun e w' => ∃ v, e = .returned v ∧ w'.ownsRow w.heap.size 3 1 v 0 [] ∧ Below w.heap.size w w' := by
  obtain ⟨i0, hi, hz0, hz1, hz2⟩ := info_of infoZ
  by_cases h0 : n = 0
  · subst h0
    go_enter Tryd.func62, Tryd.ntmps62
    go_wp2
    go_ret
    exact ⟨_, rfl, World.ownsRow_nil _ _ _ _, Below.refl _ _⟩
  · have hp : 0 < n := by omega
    have hp' : 0 < (n : Int) := by omega
    have H0 := hid h0
    clear h0
    go_enter Tryd.func62, Tryd.ntmps62
    have hrun := fun (u : World) => Lib.run_append_nil_zeros (P := Tryd.prog) u 23 3 23 3 i0 _ .i64 .i64 Tryd.underlying23 Tryd.underlying3 hi hz0 n hp (by omega) (by omega) (by rw [hz2]; omega)
    go_wp2_with (at_builtin; go_must (refine Lib.wpList_append_run _ rfl _ _ 23 3 rfl _ _ rfl rfl _ _ (hrun _) ?_))
    go_ret
    refine ⟨_, rfl, ⟨rfl, .inr ⟨w.heap.size, grownCap w n 0 3, _, rfl, Nat.le_refl _, heap_alloc_new w _, Nat.zero_le _, grownCap_le_maxLen w n 0 3 (by simp only [maxLen]; omega), ?_, by simp⟩⟩, ((Below.refl _ _).alloc (Nat.le_refl _) _).drew⟩
    have hge := grownCap_ge w n 0 3
    rw [Array.size_append, size_zeroCells, size_zeroCells, ← Nat.add_mul]
    show (n + (grownCap w n 0 3 - n)) * 1 = _
    rw [Nat.add_sub_cancel' hge]
set_option maxHeartbeats 1600000 in
theorem concatZ_any (A : Option Addr) (c : Nat) (lls : List (List Int)) (w : World) (hl : lls.length ≤ 1000) (hm : lls.flatten.length ≤ 10000000) (h : RRO (Value.int .i64) w (fun _ => False) A lls) :
    Calls Tryd.prog 44 #[.slice A lls.length c] w fun e w' => ∃ v, e = .returned v ∧ w'.ownsRow w.heap.size 3 1 v lls.flatten.length (lls.flatten.map (Value.int .i64)) ∧ Below w.heap.size w w' := by
  obtain ⟨i0, hi, hz0, hz1, hz2⟩ := info_of infoZ
  go_enter Tryd.func44, Tryd.ntmps44
  go_wp2
  go_loop [3, 11] (fun s i => ∃ k : Nat, k ≤ lls.length ∧ i = .int .i64 k ∧ s = .int .i64 ((lls.take k).flatten.length : Nat)) (fun _ i => lls.length - (intOf i).toNat)
  case atStart => exact ⟨0, Nat.zero_le _, rfl, rfl⟩
  case round =>
    obtain ⟨k, hk, rfl, rfl⟩ := hrel
    have hfk := flattenZ_le lls k
    by_cases hlt : k < lls.length
    · obtain ⟨b, off, Ai, ci, rfl, hb, hc, hri⟩ := h.at k hlt
      have hf1 := flattenZ_len lls k hlt
      have hfk1 := flattenZ_le lls (k+1)
      generalize hq : lls[k] = q at hc hri hf1
      clear hq hri
      generalize hg1 : (lls.take k).flatten.length = s0 at hf1 hfk
      clear hg1
      have HF := hid hf1
      have hs0 : s0 + q.length ≤ 10000000 := by omega
      have hs1 : ¬ ((s0 : Int) + (q.length : Int) < 0) := by omega
      clear hf1 hfk1
      go_wp2
      go_round
      case rel => exact ⟨k + 1, by omega, by go_num, by rw [HF.out]; go_num⟩
      case measure => simp [intOf]; omega
    · have hkl : k = lls.length := by omega
      subst hkl
      rw [List.take_length]
      generalize hg1 : lls.flatten.length = s0 at hm
      have HG := hid hg1
      clear hg1
      go_wp2_with (go_at_call 62; refine (growZ_any s0 _ hm).mono ?_; rintro e w1 ⟨v1, rfl, hown1, hb1⟩)
      go_loopw [6, 27] (fun v i wr => ∃ k : Nat, k ≤ lls.length ∧ i = .int .i64 k ∧ wr.ownsRow w.heap.size 3 1 v (lls.take k).flatten.length ((lls.take k).flatten.map (Value.int .i64)) ∧ Below w.heap.size w wr) (fun _ i _ => lls.length - (intOf i).toNat)
      case atStart => exact ⟨0, Nat.zero_le _, rfl, by simpa using hown1, hb1⟩
      case round =>
        obtain ⟨k, hk, rfl, hown, hb⟩ := hrel
        by_cases hlt : k < lls.length
        · obtain ⟨b, off, Ai, ci, rfl, hbl, hc, hri⟩ := h.at k hlt
          have hc' := (hb.cell (p := ⟨b, off + k, none⟩) hbl).trans hc
          have hri' := (hri.reads).next hb
          have hf1 := hid (flattenZ lls k hlt)
          have hfl := hid (flattenZ_len lls k hlt)
          have hfk1 := flattenZ_le lls (k+1)
          rw [hfl.out, HG.out] at hfk1
          generalize hq : lls[k] = q at hc' hri' hf1 hfk1 hfl
          clear hq hri hc
          generalize hg0 : (lls.take k).flatten = m at hown hf1 hfk1 hfl
          clear hg0
          go_wp2_with (at_builtin; go_must (refine wpList_append_reads _ rfl _ _ 23 rfl w.heap.size 3 i0 _ 1 8 Tryd.underlying23 hi hz0 hz1 hz2 rfl (by omega) _ _ _ rfl hown _ Ai q.length ci _ rfl hri' (cellsZ q) (by simp only [maxLen]; omega) (by omega) hb.size ?_); intro v' w' hown' hsz' hB')
          go_roundw
          case rel => exact ⟨k + 1, by omega, by go_num, by rw [hf1.out, List.map_append, List.length_append]; exact hown', hB' _ hb⟩
          case measure => simp [intOf]; omega
        · have hkl : k = lls.length := by omega
          subst hkl
          rw [List.take_length] at hown
          go_wp2
          go_ret
          exact ⟨_, rfl, hown, hb⟩
end Go.Proofs.YtnpcjbdolmmaeaaDoor
