/-
  slices.Grow at nil, slices.Concat, ranges.Union: the walks.
-/
import Derived.Test.YtaoipffekmhioaaNeat
import Derived.Test.YtaoipffekmhioaaLL
import Derived.Lib.AppendZeros
namespace Go.Proofs.Ytaoipffekmhioaa
open Go.RowKit
set_option maxRecDepth 100000
set_option maxHeartbeats 800000 in
theorem grow_any (n : Nat) (w : World) (hn : n ≤ 10000000) : Calls Try.prog 50 #[.slice none 0 0, .int .i64 n] w fun e w' => ∃ v, e = .returned v ∧ w'.ownsRow w.heap.size 42 2 v 0 [] ∧ Below w.heap.size w w' := by
  obtain ⟨i0, hi, hz0, hz1, hz2⟩ := info_parts infoR
  by_cases h0 : n = 0
  · subst h0
    go_enter Try.func50, Try.ntmps50
    go_wp2
    go_ret
    exact ⟨_, rfl, World.ownsRow_nil _ _ _ _, Below.refl _ _⟩
  · have hp : 0 < n := by omega
    have hp' : 0 < (n : Int) := by omega
    have H0 := hid h0
    clear h0
    go_enter Try.func50, Try.ntmps50
    have hrun := fun (u : World) => Lib.run_append_nil_zeros (P := Try.prog) u 22 3 22 42 i0 _ .i64 .i64 Try.underlying22 Try.underlying3 hi hz0 n hp (by omega) (by omega) (by rw [hz2]; omega)
    go_wp2_with (at_builtin; go_must (refine Lib.wpList_append_run _ rfl _ _ 22 3 rfl _ _ rfl rfl _ _ (hrun _) ?_))
    go_ret
    refine ⟨_, rfl, ⟨rfl, .inr ⟨w.heap.size, grownCap w n 0 42, _, rfl, Nat.le_refl _, heap_alloc_new w _, Nat.zero_le _, grownCap_le_maxLen w n 0 42 (by simp only [maxLen]; omega), ?_, by simp⟩⟩, ((Below.refl _ _).alloc (Nat.le_refl _) _).drew⟩
    have hge := grownCap_ge w n 0 42
    rw [Array.size_append, size_zeroCells, size_zeroCells, ← Nat.add_mul]
    show (n + (grownCap w n 0 42 - n)) * 2 = _
    rw [Nat.add_sub_cancel' hge]
set_option maxHeartbeats 1600000 in
theorem concat_any (A : Option Addr) (c : Nat) (lls : List (List Rg)) (w : World) (hl : lls.length ≤ 1000) (hm : lls.flatten.length ≤ 10000000) (h : LL w A lls) :
    Calls Try.prog 41 #[.slice A lls.length c] w fun e w' => ∃ v, e = .returned v ∧ w'.ownsRow w.heap.size 42 2 v lls.flatten.length (flat encR lls.flatten) ∧ Below w.heap.size w w' := by
  obtain ⟨i0, hi, hz0, hz1, hz2⟩ := info_parts infoR
  go_enter Try.func41, Try.ntmps41
  go_wp2
  go_loop [3, 11] (fun s i => ∃ k : Nat, k ≤ lls.length ∧ i = .int .i64 k ∧ s = .int .i64 ((lls.take k).flatten.length : Nat)) (fun _ i => lls.length - (intOf i).toNat)
  case atStart => exact ⟨0, Nat.zero_le _, rfl, rfl⟩
  case round =>
    obtain ⟨k, hk, rfl, rfl⟩ := hrel
    have hfk := flatten_take_le lls k
    by_cases hlt : k < lls.length
    · obtain ⟨b, off, Ai, ci, rfl, hb, hc, hri⟩ := h.at k hlt
      have hf1 := flatten_take_len lls k hlt
      have hfk1 := flatten_take_le lls (k+1)
      generalize hq : lls[k] = q at hc hri hf1
      clear hq hri
      generalize hg1 : (lls.take k).flatten.length = s0 at hf1 hfk
      clear hg1
      have HF := hid hf1
      have hs0 : s0 + q.length ≤ 10000000 := by omega
      have hs1 : ¬ ((s0 : Int) + (q.length : Int) < 0) := by omega
      clear hf1 hfk1
      go_wp2
      go_round
      case rel => exact ⟨k + 1, by omega, by go_num, by rw [HF.out]; go_num⟩
      case measure => simp [intOf]; omega
    · have hkl : k = lls.length := by omega
      subst hkl
      rw [List.take_length]
      generalize hg1 : lls.flatten.length = s0 at hm
      have HG := hid hg1
      clear hg1
      go_wp2_with (go_at_call 50; refine (grow_any s0 _ hm).mono ?_; rintro e w1 ⟨v1, rfl, hown1, hb1⟩)
      go_loopw [6, 27] (fun v i wr => ∃ k : Nat, k ≤ lls.length ∧ i = .int .i64 k ∧ wr.ownsRow w.heap.size 42 2 v (lls.take k).flatten.length (flat encR (lls.take k).flatten) ∧ Below w.heap.size w wr) (fun _ i _ => lls.length - (intOf i).toNat)
      case atStart => exact ⟨0, Nat.zero_le _, rfl, by simpa [flat] using hown1, hb1⟩
      case round =>
        obtain ⟨k, hk, rfl, hown, hb⟩ := hrel
        by_cases hlt : k < lls.length
        · obtain ⟨b, off, Ai, ci, rfl, hbl, hc, hri⟩ := h.at k hlt
          have hc' := (hb.cell (p := ⟨b, off + k, none⟩) hbl).trans hc
          have hri' := hri.next hb
          have hf1 := hid (flatten_take lls k hlt)
          have hfl := hid (flatten_take_len lls k hlt)
          have hfk1 := flatten_take_le lls (k+1)
          rw [hfl.out, HG.out] at hfk1
          generalize hq : lls[k] = q at hc' hri' hf1 hfk1 hfl
          clear hq hri hc
          generalize hg0 : (lls.take k).flatten = m at hown hf1 hfk1 hfl
          clear hg0
          go_wp2_with (at_builtin; go_must (refine wpList_append_reads _ rfl _ _ 22 rfl w.heap.size 42 i0 _ 2 8 Try.underlying22 hi hz0 hz1 hz2 rfl (by omega) _ _ _ rfl hown _ Ai q.length ci _ rfl hri' (cells_oneR q) (by simp only [maxLen]; omega) (by omega) hb.size ?_); intro v' w' hown' hsz' hB')
          go_roundw
          case rel => exact ⟨k + 1, by omega, by go_num, by rw [hf1.out, flat_append, List.length_append]; exact hown', hB' _ hb⟩
          case measure => simp [intOf]; omega
        · have hkl : k = lls.length := by omega
          subst hkl
          rw [List.take_length] at hown
          go_wp2
          go_ret
          exact ⟨_, rfl, hown, hb⟩
set_option maxHeartbeats 400000 in
theorem union_at (A : Option Addr) (c : Nat) (lls : List (List Rg)) (fl m : List Rg) (w : World) (hl : lls.length ≤ 1000) (hfl : Hid (lls.flatten = fl)) (hmm : Hid (neatOf fl = m)) (hm : fl.length ≤ 10000000) (hwf : WfL fl) (h : LL w A lls) :
    Calls Try.prog 19 #[.slice A lls.length c] w fun e w' => ∃ A' c', e = .returned (.slice A' m.length c') ∧ OwnC w' w.heap.size 42 2 (.slice A' m.length c') m.length (flat encR m) ∧ Below w.heap.size w w' := by
  go_enter Try.func19, Try.ntmps19
  go_wp2_with fail
  refine (concat_any A c lls w hl (by rw [hfl.out]; exact hm) h).mono ?_
  rintro e w1 ⟨v1, rfl, hown1, hb1⟩
  rw [hfl.out] at hown1
  obtain ⟨A1, c1, rfl, hr1, hc1⟩ := Reads.own hown1
  go_wp2_with fail
  refine (neat_any A1 c1 fl w1 hm hwf hr1).mono ?_
  rw [hmm.out]
  rintro e w2 ⟨A2, c2, rfl, hown2, hb2⟩
  go_wp2_with fail
  go_ret
  exact ⟨A2, c2, rfl, hown2.base hb1.size, hb1.trans (hb2.mono hb1.size)⟩
end Go.Proofs.Ytaoipffekmhioaa
