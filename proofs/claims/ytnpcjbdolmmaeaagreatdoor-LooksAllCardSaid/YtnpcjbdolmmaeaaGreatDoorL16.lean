/-
  slices.Grow at nil, slices.Concat of lists of numbers: the walks.
-/
import Derived.Lib.AppendZeros
import Derived.BigQuiet
import Derived.Test.YtnpcjbdolmmaeaaGreatDoorL09
namespace Go.Proofs.YtnpcjbdolmmaeaaGreatDoor
open Go.RowKit
set_option maxRecDepth 100000
theorem cellsZ (zs : List Int) : ∀ u ∈ zs.map (Value.int .i64), u.oneCell' = true := by
  intro u hu
  obtain ⟨x, _, rfl⟩ := List.mem_map.1 hu
  rfl
theorem flattenZ_len (lls : List (List Int)) (k : Nat) (hk : k < lls.length) : (lls.take (k+1)).flatten.length = (lls.take k).flatten.length + lls[k].length := by
  rw [List.take_succ_eq_append_getElem hk, List.flatten_append, List.length_append]; simp only [List.flatten_cons, List.flatten_nil, List.append_nil]
theorem flattenZ (lls : List (List Int)) (k : Nat) (hk : k < lls.length) : (lls.take (k+1)).flatten = (lls.take k).flatten ++ lls[k] := by
  rw [List.take_succ_eq_append_getElem hk, List.flatten_append]; simp only [List.flatten_cons, List.flatten_nil, List.append_nil]
theorem flattenZ_le (lls : List (List Int)) (k : Nat) : (lls.take k).flatten.length ≤ lls.flatten.length := by
  have : lls.flatten = (lls.take k).flatten ++ (lls.drop k).flatten := by rw [← List.flatten_append, List.take_append_drop]
  rw [this]; simp
set_option maxHeartbeats 800000 in
theorem growZ_any (n : Nat) (w : World) (hn : n ≤ 10000000) : Calls Tryz.prog 72 #[.slice none 0 0, .int .i64 n] w fun e w' => ∃ v, e = .returned v ∧ w'.ownsRow w.heap.size 3 1 v 0 [] ∧ Below w.heap.size w w' := by
  obtain ⟨i0, hi, hz0, hz1, hz2⟩ := info_of infoZ
  by_cases h0 : n = 0
  · subst h0
    go_enter Tryz.func72, Tryz.ntmps72
    go_wp2
    go_ret
    exact ⟨_, rfl, World.ownsRow_nil _ _ _ _, Below.refl _ _⟩
  · have hp : 0 < n := by omega
    have hp' : 0 < (n : Int) := by omega
    have H0 := hid h0
    clear h0
    go_enter Tryz.func72, Tryz.ntmps72
    have hrun := fun (u : World) => Lib.run_append_nil_zeros (P := Tryz.prog) u 23 3 23 3 i0 _ .i64 .i64 Tryz.underlying23 Tryz.underlying3 hi hz0 n hp (by omega) (by omega) (by rw [hz2]; omega)
    go_wp2_with (at_builtin; go_must (refine Lib.wpList_append_run _ rfl _ _ 23 3 rfl _ _ rfl rfl _ _ (hrun _) ?_))
    go_ret
    refine ⟨_, rfl, ⟨rfl, .inr ⟨w.heap.size, grownCap w n 0 3, _, rfl, Nat.le_refl _, heap_alloc_new w _, Nat.zero_le _, grownCap_le_maxLen w n 0 3 (by simp only [maxLen]; omega), ?_, by simp⟩⟩, ((Below.refl _ _).alloc (Nat.le_refl _) _).drew⟩
    have hge := grownCap_ge w n 0 3
    rw [Array.size_append, size_zeroCells, size_zeroCells, ← Nat.add_mul]
    show (n + (grownCap w n 0 3 - n)) * 1 = _
    rw [Nat.add_sub_cancel' hge]
set_option maxHeartbeats 1600000 in
theorem concatZ_any (A : Option Addr) (c : Nat) (lls : List (List Int)) (w : World) (hl : lls.length ≤ 1000) (hm : lls.flatten.length ≤ 10000000) (h : RRO (Value.int .i64) w (fun _ => False) A lls) :
    Calls Tryz.prog 47 #[.slice A lls.length c] w fun e w' => ∃ v, e = .returned v ∧ w'.ownsRow w.heap.size 3 1 v lls.flatten.length (lls.flatten.map (Value.int .i64)) ∧ Below w.heap.size w w' := by
  obtain ⟨i0, hi, hz0, hz1, hz2⟩ := info_of infoZ
  go_enter Tryz.func47, Tryz.ntmps47
  go_wp2
  go_loop [3, 11] (fun s i => ∃ k : Nat, k ≤ lls.length ∧ i = .int .i64 k ∧ s = .int .i64 ((lls.take k).flatten.length : Nat)) (fun _ i => lls.length - (intOf i).toNat)
  case atStart => exact ⟨0, Nat.zero_le _, rfl, rfl⟩
  case round =>
    obtain ⟨k, hk, rfl, rfl⟩ := hrel
    have hfk := flattenZ_le lls k
    by_cases hlt : k < lls.length
    · obtain ⟨b, off, Ai, ci, rfl, hb, hc, hri⟩ := h.at k hlt
      have hf1 := flattenZ_len lls k hlt
      have hfk1 := flattenZ_le lls (k+1)
      generalize hq : lls[k] = q at hc hri hf1
      clear hq hri
      generalize hg1 : (lls.take k).flatten.length = s0 at hf1 hfk
      clear hg1
      have HF := hid hf1
      have hs0 : s0 + q.length ≤ 10000000 := by omega
      have hs1 : ¬ ((s0 : Int) + (q.length : Int) < 0) := by omega
      clear hf1 hfk1
      go_wp2
      go_round
      case rel => exact ⟨k + 1, by omega, by go_num, by rw [HF.out]; go_num⟩
      case measure => simp [intOf]; omega
    · have hkl : k = lls.length := by omega
      subst hkl
      rw [List.take_length]
      generalize hg1 : lls.flatten.length = s0 at hm
      have HG := hid hg1
      clear hg1
      go_wp2_with (go_at_call 72; refine (growZ_any s0 _ hm).mono ?_; rintro e w1 ⟨v1, rfl, hown1, hb1⟩)
      go_loopw [6, 27] (fun v i wr => ∃ k : Nat, k ≤ lls.length ∧ i = .int .i64 k ∧ wr.ownsRow w.heap.size 3 1 v (lls.take k).flatten.length ((lls.take k).flatten.map (Value.int .i64)) ∧ Below w.heap.size w wr) (fun _ i _ => lls.length - (intOf i).toNat)
      case atStart => exact ⟨0, Nat.zero_le _, rfl, by simpa using hown1, hb1⟩
      case round =>
        obtain ⟨k, hk, rfl, hown, hb⟩ := hrel
        by_cases hlt : k < lls.length
        · obtain ⟨b, off, Ai, ci, rfl, hbl, hc, hri⟩ := h.at k hlt
          have hc' := (hb.cell (p := ⟨b, off + k, none⟩) hbl).trans hc
          have hri' := (hri.reads).next hb
          have hf1 := hid (flattenZ lls k hlt)
          have hfl := hid (flattenZ_len lls k hlt)
          have hfk1 := flattenZ_le lls (k+1)
          rw [hfl.out, HG.out] at hfk1
          generalize hq : lls[k] = q at hc' hri' hf1 hfk1 hfl
          clear hq hri hc
          generalize hg0 : (lls.take k).flatten = m at hown hf1 hfk1 hfl
          clear hg0
          go_wp2_with (at_builtin; go_must (refine wpList_append_reads _ rfl _ _ 23 rfl w.heap.size 3 i0 _ 1 8 Tryz.underlying23 hi hz0 hz1 hz2 rfl (by omega) _ _ _ rfl hown _ Ai q.length ci _ rfl hri' (cellsZ q) (by simp only [maxLen]; omega) (by omega) hb.size ?_); intro v' w' hown' hsz' hB')
          go_roundw
          case rel => exact ⟨k + 1, by omega, by go_num, by rw [hf1.out, List.map_append, List.length_append]; exact hown', hB' _ hb⟩
          case measure => simp [intOf]; omega
        · have hkl : k = lls.length := by omega
          subst hkl
          rw [List.take_length] at hown
          go_wp2
          go_ret
          exact ⟨_, rfl, hown, hb⟩
end Go.Proofs.YtnpcjbdolmmaeaaGreatDoor
namespace Go.Proofs.YtnpcjbdolmmaeaaGreatDoor
open Go.RowKit
set_option maxRecDepth 100000
theorem eqz_bool {a b : Bool} (h : a = b) : Ending.returned (.bool a) = .returned (.bool b) := by rw [h]
theorem reads_atZ {w : World} {B n : Nat} {A : Option Addr} {l : List Int} (h : Reads w B 1 A n (l.map (Value.int .i64))) (i : Nat) (hi : i < l.length) : ∃ b off, A = some ⟨b, off, none⟩ ∧ b < B ∧ w.cell? ⟨b, off + i, none⟩ = some (.int .i64 l[i]) := by
  have h0 := h.1
  rw [List.length_map] at h0
  obtain ⟨b, off, hA, hb, hc⟩ := h.2 (by omega)
  exact ⟨b, off, hA, hb, hc i _ (by rw [List.getElem?_map, List.getElem?_eq_getElem hi]; rfl)⟩
set_option maxHeartbeats 1600000 in
theorem equalZ_any (A A' : Option Addr) (c c' B B' : Nat) (xs ys : List Int) (w : World) (hn : xs.length ≤ 1000000000) (h1 : Reads w B 1 A xs.length (xs.map (Value.int .i64))) (h2 : Reads w B' 1 A' ys.length (ys.map (Value.int .i64))) (hB : B ≤ w.heap.size) (hB' : B' ≤ w.heap.size) :
    Calls Tryz.prog 50 #[.slice A xs.length c, .slice A' ys.length c'] w fun e w' => e = .returned (.bool (xs == ys)) ∧ Below w.heap.size w w' := by
  by_cases hl : xs.length = ys.length
  · have H1 := hid h1
    have H2 := hid h2
    clear h1 h2
    obtain ⟨n, hxn⟩ : ∃ n, xs.length = n := ⟨_, rfl⟩
    rw [hxn] at hl
    rw [hxn, ← hl]
    rw [hxn] at hn
    have HXN := hid hxn
    have HYN := hid hl
    clear hxn hl
    go_enter Tryz.func50, Tryz.ntmps50
    go_wp2_with fail
    go_loopw [13] (fun i wr => ∃ k : Nat, k ≤ n ∧ i = .int .i64 k ∧ Hid (Below w.heap.size w wr ∧ ∀ j, j < k → xs[j]? = ys[j]?)) (fun i _ => n - (intOf i).toNat)
    case atStart => exact ⟨0, Nat.zero_le _, rfl, hid ⟨Below.refl _ _, fun _ h => absurd h (Nat.not_lt_zero _)⟩⟩
    case round =>
      obtain ⟨k, hk, rfl, hH⟩ := hrel
      have HB := hid hH.out.1
      have HA := hid hH.out.2
      clear hH
      by_cases hlt : k < n
      · have hkx : k < xs.length := by rw [HXN.out]; exact hlt
        have hky : k < ys.length := by rw [← HYN.out]; exact hlt
        obtain ⟨b, off, rfl, hb, hc⟩ := reads_atZ H1.out k hkx
        obtain ⟨b', off', rfl, hb', hc'⟩ := reads_atZ H2.out k hky
        have gc := (HB.out.cell (p := ⟨b, off + k, none⟩) (show b < w.heap.size by omega)).trans hc
        have gc' := (HB.out.cell (p := ⟨b', off' + k, none⟩) (show b' < w.heap.size by omega)).trans hc'
        clear hc hc'
        have hgx := List.getElem?_eq_getElem hkx
        have hgy := List.getElem?_eq_getElem hky
        generalize xs[k] = x at gc hgx
        generalize ys[k] = y at gc' hgy
        have HGX := hid hgx
        have HGY := hid hgy
        clear hgx hgy hkx hky
        by_cases hxy : x = y
        · subst hxy
          go_wp2_with fail
          go_quiet (fail)
          go_wp2_with fail
          go_roundw
          case rel => exact ⟨k + 1, by omega, by go_num, hid ⟨below_drewN HB.out _, fun j hj => by rcases Nat.lt_succ_iff_lt_or_eq.1 hj with h | rfl; exact HA.out j h; rw [HGX.out, HGY.out]⟩⟩
          case measure => simp [intOf]; omega
        · have hd : (x == y) = false := by rw [beq_eq_false_iff_ne]; exact hxy
          have HF : Hid ((xs == ys) = false) := hid (by
            rw [beq_eq_false_iff_ne]
            intro e
            have h3 := HGX.out
            rw [e, HGY.out] at h3
            injection h3 with h3
            exact hxy h3.symm)
          clear hxy
          go_wp2_with fail
          go_quiet (fail)
          go_wp2_with fail
          go_ret
          exact ⟨eqz_bool HF.out.symm, below_drewN HB.out _⟩
      · have HF : Hid ((xs == ys) = true) := hid (by
          rw [beq_iff_eq]
          apply List.ext_getElem?
          intro j
          rcases Nat.lt_or_ge j n with h | h
          · exact HA.out j (by omega)
          · rw [List.getElem?_eq_none (by rw [HXN.out]; omega), List.getElem?_eq_none (by rw [← HYN.out]; omega)])
        go_wp2_with fail
        go_ret
        exact ⟨eqz_bool HF.out.symm, HB.out⟩
  · have HF : Hid ((xs == ys) = false) := hid (by rw [beq_eq_false_iff_ne]; exact fun e => hl (by rw [e]))
    obtain ⟨n, hxn⟩ : ∃ n, xs.length = n := ⟨_, rfl⟩
    obtain ⟨m, hym⟩ : ∃ m, ys.length = m := ⟨_, rfl⟩
    rw [hxn, hym] at hl ⊢
    have hd : ((n : Int) == (m : Int)) = false := by rw [beq_eq_false_iff_ne]; omega
    clear hl hxn hym h1 h2
    go_enter Tryz.func50, Tryz.ntmps50
    go_wp2_with fail
    go_ret
    exact ⟨eqz_bool HF.out.symm, Below.refl _ _⟩
end Go.Proofs.YtnpcjbdolmmaeaaGreatDoor
