/-
  slices.Equal at lists of numbers: the walk.
-/
import Derived.Test.YtnpcjbdolmmaeaaDoorCfCz
import Derived.BigQuiet
namespace Go.Proofs.YtnpcjbdolmmaeaaDoor
open Go.RowKit
set_option maxRecDepth 100000
theorem eqz_bool {a b : Bool} (h : a = b) : Ending.returned (.bool a) = .returned (.bool b) := by rw [h]
theorem reads_atZ {w : World} {B n : Nat} {A : Option Addr} {l : List Int} (h : Reads w B 1 A n (l.map (Value.int .i64))) (i : Nat) (hi : i < l.length) : ∃ b off, A = some ⟨b, off, none⟩ ∧ b < B ∧ w.cell? ⟨b, off + i, none⟩ = some (.int .i64 l[i]) := by
  have h0 := h.1
  rw [List.length_map] at h0
  obtain ⟨b, off, hA, hb, hc⟩ := h.2 (by omega)
  exact ⟨b, off, hA, hb, hc i _ (by rw [List.getElem?_map, List.getElem?_eq_getElem hi]; rfl)⟩
set_option maxHeartbeats 1600000 in
theorem equalZ_any (A A' : Option Addr) (c c' B B' : Nat) (xs ys : List Int) (w : World) (hn : xs.length ≤ 1000000000) (h1 : Reads w B 1 A xs.length (xs.map (Value.int .i64))) (h2 : Reads w B' 1 A' ys.length (ys.map (Value.int .i64))) (hB : B ≤ w.heap.size) (hB' : B' ≤ w.heap.size) :
    Calls Tryd.prog 47 #[.slice A xs.length c, .slice A' ys.length c'] w fun e w' => e = .returned (.bool (xs == ys)) ∧ Below w.heap.size w w' := by
  by_cases hl : xs.length = ys.length
  · have H1 := hid h1
    have H2 := hid h2
    clear h1 h2
    obtain ⟨n, hxn⟩ : ∃ n, xs.length = n := ⟨_, rfl⟩
    rw [hxn] at hl
    rw [hxn, ← hl]
    rw [hxn] at hn
    have HXN := hid hxn
    have HYN := hid hl
    clear hxn hl
    go_enter Tryd.func47, Tryd.ntmps47
    go_wp2_with fail
    go_loopw [13] (fun i wr => ∃ k : Nat, k ≤ n ∧ i = .int .i64 k ∧ Hid (Below w.heap.size w wr ∧ ∀ j, j < k → xs[j]? = ys[j]?)) (fun i _ => n - (intOf i).toNat)
    case atStart => exact ⟨0, Nat.zero_le _, rfl, hid ⟨Below.refl _ _, fun _ h => absurd h (Nat.not_lt_zero _)⟩⟩
    case round =>
      obtain ⟨k, hk, rfl, hH⟩ := hrel
      have HB := hid hH.out.1
      have HA := hid hH.out.2
      clear hH
      by_cases hlt : k < n
      · have hkx : k < xs.length := by rw [HXN.out]; exact hlt
        have hky : k < ys.length := by rw [← HYN.out]; exact hlt
        obtain ⟨b, off, rfl, hb, hc⟩ := reads_atZ H1.out k hkx
        obtain ⟨b', off', rfl, hb', hc'⟩ := reads_atZ H2.out k hky
        have gc := (HB.out.cell (p := ⟨b, off + k, none⟩) (show b < w.heap.size by omega)).trans hc
        have gc' := (HB.out.cell (p := ⟨b', off' + k, none⟩) (show b' < w.heap.size by omega)).trans hc'
        clear hc hc'
        have hgx := List.getElem?_eq_getElem hkx
        have hgy := List.getElem?_eq_getElem hky
        generalize xs[k] = x at gc hgx
        generalize ys[k] = y at gc' hgy
        have HGX := hid hgx
        have HGY := hid hgy
        clear hgx hgy hkx hky
        by_cases hxy : x = y
        · subst hxy
          go_wp2_with fail
          go_quiet (fail)
          go_wp2_with fail
          go_roundw
          case rel => exact ⟨k + 1, by omega, by go_num, hid ⟨below_drewN HB.out _, fun j hj => by rcases Nat.lt_succ_iff_lt_or_eq.1 hj with h | rfl; exact HA.out j h; rw [HGX.out, HGY.out]⟩⟩
          case measure => simp [intOf]; omega
        · have hd : (x == y) = false := by rw [beq_eq_false_iff_ne]; exact hxy
          have HF : Hid ((xs == ys) = false) := hid (by
            rw [beq_eq_false_iff_ne]
            intro e
            have h3 := HGX.out
            rw [e, HGY.out] at h3
            injection h3 with h3
            exact hxy h3.symm)
          clear hxy
          go_wp2_with fail
          go_quiet (fail)
          go_wp2_with fail
          go_ret
          exact ⟨eqz_bool HF.out.symm, below_drewN HB.out _⟩
      · have HF : Hid ((xs == ys) = true) := hid (by
          rw [beq_iff_eq]
          apply List.ext_getElem?
          intro j
          rcases Nat.lt_or_ge j n with h | h
          · exact HA.out j (by omega)
          · rw [List.getElem?_eq_none (by rw [HXN.out]; omega), List.getElem?_eq_none (by rw [← HYN.out]; omega)])
        go_wp2_with fail
        go_ret
        exact ⟨eqz_bool HF.out.symm, HB.out⟩
  · have HF : Hid ((xs == ys) = false) := hid (by rw [beq_eq_false_iff_ne]; exact fun e => hl (by rw [e]))
    obtain ⟨n, hxn⟩ : ∃ n, xs.length = n := ⟨_, rfl⟩
    obtain ⟨m, hym⟩ : ∃ m, ys.length = m := ⟨_, rfl⟩
    rw [hxn, hym] at hl ⊢
    have hd : ((n : Int) == (m : Int)) = false := by rw [beq_eq_false_iff_ne]; omega
    clear hl hxn hym h1 h2
    go_enter Tryd.func47, Tryd.ntmps47
    go_wp2_with fail
    go_ret
    exact ⟨eqz_bool HF.out.symm, Below.refl _ _⟩
end Go.Proofs.YtnpcjbdolmmaeaaDoor
