/-
  neat of the statements, at a neat list: the walk.
-/
import Derived.Test.YtaoipffekmhioaaSame
namespace Go.Proofs.Ytaoipffekmhioaa
open Go.RowKit
set_option maxRecDepth 100000
set_option maxHeartbeats 1600000 in
theorem neatB_any (A : Option Addr) (c : Nat) (l : List Rg) (w : World) (hm : l.length ≤ 10000000) (hwf : WfL l) (hn : NeatP l) (hr : Reads w w.heap.size 2 A l.length (flat encR l)) :
    Calls Try.prog 24 #[.slice A l.length c] w fun e w' => e = .returned (.bool true) ∧ Below w.heap.size w w' := by
  have HNP := hid hn
  have HWF := hid hwf
  clear hn hwf
  go_enter Try.func24, Try.ntmps24
  go_wp2
  go_loopw [3] (fun i wr => ∃ k : Nat, k ≤ l.length ∧ i = .int .i64 k ∧ Below w.heap.size w wr) (fun i _ => l.length - (intOf i).toNat)
  case atStart => exact ⟨0, Nat.zero_le _, rfl, Below.refl _ _⟩
  case round =>
    obtain ⟨k, hk, rfl, hb⟩ := hrel
    by_cases hlt : k < l.length
    · obtain ⟨g, off, rfl, hbl, c0, c1⟩ := readsR hr hb k hlt
      have hx := HWF.out _ (List.getElem_mem hlt)
      have hle := HNP.out.1 _ (List.getElem_mem hlt)
      obtain ⟨⟨x1, x2⟩, ⟨x3, x4⟩⟩ := hx
      have e1 : (0 : Int) ≤ (k : Int) := by omega
      have e2 : (k : Int).toNat = k := by omega
      have e3 : (k : Int) < (l.length : Int) := by omega
      rcases Nat.eq_zero_or_pos k with h0 | h0
      · have f0 : ¬ (0 : Int) < (k : Int) := by omega
        clear h0
        generalize l[k] = x at c0 c1 x1 x2 x3 x4 hle
        have t1 : decide (x.2 < x.1) = false := decide_eq_false (by omega)
        have t2 : decide (0 < k) = false := decide_eq_false (by omega)
        go_wp2_with fail
        go_quiet (fail)
        clear e1 e2 e3 f0 t1 t2
        go_wp2
        go_roundw
        case rel => exact ⟨k + 1, by omega, by go_num, below_drewN hb _⟩
        case measure => simp [intOf]; omega
      · obtain ⟨j, rfl⟩ : ∃ j, k = j + 1 := ⟨k - 1, by omega⟩
        obtain ⟨g2, off2, hA, _, d0, d1⟩ := readsR hr hb j (by omega)
        injection hA with hA
        injection hA with hA1 hA2 _
        subst hA1 hA2
        have hy := HWF.out _ (List.getElem_mem (show j < l.length by omega))
        obtain ⟨_, ⟨y3, y4⟩⟩ := hy
        have hgt := (List.pairwise_iff_getElem.1 HNP.out.2) j (j+1) (by omega) hlt (by omega)
        generalize l[j+1] = x at c0 c1 x1 x2 x3 x4 hle hgt
        generalize l[j]'(by omega) = y at d0 d1 y3 y4 hgt
        have t1 : decide (x.2 < x.1) = false := decide_eq_false (by omega)
        have f1 : IntKind.i64.wrap (j : Int) = j := w64 (by omega) (by omega)
        have f2 : IntKind.i64.wrap x.1 = x.1 := w64 (by omega) (by omega)
        have f3 : IntKind.i64.wrap y.2 = y.2 := w64 (by omega) (by omega)
        have f4 : IntKind.i64.wrap (y.2 + 1) = y.2 + 1 := w64 (by omega) (by omega)
        have f5 : (j : Int) < (l.length : Int) := by omega
        have f6 : (0 : Int) ≤ (j : Int) := by omega
        have f7 : (j : Int).toNat = j := by omega
        have f8 : (0 : Int) ≤ (j : Int) + 1 := by omega
        have f9 : ((j : Int) + 1).toNat = j + 1 := by omega
        have f10 : (j : Int) + 1 < (l.length : Int) := by omega
        have f11 : (0 : Int) < (j : Int) + 1 := by omega
        go_wp2_with fail
        go_quiet (fail)
        clear f1 f2 f3 f4 f5 f6 f7 f8 f9 f10 f11 t1
        go_wp2
        go_roundw
        case rel => exact ⟨j + 1 + 1, by omega, by go_num, below_drewN hb _⟩
        case measure => simp [intOf]; omega
    · go_wp2
      go_ret
      exact ⟨rfl, hb⟩
end Go.Proofs.Ytaoipffekmhioaa
