/-
  same, SameRanges of the statements: the walks.
-/
import Derived.Test.YtoclbcfgfaialaaGreatDoorLL
import Derived.Laws.StructEq
namespace Go.Proofs.YtoclbcfgfaialaaGreatDoor
open Go.RowKit
set_option maxRecDepth 100000
set_option maxHeartbeats 800000 in
theorem same_any (A B : Option Addr) (c d : Nat) (a b : List Rg) (w : World) (hm : a.length ≤ 10000000) (hra : Reads w w.heap.size 2 A a.length (flat encR a)) (hrb : Reads w w.heap.size 2 B b.length (flat encR b)) :
    Calls Tryz.prog 66 #[.slice A a.length c, .slice B b.length d] w fun e w' => e = .returned (.bool (decide (a = b))) ∧ Below w.heap.size w w' := by
  by_cases hl : a.length = b.length
  · rw [← hl] at hrb ⊢
    have HL := hid hl
    clear hl
    have hll : ∀ k, k < a.length → k < b.length := fun k hk => by rw [← HL.out]; exact hk
    go_enter Tryz.func66, Tryz.ntmps66
    go_wp2
    have HAB : Hid (∀ k, a.take k = b.take k → k = a.length → a = b) := by
      intro k h1 h2
      subst h2
      rwa [List.take_length, HL.out, List.take_length] at h1
    go_loopw [5] (fun i wr => ∃ k : Nat, k ≤ a.length ∧ i = .int .i64 k ∧ Below w.heap.size w wr ∧ Hid (a.take k = b.take k)) (fun i _ => a.length - (intOf i).toNat)
    case atStart => exact ⟨0, Nat.zero_le _, rfl, Below.refl _ _, rfl⟩
    case round =>
      obtain ⟨k, hk, rfl, hb, HT⟩ := hrel
      by_cases hlt : k < a.length
      · obtain ⟨g, off, rfl, hbl, c0, c1⟩ := readsR hra hb k hlt
        have hrb' := hrb
        rw [HL.out] at hrb'
        obtain ⟨g2, off2, rfl, hbl2, d0, d1⟩ := readsR hrb' hb k (hll k hlt)
        clear hrb'
        have HS : Hid (a[k] = b[k]'(hll k hlt) → a.take (k+1) = b.take (k+1)) := by
          intro h
          rw [List.take_succ_eq_append_getElem hlt, List.take_succ_eq_append_getElem (hll k hlt), HT.out, h]
        have HF : Hid (a[k] ≠ b[k]'(hll k hlt) → decide (a = b) = false) := by
          intro h
          refine decide_eq_false (fun e => h ?_)
          subst e
          rfl
        generalize a[k] = x at c0 c1 HS HF
        generalize b[k]'(hll k hlt) = y at d0 d1 HS HF
        have e6 : (0 : Int) ≤ (k : Int) := by omega
        have e7 : (k : Int).toNat = k := by omega
        have e8 : (k : Int) < (a.length : Int) := by omega
        by_cases hxy : x = y
        · subst hxy
          have HS2 := hid (HS.out rfl)
          clear HF HS
          go_wp2_with fail
          go_quiet (fail)
          clear e6 e7 e8
          go_wp2
          go_roundw
          case rel => exact ⟨k + 1, by omega, by go_num, below_drewN hb _, HS2.out⟩
          case measure => simp [intOf]; omega
        · have HF2 := hid (HF.out hxy)
          clear HS HF
          obtain ⟨x1, x2⟩ := x
          obtain ⟨y1, y2⟩ := y
          simp only at c0 c1 d0 d1
          have HX := hid hxy
          clear hxy
          by_cases h1 : x1 = y1
          · subst h1
            have h2 : ¬ x2 = y2 := fun h => HX.out (by rw [h])
            have h3 : (x2 == y2) = false := by simpa using h2
            have h4 : (x2 != y2) = true := by simpa using h2
            go_wp2_with fail
            go_quiet (fail)
            clear e6 e7 e8
            go_wp2
            go_ret
            exact ⟨ret_bool HF2.out.symm, below_drewN hb _⟩
          · have h3 : (x1 == y1) = false := by simpa using h1
            have h4 : (x1 != y1) = true := by simpa using h1
            go_wp2_with fail
            go_quiet (fail)
            clear e6 e7 e8
            go_wp2
            go_ret
            exact ⟨ret_bool HF2.out.symm, below_drewN hb _⟩
      · have hfin : decide (a = b) = true := decide_eq_true (HAB.out k HT.out (by omega))
        have HF := hid hfin
        clear hfin
        go_wp2
        go_ret
        exact ⟨ret_bool HF.out.symm, hb⟩
  · have hd : decide (a = b) = false := decide_eq_false (fun h => hl (by rw [h]))
    have HF := hid hd
    clear hd
    have hb : ((a.length : Int) != (b.length : Int)) = true := by simpa using (by omega : (a.length : Int) ≠ (b.length : Int))
    go_enter Tryz.func66, Tryz.ntmps66
    go_wp2
    go_ret
    exact ⟨ret_bool HF.out.symm, Below.refl _ _⟩
set_option maxHeartbeats 400000 in
theorem sameR_any (A B : Option Addr) (c d : Nat) (a b : List Rg) (w : World) (hm : a.length ≤ 10000000) (hra : Reads w w.heap.size 2 A a.length (flat encR a)) (hrb : Reads w w.heap.size 2 B b.length (flat encR b)) :
    Calls Tryz.prog 36 #[.slice A a.length c, .slice B b.length d] w fun e w' => e = .returned (.bool (decide (a = b))) ∧ Below w.heap.size w w' := by
  cases hd : decide (a = b) <;>
  (go_enter Tryz.func36, Tryz.ntmps36
   have HD := hid hd
   clear hd
   go_wp2_with fail
   refine (same_any A B c d a b w hm hra hrb).mono ?_
   rw [HD.out]
   rintro e w1 ⟨rfl, hb⟩
   go_wp2_with fail
   go_ret
   exact ⟨rfl, hb⟩)
end Go.Proofs.YtoclbcfgfaialaaGreatDoor
