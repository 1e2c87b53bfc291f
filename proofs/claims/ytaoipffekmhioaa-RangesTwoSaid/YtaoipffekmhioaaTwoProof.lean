/-
  harbingerlaw07.RangesTwo returns true for every two lists of ranges, and leaves them as they were. No condition.
-/
import Derived.Test.YtaoipffekmhioaaOpen
import Derived.Test.YtaoipffekmhioaaTwoWalk
import Derived.ProofKit
import Derived.Carry
namespace Go.Proofs.Ytaoipffekmhioaa
open Go.ChangeShapes Go.WideShapes Go.ChangeAt Go.RowKit
set_option maxRecDepth 100000
set_option maxHeartbeats 800000 in
theorem twoLaw_any (a b : List Rg) (A B : Option Addr) (c d : Nat) (w : World) (hma : a.length ≤ maxLen) (hmb : b.length ≤ maxLen) (hwa : WfL a) (hwb : WfL b)
    (ra : Reads w w.heap.size 2 A a.length (flat encR a)) (rb : Reads w w.heap.size 2 B b.length (flat encR b)) :
    Calls Try.prog 4 #[.slice A a.length c, .slice B b.length d] w fun e w' => e = .returned (.bool true) ∧ Below w.heap.size w w' := by
  unfold maxLen at hma hmb
  by_cases h1 : a.length ≤ 60
  · by_cases h2 : b.length ≤ 60
    · exact two_walk a b _ _ _ _ A B c d w h1 h2 hwa hwb (hid rfl) (hid rfl) (hid rfl) (hid rfl) ra rb
    · have h2' : (60 : Int) < (b.length : Int) := by omega
      have h1' : ¬ (60 : Int) < (a.length : Int) := by omega
      clear h1 h2 ra rb hwa hwb
      go_enter Try.func4, Try.ntmps4
      go_wp2_with (go_at_call 7; refine (lives_any _).mono ?_; rintro e w' ⟨rfl, hb⟩)
      go_ret
      exact ⟨rfl, hb⟩
  · have h1' : (60 : Int) < (a.length : Int) := by omega
    clear h1 ra rb hwa hwb
    go_enter Try.func4, Try.ntmps4
    go_wp2_with (go_at_call 7; refine (lives_any _).mono ?_; rintro e w' ⟨rfl, hb⟩)
    go_ret
    exact ⟨rfl, hb⟩
theorem ownT : ownKnob Try.prog.godebug = none := by kernel_rfl
theorem laidOutT : laidOutB Try.prog = true := by kernel_rfl
theorem liftedT (os : Os) (started : os.Started) (H : Type) (enc : TypeId × Value → H) :
    ReturnsInHanded {} Try.checked os 4 .any (Rows.rangesTwoSpec.pre6 enc Try.prog Try.f4 Rows.rangesTwoRow.domain false) (Rows.rangesTwoSpec.post enc Try.prog Try.f4 false true false false) := by
  refine returnsInHanded_of_change (C := Try.checked) ownT started (by kernel_rfl) Try.func4
    (ChangeSpec.witness6 (enc := enc) (C := Try.checked) false ⟨#[], #[.slice none 0 0, .slice none 0 0], []⟩ 8 (by kernel_rfl) (by kernel_rfl) (by kernel_rfl) (by kernel_rfl)) ?_
  intro W base args ds gs before hval0 hW hcnd _
  have hval : ∀ (j : Nat) t v, Try.f4.params[j]? = some t → args[j]? = some v → Value.okWide Try.prog W .any base t v := hval0
  have hW' := hW
  obtain ⟨p, q, hA0, hV, rfl, hfz, hnd⟩ := hW
  have hA : DataW.TrodAll enc Try.prog W 0 (fun _ => true) true Try.f4.params.toList args.toList ds p := hA0
  rw [Try.params4] at hA hval
  obtain ⟨v0, vs0, d0, ds0, p0, q0, hargs, rfl, rfl, h0, r0⟩ := trodAll_cons hA
  obtain ⟨v1, vs1, d1, ds1, p1, q1, rfl, rfl, rfl, h1, r1⟩ := trodAll_cons r0
  obtain ⟨rfl, rfl, rfl⟩ := trodAll_nil r1
  obtain rfl : args = #[v0, v1] := by cases args; simp_all
  obtain ⟨rfl, rfl⟩ := trodVars_none hV
  obtain ⟨a0, len0, cap0, rfl⟩ := okWide_slice Try.underlying22 (hval 0 22 v0 rfl rfl)
  obtain ⟨a1, len1, cap1, rfl⟩ := okWide_slice Try.underlying22 (hval 1 22 v1 rfl rfl)
  have k0 := h0
  have lt0 : ∀ x ∈ p0, x.block < W.heap.size := by obtain ⟨m, hm⟩ := k0; exact DataW.trod_lt m _ _ _ hm
  have k1 := h1
  have lt1 : ∀ x ∈ p1, x.block < W.heap.size := by obtain ⟨m, hm⟩ := k1; exact DataW.trod_lt m _ _ _ hm
  obtain ⟨l0, rfl, wf0, rd0, hm0⟩ : ∃ l : List Rg, l.length = len0 ∧ WfL l ∧ Reads W W.heap.size 2 a0 len0 (flat encR l) ∧ len0 ≤ maxLen := by
    obtain ⟨fuel, hf⟩ := h0
    exact openR hf
  obtain ⟨l1, rfl, wf1, rd1, hm1⟩ : ∃ l : List Rg, l.length = len1 ∧ WfL l ∧ Reads W W.heap.size 2 a1 len1 (flat encR l) ∧ len1 ≤ maxLen := by
    obtain ⟨fuel, hf⟩ := h1
    exact openR hf
  clear hA0 hval0
  refine (twoLaw_any l0 l1 a0 a1 cap0 cap1 W hm0 hm1 wf0 wf1 rd0 rd1).mono fun e W' ⟨he, bel⟩ => ?_
  subst he
  exact ⟨_, rfl, _, _, _, [], _, [], hW', trodAll_mk1 (shut_bool Try.underlying4 _), (trodAll_cons_mk (Below.trod laidOutT (by kernel_rfl) (of_decide_eq_true (by kernel_rfl)) k0 bel lt0) (trodAll_cons_mk (Below.trod laidOutT (by kernel_rfl) (of_decide_eq_true (by kernel_rfl)) k1 bel lt1) trodAll_mk0)), rfl, bel.frame _, fun h => by cases h⟩
theorem twoRow_over : Rows.rangesTwoRow.holds Try.pinned (OpenSpec.ofChange Rows.rangesTwoSpec) :=
  OpenClaim.holds_of_wide 4 Try.f4 rfl rfl rfl rfl rfl rfl rfl ⟨rfl, rfl, rfl, rfl, rfl⟩ rfl rfl rfl rfl rfl (by kernel_rfl) Try.func4 (by kernel_rfl)
    (of_decide_eq_true (by kernel_rfl)) (by unfold Func.isWrapper; first | (rw [if_pos (by decide +kernel)]; kernel_rfl) | (rw [if_neg (by decide +kernel)]; exact ⟨rfl, rfl⟩))
    (fun os started H enc _ => liftedT os started H enc)
/-- the statement -/
theorem twoRow_proved : Rows.RangesTwoSaid := twoRow_over
end Go.Proofs.Ytaoipffekmhioaa
