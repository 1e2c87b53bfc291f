/-
  harbingerlaw07.RangesParts returns true for every two lists of ranges and every number, and leaves them as they were. No condition.
-/
import Derived.Test.YtaoipffekmhioaaOpen
import Derived.Test.YtaoipffekmhioaaPartsWalk
import Derived.ProofKit
import Derived.Carry
namespace Go.Proofs.Ytaoipffekmhioaa
open Go.ChangeShapes Go.WideShapes Go.ChangeAt Go.RowKit
set_option maxRecDepth 100000
set_option maxHeartbeats 800000 in
theorem partsLaw_any (a b : List Rg) (A B : Option Addr) (c d : Nat) (x : Int) (w : World) (hma : a.length ≤ maxLen) (hmb : b.length ≤ maxLen) (hwa : WfL a) (hwb : WfL b)
    (ra : Reads w w.heap.size 2 A a.length (flat encR a)) (rb : Reads w w.heap.size 2 B b.length (flat encR b)) :
    Calls Try.prog 6 #[.slice A a.length c, .slice B b.length d, .int .i32 x] w fun e w' => e = .returned (.bool true) ∧ Below w.heap.size w w' := by
  unfold maxLen at hma hmb
  by_cases h1 : a.length ≤ 60
  · by_cases h2 : b.length ≤ 60
    · exact parts_walk a b _ _ A B c d x _ _ w h1 h2 hwa hwb (hid rfl) (hid rfl) (hid rfl) (hid rfl) ra rb
    · have h2' : (60 : Int) < (b.length : Int) := by omega
      have h1' : ¬ (60 : Int) < (a.length : Int) := by omega
      clear h1 h2 ra rb hwa hwb
      go_enter Try.func6, Try.ntmps6
      go_wp2_with (go_at_call 7; refine (lives_any _).mono ?_; rintro e w' ⟨rfl, hb⟩)
      go_ret
      exact ⟨rfl, hb⟩
  · have h1' : (60 : Int) < (a.length : Int) := by omega
    clear h1 ra rb hwa hwb
    go_enter Try.func6, Try.ntmps6
    go_wp2_with (go_at_call 7; refine (lives_any _).mono ?_; rintro e w' ⟨rfl, hb⟩)
    go_ret
    exact ⟨rfl, hb⟩
theorem ownP : ownKnob Try.prog.godebug = none := by kernel_rfl
theorem laidOutP : laidOutB Try.prog = true := by kernel_rfl
theorem liftedP (os : Os) (started : os.Started) (H : Type) (enc : TypeId × Value → H) :
    ReturnsInHanded {} Try.checked os 6 .any (Rows.rangesPartsSpec.pre6 enc Try.prog Try.f6 Rows.rangesPartsRow.domain false) (Rows.rangesPartsSpec.post enc Try.prog Try.f6 false true false false) := by
  refine returnsInHanded_of_change (C := Try.checked) ownP started (by kernel_rfl) Try.func6
    (ChangeSpec.witness6 (enc := enc) (C := Try.checked) false ⟨#[], #[.slice none 0 0, .slice none 0 0, .int .i32 0], []⟩ 8 (by kernel_rfl) (by kernel_rfl) (by kernel_rfl) (by kernel_rfl)) ?_
  intro W base args ds gs before hval0 hW hcnd _
  have hval : ∀ (j : Nat) t v, Try.f6.params[j]? = some t → args[j]? = some v → Value.okWide Try.prog W .any base t v := hval0
  have hW' := hW
  obtain ⟨p, q, hA0, hV, rfl, hfz, hnd⟩ := hW
  have hA : DataW.TrodAll enc Try.prog W 0 (fun _ => true) true Try.f6.params.toList args.toList ds p := hA0
  rw [Try.params6] at hA hval
  obtain ⟨v0, vs0, d0, ds0, p0, q0, hargs, rfl, rfl, h0, r0⟩ := trodAll_cons hA
  obtain ⟨v1, vs1, d1, ds1, p1, q1, rfl, rfl, rfl, h1, r1⟩ := trodAll_cons r0
  obtain ⟨v2, vs2, d2, ds2, p2, q2, rfl, rfl, rfl, h2, r2⟩ := trodAll_cons r1
  obtain ⟨rfl, rfl, rfl⟩ := trodAll_nil r2
  obtain rfl : args = #[v0, v1, v2] := by cases args; simp_all
  obtain ⟨rfl, rfl⟩ := trodVars_none hV
  obtain ⟨a0, len0, cap0, rfl⟩ := okWide_slice Try.underlying22 (hval 0 22 v0 rfl rfl)
  obtain ⟨a1, len1, cap1, rfl⟩ := okWide_slice Try.underlying22 (hval 1 22 v1 rfl rfl)
  have k0 := h0
  have lt0 : ∀ x ∈ p0, x.block < W.heap.size := by obtain ⟨m, hm⟩ := k0; exact DataW.trod_lt m _ _ _ hm
  have k1 := h1
  have lt1 : ∀ x ∈ p1, x.block < W.heap.size := by obtain ⟨m, hm⟩ := k1; exact DataW.trod_lt m _ _ _ hm
  obtain ⟨l0, rfl, wf0, rd0, hm0⟩ : ∃ l : List Rg, l.length = len0 ∧ WfL l ∧ Reads W W.heap.size 2 a0 len0 (flat encR l) ∧ len0 ≤ maxLen := by
    obtain ⟨fuel, hf⟩ := h0
    exact openR hf
  obtain ⟨l1, rfl, wf1, rd1, hm1⟩ : ∃ l : List Rg, l.length = len1 ∧ WfL l ∧ Reads W W.heap.size 2 a1 len1 (flat encR l) ∧ len1 ≤ maxLen := by
    obtain ⟨fuel, hf⟩ := h1
    exact openR hf
  obtain ⟨x2, rfl, rfl, rfl, w2⟩ := open_int Try.underlying21 (hval 2 21 v2 rfl rfl) h2
  clear hA0 hval0
  refine (partsLaw_any l0 l1 a0 a1 cap0 cap1 x2 W hm0 hm1 wf0 wf1 rd0 rd1).mono fun e W' ⟨he, bel⟩ => ?_
  subst he
  exact ⟨_, rfl, _, _, _, [], _, [], hW', trodAll_mk1 (shut_bool Try.underlying4 _), (trodAll_cons_mk (Below.trod laidOutP (by kernel_rfl) (of_decide_eq_true (by kernel_rfl)) k0 bel lt0) (trodAll_cons_mk (Below.trod laidOutP (by kernel_rfl) (of_decide_eq_true (by kernel_rfl)) k1 bel lt1) (trodAll_cons_mk (shut_int Try.underlying21 w2) trodAll_mk0))), rfl, bel.frame _, fun h => by cases h⟩
theorem parts_over : Rows.rangesPartsRow.holds Try.pinned (OpenSpec.ofChange Rows.rangesPartsSpec) :=
  OpenClaim.holds_of_wide 6 Try.f6 rfl rfl rfl rfl rfl rfl rfl ⟨rfl, rfl, rfl, rfl, rfl⟩ rfl rfl rfl rfl rfl (by kernel_rfl) Try.func6 (by kernel_rfl)
    (of_decide_eq_true (by kernel_rfl)) (by unfold Func.isWrapper; first | (rw [if_pos (by decide +kernel)]; kernel_rfl) | (rw [if_neg (by decide +kernel)]; exact ⟨rfl, rfl⟩))
    (fun os started H enc _ => liftedP os started H enc)
/-- the statement -/
theorem parts_proved : Rows.RangesPartsSaid := parts_over
end Go.Proofs.Ytaoipffekmhioaa
