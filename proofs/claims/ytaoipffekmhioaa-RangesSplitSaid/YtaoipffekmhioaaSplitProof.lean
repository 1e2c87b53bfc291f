/-
  harbingerlaw07.RangesSplit returns true for every three lists of ranges and every number, and leaves them as they were. No condition.
-/
import Derived.Test.YtaoipffekmhioaaOpen
import Derived.Test.YtaoipffekmhioaaSplitLaw
import Derived.ProofKit
import Derived.Carry
import Derived.OpenShut
import Derived.Lib.SmallJoins
namespace Go.Proofs.Ytaoipffekmhioaa
open Go.ChangeShapes Go.WideShapes Go.ChangeAt Go.RowKit Go.Deep
set_option maxRecDepth 100000
theorem openV {H : Type} {enc : TypeId × Value → H} {W : World} {spare : Nat → Bool} {held : Bool} {fuel : Nat} {v : Value} {x : DataW H × List MemPlace}
    (h : DataW.trod enc Try.prog W 0 spare held fuel 22 [v] = some x) : ∃ A len cap, v = .slice A len cap ∧ ∃ l : List Rg, l.length = len ∧ WfL l ∧ Reads W W.heap.size 2 A len (flat encR l) ∧ len ≤ maxLen := by
  have h9 := h
  rcases open_slice Try.underlying22 h9 with ⟨hcs, _⟩ | ⟨a, len, cap, _, _, _, _, hcs, _⟩
  · injection hcs with hcs _
    subst hcs
    exact ⟨none, 0, 0, rfl, openR h⟩
  · injection hcs with hcs _
    subst hcs
    exact ⟨some a, len, cap, rfl, openR h⟩
set_option maxHeartbeats 800000 in
theorem splitLaw_any (a b d : List Rg) (A B D : Option Addr) (ca cb cd : Nat) (x : Int) (w : World) (hma : a.length ≤ maxLen) (hmb : b.length ≤ maxLen) (hmd : d.length ≤ maxLen) (hwa : WfL a) (hwb : WfL b) (hwd : WfL d)
    (ra : Reads w w.heap.size 2 A a.length (flat encR a)) (rb : Reads w w.heap.size 2 B b.length (flat encR b)) (rc : Reads w w.heap.size 2 D d.length (flat encR d)) :
    Calls Try.prog 3 #[.agg #[.slice A a.length ca, .slice B b.length cb, .slice D d.length cd], .int .i32 x] w fun e w' => e = .returned (.bool true) ∧ Below w.heap.size w w' := by
  unfold maxLen at hma hmb hmd
  by_cases h1 : a.length ≤ 40
  · by_cases h2 : b.length ≤ 40
    · by_cases h3 : d.length ≤ 40
      · exact splitLaw_walk a b d _ A B D ca cb cd x w h1 h2 h3 hwa hwb hwd (hid rfl) ra rb rc
      · have h1' : ¬ (40 : Int) < (a.length : Int) := by omega
        have h2' : ¬ (40 : Int) < (b.length : Int) := by omega
        have h3' : (40 : Int) < (d.length : Int) := by omega
        clear h1 h2 h3 ra rb rc hwa hwb hwd
        go_enter Try.func3, Try.ntmps3
        go_wp2_with (go_at_call 7; refine (lives_any _).mono ?_; rintro e w' ⟨rfl, hb⟩)
        go_ret
        exact ⟨rfl, below_drop hb⟩
    · have h1' : ¬ (40 : Int) < (a.length : Int) := by omega
      have h2' : (40 : Int) < (b.length : Int) := by omega
      clear h1 h2 ra rb rc hwa hwb hwd
      go_enter Try.func3, Try.ntmps3
      go_wp2_with (go_at_call 7; refine (lives_any _).mono ?_; rintro e w' ⟨rfl, hb⟩)
      go_ret
      exact ⟨rfl, below_drop hb⟩
  · have h1' : (40 : Int) < (a.length : Int) := by omega
    clear h1 ra rb rc hwa hwb hwd
    go_enter Try.func3, Try.ntmps3
    go_wp2_with (go_at_call 7; refine (lives_any _).mono ?_; rintro e w' ⟨rfl, hb⟩)
    go_ret
    exact ⟨rfl, below_drop hb⟩
theorem ownS : ownKnob Try.prog.godebug = none := by kernel_rfl
theorem laidOutS : laidOutB Try.prog = true := by kernel_rfl
theorem liftedS (os : Os) (started : os.Started) (H : Type) (enc : TypeId × Value → H) :
    ReturnsInHanded {} Try.checked os 3 .any (Rows.rangesSplitSpec.pre6 enc Try.prog Try.f3 Rows.rangesSplitRow.domain false) (Rows.rangesSplitSpec.post enc Try.prog Try.f3 false true false false) := by
  refine returnsInHanded_of_change (C := Try.checked) ownS started (by kernel_rfl) Try.func3
    (ChangeSpec.witness6 (enc := enc) (C := Try.checked) false ⟨#[], #[.agg #[.slice none 0 0, .slice none 0 0, .slice none 0 0], .int .i32 0], []⟩ 8 (by kernel_rfl) (by kernel_rfl) (by kernel_rfl) (by kernel_rfl)) ?_
  intro W base args ds gs before hval0 hW hcnd _
  have hval : ∀ (j : Nat) t v, Try.f3.params[j]? = some t → args[j]? = some v → Value.okWide Try.prog W .any base t v := hval0
  have hW' := hW
  obtain ⟨p, q, hA0, hV, rfl, hfz, hnd⟩ := hW
  have hA : DataW.TrodAll enc Try.prog W 0 (fun _ => true) true Try.f3.params.toList args.toList ds p := hA0
  rw [Try.params3] at hA hval
  obtain ⟨v0, vs0, d0, ds0, p0, q0, hargs, rfl, rfl, h0, r0⟩ := trodAll_cons hA
  obtain ⟨v1, vs1, d1, ds1, p1, q1, rfl, rfl, rfl, h1, r1⟩ := trodAll_cons r0
  obtain ⟨rfl, rfl, rfl⟩ := trodAll_nil r1
  obtain rfl : args = #[v0, v1] := by cases args; simp_all
  obtain ⟨rfl, rfl⟩ := trodVars_none hV
  obtain ⟨cs, rfl, hsz, _⟩ : ∃ cs, v0 = .agg cs ∧ cs.size = Try.prog.cellsOf 23 ∧ Row.okWide Try.prog W .any base 23 cs := by
    have := hval 0 23 v0 rfl rfl
    simpa [Value.okWide, Try.underlying23] using this
  have hc3 : Try.prog.cellsOf 23 = 3 := by kernel_rfl
  have hc1 : Try.prog.cellsOf 22 = 1 := by kernel_rfl
  rw [hc3] at hsz
  obtain ⟨u0, u1, u2, rfl⟩ := Joins.array3 hsz
  have k0 := h0
  have lt0 : ∀ x ∈ p0, x.block < W.heap.size := by obtain ⟨m, hm⟩ := k0; exact DataW.trod_lt m _ _ _ hm
  obtain ⟨fuel, hf⟩ := h0
  obtain ⟨ys, m, _, hx, _, hyl, hel⟩ := DataW.trod_array Try.underlying23 hf
  rw [hc1] at hel
  have e0 : DataW.trod enc Try.prog W 0 (fun _ => true) true m 22 [u0] = some (ys[0]'(by omega)) := (hel 0 (by omega)).trans (List.getElem?_eq_getElem _)
  have e1 : DataW.trod enc Try.prog W 0 (fun _ => true) true m 22 [u1] = some (ys[1]'(by omega)) := (hel 1 (by omega)).trans (List.getElem?_eq_getElem _)
  have e2 : DataW.trod enc Try.prog W 0 (fun _ => true) true m 22 [u2] = some (ys[2]'(by omega)) := (hel 2 (by omega)).trans (List.getElem?_eq_getElem _)
  obtain ⟨a0, len0, cap0, rfl, l0, rfl, wf0, rd0, hm0⟩ := openV e0
  obtain ⟨a1, len1, cap1, rfl, l1, rfl, wf1, rd1, hm1⟩ := openV e1
  obtain ⟨a2, len2, cap2, rfl, l2, rfl, wf2, rd2, hm2⟩ := openV e2
  obtain ⟨x2, rfl, rfl, rfl, w2⟩ := open_int Try.underlying21 (hval 1 21 v1 rfl rfl) h1
  clear hA0 hval0 hel e0 e1 e2 hx
  refine (splitLaw_any l0 l1 l2 a0 a1 a2 cap0 cap1 cap2 x2 W hm0 hm1 hm2 wf0 wf1 wf2 rd0 rd1 rd2).mono fun e W' ⟨he, bel⟩ => ?_
  subst he
  exact ⟨_, rfl, _, _, _, [], _, [], hW', trodAll_mk1 (shut_bool Try.underlying4 _), (trodAll_cons_mk (Below.trod laidOutS (by kernel_rfl) (of_decide_eq_true (by kernel_rfl)) k0 bel lt0) (trodAll_cons_mk (shut_int Try.underlying21 w2) trodAll_mk0)), rfl, bel.frame _, fun h => by cases h⟩
theorem splitRow_over : Rows.rangesSplitRow.holds Try.pinned (OpenSpec.ofChange Rows.rangesSplitSpec) :=
  OpenClaim.holds_of_wide 3 Try.f3 rfl rfl rfl rfl rfl rfl rfl ⟨rfl, rfl, rfl, rfl, rfl⟩ rfl rfl rfl rfl rfl (by kernel_rfl) Try.func3 (by kernel_rfl)
    (of_decide_eq_true (by kernel_rfl)) (by unfold Func.isWrapper; first | (rw [if_pos (by decide +kernel)]; kernel_rfl) | (rw [if_neg (by decide +kernel)]; exact ⟨rfl, rfl⟩))
    (fun os started H enc _ => liftedS os started H enc)
/-- the statement -/
theorem splitRow_proved : Rows.RangesSplitSaid := splitRow_over
end Go.Proofs.Ytaoipffekmhioaa
