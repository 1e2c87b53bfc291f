/-
  harbingerlaw25.ReportsText returns true for all faults, grammars and problems, and leaves them as they were. No condition; the tables that its code may read are tied to the program's text (a tied card).
-/
import Derived.Test.YtcbilcfieoibbaaGreatDoorRep16
import Derived.Test.YtcbilcfieoibbaaGreatDoorCards
import Derived.Test.YtcbilcfieoibbaaGreatDoorTie
import Derived.ProofKit
import Derived.Carry
import Derived.LaidMore
import Derived.Lay
import Derived.OpenShut
import Derived.Lib.SmallJoins
import Derived.Stop.Joined
import Derived.SevenTiedAt
namespace Go.Proofs.YtcbilcfieoibbaaGreatDoor
open Go.ChangeShapes Go.WideShapes Go.ChangeAt Go.RowKit
set_option maxRecDepth 100000
theorem own : ownKnob Tryz.prog.godebug = none := by kernel_rfl
theorem laidOut : laidOutB Tryz.prog = true := by kernel_rfl
theorem lifted (os : Os) (started : os.Started) (H : Type) (enc : TypeId × Value → H) :
    ReturnsInHanded {} Tryz.checked os 3 .any (fun w args => (Rows.reportsTextSpec.pre enc Tryz.prog Tryz.f3 [] false w args ∧ laidMetH Tryz.prog Rows.reportsTextRow.laid w) ∧ sizedMet enc Tryz.prog Tryz.f3 (OpenSpec.ofChange Rows.reportsTextSpec) false w args)
      (Rows.reportsTextSpec.post enc Tryz.prog Tryz.f3 false true false false) := by
  refine returnsInHanded_of_change_and (C := Tryz.checked) (X := fun w _ => laidMetH Tryz.prog Rows.reportsTextRow.laid w) (fun _ _ _ hh h => h.of_heap hh) own started (by kernel_rfl) Tryz.func3
    (ChangeSpec.witness_shaped (enc := enc) (C := Tryz.checked) (os := os) (X := fun w _ => laidMetH Tryz.prog Rows.reportsTextRow.laid w) false (World.laidAll Tryz.prog os Rows.reportsTextRow.laid) #[.agg #[.int .i64 0, .int .i64 0, .int .i64 0, .int .i64 0], .agg #[.string ⟨#[]⟩, .int .i64 0, .int .i64 0, .slice none 0 0], .agg #[.int .u8 0, .int .i64 0, .string ⟨#[]⟩]] 8 (World.laidAll_os _ _ _) (World.shaped_of_ZipB (by kernel_rfl) (by kernel_rfl)) (by kernel_rfl) (by kernel_rfl) (by kernel_rfl)
      (by rw [MakeChecks.laidMetH_plain _ _ _ (by kernel_rfl)]; exact laidMet_laidAll _ (by kernel_rfl) (by kernel_rfl))) ?_
  intro W base args ds gs before hval0 hW hcnd hsz hL _
  have hval : ∀ (j : Nat) t v, Tryz.f3.params[j]? = some t → args[j]? = some v → Value.okWide Tryz.prog W .any base t v := hval0
  have hsz0 : (DataW.weightsEach Tryz.prog (Tryz.f3.params.toList ++ Rows.reportsTextSpec.plain.varTypes Tryz.prog) (ds ++ gs)).all (· ≤ reachBytes) = true := hsz
  have hW' := hW
  obtain ⟨p, q, hA0, hV, rfl, hfz, hnd⟩ := hW
  have hA : DataW.TrodAll enc Tryz.prog W 0 (fun _ => true) true Tryz.f3.params.toList args.toList ds p := hA0
  rw [Tryz.params3] at hA hval hsz0
  obtain ⟨v0, v1, v2, d0, d1, d2, p0, p1, p2, rfl, rfl, rfl, h0, h1, h2⟩ := trodAll_three hA
  obtain ⟨rfl, rfl⟩ := trodVars_none hV
  have k0 := h0
  have k1 := h1
  have k2 := h2
  have lt0 : ∀ x ∈ p0, x.block < W.heap.size := by obtain ⟨m, hm⟩ := k0; exact DataW.trod_lt m _ _ _ hm
  have lt1 : ∀ x ∈ p1, x.block < W.heap.size := by obtain ⟨m, hm⟩ := k1; exact DataW.trod_lt m _ _ _ hm
  have lt2 : ∀ x ∈ p2, x.block < W.heap.size := by obtain ⟨m, hm⟩ := k2; exact DataW.trod_lt m _ _ _ hm
  have fit0 : Fits d0 26 := fits_of_each hsz0 (j := 0) rfl rfl
  have fit1 : Fits d1 31 := fits_of_each hsz0 (j := 1) rfl rfl
  have fit2 : Fits d2 34 := fits_of_each hsz0 (j := 2) rfl rfl
  obtain ⟨c0, rfl, hc0⟩ := okWide_struct Tryz.underlying26 (hval 0 26 v0 rfl rfl)
  obtain ⟨c1, rfl, hc1⟩ := okWide_struct Tryz.underlying31 (hval 1 31 v1 rfl rfl)
  obtain ⟨c2, rfl, hc2⟩ := okWide_struct Tryz.underlying34 (hval 2 34 v2 rfl rfl)
  obtain ⟨n0, g0⟩ := h0
  obtain ⟨n1, g1⟩ := h1
  obtain ⟨n2, g2⟩ := h2
  obtain ⟨e, a, l, c, e0, o0, o1, o2⟩ := open_Flt (x := (d0, p0)) (by rw [Array.length_toList]; exact hc0.trans (by kernel_rfl)) g0 fit0
  obtain ⟨gn, ga, gb, A, cp, rs, e1, hok, hG⟩ := open_Grm (x := (d1, p1)) (by rw [Array.length_toList]; exact hc1.trans (by kernel_rfl)) g1 fit1
  obtain ⟨k, i, s, e2, o3, o4, o5⟩ := open_Prb (x := (d2, p2)) (by rw [Array.length_toList]; exact hc2.trans (by kernel_rfl)) g2 fit2
  obtain rfl : c0 = #[.int .i64 e, .int .i64 a, .int .i64 l, .int .i64 c] := by cases c0; exact congrArg Array.mk e0
  obtain rfl : c1 = #[.string gn, .int .i64 ga, .int .i64 gb, .slice A rs.length cp] := by cases c1; exact congrArg Array.mk e1
  obtain rfl : c2 = #[.int .u8 (k : Nat), .int .i64 i, .string ⟨s.toArray⟩] := by cases c2; exact congrArg Array.mk e2
  clear hA0 hval0
  refine (textW_any e a l c o0 o1 o2 gn ga gb A cp rs k i s W (tb_of hL) hG hok o3 o4 o5).mono fun e W' ⟨he, bel⟩ => ?_
  subst he
  exact ⟨_, rfl, _, _, _, [], _, [], hW', trodAll_mk1 (shut_bool Tryz.underlying4 _), (trodAll_cons_mk (Below.trod laidOut (by kernel_rfl) (of_decide_eq_true (by kernel_rfl)) k0 bel lt0) (trodAll_cons_mk (Below.trod laidOut (by kernel_rfl) (of_decide_eq_true (by kernel_rfl)) k1 bel lt1) (trodAll_cons_mk (Below.trod laidOut (by kernel_rfl) (of_decide_eq_true (by kernel_rfl)) k2 bel lt2) trodAll_mk0))), rfl, bel.frame _, fun h => by cases h⟩
theorem text_holds : Rows.ReportsTextSaid :=
  OpenClaim.holds_of_wide 3 Tryz.f3 rfl rfl rfl rfl rfl rfl rfl ⟨rfl, rfl, rfl, rfl, rfl⟩ rfl rfl rfl rfl rfl (by kernel_rfl) Tryz.func3 (by kernel_rfl)
    (of_decide_eq_true (by kernel_rfl)) (by unfold Func.isWrapper; first | (rw [if_pos (by decide +kernel)]; kernel_rfl) | (rw [if_neg (by decide +kernel)]; exact ⟨rfl, rfl⟩))
    (fun os started H enc _ => lifted os started H enc)
/-- the statement -/
theorem text_proved : Rows.ReportsTextCardSaid :=
  Claim7.holds_tied_plain_at .later [] [.data, .data, .data, .data, .data, .pinned] true (true, "554e6ba92bb16c79c0260e8b520ec8018dfef6709fbf4407680e65a0eb0d3df4") true
    text_holds (fun _ h => by cases h) (by kernel_rfl) (fun _ h => by cases h) reportsText_row_tie rfl ⟨rfl, rfl⟩ (by kernel_rfl) rfl
    (fun f fn hf hfn => by
      obtain rfl : f = 3 := Option.some.inj ((show Tryz.prog.funcNamed "harbinger/harbingerlaw25.ReportsText" = some 3 by kernel_rfl).symm.trans hf) |>.symm
      obtain rfl : fn = Tryz.f3 := (Option.some.inj (Tryz.func3.symm.trans hfn)).symm
      exact ⟨by kernel_rfl, fun j t ht => by
        rw [Tryz.params3] at ht
        have hm : t ∈ [26, 31, 34] := by simpa using Array.mem_of_getElem? ht
        have hall : ([26, 31, 34].all fun u => !Tryz.prog.wantsStandIn u) = true := by kernel_rfl
        exact (show Tryz.prog.wantsStandIn t = false by simpa using List.all_eq_true.1 hall t hm)⟩)
    (by kernel_rfl)
end Go.Proofs.YtcbilcfieoibbaaGreatDoor
