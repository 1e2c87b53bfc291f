/-
  harbingerlaw25.ReportsTree returns true for all names, trees and tokens, and leaves them as they were. No condition; the tables that its code may read are tied to the program's text (a tied card).
-/
import Derived.Test.YtcbilcfieoibbaaGreatDoorRep16
import Derived.Test.YtcbilcfieoibbaaGreatDoorRep20
import Derived.Test.YtcbilcfieoibbaaGreatDoorRep22
import Derived.Test.YtcbilcfieoibbaaGreatDoorCards
import Derived.Test.YtcbilcfieoibbaaGreatDoorTie
import Derived.ProofKit
import Derived.Carry
import Derived.LaidMore
import Derived.Lay
import Derived.OpenShut
import Derived.Lib.SmallJoins
import Derived.Stop.Joined
import Derived.SevenTiedAt
namespace Go.Proofs.YtcbilcfieoibbaaGreatDoor
open Go.ChangeShapes Go.WideShapes Go.ChangeAt Go.RowKit
set_option maxRecDepth 100000
theorem ownT : ownKnob Tryz.prog.godebug = none := by kernel_rfl
theorem laidOutT : laidOutB Tryz.prog = true := by kernel_rfl
theorem laid_same : Rows.reportsTextRow.laid = Rows.reportsTreeRow.laid := by kernel_rfl
theorem treeW_any (D : WrD) (r t k : Int) (e0 : Bool) (subs : List Rp.Tr) (A : Option Addr) (ca : Nat) (w : World) (hI : TwIn w D (.node r t k e0 subs) [.int .i64 r, .int .i64 t, .int .i64 k, .bool e0, .slice A subs.length ca])
    (ln : D.n.length ≤ 8796093022207) (lm : D.m.length ≤ 8796093022207) (ltk : D.tk.length ≤ 4398046511103) (bn : ∀ s ∈ D.n, s.length ≤ 140737488351232) (bm : ∀ s ∈ D.m, s.length ≤ 140737488351232) (bt : ∀ s ∈ txs D.tk, s.length ≤ 140737488351232) (hok : Rp.okT (.node r t k e0 subs)) :
    Calls Tryz.prog 4 #[.agg #[.slice D.RA D.n.length D.rc, .slice D.TA D.m.length D.tc], .agg #[.int .i64 r, .int .i64 t, .int .i64 k, .bool e0, .slice A subs.length ca], .slice D.WA D.tk.length D.wc] w (TwP w) := by
  by_cases h : 100 < D.tk.length
  · exact treeW_big D r t k e0 subs A ca w hI ln lm ltk bn bm h
  · exact treeW_few D r t k e0 subs A ca w hI ln lm ltk bn bm bt hok (by omega)
theorem liftedT (os : Os) (started : os.Started) (H : Type) (enc : TypeId × Value → H) :
    ReturnsInHanded {} Tryz.checked os 4 .any (fun w args => (Rows.reportsTreeSpec.pre enc Tryz.prog Tryz.f4 [] false w args ∧ laidMetH Tryz.prog Rows.reportsTreeRow.laid w) ∧ sizedMet enc Tryz.prog Tryz.f4 (OpenSpec.ofChange Rows.reportsTreeSpec) false w args)
      (Rows.reportsTreeSpec.post enc Tryz.prog Tryz.f4 false true false false) := by
  refine returnsInHanded_of_change_and (C := Tryz.checked) (X := fun w _ => laidMetH Tryz.prog Rows.reportsTreeRow.laid w) (fun _ _ _ hh h => h.of_heap hh) ownT started (by kernel_rfl) Tryz.func4
    (ChangeSpec.witness_shaped (enc := enc) (C := Tryz.checked) (os := os) (X := fun w _ => laidMetH Tryz.prog Rows.reportsTreeRow.laid w) false (World.laidAll Tryz.prog os Rows.reportsTreeRow.laid) #[.agg #[.slice none 0 0, .slice none 0 0], .agg #[.int .i64 0, .int .i64 0, .int .i64 0, .bool false, .slice none 0 0], .slice none 0 0] 8 (World.laidAll_os _ _ _) (World.shaped_of_ZipB (by kernel_rfl) (by kernel_rfl)) (by kernel_rfl) (by kernel_rfl) (by kernel_rfl)
      (by rw [MakeChecks.laidMetH_plain _ _ _ (by kernel_rfl)]; exact laidMet_laidAll _ (by kernel_rfl) (by kernel_rfl))) ?_
  intro W base args ds gs before hval0 hW hcnd hsz hL _
  have hval : ∀ (j : Nat) t v, Tryz.f4.params[j]? = some t → args[j]? = some v → Value.okWide Tryz.prog W .any base t v := hval0
  have hsz0 : (DataW.weightsEach Tryz.prog (Tryz.f4.params.toList ++ Rows.reportsTreeSpec.plain.varTypes Tryz.prog) (ds ++ gs)).all (· ≤ reachBytes) = true := hsz
  have hW' := hW
  obtain ⟨p, q, hA0, hV, rfl, hfz, hnd⟩ := hW
  have hA : DataW.TrodAll enc Tryz.prog W 0 (fun _ => true) true Tryz.f4.params.toList args.toList ds p := hA0
  rw [Tryz.params4] at hA hval hsz0
  obtain ⟨v0, v1, v2, d0, d1, d2, p0, p1, p2, rfl, rfl, rfl, h0, h1, h2⟩ := trodAll_three hA
  obtain ⟨rfl, rfl⟩ := trodVars_none hV
  have k0 := h0
  have k1 := h1
  have k2 := h2
  have lt0 : ∀ x ∈ p0, x.block < W.heap.size := by obtain ⟨m, hm⟩ := k0; exact DataW.trod_lt m _ _ _ hm
  have lt1 : ∀ x ∈ p1, x.block < W.heap.size := by obtain ⟨m, hm⟩ := k1; exact DataW.trod_lt m _ _ _ hm
  have lt2 : ∀ x ∈ p2, x.block < W.heap.size := by obtain ⟨m, hm⟩ := k2; exact DataW.trod_lt m _ _ _ hm
  have fit0 : Fits d0 42 := fits_of_each hsz0 (j := 0) rfl rfl
  have fit1 : Fits d1 45 := fits_of_each hsz0 (j := 1) rfl rfl
  have fit2 : Fits d2 46 := fits_of_each hsz0 (j := 2) rfl rfl
  obtain ⟨c0, rfl, hc0⟩ := okWide_arr Tryz.underlying42 (hval 0 42 v0 rfl rfl)
  obtain ⟨c1, rfl, hc1⟩ := okWide_struct Tryz.underlying45 (hval 1 45 v1 rfl rfl)
  obtain ⟨a2, len2, cap2, rfl⟩ := okWide_slice Tryz.underlying46 (hval 2 46 v2 rfl rfl)
  obtain ⟨n0, g0⟩ := h0
  obtain ⟨n1, g1⟩ := h1
  obtain ⟨n2, g2⟩ := h2
  obtain ⟨n, m, RA, TA, rc, tc, e0, sr, st, ln, lm, bn, bm⟩ := open_N2 (x := (d0, p0)) (by rw [Array.length_toList]; exact hc0.trans (by kernel_rfl)) g0 fit0
  obtain ⟨T, hok, hT⟩ := open_Tr n1 c1.toList (d1, p1) (by rw [Array.length_toList]; exact hc1.trans (by kernel_rfl)) g1 fit1
  obtain ⟨tk, WA, wc, e2, sw, ltk, bt⟩ := open_Tks (x := (d2, p2)) g2 fit2
  obtain rfl : c0 = #[.slice RA n.length rc, .slice TA m.length tc] := by cases c0; exact congrArg Array.mk e0
  injection e2 with e2 _
  injection e2 with q0 q1 q2
  subst q0 q1 q2
  obtain ⟨r, t, k, e, subs⟩ := T
  obtain ⟨A, ca, e1⟩ : ∃ A ca, c1.toList = [.int .i64 r, .int .i64 t, .int .i64 k, .bool e, .slice A subs.length ca] := by
    unfold TrR at hT
    obtain ⟨A, ca, xs, e1, _⟩ := hT
    exact ⟨A, ca, e1⟩
  rw [e1] at hT
  obtain rfl : c1 = #[.int .i64 r, .int .i64 t, .int .i64 k, .bool e, .slice A subs.length ca] := by cases c1; exact congrArg Array.mk e1
  clear hA0 hval0
  refine (treeW_any ⟨RA, TA, a2, rc, tc, cap2, n, m, tk⟩ r t k e subs A ca W ⟨tb_of (by rw [laid_same]; exact hL), sr, st, sw, hT⟩ ln lm ltk bn bm bt hok).mono fun e' W' ⟨he, bel⟩ => ?_
  subst he
  exact ⟨_, rfl, _, _, _, [], _, [], hW', trodAll_mk1 (shut_bool Tryz.underlying4 _), (trodAll_cons_mk (Below.trod laidOutT (by kernel_rfl) (of_decide_eq_true (by kernel_rfl)) k0 bel lt0) (trodAll_cons_mk (Below.trod laidOutT (by kernel_rfl) (of_decide_eq_true (by kernel_rfl)) k1 bel lt1) (trodAll_cons_mk (Below.trod laidOutT (by kernel_rfl) (of_decide_eq_true (by kernel_rfl)) k2 bel lt2) trodAll_mk0))), rfl, bel.frame _, fun h => by cases h⟩
theorem tree_holds : Rows.ReportsTreeSaid :=
  OpenClaim.holds_of_wide 4 Tryz.f4 rfl rfl rfl rfl rfl rfl rfl ⟨rfl, rfl, rfl, rfl, rfl⟩ rfl rfl rfl rfl rfl (by kernel_rfl) Tryz.func4 (by kernel_rfl)
    (of_decide_eq_true (by kernel_rfl)) (by unfold Func.isWrapper; first | (rw [if_pos (by decide +kernel)]; kernel_rfl) | (rw [if_neg (by decide +kernel)]; exact ⟨rfl, rfl⟩))
    (fun os started H enc _ => liftedT os started H enc)
/-- the statement -/
theorem tree_proved : Rows.ReportsTreeCardSaid :=
  Claim7.holds_tied_plain_at .later [] [.data, .data, .data, .data, .data, .pinned] true (true, "554e6ba92bb16c79c0260e8b520ec8018dfef6709fbf4407680e65a0eb0d3df4") true
    tree_holds (fun _ h => by cases h) (by kernel_rfl) (fun _ h => by cases h) reportsTree_row_tie rfl ⟨rfl, rfl⟩ (by kernel_rfl) rfl
    (fun f fn hf hfn => by
      obtain rfl : f = 4 := Option.some.inj ((show Tryz.prog.funcNamed "harbinger/harbingerlaw25.ReportsTree" = some 4 by kernel_rfl).symm.trans hf) |>.symm
      obtain rfl : fn = Tryz.f4 := (Option.some.inj (Tryz.func4.symm.trans hfn)).symm
      exact ⟨by kernel_rfl, fun j t ht => by
        rw [Tryz.params4] at ht
        have hm : t ∈ [42, 45, 46] := by simpa using Array.mem_of_getElem? ht
        have hall : ([42, 45, 46].all fun u => !Tryz.prog.wantsStandIn u) = true := by kernel_rfl
        exact (show Tryz.prog.wantsStandIn t = false by simpa using List.all_eq_true.1 hall t hm)⟩)
    (by kernel_rfl)
end Go.Proofs.YtcbilcfieoibbaaGreatDoor
