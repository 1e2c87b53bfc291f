/-
  harbingerlaw25.ReportsApart returns true for all names, texts and pairs of trees, and leaves them as they were. No condition; the tables that its code may read are tied to the program's text (a tied card).
-/
import Derived.Test.YtcbilcfieoibbaaGreatDoorRep16
import Derived.Test.YtcbilcfieoibbaaGreatDoorRep20
import Derived.Test.YtcbilcfieoibbaaGreatDoorRep26
import Derived.Test.YtcbilcfieoibbaaGreatDoorCards
import Derived.Test.YtcbilcfieoibbaaGreatDoorTie
import Derived.ProofKit
import Derived.Carry
import Derived.LaidMore
import Derived.Lay
import Derived.OpenShut
import Derived.Lib.SmallJoins
import Derived.Stop.Joined
import Derived.SevenTiedAt
namespace Go.Proofs.YtcbilcfieoibbaaGreatDoor
open Go.ChangeShapes Go.WideShapes Go.ChangeAt Go.RowKit
set_option maxRecDepth 100000
theorem ownA : ownKnob Tryz.prog.godebug = none := by kernel_rfl
theorem laidOutA : laidOutB Tryz.prog = true := by kernel_rfl
theorem laid_same : Rows.reportsTextRow.laid = Rows.reportsApartRow.laid := by kernel_rfl
/-- two trees -/
theorem open_T2 {H : Type} {enc : TypeId × Value → H} {W : World} {spare : Nat → Bool} {held : Bool} {fuel : Nat} {cs : List Value} {x : DataW H × List MemPlace} (hcl : cs.length = 10)
    (h : DataW.trod enc Tryz.prog W 0 spare held fuel 73 cs = some x) (hfit : Fits x.1 73) :
    ∃ (T T' : Rp.Tr) (vs vs' : List Value), cs = vs ++ vs' ∧ Rp.okT T ∧ Rp.okT T' ∧ TrR W W.heap.size T vs ∧ TrR W W.heap.size T' vs' := by
  obtain ⟨xs, k, _, hx, _, hxl, hf⟩ := DataW.trod_array Tryz.underlying73 h
  match cs, hcl with
  | [c0, c1, c2, c3, c4, c5, c6, c7, c8, c9], _ =>
    have h0 := hf 0 (by decide)
    have h1 := hf 1 (by decide)
    rw [show Tryz.prog.cellsOf 45 = 5 by kernel_rfl] at h0 h1
    change DataW.trod enc Tryz.prog W 0 spare held k 45 [c0, c1, c2, c3, c4] = xs[0]? at h0
    change DataW.trod enc Tryz.prog W 0 spare held k 45 [c5, c6, c7, c8, c9] = xs[1]? at h1
    match xs, hxl with
    | [y0, y1], _ =>
      have hff : Fits (.agg ([y0, y1].map (·.1))) 73 := by rw [hx] at hfit; exact hfit
      have hfa := Fits.array Tryz.underlying73 hff
      obtain ⟨T, o0, t0⟩ := open_Tr k _ y0 rfl h0 (hfa y0.1 (by simp))
      obtain ⟨T', o1, t1⟩ := open_Tr k _ y1 rfl h1 (hfa y1.1 (by simp))
      exact ⟨T, T', _, _, rfl, o0, o1, t0, t1⟩
theorem liftedA (os : Os) (started : os.Started) (H : Type) (enc : TypeId × Value → H) :
    ReturnsInHanded {} Tryz.checked os 5 .any (fun w args => (Rows.reportsApartSpec.pre enc Tryz.prog Tryz.f5 [] false w args ∧ laidMetH Tryz.prog Rows.reportsApartRow.laid w) ∧ sizedMet enc Tryz.prog Tryz.f5 (OpenSpec.ofChange Rows.reportsApartSpec) false w args)
      (Rows.reportsApartSpec.post enc Tryz.prog Tryz.f5 false true false false) := by
  refine returnsInHanded_of_change_and (C := Tryz.checked) (X := fun w _ => laidMetH Tryz.prog Rows.reportsApartRow.laid w) (fun _ _ _ hh h => h.of_heap hh) ownA started (by kernel_rfl) Tryz.func5
    (ChangeSpec.witness_shaped (enc := enc) (C := Tryz.checked) (os := os) (X := fun w _ => laidMetH Tryz.prog Rows.reportsApartRow.laid w) false (World.laidAll Tryz.prog os Rows.reportsApartRow.laid) #[.agg #[.slice none 0 0, .slice none 0 0], .slice none 0 0, .agg #[.int .i64 0, .int .i64 0, .int .i64 0, .bool false, .slice none 0 0, .int .i64 0, .int .i64 0, .int .i64 0, .bool false, .slice none 0 0]] 8 (World.laidAll_os _ _ _) (World.shaped_of_ZipB (by kernel_rfl) (by kernel_rfl)) (by kernel_rfl) (by kernel_rfl) (by kernel_rfl)
      (by rw [MakeChecks.laidMetH_plain _ _ _ (by kernel_rfl)]; exact laidMet_laidAll _ (by kernel_rfl) (by kernel_rfl))) ?_
  intro W base args ds gs before hval0 hW hcnd hsz hL _
  have hval : ∀ (j : Nat) t v, Tryz.f5.params[j]? = some t → args[j]? = some v → Value.okWide Tryz.prog W .any base t v := hval0
  have hsz0 : (DataW.weightsEach Tryz.prog (Tryz.f5.params.toList ++ Rows.reportsApartSpec.plain.varTypes Tryz.prog) (ds ++ gs)).all (· ≤ reachBytes) = true := hsz
  have hW' := hW
  obtain ⟨p, q, hA0, hV, rfl, hfz, hnd⟩ := hW
  have hA : DataW.TrodAll enc Tryz.prog W 0 (fun _ => true) true Tryz.f5.params.toList args.toList ds p := hA0
  rw [Tryz.params5] at hA hval hsz0
  obtain ⟨v0, v1, v2, d0, d1, d2, p0, p1, p2, rfl, rfl, rfl, h0, h1, h2⟩ := trodAll_three hA
  obtain ⟨rfl, rfl⟩ := trodVars_none hV
  have k0 := h0
  have k1 := h1
  have k2 := h2
  have lt0 : ∀ x ∈ p0, x.block < W.heap.size := by obtain ⟨m, hm⟩ := k0; exact DataW.trod_lt m _ _ _ hm
  have lt1 : ∀ x ∈ p1, x.block < W.heap.size := by obtain ⟨m, hm⟩ := k1; exact DataW.trod_lt m _ _ _ hm
  have lt2 : ∀ x ∈ p2, x.block < W.heap.size := by obtain ⟨m, hm⟩ := k2; exact DataW.trod_lt m _ _ _ hm
  have fit0 : Fits d0 42 := fits_of_each hsz0 (j := 0) rfl rfl
  have fit1 : Fits d1 41 := fits_of_each hsz0 (j := 1) rfl rfl
  have fit2 : Fits d2 73 := fits_of_each hsz0 (j := 2) rfl rfl
  obtain ⟨c0, rfl, hc0⟩ := okWide_arr Tryz.underlying42 (hval 0 42 v0 rfl rfl)
  obtain ⟨a1, len1, cap1, rfl⟩ := okWide_slice Tryz.underlying41 (hval 1 41 v1 rfl rfl)
  obtain ⟨c2, rfl, hc2⟩ := okWide_arr Tryz.underlying73 (hval 2 73 v2 rfl rfl)
  obtain ⟨n0, g0⟩ := h0
  obtain ⟨n1, g1⟩ := h1
  obtain ⟨n2, g2⟩ := h2
  obtain ⟨n, m, RA, TA, rc, tc, e0, sr, st, ln, lm, bn, bm⟩ := open_N2 (x := (d0, p0)) (by rw [Array.length_toList]; exact hc0.trans (by kernel_rfl)) g0 fit0
  obtain ⟨x, XA, xc, e1, sx, lx, bx⟩ := open_SS (x := (d1, p1)) g1 fit1
  obtain ⟨T, T', vs, vs', e2, hok, hok', hT, hT'⟩ := open_T2 (x := (d2, p2)) (by rw [Array.length_toList]; exact hc2.trans (by kernel_rfl)) g2 fit2
  obtain rfl : c0 = #[.slice RA n.length rc, .slice TA m.length tc] := by cases c0; exact congrArg Array.mk e0
  injection e1 with e1 _
  injection e1 with q0 q1 q2
  subst q0 q1 q2
  obtain ⟨r, t, k, e, subs⟩ := T
  obtain ⟨r', t', k', e', subs'⟩ := T'
  obtain ⟨A, ca, rfl⟩ : ∃ A ca, vs = [.int .i64 r, .int .i64 t, .int .i64 k, .bool e, .slice A subs.length ca] := by
    unfold TrR at hT
    obtain ⟨A, ca, xs, e1, _⟩ := hT
    exact ⟨A, ca, e1⟩
  obtain ⟨A', ca', rfl⟩ : ∃ A ca, vs' = [.int .i64 r', .int .i64 t', .int .i64 k', .bool e', .slice A subs'.length ca] := by
    unfold TrR at hT'
    obtain ⟨A, ca, xs, e1, _⟩ := hT'
    exact ⟨A, ca, e1⟩
  obtain rfl : c2 = #[.int .i64 r, .int .i64 t, .int .i64 k, .bool e, .slice A subs.length ca, .int .i64 r', .int .i64 t', .int .i64 k', .bool e', .slice A' subs'.length ca'] := by cases c2; exact congrArg Array.mk e2
  clear hA0 hval0
  refine (apartW_any RA TA a1 rc tc cap1 n m x r t k e subs A ca r' t' k' e' subs' A' ca' W ⟨tb_of (by rw [laid_same]; exact hL), sr, st, sx, hT, hT'⟩ ln lm lx bn bm bx hok hok').mono fun e'' W' ⟨he, bel⟩ => ?_
  subst he
  exact ⟨_, rfl, _, _, _, [], _, [], hW', trodAll_mk1 (shut_bool Tryz.underlying4 _), (trodAll_cons_mk (Below.trod laidOutA (by kernel_rfl) (of_decide_eq_true (by kernel_rfl)) k0 bel lt0) (trodAll_cons_mk (Below.trod laidOutA (by kernel_rfl) (of_decide_eq_true (by kernel_rfl)) k1 bel lt1) (trodAll_cons_mk (Below.trod laidOutA (by kernel_rfl) (of_decide_eq_true (by kernel_rfl)) k2 bel lt2) trodAll_mk0))), rfl, bel.frame _, fun h => by cases h⟩
theorem apart_holds : Rows.ReportsApartSaid :=
  OpenClaim.holds_of_wide 5 Tryz.f5 rfl rfl rfl rfl rfl rfl rfl ⟨rfl, rfl, rfl, rfl, rfl⟩ rfl rfl rfl rfl rfl (by kernel_rfl) Tryz.func5 (by kernel_rfl)
    (of_decide_eq_true (by kernel_rfl)) (by unfold Func.isWrapper; first | (rw [if_pos (by decide +kernel)]; kernel_rfl) | (rw [if_neg (by decide +kernel)]; exact ⟨rfl, rfl⟩))
    (fun os started H enc _ => liftedA os started H enc)
/-- the statement -/
theorem apart_proved : Rows.ReportsApartCardSaid :=
  Claim7.holds_tied_plain_at .later [] [.data, .data, .data, .data, .data, .pinned] true (true, "554e6ba92bb16c79c0260e8b520ec8018dfef6709fbf4407680e65a0eb0d3df4") true
    apart_holds (fun _ h => by cases h) (by kernel_rfl) (fun _ h => by cases h) reportsApart_row_tie rfl ⟨rfl, rfl⟩ (by kernel_rfl) rfl
    (fun f fn hf hfn => by
      obtain rfl : f = 5 := Option.some.inj ((show Tryz.prog.funcNamed "harbinger/harbingerlaw25.ReportsApart" = some 5 by kernel_rfl).symm.trans hf) |>.symm
      obtain rfl : fn = Tryz.f5 := (Option.some.inj (Tryz.func5.symm.trans hfn)).symm
      exact ⟨by kernel_rfl, fun j t ht => by
        rw [Tryz.params5] at ht
        have hm : t ∈ [42, 41, 73] := by simpa using Array.mem_of_getElem? ht
        have hall : ([42, 41, 73].all fun u => !Tryz.prog.wantsStandIn u) = true := by kernel_rfl
        exact (show Tryz.prog.wantsStandIn t = false by simpa using List.all_eq_true.1 hall t hm)⟩)
    (by kernel_rfl)
end Go.Proofs.YtcbilcfieoibbaaGreatDoor
