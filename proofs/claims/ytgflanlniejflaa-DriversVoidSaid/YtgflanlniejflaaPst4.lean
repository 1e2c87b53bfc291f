/-
  Drivers: a parse in memory: the memo, the piece of a predicate, Clip: the contracts.
-/
import Derived.Test.YtgflanlniejflaaPst3
namespace Go.Proofs.Ytgflanlniejflaa
open Go.RowKit Go.Maps
set_option maxRecDepth 100000
theorem say_length (K : List Drv.K4) (a b p t : Int) : (Drv.say K a b p t).length = moreN K.length (Drv.know K a b p) := by
  unfold Drv.say moreN
  cases Drv.know K a b p <;> simp
section
variable {w : World} {f : Fx} {v : Vx} {k : Drv.Cf}
/-- the memo's blocks are none of the others -/
theorem PstAt.neM (h : PstAt w f v k) : ∀ j, MemoS f.pc.M f.br f.bp j → j ≠ f.P ∧ v.vo.ownBlock ≠ some j ∧ j ∉ v.gs ∧ ∀ s ∈ v.ss, s.ownBlock ≠ some j := fun j hj => by
  refine ⟨h.neP.1 j hj, fun e => (h.rd j e).2.1 hj, fun e => ?_, fun s hs e => ?_⟩
  · obtain ⟨cs, hg⟩ := h.gblk e
    obtain ⟨ca, ck, hm⟩ := h.memo.blk
    rcases hj with rfl | rfl | rfl
    · exact not_cells hg hm (by decide) rfl
    · exact not_map h.memo.rules hg rfl
    · exact not_map h.memo.picks hg rfl
  · obtain ⟨n, xs, hr⟩ := h.srow hs
    obtain ⟨ca, ck, hm⟩ := h.memo.blk
    rcases hj with rfl | rfl | rfl
    · exact row_not hr hm (by decide) e
    · exact row_not_map hr h.memo.rules e
    · exact row_not_map hr h.memo.picks e
/-- the memo alone is turned -/
theorem PstAt.memoSet {w' : World} (h : PstAt w f v k) (ho : Only (MemoS f.pc.M f.br f.bp) w w') (K : List Drv.K4)
    (hm : MemoAt w' f.pc.M f.br f.bp K.length f.c.starts.length (f.c.decs.length + f.c.preds.length : Nat) f.c.w.length (fRules K) (fPicks f.c.decs.length K)) : PstAt w' f v { k with known := K } := by
  have hne := h.neM
  obtain ⟨r, t, q, b, s, hpar, htr⟩ := h.par
  have ho' := ho.more (S' := TS f v) fun j _ e => .inr (.inl e)
  refine ⟨⟨r, t, q, b, s, hpar.next ho (fun e => (hne _ e).1 rfl), TrB.only ho' (fun _ _ e => e) _ _ htr⟩, hm, h.row.only ho (fun j e e2 => (hne j e2).2.1 e), h.gl, h.sl, ?_, h.gd, h.sd, h.ge, h.rd⟩
  intro i x g s' h1 h2 h3
  exact (h.walks i x g s' h1 h2 h3).only ho (fun j _ e => .inr (.inl e)) (fun _ _ e => e) (fun e => (hne g e).2.2.1 (List.mem_of_getElem? h2)) (fun j e e2 => (hne j e2).2.2.2 s' (List.mem_of_getElem? h3) e)
theorem PstAt.geM (h : PstAt w f v k) : ∀ j, MemoS f.pc.M f.br f.bp j → f.B0 ≤ j := fun _ hj => h.ge _ (.inr (.inl hj))
end
/-- what the memo's methods leave of a walk that was popped -/
theorem WalkAt.memo {w w' : World} {f : Fx} {v : Vx} {g : Nat} {s : Value} {x : Drv.Wk} (h : WalkAt w (TS f v) f.B0 g s x) (ho : Only (MemoS f.pc.M f.br f.bp) w w') (hg : ¬ TS f v g) (hs : ∀ j, s.ownBlock = some j → ¬ TS f v j) : WalkAt w' (TS f v) f.B0 g s x :=
  h.only ho (fun _ _ e => .inr (.inl e)) (fun _ _ e => e) (fun e => hg (.inr (.inl e))) (fun j hj e => hs j hj (.inr (.inl e)))
/-- an int that is a place or a number of a rule, a decision -/
theorem i64_small {a : Int} (h0 : -1 ≤ a) (h1 : a ≤ 4000000000) : I64 a := by unfold I64; exact WalkArith.wf_i64 (by omega)
def SayP (f : Fx) (v : Vx) (k : Drv.Cf) (K : List Drv.K4) (w : World) (e : Ending) (w' : World) : Prop :=
  e = .returned (.int .i64 0) ∧ Below f.B0 w w' ∧ Only (MemoS f.pc.M f.br f.bp) w w' ∧ PstAt w' f v { k with known := K }
theorem sayRuleP (w : World) (f : Fx) (v : Vx) (k : Drv.Cf) (a c t : Int) (h : PstAt w f v k) (hK : k.known.length < 4000000000) (ha : Drv.InR f.c.starts.length a) (hs : f.c.starts.length ≤ 64) (hc0 : 0 ≤ c) (hc1 : c ≤ f.c.w.length) (hw : f.c.w.length ≤ 16384) (ht : t = -1 ∨ c ≤ t) (ht2 : t ≤ f.c.w.length) :
    Calls Try.prog 83 #[.pointer (some ⟨f.pc.M, 0, none⟩), .int .i64 a, .int .i64 c, .int .i64 t] w (SayP f v k (Drv.say k.known 2 a c t) w) := by
  have hh : hasB f.c.starts.length f.c.w.length a c = true := by unfold hasB; simp only [Bool.and_eq_true, decide_eq_true_eq]; exact ⟨⟨⟨ha.1, ha.2⟩, hc0⟩, hc1⟩
  refine (SayRule_any f.pc.M f.br f.bp k.known.length _ _ _ a c t _ _ w (i64_small (by have := ha.1; omega) (by have := ha.2; omega)) (i64_small (by omega) (by omega)) (i64_small (by omega) (by omega)) hK h.memo hh ht ht2).mono ?_
  rintro e w' ⟨rfl, ho, hm⟩
  refine ⟨rfl, h.below ho h.geM, ho, h.memoSet ho _ ?_⟩
  rw [fRules_say2, fPicks_say2, say_length]
  exact hm
theorem sayPick0P (w : World) (f : Fx) (v : Vx) (k : Drv.Cf) (a c t : Int) (h : PstAt w f v k) (hK : k.known.length < 4000000000) (ha : Drv.InR f.c.decs.length a) (hs : f.c.decs.length + f.c.preds.length ≤ 65536) (hc0 : 0 ≤ c) (hc1 : c ≤ f.c.w.length) (hw : f.c.w.length ≤ 16384) (ht : -1 ≤ t) (ht2 : t < 32) :
    Calls Try.prog 84 #[.pointer (some ⟨f.pc.M, 0, none⟩), .int .i64 a, .int .i64 c, .int .i64 t] w (SayP f v k (Drv.say k.known 0 a c t) w) := by
  have ha2 := ha.2
  have hh : hasB (f.c.decs.length + f.c.preds.length : Nat) f.c.w.length a c = true := by unfold hasB; simp only [Bool.and_eq_true, decide_eq_true_eq]; exact ⟨⟨⟨ha.1, by omega⟩, hc0⟩, hc1⟩
  refine (SayPick_any f.pc.M f.br f.bp k.known.length _ _ _ a c t _ _ w (i64_small (by have := ha.1; omega) (by omega)) (i64_small (by omega) (by omega)) (i64_small ht (by omega)) hK h.memo hh ht ht2).mono ?_
  rintro e w' ⟨rfl, ho, hm⟩
  refine ⟨rfl, h.below ho h.geM, ho, h.memoSet ho _ ?_⟩
  have e1 : fPicks f.c.decs.length k.known a c = Drv.know k.known 0 a c := by unfold fPicks; rw [if_pos ha2]
  rw [fRules_say _ _ _ _ _ (by decide), fPicks_say0 _ _ _ _ _ ha2, say_length, ← e1]
  exact hm
theorem sayPick1P (w : World) (f : Fx) (v : Vx) (k : Drv.Cf) (q c t : Int) (h : PstAt w f v k) (hK : k.known.length < 4000000000) (ha : Drv.InR f.c.preds.length q) (hs : f.c.decs.length + f.c.preds.length ≤ 65536) (hc0 : 0 ≤ c) (hc1 : c ≤ f.c.w.length) (hw : f.c.w.length ≤ 16384) (ht : -1 ≤ t) (ht2 : t < 32) :
    Calls Try.prog 84 #[.pointer (some ⟨f.pc.M, 0, none⟩), .int .i64 (f.c.decs.length + q), .int .i64 c, .int .i64 t] w (SayP f v k (Drv.say k.known 1 q c t) w) := by
  have ha1 := ha.1
  have ha2 := ha.2
  have hh : hasB (f.c.decs.length + f.c.preds.length : Nat) f.c.w.length (f.c.decs.length + q) c = true := by unfold hasB; simp only [Bool.and_eq_true, decide_eq_true_eq]; exact ⟨⟨⟨by omega, by omega⟩, hc0⟩, hc1⟩
  refine (SayPick_any f.pc.M f.br f.bp k.known.length _ _ _ (f.c.decs.length + q) c t _ _ w (i64_small (by omega) (by omega)) (i64_small (by omega) (by omega)) (i64_small ht (by omega)) hK h.memo hh ht ht2).mono ?_
  rintro e w' ⟨rfl, ho, hm⟩
  refine ⟨rfl, h.below ho h.geM, ho, h.memoSet ho _ ?_⟩
  have e1 : fPicks f.c.decs.length k.known (f.c.decs.length + q) c = Drv.know k.known 1 q c := by
    unfold fPicks
    rw [if_neg (by omega)]
    congr 1
    omega
  rw [fRules_say _ _ _ _ _ (by decide), fPicks_say1 _ _ _ _ _ ha1, say_length, ← e1]
  exact hm
set_option maxHeartbeats 400000 in
theorem clipT_any (A : Option Addr) (n c : Nat) (w : World) (hn : n ≤ c) (hc : n < 4000000000) (hA : A = none → n = 0 ∧ c = 0) :
    Calls Try.prog 82 #[.slice A n c] w fun e w' => e = .returned (.slice A n n) ∧ w' = w := by
  cases A with
  | none =>
    obtain ⟨rfl, rfl⟩ := hA rfl
    go_enter Try.func82, Try.ntmps82
    go_wp2
    go_ret
    exact ⟨rfl, rfl⟩
  | some a =>
    have e1 : (0 : Int) ≤ (n : Int) := by omega
    have e2 : (n : Int).toNat = n := by omega
    have e3 : (n : Int) ≤ (c : Int) := by omega
    have e4 : ¬ c < n := by omega
    go_enter Try.func82, Try.ntmps82
    go_wp2
    go_ret
    exact ⟨rfl, rfl⟩
set_option maxHeartbeats 400000 in
theorem piece_any (w : World) (f : Fx) (v : Vx) (k : Drv.Cf) (q : Int) (CA : Option Addr) (cc : Nat) (h : PstAt w f v k) (hd : w.cell? ⟨f.pc.D, 4, none⟩ = some (.slice CA f.c.decs.length cc)) (hl : f.c.decs.length ≤ 65536) (h0 : 0 ≤ q) (h1 : q ≤ 65536) :
    Calls Try.prog 85 #[.pointer (some ⟨f.P, 0, none⟩), .int .i64 q] w fun e w' => e = .returned (.int .i64 (f.c.decs.length + q)) ∧ w' = w := by
  obtain ⟨r, t, q', b, s, hpar, _⟩ := h.par
  have c0 := (hpar.cell 0).1
  simp only [parCells, List.getElem?_toArray, List.getElem?_cons_zero] at c0
  have e1 : IntKind.i64.wrap ((f.c.decs.length : Int) + q) = f.c.decs.length + q := w64 (by omega) (by omega)
  clear h hpar
  go_enter Try.func85, Try.ntmps85
  go_wp2
  go_ret
  exact ⟨rfl, rfl⟩
end Go.Proofs.Ytgflanlniejflaa
