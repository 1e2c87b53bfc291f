/-
  Drivers: what is known is asked for; calls.
-/
import Derived.Test.YtgflanlniejflaaPst10
namespace Go.Proofs.Ytgflanlniejflaa
open Go.RowKit Go.Maps
open Go.Sort (grow)
set_option maxRecDepth 100000
/-- what a question leaves -/
def AskP (f : Fx) (v : Vx) (k : Drv.Cf) (r : Option Int) (w : World) (e : Ending) (w' : World) : Prop :=
  ∃ t, (∀ u, r = some u → t = u) ∧ e = .returned (.tuple #[.int .i64 t, .bool r.isSome]) ∧ Below f.B0 w w' ∧ Only (fun j => j = f.pc.M) w w' ∧ PstAt w' f v k
section
variable {w w' : World} {f : Fx} {v : Vx} {k : Drv.Cf}
theorem PstAt.asked (h : PstAt w f v k) (ho : Only (fun j => j = f.pc.M) w w')
    (hm : MemoAt w' f.pc.M f.br f.bp k.known.length f.c.starts.length (f.c.decs.length + f.c.preds.length : Nat) f.c.w.length (fRules k.known) (fPicks f.c.decs.length k.known)) : PstAt w' f v k :=
  h.memoSet (ho.more fun _ _ e => .inl e) k.known hm
end
theorem ruleP (w : World) (f : Fx) (v : Vx) (k : Drv.Cf) (a c : Int) (h : PstAt w f v k) (ha : Drv.InR f.c.starts.length a) (hs : f.c.starts.length ≤ 64) (hc0 : 0 ≤ c) (hc1 : c ≤ f.c.w.length) (hw : f.c.w.length ≤ 16384) :
    Calls Try.prog 101 #[.pointer (some ⟨f.pc.M, 0, none⟩), .int .i64 a, .int .i64 c] w (AskP f v k (Drv.know k.known 2 a c) w) := by
  have hh : hasB f.c.starts.length f.c.w.length a c = true := by unfold hasB; simp only [Bool.and_eq_true, decide_eq_true_eq]; exact ⟨⟨⟨ha.1, ha.2⟩, hc0⟩, hc1⟩
  refine (Rule_any f.pc.M f.br f.bp k.known.length _ _ _ a c _ _ w (i64_small (by have := ha.1; omega) (by have := ha.2; omega)) (i64_small (by omega) (by omega)) h.memo hh).mono ?_
  rintro e w' ⟨⟨t, ht, rfl⟩, ho, hm⟩
  exact ⟨t, ht, rfl, h.below ho fun j e => h.geM j (.inl e), ho, h.asked ho hm⟩
theorem pick0P (w : World) (f : Fx) (v : Vx) (k : Drv.Cf) (a c : Int) (h : PstAt w f v k) (ha : Drv.InR f.c.decs.length a) (hs : f.c.decs.length + f.c.preds.length ≤ 65536) (hc0 : 0 ≤ c) (hc1 : c ≤ f.c.w.length) (hw : f.c.w.length ≤ 16384) :
    Calls Try.prog 86 #[.pointer (some ⟨f.pc.M, 0, none⟩), .int .i64 a, .int .i64 c] w (AskP f v k (Drv.know k.known 0 a c) w) := by
  have ha2 := ha.2
  have hh : hasB (f.c.decs.length + f.c.preds.length : Nat) f.c.w.length a c = true := by unfold hasB; simp only [Bool.and_eq_true, decide_eq_true_eq]; exact ⟨⟨⟨ha.1, by omega⟩, hc0⟩, hc1⟩
  have e1 : fPicks f.c.decs.length k.known a c = Drv.know k.known 0 a c := by unfold fPicks; rw [if_pos ha2]
  refine (Pick_any f.pc.M f.br f.bp k.known.length _ _ _ a c _ _ w (i64_small (by have := ha.1; omega) (by omega)) (i64_small (by omega) (by omega)) h.memo hh).mono ?_
  rintro e w' ⟨⟨t, ht, rfl⟩, ho, hm⟩
  rw [e1] at ht ⊢
  exact ⟨t, ht, rfl, h.below ho fun j e => h.geM j (.inl e), ho, h.asked ho hm⟩
theorem pick1P (w : World) (f : Fx) (v : Vx) (k : Drv.Cf) (q c : Int) (h : PstAt w f v k) (ha : Drv.InR f.c.preds.length q) (hs : f.c.decs.length + f.c.preds.length ≤ 65536) (hc0 : 0 ≤ c) (hc1 : c ≤ f.c.w.length) (hw : f.c.w.length ≤ 16384) :
    Calls Try.prog 86 #[.pointer (some ⟨f.pc.M, 0, none⟩), .int .i64 (f.c.decs.length + q), .int .i64 c] w (AskP f v k (Drv.know k.known 1 q c) w) := by
  have ha1 := ha.1
  have ha2 := ha.2
  have hh : hasB (f.c.decs.length + f.c.preds.length : Nat) f.c.w.length (f.c.decs.length + q) c = true := by unfold hasB; simp only [Bool.and_eq_true, decide_eq_true_eq]; exact ⟨⟨⟨by omega, by omega⟩, hc0⟩, hc1⟩
  have e1 : fPicks f.c.decs.length k.known (f.c.decs.length + q) c = Drv.know k.known 1 q c := by
    unfold fPicks
    rw [if_neg (by omega)]
    congr 1
    omega
  refine (Pick_any f.pc.M f.br f.bp k.known.length _ _ _ (f.c.decs.length + q) c _ _ w (i64_small (by omega) (by omega)) (i64_small (by omega) (by omega)) h.memo hh).mono ?_
  rintro e w' ⟨⟨t, ht, rfl⟩, ho, hm⟩
  rw [e1] at ht ⊢
  exact ⟨t, ht, rfl, h.below ho fun j e => h.geM j (.inl e), ho, h.asked ho hm⟩
theorem looking_nonreal (k : Drv.Cf) : Drv.looking k = decide (0 < Drv.nonreal k.opn) := by
  unfold Drv.looking Drv.nonreal
  induction k.opn with
  | nil => rfl
  | cons x l ih =>
    rw [List.any_cons, ih]
    by_cases h : x.sort = 0
    · rw [List.filter_cons_of_neg (by simp [h])]; simp [h]
    · rw [List.filter_cons_of_pos (by simp [h])]; simp [h]
end Go.Proofs.Ytgflanlniejflaa
