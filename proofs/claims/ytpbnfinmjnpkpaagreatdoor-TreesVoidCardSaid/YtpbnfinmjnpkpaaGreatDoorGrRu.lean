/-
  Is a rule unsound (grams.Sound$1): the walk.
-/
import Derived.Test.YtpbnfinmjnpkpaaGreatDoorGrSd
namespace Go.Proofs.YtpbnfinmjnpkpaaGreatDoor
open Go.RowKit
set_option maxRecDepth 100000
/-- a rule in memory -/
def RuR (w : World) (B : Nat) (r : Gr.Ru) (vs : List Value) : Prop := ∃ (cs : List Value) (z0 z1 z2 : Int), vs = Gr.strV r.name :: .int .u8 (r.sort : Int) :: (cs ++ [.int .i64 z0, .int .i64 z1, .int .i64 z2]) ∧ NdR w B r.body cs
def Gr.okR (r : Gr.Ru) : Prop := r.name.length ≤ Gr.bytesMax ∧ r.sort < 256 ∧ Gr.okN r.body
section
variable {w0 : World} {B : Nat}
set_option maxHeartbeats 8000000 in
theorem rule_any (r : Gr.Ru) (vs : List Value) (w : World) (hr : RuR w0 B r vs) (hok : Gr.okR r) (hb : Below B w0 w) (hB : B ≤ w.heap.size) (hT : UT w.heap.size w) : Calls Tryz.prog 92 #[.agg vs.toArray] w fun e w' => e = .returned (.bool (!Gr.ruleOk Rp.good r)) ∧ Below w.heap.size w w' := by
  obtain ⟨nm, k, nd⟩ := r
  obtain ⟨cs, z0, z1, z2, rfl, hn⟩ := hr
  obtain ⟨hnm, hk, hokn⟩ := hok
  dsimp only at *
  obtain ⟨xk, xm, xt, xSA, xa, xsc, xUA, xb, xuc, rfl⟩ := hn.form
  have hb1 := below_new w (.cells #[Gr.strV nm, .int .u8 (k : Int), .int .u8 xk, .string xm, .string xt, .slice xSA xa xsc, .slice xUA xb xuc, .int .i64 z0, .int .i64 z1, .int .i64 z2] 80)
  have h1 := heap_alloc_new w (.cells #[Gr.strV nm, .int .u8 (k : Int), .int .u8 xk, .string xm, .string xt, .slice xSA xa xsc, .slice xUA xb xuc, .int .i64 z0, .int .i64 z1, .int .i64 z2] 80)
  obtain ⟨w1, hw1⟩ : ∃ w1, Hid (w.alloc (.cells #[Gr.strV nm, .int .u8 (k : Int), .int .u8 xk, .string xm, .string xt, .slice xSA xa xsc, .slice xUA xb xuc, .int .i64 z0, .int .i64 z1, .int .i64 z2] 80) = w1) := ⟨_, hid rfl⟩
  rw [hw1.out] at hb1 h1
  simp only [List.cons_append, List.nil_append]
  have HN := hid (named_any nm k w1 hk hnm (hT.next hb1))
  have HP := hid (fun u (h : Below w.heap.size w u) (token : Bool) => Plain_any nd token _ u hn hokn (hb.trans (h.mono hB)) (Nat.le_trans hB h.size) (hT.next h))
  have HB1 := hid hb1
  have HH1 := hid h1
  have hl1 := heap_lt h1
  obtain ⟨q1, e1⟩ : ∃ q, Gr.namedOk nm k = q := ⟨_, rfl⟩
  obtain ⟨q2, e2⟩ : ∃ q, Gr.plainAll Rp.good nd (decide (k ≠ 0)) = q := ⟨_, rfl⟩
  rw [e1] at HN
  have HQ := hid e2
  have HF := hid (show Gr.ruleOk Rp.good ⟨nm, k, nd⟩ = (decide (k ≤ 3) && q1 && q2) by unfold Gr.ruleOk; dsimp only; rw [e1, e2])
  have c0 : w1.cell? ⟨w.heap.size, 0, none⟩ = some (Gr.strV nm) := by rw [Lib.cell_of_heap h1]; rfl
  have c1 : w1.cell? ⟨w.heap.size, 1, none⟩ = some (.int .u8 (k : Int)) := by rw [Lib.cell_of_heap h1]; rfl
  unfold Gr.strV at *
  clear e1 e2 hb hT hnm hokn hn hb1 h1 hk
  by_cases h : k ≤ 3
  · have f1 : ¬ (3 : Int) < (k : Int) := by omega
    have FH := hid h
    clear h
    go_enter Tryz.func92, Tryz.ntmps92
    go_upto_region 1 with fail
    rw [hw1.out]
    clear hw1
    go_wp2_with fail
    refine HN.out.mono ?_
    rintro _ w2 ⟨rfl, hb2⟩
    have hh2 := (hb2.block _ hl1).trans HH1.out
    have HB2 := hid (HB1.out.trans (hb2.mono HB1.out.size))
    have c1 : w2.cell? ⟨w.heap.size, 1, none⟩ = some (.int .u8 (k : Int)) := by rw [Lib.cell_of_heap hh2]; rfl
    have c2 : w2.cell? ⟨w.heap.size, 2, none⟩ = some (.int .u8 xk) := by rw [Lib.cell_of_heap hh2]; rfl
    have c3 : w2.cell? ⟨w.heap.size, 3, none⟩ = some (.string xm) := by rw [Lib.cell_of_heap hh2]; rfl
    have c4 : w2.cell? ⟨w.heap.size, 4, none⟩ = some (.string xt) := by rw [Lib.cell_of_heap hh2]; rfl
    have c5 : w2.cell? ⟨w.heap.size, 5, none⟩ = some (.slice xSA xa xsc) := by rw [Lib.cell_of_heap hh2]; rfl
    have c6 : w2.cell? ⟨w.heap.size, 6, none⟩ = some (.slice xUA xb xuc) := by rw [Lib.cell_of_heap hh2]; rfl
    clear hb2 hh2
    cases q1
    · go_wp2_with fail
      go_ret
      exact ⟨by rw [HF.out, decide_eq_true FH.out]; rfl, HB2.out⟩
    · obtain ⟨tk, htk⟩ : ∃ tk, decide (k ≠ 0) = tk := ⟨_, rfl⟩
      rw [htk] at HQ
      have f2 : ((k : Int) != 0) = tk := by rw [← htk]; by_cases h0 : k = 0 <;> simp [h0]
      clear htk
      go_wp2_with fail
      refine (HP.out w2 HB2.out tk).mono ?_
      rintro _ w3 ⟨rfl, hb3⟩
      rw [HQ.out]
      have HB3 := hid (HB2.out.trans (hb3.mono HB2.out.size))
      clear hb3 f2 c1 c2 c3 c4 c5 c6
      cases q2
      all_goals
        go_wp2_with fail
        go_ret
        exact ⟨by rw [HF.out, decide_eq_true FH.out]; rfl, HB3.out⟩
  · have f1 : (3 : Int) < (k : Int) := by omega
    have FH := hid h
    clear h
    go_enter Tryz.func92, Tryz.ntmps92
    go_upto_region 1 with fail
    rw [hw1.out]
    clear hw1
    go_wp2_with fail
    go_ret
    exact ⟨by rw [HF.out, decide_eq_false FH.out]; rfl, HB1.out⟩
end
end Go.Proofs.YtpbnfinmjnpkpaaGreatDoor
