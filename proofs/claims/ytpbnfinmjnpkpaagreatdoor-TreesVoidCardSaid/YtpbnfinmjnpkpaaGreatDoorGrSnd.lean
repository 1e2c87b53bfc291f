/-
  Is a grammar sound (grams.Sound): the walk.
-/
import Derived.Test.YtpbnfinmjnpkpaaGreatDoorGrRx
namespace Go.Proofs.YtpbnfinmjnpkpaaGreatDoor
open Go.RowKit
set_option maxRecDepth 100000
section
variable {w0 : World} {B : Nat}
theorem any_notall {α : Type} (p : α → Bool) (l : List α) : (!l.any fun x => !p x) = l.all p := by
  induction l with
  | nil => rfl
  | cons x l ih => rw [List.any_cons, List.all_cons, ← ih]; cases p x <;> simp
set_option maxHeartbeats 8000000 in
theorem sound_any (gm : Gr.Gm) (RA : Option Addr) (rc : Nat) (xs : List Value) (w : World) (hr : Reads w0 B 10 RA gm.rules.length xs) (hv : RusR w0 B gm.rules xs) (hok : ∀ r ∈ gm.rules, Gr.okR r) (hnm : gm.name.length ≤ Gr.bytesMax) (hln : gm.rules.length ≤ 4398046511104) (hb : Below B w0 w) (hB : B ≤ w.heap.size) (hT : UT w.heap.size w) :
    Calls Tryz.prog 58 #[.agg #[Gr.strV gm.name, .int .i64 gm.bound, .int .i64 gm.states, .slice RA gm.rules.length rc]] w fun e w' => e = .returned (.bool (Gr.sound Rp.good gm)) ∧ Below w.heap.size w w' := by
  obtain ⟨nm, bd, st, rs⟩ := gm
  dsimp only at *
  have z1 : (w.alloc (.cells #[Gr.strV nm, .int .i64 bd, .int .i64 st, .slice RA rs.length rc] 56)).heap.size = w.heap.size + 1 := by simp
  obtain ⟨w1, hw1⟩ : ∃ w1, Hid ((w.alloc (.cells #[Gr.strV nm, .int .i64 bd, .int .i64 st, .slice RA rs.length rc] 56)).alloc (.cells #[.int .i64 bd, .int .i64 st] 53) = w1) := ⟨_, hid rfl⟩
  have hb1 : Below w.heap.size w w1 := by rw [← hw1.out]; exact (below_new _ _).alloc (by omega) _
  have h0 : w1.heap[w.heap.size]? = some (.cells #[Gr.strV nm, .int .i64 bd, .int .i64 st, .slice RA rs.length rc] 56 (0, 0)) := by rw [← hw1.out, Below.heap_alloc _ _ _ (by omega)]; exact heap_alloc_new _ _
  have h1 : w1.heap[w.heap.size + 1]? = some (.cells #[.int .i64 bd, .int .i64 st] 53 (0, 0)) := by rw [← hw1.out, ← z1]; exact heap_alloc_new _ _
  have HW := hid (word_any nm w1 hnm (hT.next hb1))
  have HC := hid (fun (u : World) (h : Below w.heap.size w u) => hasRu_any rs (fun r => !Gr.ruleOk Rp.good r) 92 #[] (fun _ _ => rfl) RA rc xs u hr hv (hb.trans (h.mono hB)) (Nat.le_trans hB h.size)
    (fun i hi cs u1 hcs hb1 => rule_any rs[i] cs u1 hcs (hok _ (List.getElem_mem hi)) (hb.trans ((h.trans (hb1.mono h.size)).mono hB)) (Nat.le_trans hB (Nat.le_trans h.size hb1.size)) (hT.next (h.trans (hb1.mono h.size)))) hln)
  have HB1 := hid hb1
  have HH := hid (And.intro h0 h1)
  obtain ⟨q0, hq0⟩ : ∃ q, Gr.wordOk nm = q := ⟨_, rfl⟩
  obtain ⟨q1, hq1⟩ : ∃ q, rs.all (Gr.ruleOk Rp.good) = q := ⟨_, rfl⟩
  have hq2 : rs.any (fun r => !Gr.ruleOk Rp.good r) = !q1 := by rw [← hq1, ← any_notall]; simp
  rw [hq0] at HW
  rw [hq2] at HC
  have HF := hid (show Gr.sound Rp.good ⟨nm, bd, st, rs⟩ = (q0 && decide (1 ≤ bd) && decide (bd ≤ 8) && decide (1 ≤ st) && decide (st ≤ 4096) && decide (rs.length ≤ 64) && q1) by unfold Gr.sound; dsimp only; rw [hq0, hq1])
  obtain ⟨n, hn⟩ : ∃ n, rs.length = n := ⟨_, rfl⟩
  rw [hn] at HC HF hw1 HH ⊢
  clear hr hv hok hnm hln hb hB hT hb1 h0 h1 hq0 hq1 hq2 hn z1
  unfold Gr.strV at *
  go_enter Tryz.func58, Tryz.ntmps58
  go_upto_region 2 with fail
  rw [hw1.out]
  clear hw1
  have k0 : w1.cell? ⟨w.heap.size, 0, none⟩ = some (.string ⟨nm.toArray⟩) := by rw [Lib.cell_of_heap HH.out.1]; rfl
  go_wp2_with fail
  refine HW.out.mono ?_
  rintro _ w2 ⟨rfl, hb2⟩
  have h0 := (hb2.block _ (heap_lt HH.out.1)).trans HH.out.1
  have h1 := (hb2.block _ (heap_lt HH.out.2)).trans HH.out.2
  have k3 : w2.cell? ⟨w.heap.size, 3, none⟩ = some (.slice RA n rc) := by rw [Lib.cell_of_heap h0]; rfl
  have o0 : w2.cell? ⟨w.heap.size + 1, 0, none⟩ = some (.int .i64 bd) := by rw [Lib.cell_of_heap h1]; rfl
  have o1 : w2.cell? ⟨w.heap.size + 1, 1, none⟩ = some (.int .i64 st) := by rw [Lib.cell_of_heap h1]; rfl
  have HB2 := hid (HB1.out.trans (hb2.mono HB1.out.size))
  have HC2 := hid (HC.out w2 HB2.out)
  clear k0 h0 h1 hb2 HW HC HH
  cases q0 with
  | false =>
    go_wp2_with fail
    go_ret
    exact ⟨by rw [HF.out]; rfl, HB2.out⟩
  | true =>
    rcases (by omega : bd < 1 ∨ (1 ≤ bd ∧ 8 < bd) ∨ (1 ≤ bd ∧ bd ≤ 8 ∧ st < 1) ∨ (1 ≤ bd ∧ bd ≤ 8 ∧ 1 ≤ st ∧ 4096 < st) ∨ (1 ≤ bd ∧ bd ≤ 8 ∧ 1 ≤ st ∧ st ≤ 4096 ∧ 64 < n) ∨ (1 ≤ bd ∧ bd ≤ 8 ∧ 1 ≤ st ∧ st ≤ 4096 ∧ n ≤ 64)) with h | h | h | h | h | h
    · have HG := hid (show Gr.sound Rp.good ⟨nm, bd, st, rs⟩ = false by rw [HF.out, decide_eq_false (show ¬ 1 ≤ bd by omega)]; rfl)
      clear HF
      go_wp2_with fail
      go_ret
      exact ⟨by rw [HG.out]; rfl, HB2.out⟩
    · obtain ⟨h2, h3⟩ := h
      have HG := hid (show Gr.sound Rp.good ⟨nm, bd, st, rs⟩ = false by rw [HF.out, decide_eq_false (show ¬ bd ≤ 8 by omega)]; simp)
      have g1 : ¬ bd < 1 := by omega
      clear HF
      go_wp2_with fail
      go_ret
      exact ⟨by rw [HG.out]; rfl, HB2.out⟩
    · obtain ⟨h2, h3, h4⟩ := h
      have HG := hid (show Gr.sound Rp.good ⟨nm, bd, st, rs⟩ = false by rw [HF.out, decide_eq_false (show ¬ 1 ≤ st by omega)]; simp)
      have g1 : ¬ bd < 1 := by omega
      have g2 : ¬ 8 < bd := by omega
      clear HF
      go_wp2_with fail
      go_ret
      exact ⟨by rw [HG.out]; rfl, HB2.out⟩
    · obtain ⟨h2, h3, h4, h5⟩ := h
      have HG := hid (show Gr.sound Rp.good ⟨nm, bd, st, rs⟩ = false by rw [HF.out, decide_eq_false (show ¬ st ≤ 4096 by omega)]; simp)
      have g1 : ¬ bd < 1 := by omega
      have g2 : ¬ 8 < bd := by omega
      have g3 : ¬ st < 1 := by omega
      clear HF
      go_wp2_with fail
      go_ret
      exact ⟨by rw [HG.out]; rfl, HB2.out⟩
    · obtain ⟨h2, h3, h4, h5, h6⟩ := h
      have HG := hid (show Gr.sound Rp.good ⟨nm, bd, st, rs⟩ = false by rw [HF.out, decide_eq_false (show ¬ n ≤ 64 by omega)]; simp)
      have g1 : ¬ bd < 1 := by omega
      have g2 : ¬ 8 < bd := by omega
      have g3 : ¬ st < 1 := by omega
      have g4 : ¬ 4096 < st := by omega
      have g5 : (64 : Int) < (n : Int) := by omega
      clear HF
      go_wp2_with fail
      go_ret
      exact ⟨by rw [HG.out]; rfl, HB2.out⟩
    · obtain ⟨h2, h3, h4, h5, h6⟩ := h
      have HG := hid (show Gr.sound Rp.good ⟨nm, bd, st, rs⟩ = q1 by rw [HF.out, decide_eq_true h2, decide_eq_true h3, decide_eq_true h4, decide_eq_true h5, decide_eq_true h6]; simp)
      have g1 : ¬ bd < 1 := by omega
      have g2 : ¬ 8 < bd := by omega
      have g3 : ¬ st < 1 := by omega
      have g4 : ¬ 4096 < st := by omega
      have g5 : ¬ (64 : Int) < (n : Int) := by omega
      clear HF
      go_wp2_with fail
      refine HC2.out.mono ?_
      rintro _ w3 ⟨rfl, hb3⟩
      have HB3 := hid (HB2.out.trans (hb3.mono HB2.out.size))
      clear hb3 k3 o0 o1
      go_wp2_with fail
      go_ret
      exact ⟨by rw [HG.out]; simp [go_sem], HB3.out⟩
end
end Go.Proofs.YtpbnfinmjnpkpaaGreatDoor
