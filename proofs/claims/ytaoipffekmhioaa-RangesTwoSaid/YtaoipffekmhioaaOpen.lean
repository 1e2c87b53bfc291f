/-
  A slice of ranges that came in: what the walk is told of it.
-/
import Derived.Test.YtaoipffekmhioaaHold
import Derived.Deep.Slices
import Derived.Deep.Fields
import Derived.ChangeSame
import Derived.ChangeOld
namespace Go.Proofs.Ytaoipffekmhioaa
open Go.ChangeShapes Go.WideShapes Go.Deep Go.RowKit
set_option maxRecDepth 100000
theorem list_choice {α : Type} (n : Nat) (Q : Nat → α → Prop) (h : ∀ i, i < n → ∃ x, Q i x) : ∃ l : List α, l.length = n ∧ ∀ i (hi : i < l.length), Q i l[i] := by
  induction n with
  | zero => exact ⟨[], rfl, fun i hi => absurd hi (by simp)⟩
  | succ n ih =>
    obtain ⟨l, hl, hq⟩ := ih (fun i hi => h i (by omega))
    obtain ⟨x, hx⟩ := h n (by omega)
    refine ⟨l ++ [x], by simp [hl], fun i hi => ?_⟩
    by_cases e : i < l.length
    · rw [List.getElem_append_left e]; exact hq i e
    · have : i = n := by simp at hi; omega
      subst this
      rw [List.getElem_append_right (by omega)]
      simpa [hl] using hx
theorem openR {H : Type} {enc : TypeId × Value → H} {W : World} {spare : Nat → Bool} {held : Bool} {fuel : Nat} {A : Option Addr} {len cap : Nat} {x : DataW H × List MemPlace}
    (h : DataW.trod enc Try.prog W 0 spare held fuel 22 [.slice A len cap] = some x) : ∃ l : List Rg, l.length = len ∧ WfL l ∧ Reads W W.heap.size 2 A len (flat encR l) ∧ len ≤ maxLen := by
  rcases open_slice Try.underlying22 h with ⟨hcs, _⟩ | ⟨a, l, c, m, n, D, Pl, hcs, hb, hl, hm, hmm, hx, hi⟩
  · injection hcs with h1 _
    injection h1 with h1 h2 h3
    subst h1 h2 h3
    exact ⟨[], rfl, WfL.nil, ⟨rfl, fun h => absurd h (by omega)⟩, by simp [maxLen]⟩
  · injection hcs with h1 _
    injection h1 with h1 h2 h3
    subst h1 h2 h3
    have hC : Try.prog.cellsOf 42 = 2 := by kernel_rfl
    rw [hC] at hi
    have hlm : len ≤ m := by rw [hmm]; split <;> omega
    have hall : ∀ i, i < len → ∃ r : Rg, W.cell? (a.add (i*2)) = some (.int .i32 r.1) ∧ W.cell? ((a.add (i*2)).add 1) = some (.int .i32 r.2) ∧ Wf r := by
      intro i hil
      obtain ⟨cs', hc, ht⟩ := hi i (by omega)
      obtain ⟨_, hcl, hat⟩ := World.cells?_some hc
      obtain ⟨ys, n', hn', hy, hlen, hyl, hf⟩ := DataW.trod_struct Try.underlying42 ht
      have c21 : Try.prog.cellsOf 21 = 1 := by kernel_rfl
      match cs', hcl with
      | [u, v], _ =>
        have h0 := hf 0 _ rfl
        have h1 := hf 1 _ rfl
        change DataW.trod enc Try.prog W 0 spare held n' 21 (([u, v].drop 0).take (Try.prog.cellsOf 21)) = _ at h0
        change DataW.trod enc Try.prog W 0 spare held n' 21 (([u, v].drop 1).take (Try.prog.cellsOf 21)) = _ at h1
        rw [c21] at h0 h1
        change DataW.trod enc Try.prog W 0 spare held n' 21 [u] = _ at h0
        change DataW.trod enc Try.prog W 0 spare held n' 21 [v] = _ at h1
        have q0 : ys[0]? = some (ys[0]'(by rw [hyl]; decide)) := List.getElem?_eq_getElem _
        have q1 : ys[1]? = some (ys[1]'(by rw [hyl]; decide)) := List.getElem?_eq_getElem _
        obtain ⟨n0, e0, _, w0⟩ := DataW.trod_int Try.underlying21 (h0.trans q0)
        obtain ⟨n1, e1, _, w1⟩ := DataW.trod_int Try.underlying21 (h1.trans q1)
        injection e0 with e0 _
        injection e1 with e1 _
        subst e0 e1
        refine ⟨(n0, n1), ?_, ?_, ?_⟩
        · have := hat 0 (by omega)
          simpa [Addr.add] using this
        · exact hat 1 (by omega)
        · simp [Lit.wf, IntKind.min, IntKind.max, IntKind.signed, IntKind.bits] at w0 w1
          exact ⟨w0, w1⟩
    obtain ⟨l, hll, hq⟩ := list_choice len _ hall
    refine ⟨l, hll, fun r hr => ?_, ⟨by rw [flat_length encR 2 encR_len, hll], fun hn => ?_⟩, by omega⟩
    · obtain ⟨i, hi', rfl⟩ := List.getElem_of_mem hr
      exact (hq i hi').2.2
    · obtain ⟨b, off, spot⟩ := a
      have hz := (hq 0 (by omega)).1
      have hspot : spot = none := by simpa [Addr.add] using World.cell?_spot hz
      subst hspot
      have hadd : ∀ k, (⟨b, off, none⟩ : Addr).add k = ⟨b, off + k, none⟩ := fun k => by
        unfold Addr.add; by_cases h : k = 0 <;> simp [h]
      have hblk : b < W.heap.size := by
        simp only [hadd] at hz
        rcases Nat.lt_or_ge b W.heap.size with h | h
        · exact h
        · simp only [World.cell?, Array.getElem?_eq_none h] at hz; cases hz
      refine ⟨b, off, rfl, hblk, fun j u hu => ?_⟩
      have hj : j < l.length * 2 := by
        rcases Nat.lt_or_ge j (l.length * 2) with h | h
        · exact h
        · rw [List.getElem?_eq_none (by rw [flat_length encR 2 encR_len]; exact h)] at hu; cases hu
      obtain ⟨i, hi2⟩ : ∃ i, j = i * 2 ∨ j = i * 2 + 1 := ⟨j / 2, by omega⟩
      have hil : i < l.length := by omega
      have hg := flatR_get l i hil
      have hqq := hq i hil
      simp only [hadd] at hqq
      rcases hi2 with rfl | rfl
      · rw [hg.1] at hu
        injection hu with hu
        rw [← hu]
        exact hqq.1
      · rw [hg.2] at hu
        injection hu with hu
        rw [← hu, ← Nat.add_assoc]
        exact hqq.2.1
end Go.Proofs.Ytaoipffekmhioaa
