/-
  How many parts a tree has, up to a bound: the walk of harbingerlaw25.count.
-/
import Derived.Test.YtcbilcfieoibbaaGreatDoorRpWr3
namespace Go.Proofs.YtcbilcfieoibbaaGreatDoor
open Go.RowKit
open Go.Sort (grow)
set_option maxRecDepth 100000
namespace Rp
/-- how many parts, but no more than a bound and one -/
def cnt (t : Tr) (m : Nat) : Nat := min (szT t) (m + 1)
end Rp
/-- the walk's count amid its subs: so many are there, or it is full -/
def CntI (m : Nat) (subs : List Rp.Tr) (j a : Nat) : Prop := 1 ≤ a ∧ a ≤ m + 1 ∧ a = min (1 + Rp.szL (subs.take j)) (m + 1)
theorem CntI.start (m : Nat) (subs : List Rp.Tr) : CntI m subs 0 1 := ⟨by omega, by omega, by rw [List.take_zero, Rp.szL]; omega⟩
theorem CntI.next {m : Nat} {subs : List Rp.Tr} {j a : Nat} (h : CntI m subs j a) (hj : j < subs.length) (ha : a ≤ m) : CntI m subs (j + 1) (a + Rp.cnt subs[j] (m - a)) := by
  obtain ⟨h1, h2, h3⟩ := h
  have h4 := Rp.szL_at subs j hj
  have h5 := Rp.szT_pos subs[j]
  unfold Rp.cnt
  refine ⟨by omega, by omega, ?_⟩
  rw [h4]; omega
theorem CntI.done {m : Nat} {subs : List Rp.Tr} {j a : Nat} (h : CntI m subs j a) (r t k : Int) (e : Bool) (hj : j = subs.length ∨ m < a) : a = Rp.cnt (.node r t k e subs) m := by
  obtain ⟨h1, h2, h3⟩ := h
  unfold Rp.cnt
  rw [Rp.szT]
  rcases hj with rfl | hj
  · rw [List.take_length] at h3; exact h3
  · have := Rp.szL_take_le subs j
    omega
def CntP (T : Rp.Tr) (m : Nat) (w : World) (e : Ending) (w' : World) : Prop := e = .returned (.int .i64 (Rp.cnt T m)) ∧ Below w.heap.size w w'
theorem CntP.of {T : Rp.Tr} {m a : Nat} {w w' : World} (h : a = Rp.cnt T m) (hb : Below w.heap.size w w') : CntP T m w (.returned (.int .i64 a)) w' := ⟨by rw [h], hb⟩
set_option maxHeartbeats 4000000 in
theorem count_any (B : Nat) : ∀ (m : Nat) (T : Rp.Tr) (w : World) (vs : List Value), m ≤ 1000000 → TrR w B T vs → B ≤ w.heap.size → Rp.okT T →
    Calls Tryz.prog 11 #[.agg vs.toArray, .int .i64 m] w (CntP T m w) := by
  intro m
  induction m using Nat.strongRecOn with
  | ind m ih =>
    intro T w vs hm hT hBw hok
    obtain ⟨r, t, k, e0, subs⟩ := T
    unfold TrR at hT
    obtain ⟨A, c, xs, rfl, hrd, hts⟩ := hT
    unfold Rp.okT at hok
    obtain ⟨_, _, _, hsl, hokl⟩ := hok
    obtain ⟨W, hW⟩ : ∃ W, W = w.alloc (.cells #[.int .i64 r, .int .i64 t, .int .i64 k, .bool e0, .slice A subs.length c] 45) := ⟨_, rfl⟩
    have hbW : Below w.heap.size w W := by rw [hW]; exact below_new _ _
    have hWs : w.heap.size < W.heap.size := by rw [hW]; simp
    have b4 : W.cell? ⟨w.heap.size, 4, none⟩ = some (.slice A subs.length c) := by rw [hW, cell_new]; rfl
    have HRD := hid hrd
    have HTS := hid hts
    have HOK := hid hokl
    have IH := hid ih
    clear hrd hts hokl ih
    go_enter Tryz.func11, Tryz.ntmps11
    go_wp2_with fail
    rw [← hW]
    go_loopw [5, 6] (fun v i wr => ∃ j a : Nat, j ≤ subs.length ∧ i = .int .i64 j ∧ v = .int .i64 a ∧ Hid (CntI m subs j a) ∧ Below W.heap.size W wr) (fun _ i _ => subs.length - (intOf i).toNat)
    case atStart => exact ⟨0, 1, Nat.zero_le _, rfl, rfl, hid (CntI.start _ _), Below.refl _ _⟩
    case round =>
      obtain ⟨j, a, hj, rfl, rfl, hC, hb⟩ := hrel
      have hC1 := hC.out.1
      have hC2 := hC.out.2.1
      have b4r : wr.cell? ⟨w.heap.size, 4, none⟩ = some (.slice A subs.length c) := (hb.cell hWs).trans b4
      have hbr := hbW.trans (hb.mono (Nat.le_of_lt hWs))
      have HBR := hid hbr
      have HB := hid hb
      clear hb hbr
      by_cases hlt : j < subs.length
      · have f1 : decide ((j : Int) < (subs.length : Int)) = true := decide_eq_true (by omega)
        have f1' : decide (j < subs.length) = true := decide_eq_true hlt
        by_cases ha : a ≤ m
        · have f2 : decide ((a : Int) ≤ (m : Int)) = true := decide_eq_true (by omega)
          have f2' : decide (a ≤ m) = true := decide_eq_true ha
          obtain ⟨tb, off, u0, u1, u2, u3, u4, hA, htb, hTk, q0, q1, q2, q3, q4⟩ := readsTr (HRD.out.below (HBR.out.mono hBw)) (TrsR.keep (HBR.out.mono hBw) (Nat.le_refl _) _ _ HTS.out) j hlt
          subst hA
          have hcall := hid ((IH.out (m - a) (by omega) subs[j] wr _ (by omega) hTk (Nat.le_trans hBw HBR.out.size) (Rp.okL_at _ HOK.out j hlt)))
          have hsub : ((m : Int) - (a : Int)) = ((m - a : Nat) : Int) := by omega
          have hcn : Rp.cnt subs[j] (m - a) ≤ m - a + 1 := Nat.min_le_right _ _
          have HN := hid (hC.out.next hlt ha)
          have HSUB := hid hsub
          unfold CntP at hcall
          generalize Rp.cnt subs[j] (m - a) = z at hcall hcn HN
          clear hTk hC hsub
          go_wp2_with fail
          rw [HSUB.out]
          refine hcall.out.mono ?_
          rintro e w2 ⟨rfl, hb2⟩
          go_wp2_with fail
          go_roundw
          case rel => exact ⟨j + 1, a + z, by omega, by go_num, by go_num, hid HN.out, HB.out.trans (hb2.mono HB.out.size)⟩
          case measure => simp [intOf]; omega
        · have f2 : decide ((a : Int) ≤ (m : Int)) = false := decide_eq_false (by omega)
          have f2' : decide (a ≤ m) = false := decide_eq_false ha
          have HD := hid (hC.out.done r t k e0 (.inr (by omega)))
          clear hC
          go_wp2_with fail
          go_ret
          exact CntP.of HD.out HBR.out
      · have f1 : decide ((j : Int) < (subs.length : Int)) = false := decide_eq_false (by omega)
        have f1' : decide (j < subs.length) = false := decide_eq_false hlt
        have HD := hid (hC.out.done r t k e0 (.inl (by omega)))
        clear hC
        go_wp2_with fail
        go_ret
        exact CntP.of HD.out HBR.out
end Go.Proofs.YtcbilcfieoibbaaGreatDoor
