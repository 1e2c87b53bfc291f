/-
  Subsets: Step, at tables that may be: the walk.
-/
import Derived.Test.YtoclbcfgfaialaaGreatDoorIdx
namespace Go.Proofs.YtoclbcfgfaialaaGreatDoor
open Go.RowKit
set_option maxRecDepth 100000
def stepOf (rs : List Rg) (rows : List (List Int)) (s x : Int) : Int :=
  if 0 ≤ idxI (inB x) rs ∧ 0 ≤ s ∧ s < rows.length then (rows.getD s.toNat []).getD (idxI (inB x) rs).toNat (-1) else -1
theorem idxI_cases {α : Type} (p : α → Bool) (l : List α) : idxI p l = -1 ∨ ∃ i : Nat, i < l.length ∧ idxI p l = i := by
  unfold idxI
  cases h : l.findIdx? p with
  | none => exact .inl rfl
  | some i => exact .inr ⟨i, (List.findIdx?_eq_some_iff_getElem.1 h).1, rfl⟩
set_option maxHeartbeats 1600000 in
theorem step_any (RA CA NA EA : Option Addr) (rc cc nc ec n m : Nat) (rs : List Rg) (rows : List (List Int)) (ends : List Int) (s x v : Int) (w : World) (hn : Hid (rs.length = n)) (hm : Hid (rows.length = m)) (g : Hid (GoodT rs rows ends)) (h : TabR w w.heap.size RA CA NA EA rs rows ends)
    (hv : Hid (stepOf rs rows s x = v)) :
    Calls Tryz.prog 20 #[.agg #[.slice RA n rc, .slice CA n cc, .slice NA m nc, .slice EA m ec], .int .i64 s, .int .i32 x] w fun e w' => e = .returned (.int .i64 v) ∧ Below w.heap.size w w' := by
  have hn1 : n ≤ 10000000 := by rw [← hn.out]; exact g.out.few
  have hm2 : m ≤ 1000000 := by rw [← hm.out]; exact g.out.few2
  obtain ⟨wx, hwx⟩ : ∃ wx, Hid (w.alloc (.cells #[.slice RA n rc, .slice CA n cc, .slice NA m nc, .slice EA m ec] 43) = wx) := ⟨_, rfl⟩
  have hb : Below w.heap.size w wx := by rw [← hwx.out]; exact below_new _ _
  have hs : w.heap.size < wx.heap.size := by rw [← hwx.out]; simp
  have c0 : wx.cell? ⟨w.heap.size, 0, none⟩ = some (.slice RA n rc) := by rw [← hwx.out, cell_new]; rfl
  have c1 : wx.cell? ⟨w.heap.size, 1, none⟩ = some (.slice CA n cc) := by rw [← hwx.out, cell_new]; rfl
  have c2 : wx.cell? ⟨w.heap.size, 2, none⟩ = some (.slice NA m nc) := by rw [← hwx.out, cell_new]; rfl
  have h := h.next hb
  have hrng := h.rng
  rw [hn.out] at hrng
  have ⟨_, hcls, hnxt, _⟩ := h
  rw [hn.out] at hcls
  have HC := fun w0 (h0 : Reads w0 w0.heap.size 2 RA rs.length (flat encR rs)) => class_any RA rc rs x w0 (by rw [hn.out]; exact hn1) h0
  rw [hn.out] at HC
  have hcase := idxI_cases (inB x) rs
  have hval := hv.out
  unfold stepOf at hval
  generalize idxI (inB x) rs = ix at HC hcase hval
  rw [hm.out] at hval
  rw [hn.out] at hcase
  have HCC := hid HC
  have HV := hid hval
  clear HC h hval
  go_enter Tryz.func20, Tryz.ntmps20
  go_wp2_with fail
  rw [hwx.out]
  clear hwx
  refine (HCC.out _ hrng).mono ?_
  rintro e w1 ⟨rfl, hb1⟩
  clear HCC hrng
  have hbw : Below w.heap.size w w1 := hb.trans (hb1.mono hb.size)
  have d1 := (hb1.cell (p := ⟨w.heap.size, 1, none⟩) hs).trans c1
  have d2 := (hb1.cell (p := ⟨w.heap.size, 2, none⟩) hs).trans c2
  rcases hcase with rfl | ⟨i, hi, rfl⟩
  · have hv1 : v = -1 := by rw [← HV.out]; rfl
    subst hv1
    clear HV hv
    go_wp2
    go_ret
    exact ⟨rfl, hbw⟩
  · by_cases hs0 : 0 ≤ s
    · by_cases hs1 : s < m
      · obtain ⟨k, rfl⟩ : ∃ k : Nat, s = k := ⟨s.toNat, by omega⟩
        have hk : k < rows.length := by rw [hm.out]; omega
        obtain ⟨b, off, rfl, hbl, z0⟩ := readsC (w' := w1) hcls hb1 i hi
        obtain ⟨b2, off2, Ai, ci, rfl, hbl2, z1, rA⟩ := (hnxt.below hb1).at k hk
        have hrow := g.out.row _ (List.getElem_mem hk)
        rw [hn.out] at hrow
        have hi2 : i < rows[k].length := by omega
        obtain ⟨b3, off3, rfl, hbl3, z2⟩ := readsZ rA (Below.refl _ _) i hi2
        rw [hrow] at z1
        have hfin : v = rows[k][i] := by
          rw [← HV.out, if_pos ⟨by omega, by omega, hs1⟩]
          simp [List.getD_eq_getElem?_getD, List.getElem?_eq_getElem hk, List.getElem?_eq_getElem hi2]
        rw [← hfin] at z2
        clear HV hv hfin rA hi2 hrow hk hcls hnxt
        have g1 : ¬ (n : Int) ≤ (i : Int) := by omega
        have g2 : ¬ (m : Int) ≤ (k : Int) := by omega
        go_wp2
        go_ret
        exact ⟨rfl, hbw⟩
      · have hv1 : v = -1 := by rw [← HV.out, if_neg]; omega
        subst hv1
        clear HV hv
        have g1 : ¬ (n : Int) ≤ (i : Int) := by omega
        have g2 : ¬ s < 0 := by omega
        have g3 : (m : Int) ≤ s := by omega
        go_wp2
        go_ret
        exact ⟨rfl, hbw⟩
    · have hv1 : v = -1 := by rw [← HV.out, if_neg]; omega
      subst hv1
      clear HV hv
      have g1 : ¬ (n : Int) ≤ (i : Int) := by omega
      have g2 : s < 0 := by omega
      go_wp2
      go_ret
      exact ⟨rfl, hbw⟩
end Go.Proofs.YtoclbcfgfaialaaGreatDoor
