/-
  ranges.parts, Minus, Both: the walks.
-/
import Derived.Test.YtaoipffekmhioaaCuts
import Derived.Lib.QuietBelow
import Derived.Deep.RegionHeld3
import Derived.Deep.DeepCutAuto
namespace Go.Proofs.Ytaoipffekmhioaa
open Go.RowKit
open Go.Sort (grow)
set_option maxRecDepth 100000
def partB (a b : List Rg) (held : Bool) (r : Rg) : Bool := hasB a r.1 && (hasB b r.1 == held)
theorem has_quiet (A : Option Addr) (c : Nat) (l : List Rg) (x : Int) (w : World) (d : Nat) (os : Array Obj) (hm : l.length ≤ 10000000) (hr : Reads w w.heap.size 2 A l.length (flat encR l)) :
   Calls Try.prog 15 #[.slice A l.length c, .int .i32 x] (grow (redrawn w d) os) fun e w'' => e = .returned (.bool (hasB l x)) ∧ ∃ p : Regrown, w'' = grow (redrawn w p.d) p.os :=
  Calls.regrown_of (has_any A c l x _ hm (hr.next (below_regrown w d os)))
set_option maxHeartbeats 1600000 in
theorem parts1_any (a b : List Rg) (held : Bool) (A B : Option Addr) (c d x y z : Nat) (r : Rg) (w : World) (hma : a.length ≤ 10000000) (hmb : b.length ≤ 10000000)
    (hx : w.cell? ⟨x, 0, none⟩ = some (.slice A a.length c)) (hy : w.cell? ⟨y, 0, none⟩ = some (.slice B b.length d)) (hz : w.cell? ⟨z, 0, none⟩ = some (.bool held))
    (hxl : x < w.heap.size) (hyl : y < w.heap.size) (hzl : z < w.heap.size)
    (hra : Reads w w.heap.size 2 A a.length (flat encR a)) (hrb : Reads w w.heap.size 2 B b.length (flat encR b)) :
    Calls Try.prog 54 #[.agg #[.int .i32 r.1, .int .i32 r.2], .pointer (some ⟨x, 0, none⟩), .pointer (some ⟨y, 0, none⟩), .pointer (some ⟨z, 0, none⟩)] w fun e w' => e = .returned (.bool (partB a b held r)) ∧ Below w.heap.size w w' := by
  obtain ⟨w1, hw1⟩ : ∃ w1, w1 = w.alloc (.cells #[.int .i32 r.1, .int .i32 r.2] 42) := ⟨_, rfl⟩
  have hb1 : Below w.heap.size w w1 := by rw [hw1]; exact (Below.refl _ _).alloc (Nat.le_refl _) _
  have k1 : w1.cell? ⟨x, 0, none⟩ = some (.slice A a.length c) := (hb1.cell (p := ⟨x, 0, none⟩) hxl).trans hx
  have k2 : w1.cell? ⟨y, 0, none⟩ = some (.slice B b.length d) := (hb1.cell (p := ⟨y, 0, none⟩) hyl).trans hy
  have k3 : w1.cell? ⟨z, 0, none⟩ = some (.bool held) := (hb1.cell (p := ⟨z, 0, none⟩) hzl).trans hz
  have k4 : w1.cell? ⟨w.heap.size, 0, none⟩ = some (.int .i32 r.1) := by rw [hw1]; simp
  have q1 := fun d os => cell_regrown k1 d os
  have q2 := fun d os => cell_regrown k2 d os
  have q3 := fun d os => cell_regrown k3 d os
  have q4 := fun d os => cell_regrown k4 d os
  have ca := fun dd os => has_quiet A c a r.1 w1 dd os hma (hra.next hb1)
  have cb := fun dd os => has_quiet B d b r.1 w1 dd os hmb (hrb.next hb1)
  unfold partB
  cases hha : hasB a r.1 with
  | true =>
    rw [hha] at ca
    go_enter Try.func54, Try.ntmps54
    go_wp2
    rw [← hw1]
    clear hw1
    refine wp_region_quiet_below (by kernel_rfl) (by kernel_rfl) ?_
    repeat (quiet_step (first | exact ca _ _ | exact cb _ _))
    refine wpQuiet_nil ?_
    intro _ hw'
    obtain ⟨⟨dq, osq⟩, hw''⟩ := hw'
    subst hw''
    go_wp2
    go_ret
    exact ⟨ret_bool (by simp), hb1.trans ((below_regrown w1 dq osq).mono hb1.size)⟩
  | false =>
    rw [hha] at ca
    go_enter Try.func54, Try.ntmps54
    go_wp2
    rw [← hw1]
    clear hw1
    refine wp_region_quiet_below (by kernel_rfl) (by kernel_rfl) ?_
    repeat (quiet_step (first | exact ca _ _ | exact cb _ _))
    refine wpQuiet_nil ?_
    intro _ hw'
    obtain ⟨⟨dq, osq⟩, hw''⟩ := hw'
    subst hw''
    go_wp2
    go_ret
    exact ⟨ret_bool (by simp), hb1.trans ((below_regrown w1 dq osq).mono hb1.size)⟩
theorem parts1_enters : ∀ args w, (callFunc 54 args).run Try.prog w = .ok (.enter 54 args) w := fun _ _ => by kernel_rfl
theorem pairs_wf {lls : List (List Rg)} (hwf : WfL lls.flatten) : WfL (pairs (placesOf (endsOf lls))) := by
  have h1 := places_wf hwf
  have h2 := (placesOf_law (endsOf lls)).1
  generalize placesOf (endsOf lls) = p at h1 h2
  induction p with
  | nil => exact WfL.nil
  | cons a r ih =>
    cases r with
    | nil => exact WfL.nil
    | cons b r =>
      intro x hx
      rw [List.pairwise_cons] at h2
      have h3 := h2.1 b (by simp)
      have h4 := h1 a (by simp)
      have h5 := h1 b (by simp)
      simp only [pairs, List.mem_cons] at hx
      rcases hx with rfl | hx
      · unfold Wf; simp only; omega
      · exact ih (fun y hy => h1 y (by simp [hy])) h2.2 x hx
set_option maxHeartbeats 1600000 in
theorem parts_at (a b na nb m k : List Rg) (held : Bool) (A B : Option Addr) (c d : Nat) (w : World) (hma : a.length ≤ 100000) (hmb : b.length ≤ 100000) (hwa : WfL a) (hwb : WfL b)
    (hna : Hid (neatOf a = na)) (hnb : Hid (neatOf b = nb)) (hk : Hid ((pairs (placesOf (endsOf [na, nb]))).filter (partB na nb held) = k)) (hmm : Hid (neatOf k = m))
    (hra : Reads w w.heap.size 2 A a.length (flat encR a)) (hrb : Reads w w.heap.size 2 B b.length (flat encR b)) :
    Calls Try.prog 46 #[.slice A a.length c, .slice B b.length d, .bool held] w fun e w' => ∃ A' c', e = .returned (.slice A' m.length c') ∧ OwnC w' w.heap.size 42 2 (.slice A' m.length c') m.length (flat encR m) ∧ Below w.heap.size w w' := by
  have hla : na.length ≤ a.length := by rw [← hna.out]; exact neatOf_len a
  have hlb : nb.length ≤ b.length := by rw [← hnb.out]; exact neatOf_len b
  have hwna : WfL na := by rw [← hna.out]; exact hwa.neatOf
  have hwnb : WfL nb := by rw [← hnb.out]; exact hwb.neatOf
  obtain ⟨w1, hw1⟩ : ∃ w1, w1 = ((w.alloc (.cells #[.slice A a.length c] 22)).alloc (.cells #[.slice B b.length d] 22)).alloc (.cells #[.bool held] 4) := ⟨_, rfl⟩
  have hs1 : w1.heap.size = w.heap.size + 3 := by rw [hw1]; simp
  have hb1 : Below w.heap.size w w1 := by rw [hw1]; exact (((Below.refl _ _).alloc (Nat.le_refl _) _).alloc (by simp) _).alloc (by simp; omega) _
  have k1 : w1.cell? ⟨w.heap.size, 0, none⟩ = some (.slice A a.length c) := by
    rw [hw1, World.cell?_alloc_lt _ _ _ (by simp; omega), World.cell?_alloc_lt _ _ _ (by simp)]; exact cell_new _ _ _ _
  have k2 : w1.cell? ⟨w.heap.size + 1, 0, none⟩ = some (.slice B b.length d) := by
    rw [hw1, World.cell?_alloc_lt _ _ _ (by simp), ← size_alloc w (.cells #[.slice A a.length c] 22)]; exact cell_new _ _ _ _
  have k3 : w1.cell? ⟨w.heap.size + 2, 0, none⟩ = some (.bool held) := by
    rw [hw1, show w.heap.size + 2 = ((w.alloc (.cells #[.slice A a.length c] 22)).alloc (.cells #[.slice B b.length d] 22)).heap.size by simp]; exact cell_new _ _ _ _
  have z1 : w1.frozen? ⟨w.heap.size, 0, none⟩ = false := by
    rw [hw1, frozen_lt _ _ _ (by simp; omega), frozen_lt _ _ _ (by simp)]; exact frozen_new _ _ _ _
  have z2 : w1.frozen? ⟨w.heap.size + 1, 0, none⟩ = false := by
    rw [hw1, frozen_lt _ _ _ (by simp), ← size_alloc w (.cells #[.slice A a.length c] 22)]; exact frozen_new _ _ _ _
  have hb10 : Below w1.heap.size w1 w1.drew := (Below.refl _ _).drew
  have hra1 := hra.next hb1
  have hrb1 := hrb.next hb1
  have HS := hid hs1
  have hl0 : w.heap.size < w1.heap.size := by omega
  have hl1 : w.heap.size + 1 < w1.heap.size := by omega
  have hl2 : w.heap.size + 2 < w1.heap.size := by omega
  go_enter Try.func46, Try.ntmps46
  go_wp2_with fail
  rw [← hw1]
  clear hw1 hs1 hra hrb
  go_cut [8] (fun _ wx => ∃ A' c' B' d', wx.cell? ⟨w.heap.size, 0, none⟩ = some (.slice A' na.length c') ∧ wx.cell? ⟨w.heap.size + 1, 0, none⟩ = some (.slice B' nb.length d') ∧ wx.cell? ⟨w.heap.size + 2, 0, none⟩ = some (.bool held) ∧
    Reads wx wx.heap.size 2 A' na.length (flat encR na) ∧ Reads wx wx.heap.size 2 B' nb.length (flat encR nb) ∧ Below w.heap.size w wx ∧ w.heap.size + 3 ≤ wx.heap.size)
  case first =>
    go_region_law
      (first
        | (go_simp; go_at_call_of 20 (Value.slice A a.length c); refine (neat_any A c a _ (by omega) hwa (hra1.next ?_)).mono ?_; assumption; rw [hna.out]; rintro e w' ⟨A', c', rfl, hownA, hbA⟩; have hbcA : Below w1.heap.size w1 w' := Below.trans (by assumption) (hbA.mono (Below.size (by assumption))); have kA1 := ((hbcA.cell (p := ⟨w.heap.size, 0, none⟩) hl0).trans k1); have kA2 := ((hbcA.cell (p := ⟨w.heap.size + 1, 0, none⟩) hl1).trans k2); have kA3 := ((hbcA.cell (p := ⟨w.heap.size + 2, 0, none⟩) hl2).trans k3); have zA1 := ((hbcA.frozen (p := ⟨w.heap.size, 0, none⟩) hl0).trans z1); have zA2 := ((hbcA.frozen (p := ⟨w.heap.size + 1, 0, none⟩) hl1).trans z2))
        | (go_simp; go_at_call_of 20 (Value.slice B b.length d); refine (neat_any B d b _ (by omega) hwb (hrb1.next ?_)).mono ?_; assumption; rw [hnb.out]; rintro e w' ⟨B', d', rfl, hownB, hbB⟩; have hbcB : Below w1.heap.size w1 w' := Below.trans (by assumption) (hbB.mono (Below.size (by assumption))); have kB1 := ((hbcB.cell (p := ⟨w.heap.size, 0, none⟩) hl0).trans k1); have kB2 := ((hbcB.cell (p := ⟨w.heap.size + 1, 0, none⟩) hl1).trans k2); have kB3 := ((hbcB.cell (p := ⟨w.heap.size + 2, 0, none⟩) hl2).trans k3); have zB1 := ((hbcB.frozen (p := ⟨w.heap.size, 0, none⟩) hl0).trans z1); have zB2 := ((hbcB.frozen (p := ⟨w.heap.size + 1, 0, none⟩) hl1).trans z2)))
    all_goals
      have hsA : w1.heap.size ≤ w'.heap.size := by first | exact hbcA.size | exact hbcB.size
      have oA : OwnC w' w1.heap.size 42 2 (.slice A' na.length c') na.length (flat encR na) := by
        first
        | exact hownA.base (by first | exact hb10.size | exact hbcB.size)
        | exact (hownA.below hbB (Nat.le_refl _)).base (by first | exact hb10.size | exact hbcB.size)
      have oB : OwnC w' w1.heap.size 42 2 (.slice B' nb.length d') nb.length (flat encR nb) := by
        first
        | exact hownB.base (by first | exact hb10.size | exact hbcA.size)
        | exact (hownB.below hbA (Nat.le_refl _)).base (by first | exact hb10.size | exact hbcA.size)
      have hbw : Below w1.heap.size w1 w' := by first | exact hbcA | exact hbcB
      have y1 := (hbw.cell (p := ⟨w.heap.size, 0, none⟩) hl0).trans k1
      have y2 := (hbw.cell (p := ⟨w.heap.size + 1, 0, none⟩) hl1).trans k2
      have y3 := (hbw.cell (p := ⟨w.heap.size + 2, 0, none⟩) hl2).trans k3
      clear hownA hownB hbA hbB hbcA hbcB kA1 kA2 kA3 kB1 kB2 kB3 zA1 zA2 zB1 zB2
      go_wp2_with fail
      go_meet
      refine ⟨A', c', B', d', ?_, ?_, ?_, ?_, ?_, ?_, ?_⟩
      · exact cell_set_far (by simp) (cell_set_self y1)
      · exact cell_set_self (cell_set_far (by simp) y2)
      · exact cell_set_far (by simp) (cell_set_far (by simp) y3)
      · exact ((oA.set_below hl0 _).set_below hl1 _).reads
      · exact ((oB.set_below hl0 _).set_below hl1 _).reads
      · exact ((hb1.trans (hbw.mono hb1.size)).setCell (Nat.le_refl _) _).setCell (by show w.heap.size ≤ w.heap.size + 1; omega) _
      · simp; have := HS.out; omega
  case rest =>
    obtain ⟨A', c', B', d', y1, y2, y3, ra, rb, hbx, hsx⟩ := hcut
    have hbA : Below wc.heap.size wc (wc.alloc (.cells #[.slice A' na.length c', .slice B' nb.length d'] 22)) := (Below.refl _ _).alloc (Nat.le_refl _) _
    go_wp2_with fail
    refine (cuts_at (some ⟨wc.heap.size, 0, none⟩) 2 [na, nb] _ _ _ (by simp) (hid rfl) (hid rfl) (by simp; omega) (by simpa using hwna.append hwnb) (LL.two 22 ra rb)).mono ?_
    rintro e w2 ⟨v2, rfl, hown2, hb2⟩
    have hb2' : Below wc.heap.size wc w2 := hbA.trans (hb2.mono hbA.size)
    have hks : (pairs (placesOf (endsOf [na, nb]))).length ≤ 1000000 := by
      have h1 := pairs_len (placesOf (endsOf [na, nb]))
      have h2 := placesOf_len (endsOf [na, nb])
      have h3 := endsOf_len [na, nb]
      simp at h3
      omega
    have hkw := pairs_wf (lls := [na, nb]) (by simpa using hwna.append hwnb)
    have hk' := hk.out
    generalize pairs (placesOf (endsOf [na, nb])) = ps at hown2 hks hk' hkw
    have HK := hid hk'
    clear hk'
    obtain ⟨A2, c2, rfl, hr2, hc2⟩ := Reads.own hown2
    have ra2 := ra.next hb2'
    have rb2 := rb.next hb2'
    have x0 : w.heap.size < wc.heap.size := by omega
    have x1 : w.heap.size + 1 < wc.heap.size := by omega
    have x2 : w.heap.size + 2 < wc.heap.size := by omega
    have hpred : PredW 54 #[.pointer (some ⟨w.heap.size, 0, none⟩), .pointer (some ⟨w.heap.size + 1, 0, none⟩), .pointer (some ⟨w.heap.size + 2, 0, none⟩)] (partB na nb held) w2 := by
      intro wr r hbr
      have hbr' := hb2'.trans (hbr.mono hb2'.size)
      have hs := hbr'.size
      exact parts1_any na nb held A' B' c' d' _ _ _ r wr (by omega) (by omega) ((hbr'.cell (p := ⟨w.heap.size, 0, none⟩) x0).trans y1) ((hbr'.cell (p := ⟨w.heap.size + 1, 0, none⟩) x1).trans y2) ((hbr'.cell (p := ⟨w.heap.size + 2, 0, none⟩) x2).trans y3) (by omega) (by omega) (by omega) (ra.next hbr') (rb.next hbr')
    clear y1 y2 y3 hown2 ra rb ra2 rb2 hbA hb2 k1 k2 k3 z1 z2 hb10 hra1 hrb1 hl0 hl1 hl2
    go_wp2_with fail
    refine (kept_any 54 _ (partB na nb held) parts1_enters A2 c2 ps w2 (by omega) hr2 hpred).mono ?_
    rw [HK.out]
    rintro e w3 ⟨v3, rfl, hown3, hb3⟩
    obtain ⟨A3, c3, rfl, hr3, hc3⟩ := Reads.own hown3
    go_wp2_with fail
    refine (neat_any A3 c3 k w3 ?_ ?_ hr3).mono ?_
    · rw [← HK.out]; exact Nat.le_trans (List.length_filter_le _ _) (by omega)
    · rw [← HK.out]; exact fun r hr => hkw r (List.mem_filter.1 hr).1
    rw [hmm.out]
    rintro e w4 ⟨A4, c4, rfl, hown4, hb4⟩
    have hbz : Below w.heap.size w w3 := hbx.trans ((hb2'.trans (hb3.mono hb2'.size)).mono hbx.size)
    go_wp2_with fail
    go_ret
    exact ⟨A4, c4, rfl, hown4.base hbz.size, hbz.trans (hb4.mono hbz.size)⟩
end Go.Proofs.Ytaoipffekmhioaa
