/-
  Trees that may be: the walk of harbingerlaw25.proper.
-/
import Derived.Test.YtcbilcfieoibbaaGreatDoorRpWr3
import Derived.Test.YtcbilcfieoibbaaGreatDoorRpInj
import Derived.Test.YtcbilcfieoibbaaGreatDoorAl
import Derived.Lib.QuietBelow
namespace Go.Proofs.YtcbilcfieoibbaaGreatDoor
open Go.RowKit
open Go.Sort (grow)
set_option maxRecDepth 100000
def PrP (b : Bool) (w : World) (e : Ending) (w' : World) : Prop := e = .returned (.bool b) ∧ Below w.heap.size w w'
theorem PrP.of {b c : Bool} {w w' : World} (h : b = c) (hb : Below w.heap.size w w') : PrP b w (.returned (.bool c)) w' := ⟨by rw [h], hb⟩
theorem propL_at : ∀ (n m k : Nat) (l : List Rp.Tr), Rp.propL n m k l = l.all fun t => Rp.propT n m k t
  | _, _, _, [] => rfl
  | n, m, k, t :: l => by rw [Rp.propL, propL_at n m k l]; rfl
/-- so far all subs may be -/
def PrI (n m k : Nat) (l : List Rp.Tr) (j : Nat) : Prop := ((l.take j).all fun t => Rp.propT n m k t) = true
theorem PrI.next {n m k : Nat} {l : List Rp.Tr} {j : Nat} (h : PrI n m k l j) (hj : j < l.length) (hp : Rp.propT n m k l[j] = true) : PrI n m k l (j + 1) := by
  unfold PrI at h ⊢
  rw [List.take_succ_eq_append_getElem hj, List.all_append, h]
  simp [hp]
theorem PrI.done {n m k : Nat} {l : List Rp.Tr} (h : PrI n m k l l.length) : Rp.propL n m k l = true := by
  unfold PrI at h
  rw [List.take_length] at h
  rw [propL_at, h]
theorem prop_no {n m k : Nat} {l : List Rp.Tr} {j : Nat} (hj : j < l.length) (hp : Rp.propT n m k l[j] = false) : Rp.propL n m k l = false := by
  rw [propL_at, List.all_eq_false]
  exact ⟨_, List.getElem_mem hj, by simp [hp]⟩
theorem prop_tok {n m q : Nat} {t k : Int} {e : Bool} {subs : List Rp.Tr} : Rp.propT n m q (.node (-1) t k e subs) = (decide (subs.length = 0) && decide (0 ≤ k) && decide (k < m) && decide (-1 ≤ t) && decide (t < q)) := by
  rw [Rp.propT, if_pos rfl]
theorem prop_rul {n m q : Nat} {r t k : Int} {e : Bool} {subs : List Rp.Tr} (h : ¬ r = -1) : Rp.propT n m q (.node r t k e subs) = (decide (-2 ≤ r) && decide (r < n) && decide (t = 0) && decide (k = 0) && Rp.propL n m q subs) := by
  rw [Rp.propT, if_neg h]
set_option maxHeartbeats 16000000 in
theorem proper_any (B : Nat) (RA TA : Option Addr) (nn rc mm tc q : Nat) : ∀ (N : Nat) (T : Rp.Tr) (w : World) (vs : List Value), Rp.szT T ≤ N → TrR w B T vs → Rp.okT T → B ≤ w.heap.size →
    Calls Tryz.prog 18 #[.agg vs.toArray, .agg #[.slice RA nn rc, .slice TA mm tc], .int .i64 q] w (PrP (Rp.propT nn mm q T) w) := by
  intro N
  induction N with
  | zero => intro T _ _ hz; have := Rp.szT_pos T; omega
  | succ N ih =>
    intro T w vs hz hT hok hBw
    obtain ⟨r, t, k, e0, subs⟩ := T
    unfold TrR at hT
    obtain ⟨A, c, xs, rfl, hrd, hts⟩ := hT
    have hsz : Rp.szT (.node r t k e0 subs) = 1 + Rp.szL subs := by rw [Rp.szT]
    rw [hsz] at hz
    unfold Rp.okT at hok
    obtain ⟨_, _, _, hsl, hokl⟩ := hok
    obtain ⟨W, hW⟩ : ∃ W, W = (w.alloc (.cells #[.int .i64 r, .int .i64 t, .int .i64 k, .bool e0, .slice A subs.length c] 45)).alloc (.cells #[.slice RA nn rc, .slice TA mm tc] 42) := ⟨_, rfl⟩
    have hWo : W = [Obj.cells #[.int .i64 r, .int .i64 t, .int .i64 k, .bool e0, .slice A subs.length c] 45, .cells #[.slice RA nn rc, .slice TA mm tc] 42].foldl World.alloc w := hW
    have hx1 : W.heap[w.heap.size]? = some (.cells #[.int .i64 r, .int .i64 t, .int .i64 k, .bool e0, .slice A subs.length c] 45 (0, 0)) := by rw [hWo]; exact al_at _ _ 0 _ rfl
    have hx2 : W.heap[w.heap.size + 1]? = some (.cells #[.slice RA nn rc, .slice TA mm tc] 42 (0, 0)) := by rw [hWo]; exact al_at _ _ 1 _ rfl
    have hbW : Below w.heap.size w W := by rw [hWo]; exact al_below _ _
    have hWs : w.heap.size + 1 < W.heap.size := by rw [hWo, al_size]; simp
    have a0 : W.cell? ⟨w.heap.size, 0, none⟩ = some (.int .i64 r) := by rw [Lib.cell_of_heap hx1]; rfl
    have a1 : W.cell? ⟨w.heap.size, 1, none⟩ = some (.int .i64 t) := by rw [Lib.cell_of_heap hx1]; rfl
    have a2 : W.cell? ⟨w.heap.size, 2, none⟩ = some (.int .i64 k) := by rw [Lib.cell_of_heap hx1]; rfl
    have a4 : W.cell? ⟨w.heap.size, 4, none⟩ = some (.slice A subs.length c) := by rw [Lib.cell_of_heap hx1]; rfl
    have n0 : W.cell? ⟨w.heap.size + 1, 0, none⟩ = some (.slice RA nn rc) := by rw [Lib.cell_of_heap hx2]; rfl
    have n1 : W.cell? ⟨w.heap.size + 1, 1, none⟩ = some (.slice TA mm tc) := by rw [Lib.cell_of_heap hx2]; rfl
    have HRD := hid hrd
    have HTS := hid hts
    have HBW := hid hbW
    have HX1 := hid hx1
    have HX2 := hid hx2
    have HOK := hid hokl
    have IH := hid ih
    have HZ := hid hz
    clear hrd hts hbW hWo hx1 hx2 hokl ih hz hsz
    by_cases hr : r = -1
    · subst hr
      rw [prop_tok]
      have f0 : ((-1 : Int) == -1) = true := rfl
      by_cases h1 : subs.length = 0
      · have f1 : ((subs.length : Int) == 0) = true := by simpa using h1
        rw [decide_eq_true h1]
        clear h1
        by_cases h2 : 0 ≤ k
        · have f2 : decide (0 ≤ k) = true := decide_eq_true h2
          rw [f2]
          by_cases h3 : k < (mm : Int)
          · have f3 : decide (k < (mm : Int)) = true := decide_eq_true h3
            rw [f3]
            by_cases h4 : -1 ≤ t
            · have f4 : decide (-1 ≤ t) = true := decide_eq_true h4
              rw [f4]
              by_cases h5 : t < (q : Int)
              · have f5 : decide (t < (q : Int)) = true := decide_eq_true h5
                rw [f5]
                go_enter Tryz.func18, Tryz.ntmps18
                go_wp2_with fail
                rw [← hW]
                go_ret
                exact PrP.of rfl HBW.out
              · have f5 : decide (t < (q : Int)) = false := decide_eq_false h5
                rw [f5]
                go_enter Tryz.func18, Tryz.ntmps18
                go_wp2_with fail
                rw [← hW]
                go_ret
                exact PrP.of rfl HBW.out
            · have f4 : decide (-1 ≤ t) = false := decide_eq_false h4
              rw [f4]
              go_enter Tryz.func18, Tryz.ntmps18
              go_wp2_with fail
              rw [← hW]
              go_ret
              exact PrP.of rfl HBW.out
          · have f3 : decide (k < (mm : Int)) = false := decide_eq_false h3
            rw [f3]
            go_enter Tryz.func18, Tryz.ntmps18
            go_wp2_with fail
            rw [← hW]
            go_ret
            exact PrP.of rfl HBW.out
        · have f2 : decide (0 ≤ k) = false := decide_eq_false h2
          rw [f2]
          go_enter Tryz.func18, Tryz.ntmps18
          go_wp2_with fail
          rw [← hW]
          go_ret
          exact PrP.of rfl HBW.out
      · have f1 : ((subs.length : Int) == 0) = false := by simpa using h1
        rw [decide_eq_false h1]
        clear h1
        go_enter Tryz.func18, Tryz.ntmps18
        go_wp2_with fail
        rw [← hW]
        go_ret
        exact PrP.of rfl HBW.out
    · rw [prop_rul hr]
      have f0 : (r == -1) = false := by simpa using hr
      by_cases h1 : -2 ≤ r
      · have f1 : decide (r < -2) = false := decide_eq_false (by omega)
        rw [decide_eq_true h1]
        by_cases h2 : r < (nn : Int)
        · have f2 : decide ((nn : Int) ≤ r) = false := decide_eq_false (by omega)
          rw [decide_eq_true h2]
          by_cases h3 : t = 0
          · subst h3
            by_cases h4 : k = 0
            · subst h4
              rw [decide_eq_true rfl, Bool.true_and, Bool.true_and, Bool.true_and, Bool.true_and]
              go_enter Tryz.func18, Tryz.ntmps18
              go_wp2_with fail
              rw [← hW]
              go_loopw [7] (fun v wr => ∃ j : Nat, j ≤ subs.length ∧ v = .int .i64 j ∧ Hid (PrI nn mm q subs j ∧ Below W.heap.size W wr)) (fun v _ => subs.length - (intOf v).toNat)
              case atStart => exact ⟨0, Nat.zero_le _, rfl, hid ⟨by simp [PrI], Below.refl _ _⟩⟩
              case round =>
                obtain ⟨j, hj, rfl, hI⟩ := hrel
                obtain ⟨hP, hb⟩ := hI.out
                have HT1 := (hb.block w.heap.size (by omega)).trans HX1.out
                have HT2 := (hb.block (w.heap.size + 1) (by omega)).trans HX2.out
                have b4 : wr.cell? ⟨w.heap.size, 4, none⟩ = some (.slice A subs.length c) := by rw [Lib.cell_of_heap HT1]; rfl
                have m0 : wr.cell? ⟨w.heap.size + 1, 0, none⟩ = some (.slice RA nn rc) := by rw [Lib.cell_of_heap HT2]; rfl
                have m1 : wr.cell? ⟨w.heap.size + 1, 1, none⟩ = some (.slice TA mm tc) := by rw [Lib.cell_of_heap HT2]; rfl
                have hbw := HBW.out.trans (hb.mono HBW.out.size)
                have hBr : B ≤ wr.heap.size := Nat.le_trans hBw hbw.size
                by_cases hlt : j < subs.length
                · obtain ⟨tb, off, u0, u1, u2, u3, u4, hA, htb, hTk, q0, q1, q2, q3, q4⟩ := readsTr (HRD.out.below (hbw.mono hBw)) (TrsR.keep (hbw.mono hBw) (Nat.le_refl _) _ _ HTS.out) j hlt
                  subst hA
                  have hszj : Rp.szT subs[j] ≤ N := by
                    have h1 := Rp.szL_at subs j hlt
                    have h2 := Rp.szL_take_le subs (j + 1)
                    have := HZ.out
                    omega
                  have c1 := fun d os => Calls.regrown_of (IH.out subs[j] (grow (redrawn wr d) os) _ hszj (TrR.keep ((below_regrown wr d os).mono hBr) (Nat.le_refl _) _ _ hTk) (Rp.okL_at _ HOK.out j hlt) (Nat.le_trans hBr (below_regrown wr d os).size))
                  have hnx := fun h => PrI.next hP hlt h
                  have hno := fun h => prop_no (n := nn) (m := mm) (k := q) hlt h
                  have HNX := hid hnx
                  have HNO := hid hno
                  have HB := hid hb
                  have HBQ := hid hbw
                  clear hTk hnx hno hb hbw hI hP hszj
                  have HLT := hid hlt
                  generalize Rp.propT nn mm q subs[j] = pj at c1 HNX HNO
                  have B4 := fun d os => cell_regrown b4 d os
                  have M0 := fun d os => cell_regrown m0 d os
                  have M1 := fun d os => cell_regrown m1 d os
                  have Q0 := fun d os => cell_regrown q0 d os
                  have Q1 := fun d os => cell_regrown q1 d os
                  have Q2 := fun d os => cell_regrown q2 d os
                  have Q3 := fun d os => cell_regrown q3 d os
                  have Q4 := fun d os => cell_regrown q4 d os
                  clear HT1 HT2
                  go_wp2_with fail
                  refine wp_region_quiet_below (by kernel_rfl) (by kernel_rfl) ?_
                  repeat (quiet_step (with_reducible exact c1 _ _))
                  refine wpQuiet_nil ?_
                  intro _ hw'
                  obtain ⟨⟨dq, osq⟩, hw''⟩ := hw'
                  subst hw''
                  cases pj with
                  | true =>
                    go_wp2_with fail
                    go_roundw
                    case rel => exact ⟨j + 1, by have := HLT.out; omega, by go_num, hid ⟨HNX.out rfl, HB.out.trans ((below_regrown wr dq osq).mono HB.out.size)⟩⟩
                    case measure => simp [intOf]; have := HLT.out; omega
                  | false =>
                    go_wp2_with fail
                    go_ret
                    exact PrP.of (HNO.out (by simp)) (HBQ.out.trans ((below_regrown wr dq osq).mono HBQ.out.size))
                · obtain rfl : j = subs.length := by omega
                  have HD := hid hP.done
                  have HBQ := hid hbw
                  clear hP hI hb hbw HT1 HT2
                  go_wp2_with fail
                  go_ret
                  exact PrP.of HD.out HBQ.out
            · have f4 : (k != 0) = true := by simpa using h4
              have f4' : (k == 0) = false := by simpa using h4
              rw [decide_eq_false h4, Bool.and_false, Bool.false_and]
              go_enter Tryz.func18, Tryz.ntmps18
              go_wp2_with fail
              rw [← hW]
              go_ret
              exact PrP.of rfl HBW.out
          · have f3 : (t != 0) = true := by simpa using h3
            have f3' : (t == 0) = false := by simpa using h3
            rw [decide_eq_false h3, Bool.and_false, Bool.false_and, Bool.false_and]
            go_enter Tryz.func18, Tryz.ntmps18
            go_wp2_with fail
            rw [← hW]
            go_ret
            exact PrP.of rfl HBW.out
        · have f2 : decide ((nn : Int) ≤ r) = true := decide_eq_true (by omega)
          rw [decide_eq_false h2, Bool.and_false, Bool.false_and, Bool.false_and, Bool.false_and]
          go_enter Tryz.func18, Tryz.ntmps18
          go_wp2_with fail
          rw [← hW]
          go_ret
          exact PrP.of rfl HBW.out
      · have f1 : decide (r < -2) = true := decide_eq_true (by omega)
        rw [decide_eq_false h1, Bool.false_and, Bool.false_and, Bool.false_and, Bool.false_and]
        go_enter Tryz.func18, Tryz.ntmps18
        go_wp2_with fail
        rw [← hW]
        go_ret
        exact PrP.of rfl HBW.out
end Go.Proofs.YtcbilcfieoibbaaGreatDoor
