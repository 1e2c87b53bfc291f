/-
  Trees that are the same: the walk of harbingerlaw25.equal. Printed by gen_rep25.py.
-/
import Derived.Test.YtcbilcfieoibbaaGreatDoorRpWr3
import Derived.Test.YtcbilcfieoibbaaGreatDoorAl
import Derived.Lib.QuietBelow
namespace Go.Proofs.YtcbilcfieoibbaaGreatDoor
open Go.RowKit
open Go.Sort (grow)
set_option maxRecDepth 100000
def EqP (x y : Rp.Tr) (w : World) (e : Ending) (w' : World) : Prop := ∃ b : Bool, e = .returned (.bool b) ∧ (b = true ↔ x = y) ∧ Below w.heap.size w w'
theorem EqP.yes {x y : Rp.Tr} {w w' : World} (h : x = y) (hb : Below w.heap.size w w') : EqP x y w (.returned (.bool true)) w' := ⟨true, rfl, ⟨fun _ => h, fun _ => rfl⟩, hb⟩
theorem EqP.no {x y : Rp.Tr} {w w' : World} (h : ¬ x = y) (hb : Below w.heap.size w w') : EqP x y w (.returned (.bool false)) w' := ⟨false, rfl, ⟨fun e => (by cases e), fun e => absurd e h⟩, hb⟩
/-- so far all subs are the same -/
def EqI (l l' : List Rp.Tr) (j : Nat) : Prop := l.take j = l'.take j
theorem EqI.next {l l' : List Rp.Tr} {j : Nat} (h : EqI l l' j) (hj : j < l.length) (hj' : j < l'.length) (he : l[j] = l'[j]) : EqI l l' (j + 1) := by
  unfold EqI at h ⊢
  rw [List.take_succ_eq_append_getElem hj, List.take_succ_eq_append_getElem hj', h, he]
theorem EqI.done {l l' : List Rp.Tr} (h : EqI l l' l.length) (hl : l.length = l'.length) : l = l' := by
  unfold EqI at h
  rw [List.take_length, hl, List.take_length] at h
  exact h
theorem eq_no {l l' : List Rp.Tr} {j : Nat} (hj : j < l.length) (hj' : j < l'.length) (he : ¬ l[j] = l'[j]) : ¬ l = l' := fun e => he (by subst e; rfl)
set_option maxHeartbeats 16000000 in
theorem equal_any (B : Nat) : ∀ (N : Nat) (T T' : Rp.Tr) (w : World) (vs vs' : List Value), Rp.szT T ≤ N → TrR w B T vs → TrR w B T' vs' → Rp.okT T → Rp.okT T' → B ≤ w.heap.size →
    Calls Tryz.prog 19 #[.agg vs.toArray, .agg vs'.toArray] w (EqP T T' w) := by
  intro N
  induction N with
  | zero => intro T _ _ _ _ hz; have := Rp.szT_pos T; omega
  | succ N ih =>
    intro T T' w vs vs' hz hT hT' hok hok' hBw
    obtain ⟨r, t, k, e0, subs⟩ := T
    obtain ⟨r', t', k', e', subs'⟩ := T'
    unfold TrR at hT hT'
    obtain ⟨A, c, xs, rfl, hrd, hts⟩ := hT
    obtain ⟨A', c', xs', rfl, hrd', hts'⟩ := hT'
    have hsz : Rp.szT (.node r t k e0 subs) = 1 + Rp.szL subs := by rw [Rp.szT]
    rw [hsz] at hz
    unfold Rp.okT at hok hok'
    obtain ⟨_, _, _, hsl, hokl⟩ := hok
    obtain ⟨_, _, _, hsl', hokl'⟩ := hok'
    obtain ⟨W, hW⟩ : ∃ W, W = (w.alloc (.cells #[.int .i64 r, .int .i64 t, .int .i64 k, .bool e0, .slice A subs.length c] 45)).alloc (.cells #[.int .i64 r', .int .i64 t', .int .i64 k', .bool e', .slice A' subs'.length c'] 45) := ⟨_, rfl⟩
    have hWo : W = [Obj.cells #[.int .i64 r, .int .i64 t, .int .i64 k, .bool e0, .slice A subs.length c] 45, .cells #[.int .i64 r', .int .i64 t', .int .i64 k', .bool e', .slice A' subs'.length c'] 45].foldl World.alloc w := hW
    have hx1 : W.heap[w.heap.size]? = some (.cells #[.int .i64 r, .int .i64 t, .int .i64 k, .bool e0, .slice A subs.length c] 45 (0, 0)) := by rw [hWo]; exact al_at _ _ 0 _ rfl
    have hx2 : W.heap[w.heap.size + 1]? = some (.cells #[.int .i64 r', .int .i64 t', .int .i64 k', .bool e', .slice A' subs'.length c'] 45 (0, 0)) := by rw [hWo]; exact al_at _ _ 1 _ rfl
    have hbW : Below w.heap.size w W := by rw [hWo]; exact al_below _ _
    have hWs : w.heap.size + 1 < W.heap.size := by rw [hWo, al_size]; simp
    have a0 : W.cell? ⟨w.heap.size, 0, none⟩ = some (.int .i64 r) := by rw [Lib.cell_of_heap hx1]; rfl
    have b0 : W.cell? ⟨w.heap.size + 1, 0, none⟩ = some (.int .i64 r') := by rw [Lib.cell_of_heap hx2]; rfl
    have a1 : W.cell? ⟨w.heap.size, 1, none⟩ = some (.int .i64 t) := by rw [Lib.cell_of_heap hx1]; rfl
    have b1 : W.cell? ⟨w.heap.size + 1, 1, none⟩ = some (.int .i64 t') := by rw [Lib.cell_of_heap hx2]; rfl
    have a2 : W.cell? ⟨w.heap.size, 2, none⟩ = some (.int .i64 k) := by rw [Lib.cell_of_heap hx1]; rfl
    have b2 : W.cell? ⟨w.heap.size + 1, 2, none⟩ = some (.int .i64 k') := by rw [Lib.cell_of_heap hx2]; rfl
    have a3 : W.cell? ⟨w.heap.size, 3, none⟩ = some (.bool e0) := by rw [Lib.cell_of_heap hx1]; rfl
    have b3 : W.cell? ⟨w.heap.size + 1, 3, none⟩ = some (.bool e') := by rw [Lib.cell_of_heap hx2]; rfl
    have a4 : W.cell? ⟨w.heap.size, 4, none⟩ = some (.slice A subs.length c) := by rw [Lib.cell_of_heap hx1]; rfl
    have b4 : W.cell? ⟨w.heap.size + 1, 4, none⟩ = some (.slice A' subs'.length c') := by rw [Lib.cell_of_heap hx2]; rfl
    have HRD := hid hrd
    have HTS := hid hts
    have HRD' := hid hrd'
    have HTS' := hid hts'
    have HBW := hid hbW
    have HX1 := hid hx1
    have HX2 := hid hx2
    have HOK := hid hokl
    have HOK' := hid hokl'
    have IH := hid ih
    have HZ := hid hz
    clear hrd hts hrd' hts' hbW hWo hx1 hx2 hokl hokl' ih hz hsz
    by_cases h1 : r = r'
    · subst h1
      by_cases h2 : t = t'
      · subst h2
        by_cases h3 : k = k'
        · subst h3
          by_cases h4 : e0 = e'
          · subst h4
            have f4 : (e0 != e0) = false := by cases e0 <;> rfl
            by_cases h5 : subs.length = subs'.length
            · have f5 : ((subs.length : Int) != (subs'.length : Int)) = false := by rw [h5]; simp
              have f5' : (subs.length != subs'.length) = false := by simpa using h5
              have H5 := hid h5
              clear h5
              go_enter Tryz.func19, Tryz.ntmps19
              go_wp2_with fail
              rw [← hW]
              go_loopw [5] (fun v wr => ∃ j : Nat, j ≤ subs.length ∧ v = .int .i64 j ∧ Hid (EqI subs subs' j ∧ Below W.heap.size W wr)) (fun v _ => subs.length - (intOf v).toNat)
              case atStart => exact ⟨0, Nat.zero_le _, rfl, hid ⟨rfl, Below.refl _ _⟩⟩
              case round =>
                obtain ⟨j, hj, rfl, hI⟩ := hrel
                obtain ⟨hP, hb⟩ := hI.out
                have HT1 := (hb.block w.heap.size (by omega)).trans HX1.out
                have HT2 := (hb.block (w.heap.size + 1) (by omega)).trans HX2.out
                have d4 : wr.cell? ⟨w.heap.size, 4, none⟩ = some (.slice A subs.length c) := by rw [Lib.cell_of_heap HT1]; rfl
                have d5 : wr.cell? ⟨w.heap.size + 1, 4, none⟩ = some (.slice A' subs'.length c') := by rw [Lib.cell_of_heap HT2]; rfl
                have hbw := HBW.out.trans (hb.mono HBW.out.size)
                have hBr : B ≤ wr.heap.size := Nat.le_trans hBw hbw.size
                by_cases hlt : j < subs.length
                · have hlt' : j < subs'.length := by have := H5.out; omega
                  obtain ⟨tb, off, u0, u1, u2, u3, u4, hA, htb, hTk, q0, q1, q2, q3, q4⟩ := readsTr (HRD.out.below (hbw.mono hBw)) (TrsR.keep (hbw.mono hBw) (Nat.le_refl _) _ _ HTS.out) j hlt
                  subst hA
                  obtain ⟨tb', off', v0, v1, v2, v3, v4, hA', htb', hTk', p0, p1, p2, p3, p4⟩ := readsTr (HRD'.out.below (hbw.mono hBw)) (TrsR.keep (hbw.mono hBw) (Nat.le_refl _) _ _ HTS'.out) j hlt'
                  subst hA'
                  have hszj : Rp.szT subs[j] ≤ N := by
                    have h1 := Rp.szL_at subs j hlt
                    have h2 := Rp.szL_take_le subs (j + 1)
                    have := HZ.out
                    omega
                  have hnx := fun h => EqI.next hP hlt hlt' h
                  have hno := fun h => eq_no hlt hlt' h
                  have HNX := hid hnx
                  have HNO := hid hno
                  have hIH := hid fun W' (h : Below wr.heap.size wr W') => IH.out subs[j] subs'[j] W' _ _ hszj (TrR.keep (h.mono hBr) (Nat.le_refl _) _ _ hTk) (TrR.keep (h.mono hBr) (Nat.le_refl _) _ _ hTk') (Rp.okL_at _ HOK.out j hlt) (Rp.okL_at _ HOK'.out j hlt') (Nat.le_trans hBr h.size)
                  have HB := hid hb
                  have HBQ := hid hbw
                  clear hTk hTk' hnx hno hb hbw hI hP hszj
                  have HLT := hid hlt
                  have HLT' := hid hlt'
                  generalize subs[j] = x at hIH HNX HNO
                  generalize subs'[j] = y at hIH HNX HNO
                  obtain ⟨b, hbe⟩ : ∃ b : Bool, b = true ↔ x = y := by
                    by_cases h : x = y
                    · exact ⟨true, fun _ => h, fun _ => rfl⟩
                    · exact ⟨false, fun e => (by cases e), fun e => absurd e h⟩
                  have hcl := hid fun W' (h : Below wr.heap.size wr W') => (show Calls Tryz.prog 19 #[.agg #[u0, u1, u2, u3, u4], .agg #[v0, v1, v2, v3, v4]] W' fun e w' => e = .returned (.bool b) ∧ Below W'.heap.size W' w' from (hIH.out W' h).mono (by
                    rintro e w' ⟨b', rfl, hb', hbl⟩
                    refine ⟨?_, hbl⟩
                    have : b' = b := by rw [Bool.eq_iff_iff, hb', hbe]
                    rw [this]))
                  have c1 := fun d os => Calls.regrown_of (hcl.out (grow (redrawn wr d) os) (below_regrown wr d os))
                  have HBE := hid hbe
                  clear hbe hIH
                  have D4 := fun d os => cell_regrown d4 d os
                  have D5 := fun d os => cell_regrown d5 d os
                  have Q0 := fun d os => cell_regrown q0 d os
                  have Q1 := fun d os => cell_regrown q1 d os
                  have Q2 := fun d os => cell_regrown q2 d os
                  have Q3 := fun d os => cell_regrown q3 d os
                  have Q4 := fun d os => cell_regrown q4 d os
                  have P0 := fun d os => cell_regrown p0 d os
                  have P1 := fun d os => cell_regrown p1 d os
                  have P2 := fun d os => cell_regrown p2 d os
                  have P3 := fun d os => cell_regrown p3 d os
                  have P4 := fun d os => cell_regrown p4 d os
                  clear HT1 HT2
                  go_wp2_with fail
                  refine wp_region_quiet_below (by kernel_rfl) (by kernel_rfl) ?_
                  repeat (quiet_step (with_reducible exact c1 _ _))
                  refine wpQuiet_nil ?_
                  intro _ hw'
                  obtain ⟨⟨dq, osq⟩, hw''⟩ := hw'
                  subst hw''
                  cases b with
                  | true =>
                    go_wp2_with fail
                    go_roundw
                    case rel => exact ⟨j + 1, by have := HLT.out; omega, by go_num, hid ⟨HNX.out (HBE.out.1 rfl), HB.out.trans ((below_regrown wr dq osq).mono HB.out.size)⟩⟩
                    case measure => simp [intOf]; have := HLT.out; omega
                  | false =>
                    go_wp2_with fail
                    go_ret
                    exact EqP.no (fun e => HNO.out (fun h => by have := HBE.out.2 h; cases this) (by injection e)) (HBQ.out.trans ((below_regrown wr dq osq).mono HBQ.out.size))
                · obtain rfl : j = subs.length := by omega
                  have HD := hid (hP.done H5.out)
                  have HBQ := hid hbw
                  clear hP hI hb hbw HT1 HT2
                  go_wp2_with fail
                  go_ret
                  exact EqP.yes (by rw [HD.out]) HBQ.out
            · have f5 : ((subs.length : Int) != (subs'.length : Int)) = true := by rw [bne_iff_ne]; omega
              have f5' : (subs.length != subs'.length) = true := by simpa using h5
              have H5 := hid h5
              clear h5
              go_enter Tryz.func19, Tryz.ntmps19
              go_wp2_with fail
              rw [← hW]
              go_ret
              exact EqP.no (fun e => H5.out (by injection e with _ _ _ _ e; rw [e])) HBW.out
          · have f4 : (e0 != e') = true := by simpa using h4
            have f4' : (e0 == e') = false := by simpa using h4
            go_enter Tryz.func19, Tryz.ntmps19
            go_wp2_with fail
            rw [← hW]
            go_ret
            exact EqP.no (fun e => h4 (by injection e)) HBW.out
        · have f3 : (k != k') = true := by simpa using h3
          have f3' : (k == k') = false := by simpa using h3
          go_enter Tryz.func19, Tryz.ntmps19
          go_wp2_with fail
          rw [← hW]
          go_ret
          exact EqP.no (fun e => h3 (by injection e)) HBW.out
      · have f2 : (t != t') = true := by simpa using h2
        have f2' : (t == t') = false := by simpa using h2
        go_enter Tryz.func19, Tryz.ntmps19
        go_wp2_with fail
        rw [← hW]
        go_ret
        exact EqP.no (fun e => h2 (by injection e)) HBW.out
    · have f1 : (r != r') = true := by simpa using h1
      have f1' : (r == r') = false := by simpa using h1
      go_enter Tryz.func19, Tryz.ntmps19
      go_wp2_with fail
      rw [← hW]
      go_ret
      exact EqP.no (fun e => h1 (by injection e)) HBW.out
end Go.Proofs.YtcbilcfieoibbaaGreatDoor
