/-
  The document's Tree: the walk. Printed by gen_rep19.py.
-/
import Derived.Test.YtcbilcfieoibbaaGreatDoorRep18
import Derived.Test.YtcbilcfieoibbaaGreatDoorRpTxt4
import Derived.Test.YtcbilcfieoibbaaGreatDoorRpDec2
import Derived.Test.YtcbilcfieoibbaaGreatDoorAl
import Derived.Lib.QuietBelow
namespace Go.Proofs.YtcbilcfieoibbaaGreatDoor
open Go.RowKit
open Go.Sort (grow)
set_option maxRecDepth 100000
/-- what a tree is written by, as it lies in memory -/
structure RTb (w : World) (B : Nat) (D : WrD) : Prop where
  sr : SR w B D.RA D.n
  st : SR w B D.TA D.m
  sw : Reads w B 3 D.WA D.tk.length (flat encTk D.tk)
theorem RTb.below {w w' : World} {B : Nat} {D : WrD} (h : RTb w B D) (hb : Below B w w') : RTb w' B D := ⟨h.sr.below hb, h.st.below hb, h.sw.below hb⟩
def tabC (R T : Value) : Array Value := #[R, T, .slice none 0 0, .slice none 0 0, .slice none 0 0, .slice none 0 0, .slice none 0 0, .slice none 0 0, .slice none 0 0, .slice none 0 0, .slice none 0 0, .slice none 0 0, .slice none 0 0]
/-- the runes of a text, amid them -/
def SpI (s done : List UInt8) (k : Nat) : Prop := done ++ Rp.spell (s.drop k) = Rp.spell s
def RTree (D : WrD) (T : Rp.Tr) (w : World) (e : Ending) (w' : World) : Prop := e = .returned (.string ⟨(Rp.treeT D.n D.m (txs D.tk) T).toArray⟩) ∧ Below w.heap.size w w'
theorem RTree.of {D : WrD} {T : Rp.Tr} {w w' : World} {s : List UInt8} (h : s = Rp.treeT D.n D.m (txs D.tk) T) (hb : Below w.heap.size w w') : RTree D T w (.returned (.string ⟨s.toArray⟩)) w' := ⟨by rw [h], hb⟩
set_option maxHeartbeats 16000000 in
theorem refTree_any (B : Nat) (D : WrD) (K : Nat) (hn : Rp.Short K D.n) (hm : Rp.Short K D.m) (hw : Rp.Short K (txs D.tk)) (hK : 1 ≤ K) (hK2 : K ≤ 1000000) : ∀ (N : Nat) (T : Rp.Tr) (w : World) (vs : List Value), Rp.szT T ≤ N → RTb w B D → TrR w B T vs → Rp.szT T * (13 * K + 6) ≤ 140737488000000 → B ≤ w.heap.size →
    Calls Tryz.prog 13 #[.agg (tabC (.slice D.RA D.n.length D.rc) (.slice D.TA D.m.length D.tc)), .agg vs.toArray, .slice D.WA D.tk.length D.wc] w (RTree D T w) := by
  intro N
  induction N with
  | zero => intro T _ _ hz; have := Rp.szT_pos T; omega
  | succ N ih =>
    intro T w vs hz hRT hT hlen hBw
    obtain ⟨r, t, k, e0, subs⟩ := T
    unfold TrR at hT
    obtain ⟨A, c, xs, rfl, hrd, hts⟩ := hT
    have hsz : Rp.szT (.node r t k e0 subs) = 1 + Rp.szL subs := by rw [Rp.szT]
    rw [hsz] at hz hlen
    rw [Nat.add_mul, Nat.one_mul] at hlen
    obtain ⟨W, hW⟩ : ∃ W, W = (w.alloc (.cells (tabC (.slice D.RA D.n.length D.rc) (.slice D.TA D.m.length D.tc)) 70)).alloc (.cells #[.int .i64 r, .int .i64 t, .int .i64 k, .bool e0, .slice A subs.length c] 45) := ⟨_, rfl⟩
    have hWo : W = [Obj.cells (tabC (.slice D.RA D.n.length D.rc) (.slice D.TA D.m.length D.tc)) 70, .cells #[.int .i64 r, .int .i64 t, .int .i64 k, .bool e0, .slice A subs.length c] 45].foldl World.alloc w := hW
    have hx1 : W.heap[w.heap.size]? = some (.cells (tabC (.slice D.RA D.n.length D.rc) (.slice D.TA D.m.length D.tc)) 70 (0, 0)) := by rw [hWo]; exact al_at _ _ 0 _ rfl
    have hx2 : W.heap[w.heap.size + 1]? = some (.cells #[.int .i64 r, .int .i64 t, .int .i64 k, .bool e0, .slice A subs.length c] 45 (0, 0)) := by rw [hWo]; exact al_at _ _ 1 _ rfl
    have hbW : Below w.heap.size w W := by rw [hWo]; exact al_below _ _
    have hWs : w.heap.size + 1 < W.heap.size := by rw [hWo, al_size]; simp
    have b3 : W.cell? ⟨w.heap.size + 1, 3, none⟩ = some (.bool e0) := by rw [Lib.cell_of_heap hx2]; rfl
    obtain ⟨l1, hl1⟩ : ∃ l1 : List UInt8, l1 = (if e0 = true then [33] else []) := ⟨_, rfl⟩
    have hl1l : l1.length ≤ 1 := by rw [hl1]; cases e0 <;> simp
    have hkk : 13 * K + 6 ≤ 13000006 := by omega
    have HLEN : Hid (l1.length + Rp.szL subs * (13 * K + 6) + K + 4 ≤ 140737488355328 ∧ Rp.szL subs * (13 * K + 6) ≤ 140737488000000) := hid (by omega)
    have hsl : subs.length ≤ 140737488355328 := by
      have h1 := szL_len subs
      have h2 : Rp.szL subs * 1 ≤ Rp.szL subs * (13 * K + 6) := Nat.mul_le_mul_left _ (by omega)
      omega
    have HRT := hid (hRT.below (hbW.mono hBw))
    have HRD := hid (hrd.below (hbW.mono hBw))
    have HTS := hid (TrsR.keep (hbW.mono hBw) (Nat.le_refl _) _ _ hts)
    have HX1 := hid hx1
    have HX2 := hid hx2
    have HBW := hid hbW
    have HL1 := hid hl1
    have IH := hid ih
    have HZ := hid hz
    have hBW : B ≤ W.heap.size := by omega
    clear hRT hrd hts hlen hz ih hbW hl1 hWo hkk hsz
    go_enter Tryz.func13, Tryz.ntmps13
    go_upto_if 16 with fail
    rw [show (w.alloc (.cells _ 70)).alloc (.cells #[.int .i64 r, .int .i64 t, .int .i64 k, .bool e0, .slice A subs.length c] 45) = W from hW.symm]
    clear hW
    go_cut [7] from 15 (fun v wx => Hid (v = .string ⟨l1.toArray⟩ ∧ wx = W))
    case first =>
      cases e0 with
      | false =>
        go_wp2_with fail
        go_meet
        case rel => exact hid ⟨by rw [HL1.out]; rfl, rfl⟩
      | true =>
        go_wp2_with fail
        go_meet
        case rel => exact hid ⟨by rw [HL1.out]; rfl, rfl⟩
    case rest =>
    obtain ⟨rfl, rfl⟩ := hcut.out
    clear hcut
    rename World => W
    have a0 : W.cell? ⟨w.heap.size + 1, 0, none⟩ = some (.int .i64 r) := by rw [Lib.cell_of_heap HX2.out]; rfl
    have a1 : W.cell? ⟨w.heap.size + 1, 1, none⟩ = some (.int .i64 t) := by rw [Lib.cell_of_heap HX2.out]; rfl
    have a2 : W.cell? ⟨w.heap.size + 1, 2, none⟩ = some (.int .i64 k) := by rw [Lib.cell_of_heap HX2.out]; rfl
    have t0 : W.cell? ⟨w.heap.size, 0, none⟩ = some (.slice D.RA D.n.length D.rc) := by rw [Lib.cell_of_heap HX1.out]; rfl
    have t1 : W.cell? ⟨w.heap.size, 1, none⟩ = some (.slice D.TA D.m.length D.tc) := by rw [Lib.cell_of_heap HX1.out]; rfl
    clear b3
    by_cases hr0 : 0 ≤ r
    · have hr1 : ¬ r = -1 := by omega
      have hr2 : ¬ r < -1 := by omega
      have f0 : decide (0 ≤ r) = true := decide_eq_true hr0
      have hnl := Rp.name_len hn hK r
      have HN := hid (refName_any W B D.RA D.rc D.n r HRT.out.sr)
      have z1 : ¬ 9223372036854775807 < l1.length + 1 := by omega
      have z2 : ¬ 9223372036854775807 < l1.length + 1 + (Rp.name D.n r).length := by omega
      go_wp2_with fail
      refine HN.out.mono ?_
      rintro e w2 ⟨rfl, rfl⟩
      clear HN
      rename World => W
      go_wp2_with fail
      go_loopw [7, 8] (fun v i wr => ∃ j : Nat, j ≤ subs.length ∧ i = .int .i64 j ∧ v = .string ⟨(l1 ++ ([40] ++ Rp.name D.n r) ++ Rp.sepT D.n D.m (txs D.tk) false (subs.take j)).toArray⟩ ∧ Hid (Below W.heap.size W wr)) (fun _ i _ => subs.length - (intOf i).toNat)
      case atStart => exact ⟨0, Nat.zero_le _, rfl, by rw [List.take_zero, Rp.sepT, List.append_nil]; simp only [bytes_app, List.append_assoc], hid (Below.refl _ _)⟩
      case round =>
        obtain ⟨j, hj, rfl, rfl, hI⟩ := hrel
        have hlr := Rp.sepT_len hn hm hw hK false (subs.take j)
        have hls := Rp.szL_take_le subs j
        have hb := hI.out
        have HT1 := (hb.block w.heap.size (by omega)).trans HX1.out
        have HT2 := (hb.block (w.heap.size + 1) (by omega)).trans HX2.out
        have a4 : wr.cell? ⟨w.heap.size + 1, 4, none⟩ = some (.slice A subs.length c) := by rw [Lib.cell_of_heap HT2]; rfl
        have hRT := HRT.out.below (hb.mono (by omega))
        have hBr : B ≤ wr.heap.size := by have := hb.size; omega
        by_cases hlt : j < subs.length
        · obtain ⟨tb, off, u0, u1, u2, u3, u4, hA, htb, hTk, q0, q1, q2, q3, q4⟩ := readsTr (HRD.out.below (hb.mono (by omega))) (TrsR.keep (hb.mono (by omega)) (Nat.le_refl _) _ _ HTS.out) j hlt
          subst hA
          have hszj : Rp.szT subs[j] ≤ N := by
            have h1 := Rp.szL_at subs j hlt
            have h2 := Rp.szL_take_le subs (j + 1)
            have := HZ.out
            omega
          have hsum : Rp.szL (subs.take j) * (13 * K + 6) + Rp.szT subs[j] * (13 * K + 6) ≤ Rp.szL subs * (13 * K + 6) := by
            rw [← Nat.add_mul, ← Rp.szL_at subs j hlt]
            exact Nat.mul_le_mul_right _ (Rp.szL_take_le subs (j + 1))
          have hlY := Rp.treeT_len hn hm hw hK subs[j]
          have hlX : l1.length + Rp.szL subs * (13 * K + 6) + K + 4 ≤ 140737488355328 ∧ Rp.szL subs * (13 * K + 6) ≤ 140737488000000 := HLEN.out
          have c1 := fun d os => Calls.regrown_of (IH.out subs[j] (grow (redrawn wr d) os) _ hszj (hRT.below ((below_regrown wr d os).mono hBr)) (TrR.keep ((below_regrown wr d os).mono hBr) (Nat.le_refl _) _ _ hTk) (by omega) (Nat.le_trans hBr (below_regrown wr d os).size))
          unfold tabC at c1
          have hst := Rp.sepT_take D.n D.m (txs D.tk) false subs j hlt
          have hXl : (l1 ++ ([40] ++ Rp.name D.n r) ++ Rp.sepT D.n D.m (txs D.tk) false (subs.take j)).length ≤ l1.length + 1 + K + Rp.szL (subs.take j) * (13 * K + 6) := by simp; have := Rp.name_len hn hK r; omega
          obtain ⟨X, hX⟩ : ∃ X, X = l1 ++ ([40] ++ Rp.name D.n r) ++ Rp.sepT D.n D.m (txs D.tk) false (subs.take j) := ⟨_, rfl⟩
          rw [← hX] at hXl ⊢
          have HXE := hid hX
          have HST := hid hst
          have HB := hid hb
          obtain ⟨Y, hY⟩ : ∃ Y, Y = Rp.treeT D.n D.m (txs D.tk) subs[j] := ⟨_, rfl⟩
          rw [← hY] at hlY c1
          have HYE := hid hY
          have HLT := hid hlt
          clear hX hst hY hTk hRT hI hb
          have t0 : wr.cell? ⟨w.heap.size, 0, none⟩ = some (.slice D.RA D.n.length D.rc) := by rw [Lib.cell_of_heap HT1]; rfl
          have t1 : wr.cell? ⟨w.heap.size, 1, none⟩ = some (.slice D.TA D.m.length D.tc) := by rw [Lib.cell_of_heap HT1]; rfl
          have t2 : wr.cell? ⟨w.heap.size, 2, none⟩ = some (.slice none 0 0) := by rw [Lib.cell_of_heap HT1]; rfl
          have t3 : wr.cell? ⟨w.heap.size, 3, none⟩ = some (.slice none 0 0) := by rw [Lib.cell_of_heap HT1]; rfl
          have t4 : wr.cell? ⟨w.heap.size, 4, none⟩ = some (.slice none 0 0) := by rw [Lib.cell_of_heap HT1]; rfl
          have t5 : wr.cell? ⟨w.heap.size, 5, none⟩ = some (.slice none 0 0) := by rw [Lib.cell_of_heap HT1]; rfl
          have t6 : wr.cell? ⟨w.heap.size, 6, none⟩ = some (.slice none 0 0) := by rw [Lib.cell_of_heap HT1]; rfl
          have t7 : wr.cell? ⟨w.heap.size, 7, none⟩ = some (.slice none 0 0) := by rw [Lib.cell_of_heap HT1]; rfl
          have t8 : wr.cell? ⟨w.heap.size, 8, none⟩ = some (.slice none 0 0) := by rw [Lib.cell_of_heap HT1]; rfl
          have t9 : wr.cell? ⟨w.heap.size, 9, none⟩ = some (.slice none 0 0) := by rw [Lib.cell_of_heap HT1]; rfl
          have t10 : wr.cell? ⟨w.heap.size, 10, none⟩ = some (.slice none 0 0) := by rw [Lib.cell_of_heap HT1]; rfl
          have t11 : wr.cell? ⟨w.heap.size, 11, none⟩ = some (.slice none 0 0) := by rw [Lib.cell_of_heap HT1]; rfl
          have t12 : wr.cell? ⟨w.heap.size, 12, none⟩ = some (.slice none 0 0) := by rw [Lib.cell_of_heap HT1]; rfl
          have T0 := fun d os => cell_regrown t0 d os
          have T1 := fun d os => cell_regrown t1 d os
          have T2 := fun d os => cell_regrown t2 d os
          have T3 := fun d os => cell_regrown t3 d os
          have T4 := fun d os => cell_regrown t4 d os
          have T5 := fun d os => cell_regrown t5 d os
          have T6 := fun d os => cell_regrown t6 d os
          have T7 := fun d os => cell_regrown t7 d os
          have T8 := fun d os => cell_regrown t8 d os
          have T9 := fun d os => cell_regrown t9 d os
          have T10 := fun d os => cell_regrown t10 d os
          have T11 := fun d os => cell_regrown t11 d os
          have T12 := fun d os => cell_regrown t12 d os
          have A4 := fun d os => cell_regrown a4 d os
          have Q0 := fun d os => cell_regrown q0 d os
          have Q1 := fun d os => cell_regrown q1 d os
          have Q2 := fun d os => cell_regrown q2 d os
          have Q3 := fun d os => cell_regrown q3 d os
          have Q4 := fun d os => cell_regrown q4 d os
          have z1 : ¬ 9223372036854775807 < X.length + 1 := by omega
          have z2 : ¬ 9223372036854775807 < X.length + 1 + Y.length := by omega
          go_wp2_with fail
          clear HT1 HT2
          refine wp_region_quiet_below (by kernel_rfl) (by kernel_rfl) ?_
          repeat (quiet_step (with_reducible exact c1 _ _))
          refine wpQuiet_nil ?_
          intro _ hw'
          obtain ⟨⟨dq, osq⟩, hw''⟩ := hw'
          subst hw''
          go_wp2_with fail
          go_roundw
          case rel =>
            refine ⟨j + 1, by have := HLT.out; omega, by go_num, ?_, hid (HB.out.trans ((below_regrown wr dq osq).mono HB.out.size))⟩
            rw [HST.out, if_neg (by simp), ← HYE.out, ← List.append_assoc, ← HXE.out]
            simp only [bytes_app, List.append_assoc]
          case measure => simp [intOf]; have := HLT.out; omega
        · obtain rfl : j = subs.length := by omega
          rw [List.take_length] at hlr ⊢
          have hlX : l1.length + Rp.szL subs * (13 * K + 6) + K + 4 ≤ 140737488355328 ∧ Rp.szL subs * (13 * K + 6) ≤ 140737488000000 := HLEN.out
          have hXl : (l1 ++ ([40] ++ Rp.name D.n r) ++ Rp.sepT D.n D.m (txs D.tk) false subs).length ≤ l1.length + 1 + K + Rp.szL subs * (13 * K + 6) := by simp; have := Rp.name_len hn hK r; omega
          obtain ⟨X, hX⟩ : ∃ X, X = l1 ++ ([40] ++ Rp.name D.n r) ++ Rp.sepT D.n D.m (txs D.tk) false subs := ⟨_, rfl⟩
          rw [← hX] at hXl ⊢
          have HXE := hid hX
          have HB := hid hb
          have z1 : ¬ 9223372036854775807 < X.length + 1 := by omega
          clear hX hI hb hRT HT1 HT2
          go_wp2_with fail
          go_ret
          rw [bytes_app]
          refine RTree.of ?_ (HBW.out.trans (HB.out.mono (by omega)))
          rw [HXE.out, HL1.out, Rp.treeT, if_neg (show ¬ r = -1 by omega), if_neg (show ¬ r < -1 by omega)]
          simp only [List.append_assoc]
    · have f0 : decide (0 ≤ r) = false := decide_eq_false hr0
      by_cases hr2 : r < -1
      · have hr1 : ¬ r = -1 := by omega
        have f1 : decide (r < -1) = true := decide_eq_true hr2
        have z1 : ¬ 9223372036854775807 < l1.length + 1 := by omega
        go_wp2_with fail
        go_loopw [7, 9] (fun v i wr => ∃ j : Nat, j ≤ subs.length ∧ i = .int .i64 j ∧ v = .string ⟨(l1 ++ [91] ++ Rp.sepT D.n D.m (txs D.tk) true (subs.take j)).toArray⟩ ∧ Hid (Below W.heap.size W wr)) (fun _ i _ => subs.length - (intOf i).toNat)
        case atStart => exact ⟨0, Nat.zero_le _, rfl, by rw [List.take_zero, Rp.sepT, List.append_nil]; simp only [bytes_app], hid (Below.refl _ _)⟩
        case round =>
          obtain ⟨j, hj, rfl, rfl, hI⟩ := hrel
          have hlr := Rp.sepT_len hn hm hw hK true (subs.take j)
          have hls := Rp.szL_take_le subs j
          have hb := hI.out
          have HT1 := (hb.block w.heap.size (by omega)).trans HX1.out
          have HT2 := (hb.block (w.heap.size + 1) (by omega)).trans HX2.out
          have a4 : wr.cell? ⟨w.heap.size + 1, 4, none⟩ = some (.slice A subs.length c) := by rw [Lib.cell_of_heap HT2]; rfl
          have hRT := HRT.out.below (hb.mono (by omega))
          have hBr : B ≤ wr.heap.size := by have := hb.size; omega
          by_cases hlt : j < subs.length
          · obtain ⟨tb, off, u0, u1, u2, u3, u4, hA, htb, hTk, q0, q1, q2, q3, q4⟩ := readsTr (HRD.out.below (hb.mono (by omega))) (TrsR.keep (hb.mono (by omega)) (Nat.le_refl _) _ _ HTS.out) j hlt
            subst hA
            have hszj : Rp.szT subs[j] ≤ N := by
              have h1 := Rp.szL_at subs j hlt
              have h2 := Rp.szL_take_le subs (j + 1)
              have := HZ.out
              omega
            have hsum : Rp.szL (subs.take j) * (13 * K + 6) + Rp.szT subs[j] * (13 * K + 6) ≤ Rp.szL subs * (13 * K + 6) := by
              rw [← Nat.add_mul, ← Rp.szL_at subs j hlt]
              exact Nat.mul_le_mul_right _ (Rp.szL_take_le subs (j + 1))
            have hlY := Rp.treeT_len hn hm hw hK subs[j]
            have hlX : l1.length + Rp.szL subs * (13 * K + 6) + K + 4 ≤ 140737488355328 ∧ Rp.szL subs * (13 * K + 6) ≤ 140737488000000 := HLEN.out
            have c1 := fun d os => Calls.regrown_of (IH.out subs[j] (grow (redrawn wr d) os) _ hszj (hRT.below ((below_regrown wr d os).mono hBr)) (TrR.keep ((below_regrown wr d os).mono hBr) (Nat.le_refl _) _ _ hTk) (by omega) (Nat.le_trans hBr (below_regrown wr d os).size))
            unfold tabC at c1
            have hst := Rp.sepT_take D.n D.m (txs D.tk) true subs j hlt
            have hXl : (l1 ++ [91] ++ Rp.sepT D.n D.m (txs D.tk) true (subs.take j)).length ≤ l1.length + 1 + K + Rp.szL (subs.take j) * (13 * K + 6) := by simp; omega
            obtain ⟨X, hX⟩ : ∃ X, X = l1 ++ [91] ++ Rp.sepT D.n D.m (txs D.tk) true (subs.take j) := ⟨_, rfl⟩
            rw [← hX] at hXl ⊢
            have HXE := hid hX
            have HST := hid hst
            have HB := hid hb
            obtain ⟨Y, hY⟩ : ∃ Y, Y = Rp.treeT D.n D.m (txs D.tk) subs[j] := ⟨_, rfl⟩
            rw [← hY] at hlY c1
            have HYE := hid hY
            have HLT := hid hlt
            clear hX hst hY hTk hRT hI hb
            have t0 : wr.cell? ⟨w.heap.size, 0, none⟩ = some (.slice D.RA D.n.length D.rc) := by rw [Lib.cell_of_heap HT1]; rfl
            have t1 : wr.cell? ⟨w.heap.size, 1, none⟩ = some (.slice D.TA D.m.length D.tc) := by rw [Lib.cell_of_heap HT1]; rfl
            have t2 : wr.cell? ⟨w.heap.size, 2, none⟩ = some (.slice none 0 0) := by rw [Lib.cell_of_heap HT1]; rfl
            have t3 : wr.cell? ⟨w.heap.size, 3, none⟩ = some (.slice none 0 0) := by rw [Lib.cell_of_heap HT1]; rfl
            have t4 : wr.cell? ⟨w.heap.size, 4, none⟩ = some (.slice none 0 0) := by rw [Lib.cell_of_heap HT1]; rfl
            have t5 : wr.cell? ⟨w.heap.size, 5, none⟩ = some (.slice none 0 0) := by rw [Lib.cell_of_heap HT1]; rfl
            have t6 : wr.cell? ⟨w.heap.size, 6, none⟩ = some (.slice none 0 0) := by rw [Lib.cell_of_heap HT1]; rfl
            have t7 : wr.cell? ⟨w.heap.size, 7, none⟩ = some (.slice none 0 0) := by rw [Lib.cell_of_heap HT1]; rfl
            have t8 : wr.cell? ⟨w.heap.size, 8, none⟩ = some (.slice none 0 0) := by rw [Lib.cell_of_heap HT1]; rfl
            have t9 : wr.cell? ⟨w.heap.size, 9, none⟩ = some (.slice none 0 0) := by rw [Lib.cell_of_heap HT1]; rfl
            have t10 : wr.cell? ⟨w.heap.size, 10, none⟩ = some (.slice none 0 0) := by rw [Lib.cell_of_heap HT1]; rfl
            have t11 : wr.cell? ⟨w.heap.size, 11, none⟩ = some (.slice none 0 0) := by rw [Lib.cell_of_heap HT1]; rfl
            have t12 : wr.cell? ⟨w.heap.size, 12, none⟩ = some (.slice none 0 0) := by rw [Lib.cell_of_heap HT1]; rfl
            have T0 := fun d os => cell_regrown t0 d os
            have T1 := fun d os => cell_regrown t1 d os
            have T2 := fun d os => cell_regrown t2 d os
            have T3 := fun d os => cell_regrown t3 d os
            have T4 := fun d os => cell_regrown t4 d os
            have T5 := fun d os => cell_regrown t5 d os
            have T6 := fun d os => cell_regrown t6 d os
            have T7 := fun d os => cell_regrown t7 d os
            have T8 := fun d os => cell_regrown t8 d os
            have T9 := fun d os => cell_regrown t9 d os
            have T10 := fun d os => cell_regrown t10 d os
            have T11 := fun d os => cell_regrown t11 d os
            have T12 := fun d os => cell_regrown t12 d os
            have A4 := fun d os => cell_regrown a4 d os
            have Q0 := fun d os => cell_regrown q0 d os
            have Q1 := fun d os => cell_regrown q1 d os
            have Q2 := fun d os => cell_regrown q2 d os
            have Q3 := fun d os => cell_regrown q3 d os
            have Q4 := fun d os => cell_regrown q4 d os
            by_cases hj0 : j = 0
            · have f9 : decide ((0 : Int) < (j : Int)) = false := decide_eq_false (by omega)
              have f9' : decide (0 < j) = false := decide_eq_false (by omega)
              have HJ0 := hid hj0
              clear hj0
              have z2 : ¬ 9223372036854775807 < X.length + Y.length := by omega
              go_wp2_with fail
              clear HT1 HT2
              refine wp_region_quiet_below (by kernel_rfl) (by kernel_rfl) ?_
              repeat (quiet_step (with_reducible exact c1 _ _))
              refine wpQuiet_nil ?_
              intro _ hw'
              obtain ⟨⟨dq, osq⟩, hw''⟩ := hw'
              subst hw''
              go_wp2_with fail
              go_roundw
              case rel =>
                refine ⟨j + 1, by have := HLT.out; omega, by go_num, ?_, hid (HB.out.trans ((below_regrown wr dq osq).mono HB.out.size))⟩
                rw [HST.out, if_pos (by simp [HJ0.out]), List.nil_append, ← HYE.out, ← List.append_assoc, ← HXE.out]
                simp only [bytes_app]
              case measure => simp [intOf]; have := HLT.out; omega
            · have f9 : decide ((0 : Int) < (j : Int)) = true := decide_eq_true (by omega)
              have f9' : decide (0 < j) = true := decide_eq_true (by omega)
              have z1 : ¬ 9223372036854775807 < X.length + 1 := by omega
              have z2 : ¬ 9223372036854775807 < X.length + 1 + Y.length := by omega
              go_wp2_with fail
              clear HT1 HT2
              refine wp_region_quiet_below (by kernel_rfl) (by kernel_rfl) ?_
              repeat (quiet_step (with_reducible exact c1 _ _))
              refine wpQuiet_nil ?_
              intro _ hw'
              obtain ⟨⟨dq, osq⟩, hw''⟩ := hw'
              subst hw''
              go_wp2_with fail
              go_roundw
              case rel =>
                refine ⟨j + 1, by have := HLT.out; omega, by go_num, ?_, hid (HB.out.trans ((below_regrown wr dq osq).mono HB.out.size))⟩
                rw [HST.out, if_neg (fun h => hj0 h.2), ← HYE.out, ← List.append_assoc, ← HXE.out]
                simp only [bytes_app, List.append_assoc]
              case measure => simp [intOf]; have := HLT.out; omega
          · obtain rfl : j = subs.length := by omega
            rw [List.take_length] at hlr ⊢
            have hlX : l1.length + Rp.szL subs * (13 * K + 6) + K + 4 ≤ 140737488355328 ∧ Rp.szL subs * (13 * K + 6) ≤ 140737488000000 := HLEN.out
            have hXl : (l1 ++ [91] ++ Rp.sepT D.n D.m (txs D.tk) true subs).length ≤ l1.length + 1 + K + Rp.szL subs * (13 * K + 6) := by simp; omega
            obtain ⟨X, hX⟩ : ∃ X, X = l1 ++ [91] ++ Rp.sepT D.n D.m (txs D.tk) true subs := ⟨_, rfl⟩
            rw [← hX] at hXl ⊢
            have HXE := hid hX
            have HB := hid hb
            have z1 : ¬ 9223372036854775807 < X.length + 1 := by omega
            clear hX hI hb hRT HT1 HT2
            go_wp2_with fail
            go_ret
            rw [bytes_app]
            refine RTree.of ?_ (HBW.out.trans (HB.out.mono (by omega)))
            rw [HXE.out, HL1.out, Rp.treeT, if_neg (show ¬ r = -1 by omega), if_pos (show r < -1 by omega)]
            simp only [List.append_assoc]
      · have f1 : decide (r < -1) = false := decide_eq_false hr2
        obtain rfl : r = -1 := by omega
        have hnl := Rp.name_len hm hK k
        have HN := hid (refName_any W B D.TA D.tc D.m k HRT.out.st)
        have z2 : ¬ 9223372036854775807 < l1.length + (Rp.name D.m k).length := by omega
        have z3 : ¬ 9223372036854775807 < l1.length + (Rp.name D.m k).length + 1 := by omega
        by_cases ht : t < 0
        · have f2 : decide (t < 0) = true := decide_eq_true ht
          go_wp2_with fail
          refine HN.out.mono ?_
          rintro e w2 ⟨rfl, rfl⟩
          clear HN
          rename World => W
          go_wp2_with fail
          go_ret
          simp only [bytes_app]
          refine RTree.of ?_ HBW.out
          rw [HL1.out, Rp.treeT, if_pos rfl, Rp.tokT, if_pos ht]
          simp only [List.append_assoc]
        · have f2 : decide (t < 0) = false := decide_eq_false ht
          obtain ⟨j, rfl⟩ : ∃ j : Nat, t = j := ⟨t.toNat, by omega⟩
          by_cases hj : j < D.tk.length
          · have f3 : decide ((j : Int) < (D.tk.length : Int)) = true := decide_eq_true (by omega)
            have f3' : decide (j < D.tk.length) = true := decide_eq_true hj
            obtain ⟨wb, off, hWA, hwb, hcell⟩ := HRT.out.sw.2 (by omega)
            have hcx : W.cell? ⟨wb, off + j * 3 + 1, none⟩ = some (.string ⟨(D.tk[j]).2.1.toArray⟩) := by
              have := hcell (j * 3 + 1) _ (by rw [flat_get encTk 3 encTk_len D.tk j hj 1 (by decide)]; rfl)
              rw [← Nat.add_assoc] at this
              exact this
            rw [hWA]
            have hsl : (D.tk[j]).2.1.length ≤ K := hw _ (List.mem_map.2 ⟨_, List.getElem_mem hj, rfl⟩)
            have hge : (txs D.tk).getD j [] = (D.tk[j]).2.1 := by
              rw [List.getD_eq_getElem?_getD]
              unfold txs
              rw [List.getElem?_map, List.getElem?_eq_getElem hj]
              rfl
            have HGE := hid hge
            have HWL : Hid ((j : Int) < (txs D.tk).length) := hid (by unfold txs; simpa using hj)
            clear hcell hge
            generalize (D.tk[j]).2.1 = s at hcx HGE hsl
            obtain ⟨S, hS⟩ : ∃ S : ByteArray, S = ⟨s.toArray⟩ := ⟨_, rfl⟩
            have hSs : S.size = s.length := by rw [hS]; simp [ByteArray.size]
            have hSl : S.data.toList = s := by rw [hS]
            rw [← hS] at hcx
            have HSL := hid hSl
            have HSS := hid hSs
            clear hS hSl hSs
            go_wp2_with fail
            refine HN.out.mono ?_
            rintro e w2 ⟨rfl, rfl⟩
            clear HN
            rename World => W
            go_wp2_with fail
            go_loopw [7, 11] (fun v i wr => ∃ (p : Nat) (done : List UInt8), p ≤ s.length ∧ i = .int .i64 p ∧ v = .string ⟨(l1 ++ Rp.name D.m k ++ [39] ++ done).toArray⟩ ∧ Hid (SpI s done p ∧ Below W.heap.size W wr)) (fun _ i _ => s.length - (intOf i).toNat)
            case atStart => exact ⟨0, [], by omega, rfl, by simp only [bytes_app, List.append_nil], hid ⟨by simp [SpI], Below.refl _ _⟩⟩
            case round =>
              obtain ⟨p, done, hp, rfl, rfl, hI⟩ := hrel
              obtain ⟨hI1, hb⟩ := hI.out
              have hsp := Rp.spell_len s
              by_cases hlt : p < s.length
              · have fk : decide (p < S.size) = true := decide_eq_true (by have := HSS.out; omega)
                have hne : s.drop p ≠ [] := fun e => by have := congrArg List.length e; simp at this; omega
                have hdb := Rp.dec_bounds _ hne
                have hst := Rp.spell_step hne
                have hdl : (s.drop p).length = s.length - p := List.length_drop ..
                have HDEC := hid (refDecode_any S p (by have := HSS.out; omega) (by have := HSS.out; omega) wr)
                rw [HSL.out] at HDEC
                unfold decV at HDEC
                rw [List.drop_drop] at hst
                rw [hdl] at hdb
                obtain ⟨P, hP⟩ : ∃ P, P = Rp.piece (s.drop p) := ⟨_, rfl⟩
                have hP' := hP
                unfold Rp.piece at hP
                rw [← hP'] at hst
                have hI4 : done ++ P ++ Rp.spell (s.drop (p + (Rp.decR (s.drop p)).2)) = Rp.spell s := by rw [List.append_assoc, ← hst]; exact hI1
                have hPl : done.length + P.length ≤ (Rp.spell s).length := by rw [← hI4]; simp
                generalize Rp.decR (s.drop p) = d at HDEC hdb hst hP hI4
                obtain ⟨r, z⟩ := d
                dsimp only at hdb hI4 hP
                have hXl : (l1 ++ Rp.name D.m k ++ [39] ++ done).length = l1.length + (Rp.name D.m k).length + 1 + done.length := by simp; omega
                obtain ⟨X, hX⟩ : ∃ X, X = l1 ++ Rp.name D.m k ++ [39] ++ done := ⟨_, rfl⟩
                rw [← hX] at hXl ⊢
                have HXE := hid hX
                clear hX
                by_cases hbad : (r, z) = (65533, 1)
                · rw [if_pos hbad] at HDEC hP
                  have hz1 : z = 1 := by injection hbad
                  subst hz1
                  have hwk : IntKind.i64.wrap ((p : Int) + 1) = (p : Int) + 1 := w64 (by omega) (by omega)
                  subst hP
                  have z4 : ¬ 9223372036854775807 < X.length + 1 := by omega
                  have HXL := hid hXl
                  have HB := hid hb
                  clear hbad hst hne hdl hdb hP' hXl hb hI
                  go_wp2_with fail
                  refine HDEC.out.mono ?_
                  rintro e w2 ⟨rfl, hb2⟩
                  go_wp2_with fail
                  go_roundw
                  case rel => exact ⟨p + 1, done ++ [63], by omega, by go_num, by rw [bytes_app, HXE.out]; simp only [List.append_assoc], hid ⟨hI4, HB.out.trans (hb2.mono HB.out.size)⟩⟩
                  case measure => simp [intOf]; omega
                · rw [if_neg hbad] at HDEC hP
                  have hv : isV r := hdb.2.2.2
                  have HT := hid fun W => refText_any r hv W
                  have hwk : IntKind.i64.wrap ((p : Int) + z) = (p : Int) + z := w64 (by omega) (by omega)
                  have hPe := hid hP'
                  have HP := hid hP
                  have HI4 := hid hI4
                  have hel : (Rp.escT r).length = P.length := by rw [hP]
                  have z4 : ¬ 9223372036854775807 < X.length + (Rp.escT r).length := by omega
                  have HDB := hid hdb
                  have HB := hid hb
                  clear hbad hst hne hdl hdb hP' hv hP hI4 hPl hI1 hXl hb hel hI
                  generalize hE : Rp.escT r = E at *
                  go_wp2_with fail
                  refine HDEC.out.mono ?_
                  rintro e w2 ⟨rfl, hb2⟩
                  go_wp2_with fail
                  refine (HT.out _).mono ?_
                  rintro e w3 ⟨rfl, hb3⟩
                  rw [hE]
                  go_wp2_with fail
                  go_roundw
                  case rel =>
                    refine ⟨p + z, done ++ E, by have := HDB.out; omega, by go_num, by rw [bytes_app, HXE.out]; simp only [List.append_assoc], hid ⟨?_, HB.out.trans ((hb2.trans (hb3.mono hb2.size)).mono HB.out.size)⟩⟩
                    have := HI4.out
                    rw [HP.out] at this
                    exact this
                  case measure => simp [intOf]; have := HDB.out; omega
              · obtain rfl : p = s.length := by omega
                unfold SpI at hI1
                rw [List.drop_length, Rp.spell_nil, List.append_nil] at hI1
                subst hI1
                have fk : decide (s.length < S.size) = false := decide_eq_false (by have := HSS.out; omega)
                have hXl : (l1 ++ Rp.name D.m k ++ [39] ++ Rp.spell s).length = l1.length + (Rp.name D.m k).length + 1 + (Rp.spell s).length := by simp; omega
                obtain ⟨X, hX⟩ : ∃ X, X = l1 ++ Rp.name D.m k ++ [39] ++ Rp.spell s := ⟨_, rfl⟩
                rw [← hX] at hXl ⊢
                have HXE := hid hX
                have z4 : ¬ 9223372036854775807 < X.length + 1 := by omega
                have HB := hid hb
                clear hX hI hXl hb
                go_wp2_with fail
                go_ret
                rw [bytes_app]
                refine RTree.of ?_ (HBW.out.trans (HB.out.mono (by omega)))
                rw [HXE.out, HL1.out, Rp.treeT, if_pos rfl, Rp.tokT, if_neg (show ¬ (j : Int) < 0 by omega), if_pos HWL.out, Int.toNat_natCast, HGE.out]
                simp only [List.append_assoc]
          · have f3 : decide ((j : Int) < (D.tk.length : Int)) = false := decide_eq_false (by omega)
            have f3' : decide (j < D.tk.length) = false := decide_eq_false hj
            have z4 : ¬ 9223372036854775807 < l1.length + (Rp.name D.m k).length + 1 + 1 := by omega
            go_wp2_with fail
            refine HN.out.mono ?_
            rintro e w2 ⟨rfl, rfl⟩
            clear HN
            rename World => W
            go_wp2_with fail
            go_ret
            simp only [bytes_app]
            refine RTree.of ?_ HBW.out
            rw [HL1.out, Rp.treeT, if_pos rfl, Rp.tokT, if_neg (show ¬ (j : Int) < 0 by omega), if_neg (show ¬ (j : Int) < (txs D.tk).length by unfold txs; simpa using hj)]
            simp only [List.append_assoc, List.append_nil]
end Go.Proofs.YtcbilcfieoibbaaGreatDoor
