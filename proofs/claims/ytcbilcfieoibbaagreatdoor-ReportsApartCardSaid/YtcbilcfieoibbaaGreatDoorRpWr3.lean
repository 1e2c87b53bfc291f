/-
  A writing: a tree: the walk.
-/
import Derived.Test.YtcbilcfieoibbaaGreatDoorRpWr2
import Derived.Deep.DeepCutAuto
import Derived.Deep.CutRange
namespace Go.Proofs.YtcbilcfieoibbaaGreatDoor
open Go.RowKit
set_option maxRecDepth 100000
theorem tree_enters : ∀ args w, (callFunc 26 args).run Tryz.prog w = .ok (.enter 26 args) w := fun _ _ => by kernel_rfl
theorem szL_len : ∀ l : List Rp.Tr, l.length ≤ Rp.szL l
  | [] => Nat.zero_le _
  | t :: l => by
    have h1 := Rp.szT_pos t
    have h2 := szL_len l
    have h3 : Rp.szL (t :: l) = Rp.szT t + Rp.szL l := by rw [Rp.szL]
    rw [h3, List.length_cons]
    omega
theorem TrR.form {w : World} {B : Nat} {T : Rp.Tr} {u0 u1 u2 u3 u4 : Value} (h : TrR w B T [u0, u1, u2, u3, u4]) : ∃ (r t k : Int) (e : Bool) (A : Option Addr) (n c : Nat), u0 = .int .i64 r ∧ u1 = .int .i64 t ∧ u2 = .int .i64 k ∧ u3 = .bool e ∧ u4 = .slice A n c := by
  obtain ⟨r, t, k, e, subs⟩ := T
  unfold TrR at h
  obtain ⟨A, c, xs, h, _⟩ := h
  injection h with h0 h
  injection h with h1 h
  injection h with h2 h
  injection h with h3 h
  injection h with h4 h
  exact ⟨r, t, k, e, A, _, c, h0, h1, h2, h3, h4⟩
set_option maxHeartbeats 8000000 in
theorem wtree_any (B b : Nat) (x : Wr) (D : WrD) (K : Nat) (hn : Rp.Short K D.n) (hm : Rp.Short K D.m) (hw : Rp.Short K (txs D.tk)) (hK : 1 ≤ K) (hK2 : K ≤ 1000000) : ∀ (N : Nat) (T : Rp.Tr) (l : List UInt8) (w : World) (vs : List Value), Rp.szT T ≤ N → IsWr B b l x w → WrOK w B D x → TB B w → TrR w B T vs → l.length + Rp.szT T * (13 * K + 6) ≤ 140737488355328 → B ≤ w.heap.size →
    Calls Tryz.prog 26 #[.pointer (some ⟨b, 0, none⟩), .agg vs.toArray] w fun e w' => e = .returned (.tuple #[]) ∧ (WrAt B b (.pointer (some ⟨b, 0, none⟩)) (l ++ Rp.treeT D.n D.m (txs D.tk) T) x w' ∧ Kp B b w w') := by
  intro N
  induction N with
  | zero => intro T _ _ _ hz; have := Rp.szT_pos T; omega
  | succ N ih =>
    intro T l w vs hz h hD hTB hT hlen hBw
    obtain ⟨r, t, k, e0, subs⟩ := T
    have hT0 := hT
    unfold TrR at hT
    obtain ⟨A, c, xs, rfl, hrd, hts⟩ := hT
    have hsz : Rp.szT (.node r t k e0 subs) = 1 + Rp.szL subs := by rw [Rp.szT]
    rw [hsz] at hz hlen
    rw [Nat.add_mul, Nat.one_mul, ← Nat.add_assoc] at hlen
    obtain ⟨W, hW⟩ : ∃ W, W = w.alloc (.cells #[.int .i64 r, .int .i64 t, .int .i64 k, .bool e0, .slice A subs.length c] 45) := ⟨_, rfl⟩
    have hbx : W.heap[w.heap.size]? = some (.cells #[.int .i64 r, .int .i64 t, .int .i64 k, .bool e0, .slice A subs.length c] 45 (0, 0)) := by rw [hW]; exact heap_alloc_new w _
    have hW1 : IsWr B b l x W := by rw [hW]; exact h.alloc _
    have hbW : Below w.heap.size w W := by rw [hW]; exact below_new _ _
    have hWs : w.heap.size < W.heap.size := by rw [hW]; simp
    have hbn : w.heap.size ≠ b := by have := h.lt; omega
    have hKW : Kp B b w W := Kp.of_below hbW hBw
    have b3 : W.cell? ⟨w.heap.size, 3, none⟩ = some (.bool e0) := by rw [Lib.cell_of_heap hbx]; rfl
    obtain ⟨l1, hl1⟩ : ∃ l1, l1 = l ++ (if e0 = true then [33] else []) := ⟨_, rfl⟩
    have hl1l : l1.length ≤ l.length + 1 := by rw [hl1]; cases e0 <;> simp
    have HREST := hid (⟨hD, hTB, hrd, hts, hlen, hz⟩ : WrOK w B D x ∧ TB B w ∧ Reads w B 5 A subs.length xs ∧ TrsR w B subs xs ∧ l.length + (13 * K + 6) + Rp.szL subs * (13 * K + 6) ≤ 140737488355328 ∧ 1 + Rp.szL subs ≤ N + 1)
    have HW1 := hid hW1
    have HKW := hid hKW
    have HBX := hid hbx
    have HL1 := hid hl1
    have IH := hid ih
    clear hD hTB hrd hts hlen hz hT0 hW1 hKW hbx hl1 ih h hbW
    go_enter Tryz.func26, Tryz.ntmps26
    go_upto_if 10 with fail
    rw [← hW]
    clear hW
    go_cut [] from 9 (fun wx => Hid (IsWr B b l1 x wx ∧ Kp B b W wx))
    case first =>
      cases e0 with
      | false =>
        go_wp2_with fail
        go_meet
        case rel => exact hid ⟨by rw [HL1.out]; simpa using HW1.out, Kp.refl _ _ _⟩
      | true =>
        go_wp2_with fail
        refine (writeByteW_any B b l x 33 W HW1.out (by have := HREST.out.2.2.2.2.1; omega) (by omega)).mono ?_
        rintro e w1 ⟨rfl, h1, k1⟩
        go_wp2_with fail
        go_meet
        case rel => exact hid ⟨by rw [HL1.out]; exact .inr h1, k1⟩
    case rest =>
    rename World => w1
    obtain ⟨hw1, hk1⟩ := hcut.out
    clear hcut
    obtain ⟨hD, hTB, hrd, hts, hlen, hz⟩ := HREST.out
    have hsl : subs.length ≤ 140737488355328 := by
      have h1 := szL_len subs
      have h2 : Rp.szL subs * 1 ≤ Rp.szL subs * (13 * K + 6) := Nat.mul_le_mul_left _ (by omega)
      omega
    have hK01 : Kp B b w w1 := HKW.out.trans hk1
    have hB1 : B ≤ w1.heap.size := by have := hk1.1.size; omega
    have hb1 := hk1.cells HBX.out hbn (by decide)
    have hD1 := hid (hD.below hK01.1)
    have hTB1 := hid (hTB.below hK01.1)
    have hrd0 := hid hrd
    have hD0 := hid hD
    have hTB0 := hid hTB
    have hts0 := hid hts
    have HB1 := hid hb1
    have a0 : w1.cell? ⟨w.heap.size, 0, none⟩ = some (.int .i64 r) := by rw [Lib.cell_of_heap hb1]; rfl
    have a1 : w1.cell? ⟨w.heap.size, 1, none⟩ = some (.int .i64 t) := by rw [Lib.cell_of_heap hb1]; rfl
    have a2 : w1.cell? ⟨w.heap.size, 2, none⟩ = some (.int .i64 k) := by rw [Lib.cell_of_heap hb1]; rfl
    have a3 : w1.cell? ⟨w.heap.size, 3, none⟩ = some (.bool e0) := by rw [Lib.cell_of_heap hb1]; rfl
    have a4 : w1.cell? ⟨w.heap.size, 4, none⟩ = some (.slice A subs.length c) := by rw [Lib.cell_of_heap hb1]; rfl
    have HW1 := hid hw1
    have HK01 := hid hK01
    have HLEN := hid hlen
    have HZ := hid hz
    clear hw1 hK01 hlen hz hD hTB hrd hts HREST b3 hk1 HKW HBX hb1
    by_cases hr1 : r = -1
    · subst hr1
      go_wp2_with fail
      refine (wtoken_any B b l1 x D (-1) t k e0 A subs.length c K w1 HW1.out hD1.out hTB1.out hm hw hK hK2 (by have := HLEN.out; omega) hB1).mono ?_
      rintro e w2 ⟨rfl, h2, k2⟩
      go_wp2_with fail
      go_end0
      refine ⟨rfl, ?_, HK01.out.trans k2⟩
      rw [HL1.out, List.append_assoc] at h2
      rw [Rp.treeT, if_pos rfl]
      exact h2
    · have f0 : (r == -1) = false := by simpa using hr1
      by_cases hr2 : r < -1
      · have f1 : decide (r < -1) = true := decide_eq_true hr2
        go_wp2_with fail
        refine (writeByteW_any B b l1 x 91 w1 HW1.out (by have := HLEN.out; omega) hB1).mono ?_
        rintro e w2 ⟨rfl, h2, k2⟩
        have a0' : w2.cell? ⟨w.heap.size, 4, none⟩ = some (.slice A subs.length c) := by
          have hb2 := k2.cells HB1.out hbn (by decide)
          rw [Lib.cell_of_heap hb2]; rfl
        have HK2 := hid (HK01.out.trans k2)
        have H2 := hid h2
        have hB2 : B ≤ w2.heap.size := by have := k2.1.size; omega
        clear k2 h2 a0 a1 a2 a3 a4
        go_wp2_with fail
        go_loopw [67] (fun i wr => ∃ j : Nat, j ≤ subs.length ∧ i = .int .i64 j ∧ Hid (WrAt B b (.pointer (some ⟨b, 0, none⟩)) (l1 ++ [91] ++ Rp.sepT D.n D.m (txs D.tk) true (subs.take j)) x wr ∧ Kp B b w wr)) (fun i _ => subs.length - (intOf i).toNat)
        case atStart => exact ⟨0, Nat.zero_le _, rfl, hid ⟨by rw [List.take_zero, Rp.sepT, List.append_nil]; exact H2.out, HK2.out⟩⟩
        case round =>
          obtain ⟨j, hj, rfl, hI⟩ := hrel
          obtain ⟨hI1, hI2⟩ := hI.out
          have hBr : B ≤ wr.heap.size := by have := hI2.1.size; omega
          have hlr := Rp.sepT_len hn hm hw hK true (subs.take j)
          have hls := Rp.szL_take_le subs j
          by_cases hlt : j < subs.length
          · obtain ⟨tb, off, u0, u1, u2, u3, u4, hA, htb, hTk, q0, q1, q2, q3, q4⟩ := readsTr (hrd0.out.below hI2.1) (TrsR.keep hI2.1 (Nat.le_refl _) _ _ hts0.out) j hlt
            subst hA
            obtain ⟨r1, t1, k1, e1, A1, n1, c1, rfl, rfl, rfl, rfl, rfl⟩ := hTk.form
            have hszj : Rp.szT subs[j] ≤ N := by
              have h1 := Rp.szL_at subs j hlt
              have h2 := Rp.szL_take_le subs (j + 1)
              have := HZ.out
              omega
            have hsum : Rp.szL (subs.take j) * (13 * K + 6) + Rp.szT subs[j] * (13 * K + 6) ≤ Rp.szL subs * (13 * K + 6) := by
              rw [← Nat.add_mul, ← Rp.szL_at subs j hlt]
              exact Nat.mul_le_mul_right _ (Rp.szL_take_le subs (j + 1))
            have HIH := hid fun l' W' (h : IsWr B b l' x W') (hK : Kp B b wr W') (hl : l'.length ≤ l1.length + 2 + Rp.szL (subs.take j) * (13 * K + 6)) => IH.out subs[j] l' W' _ hszj h (hD0.out.below (hI2.trans hK).1) (hTB0.out.below (hI2.trans hK).1) (TrR.keep hK.1 (Nat.le_refl _) _ _ hTk) (by have := HLEN.out; omega) (by have := hK.1.size; omega)
            have hst := Rp.sepT_take D.n D.m (txs D.tk) true subs j hlt
            obtain ⟨W3, hW3⟩ : ∃ W3, W3 = wr.alloc (.cells #[.int .i64 r1, .int .i64 t1, .int .i64 k1, .bool e1, .slice A1 n1 c1] 45) := ⟨_, rfl⟩
            have hb3 : Below wr.heap.size wr W3 := by rw [hW3]; exact below_new _ _
            have h3 : IsWr B b (l1 ++ [91] ++ Rp.sepT D.n D.m (txs D.tk) true (subs.take j)) x W3 := IsWr.below (.inr hI1) hb3
            have k3 : Kp B b wr W3 := Kp.of_below hb3 hBr
            have p0 : W3.cell? ⟨wr.heap.size, 0, none⟩ = some (.int .i64 r1) := by rw [hW3, cell_new]; rfl
            have p1 : W3.cell? ⟨wr.heap.size, 1, none⟩ = some (.int .i64 t1) := by rw [hW3, cell_new]; rfl
            have p2 : W3.cell? ⟨wr.heap.size, 2, none⟩ = some (.int .i64 k1) := by rw [hW3, cell_new]; rfl
            have p3 : W3.cell? ⟨wr.heap.size, 3, none⟩ = some (.bool e1) := by rw [hW3, cell_new]; rfl
            have p4 : W3.cell? ⟨wr.heap.size, 4, none⟩ = some (.slice A1 n1 c1) := by rw [hW3, cell_new]; rfl
            have hbk3 : W3.heap[wr.heap.size]? = some (.cells #[.int .i64 r1, .int .i64 t1, .int .i64 k1, .bool e1, .slice A1 n1 c1] 45 (0, 0)) := by rw [hW3]; exact heap_alloc_new wr _
            have hne3 : wr.heap.size ≠ b := by have := hI2.1.size; have := IsWr.lt (.inr hI1 : IsWr B b _ x wr); omega
            have HB3 := hid hbk3
            have HI2 := hid hI2
            have HK3 := hid k3
            have H3 := hid h3
            have HST := hid hst
            clear hbk3 hI1 hI2 k3 h3 hst hb3 hTk hszj hI
            by_cases hj0 : j = 0
            · have f9 : decide ((0 : Int) < (j : Int)) = false := decide_eq_false (by omega)
              have f9' : decide (0 < j) = false := decide_eq_false (by omega)
              have HJ0 := hid hj0
              clear hj0
              go_wp2_with fail
              rw [← hW3]
              refine (HIH.out _ W3 H3.out HK3.out (by simp; omega)).mono ?_
              rintro e w4 ⟨rfl, h4, k4⟩
              go_wp2_with fail
              go_roundw
              case rel =>
                refine ⟨j + 1, by omega, by go_num, hid ⟨?_, HI2.out.trans (HK3.out.trans k4)⟩⟩
                rw [HST.out, if_pos (by simp [HJ0.out]), List.nil_append, ← List.append_assoc]
                exact h4
              case measure => simp [intOf]; omega
            · have f9 : decide ((0 : Int) < (j : Int)) = true := decide_eq_true (by omega)
              have f9' : decide (0 < j) = true := decide_eq_true (by omega)
              go_wp2_with fail
              rw [← hW3]
              refine (writeByteW_any B b _ x 32 W3 H3.out (by have := HLEN.out; simp; omega) (by have := HK3.out.1.size; omega)).mono ?_
              rintro e w4 ⟨rfl, h4, k4⟩
              have hb4 := k4.cells HB3.out hne3 (by decide)
              have r0 : w4.cell? ⟨wr.heap.size, 0, none⟩ = some (.int .i64 r1) := by rw [Lib.cell_of_heap hb4]; rfl
              have r1' : w4.cell? ⟨wr.heap.size, 1, none⟩ = some (.int .i64 t1) := by rw [Lib.cell_of_heap hb4]; rfl
              have r2 : w4.cell? ⟨wr.heap.size, 2, none⟩ = some (.int .i64 k1) := by rw [Lib.cell_of_heap hb4]; rfl
              have r3 : w4.cell? ⟨wr.heap.size, 3, none⟩ = some (.bool e1) := by rw [Lib.cell_of_heap hb4]; rfl
              have r4 : w4.cell? ⟨wr.heap.size, 4, none⟩ = some (.slice A1 n1 c1) := by rw [Lib.cell_of_heap hb4]; rfl
              have H4 := hid h4
              have K4 := hid k4
              clear h4 k4 hb4 p0 p1 p2 p3 p4
              go_wp2_with fail
              refine (HIH.out _ w4 (.inr H4.out) (HK3.out.trans K4.out) (by simp; omega)).mono ?_
              rintro e w5 ⟨rfl, h5, k5⟩
              go_wp2_with fail
              go_roundw
              case rel =>
                refine ⟨j + 1, by omega, by go_num, hid ⟨?_, HI2.out.trans ((HK3.out.trans K4.out).trans k5)⟩⟩
                rw [HST.out, if_neg (fun h => hj0 h.2)]
                simpa using h5
              case measure => simp [intOf]; omega
          · obtain rfl : j = subs.length := by omega
            rw [List.take_length] at hI1 hlr
            clear hI
            go_wp2_with fail
            refine (writeByteW_any B b _ x 93 wr (.inr hI1) (by have := HLEN.out; simp; omega) hBr).mono ?_
            rintro e w3 ⟨rfl, h3, k3⟩
            go_wp2_with fail
            go_end0
            refine ⟨rfl, ?_, hI2.trans k3⟩
            rw [HL1.out] at h3
            rw [Rp.treeT, if_neg hr1, if_pos hr2]
            simpa using h3
      · have f1 : decide (r < -1) = false := decide_eq_false hr2
        obtain ⟨c2, _, _⟩ := wr_cells HW1.out
        rw [hD1.out.eR] at c2
        have hnl := Rp.name_len hn hK r
        have HN := hid fun W' (hb : Below B w1 W') => rname_any W' B D.RA D.rc D.n r (hD1.out.sr.below hb)
        have hz1 : ¬ 9223372036854775807 < 1 + (Rp.name D.n r).length := by omega
        go_upto_region 4 with fail
        go_cut [] from 9 (fun wx => Hid (WrAt B b (.pointer (some ⟨b, 0, none⟩)) (l1 ++ ([40] ++ Rp.name D.n r)) x wx ∧ Kp B b w1 wx))
        case first =>
         go_region_law
           (first
            | (go_simp; go_at_call 46; refine (HN.out _ (Below.drew (Below.refl _ _))).mono ?_; rintro e w3 ⟨rfl, rfl⟩)
            | (go_simp; go_at_call 45; refine Calls.mono (by rw [bytes_app [40] (Rp.name D.n r)]; exact writeStrW_any B b l1 x ([40] ++ Rp.name D.n r) w1.drew HW1.out (by have := HLEN.out; simp; omega) hB1) ?_; rintro e w2 ⟨rfl, h2, k2⟩))
         all_goals
          go_wp2_with fail
          go_meet
          case rel => exact hid ⟨h2, (Kp.refl B b w1).drew.trans k2⟩
        case rest =>
        rename World => w2
        obtain ⟨h2, k2⟩ := hcut.out
        clear hcut
        have a0' : w2.cell? ⟨w.heap.size, 4, none⟩ = some (.slice A subs.length c) := by
          have hb2 := k2.cells HB1.out hbn (by decide)
          rw [Lib.cell_of_heap hb2]; rfl
        have HK2 := hid (HK01.out.trans k2)
        have H2 := hid h2
        have hB2 : B ≤ w2.heap.size := by have := k2.1.size; omega
        clear k2 h2 a0 a1 a2 a3 a4 c2 HN
        go_wp2_with fail
        go_loopw [33] (fun i wr => ∃ j : Nat, j ≤ subs.length ∧ i = .int .i64 j ∧ Hid (WrAt B b (.pointer (some ⟨b, 0, none⟩)) (l1 ++ ([40] ++ Rp.name D.n r) ++ Rp.sepT D.n D.m (txs D.tk) false (subs.take j)) x wr ∧ Kp B b w wr)) (fun i _ => subs.length - (intOf i).toNat)
        case atStart => exact ⟨0, Nat.zero_le _, rfl, hid ⟨by rw [List.take_zero, Rp.sepT, List.append_nil]; exact H2.out, HK2.out⟩⟩
        case round =>
          obtain ⟨j, hj, rfl, hI⟩ := hrel
          obtain ⟨hI1, hI2⟩ := hI.out
          have hBr : B ≤ wr.heap.size := by have := hI2.1.size; omega
          have hlr := Rp.sepT_len hn hm hw hK false (subs.take j)
          have hls := Rp.szL_take_le subs j
          by_cases hlt : j < subs.length
          · obtain ⟨tb, off, u0, u1, u2, u3, u4, hA, htb, hTk, q0, q1, q2, q3, q4⟩ := readsTr (hrd0.out.below hI2.1) (TrsR.keep hI2.1 (Nat.le_refl _) _ _ hts0.out) j hlt
            subst hA
            obtain ⟨r1, t1, k1, e1, A1, n1, c1, rfl, rfl, rfl, rfl, rfl⟩ := hTk.form
            have hszj : Rp.szT subs[j] ≤ N := by
              have h1 := Rp.szL_at subs j hlt
              have h2 := Rp.szL_take_le subs (j + 1)
              have := HZ.out
              omega
            have hsum : Rp.szL (subs.take j) * (13 * K + 6) + Rp.szT subs[j] * (13 * K + 6) ≤ Rp.szL subs * (13 * K + 6) := by
              rw [← Nat.add_mul, ← Rp.szL_at subs j hlt]
              exact Nat.mul_le_mul_right _ (Rp.szL_take_le subs (j + 1))
            have HIH := hid fun l' W' (h : IsWr B b l' x W') (hK : Kp B b wr W') (hl : l'.length ≤ l1.length + K + 2 + Rp.szL (subs.take j) * (13 * K + 6)) => IH.out subs[j] l' W' _ hszj h (hD0.out.below (hI2.trans hK).1) (hTB0.out.below (hI2.trans hK).1) (TrR.keep hK.1 (Nat.le_refl _) _ _ hTk) (by have := HLEN.out; omega) (by have := hK.1.size; omega)
            have hst := Rp.sepT_take D.n D.m (txs D.tk) false subs j hlt
            obtain ⟨W3, hW3⟩ : ∃ W3, W3 = wr.alloc (.cells #[.int .i64 r1, .int .i64 t1, .int .i64 k1, .bool e1, .slice A1 n1 c1] 45) := ⟨_, rfl⟩
            have hb3 : Below wr.heap.size wr W3 := by rw [hW3]; exact below_new _ _
            have h3 : IsWr B b (l1 ++ ([40] ++ Rp.name D.n r) ++ Rp.sepT D.n D.m (txs D.tk) false (subs.take j)) x W3 := IsWr.below (.inr hI1) hb3
            have k3 : Kp B b wr W3 := Kp.of_below hb3 hBr
            have p0 : W3.cell? ⟨wr.heap.size, 0, none⟩ = some (.int .i64 r1) := by rw [hW3, cell_new]; rfl
            have p1 : W3.cell? ⟨wr.heap.size, 1, none⟩ = some (.int .i64 t1) := by rw [hW3, cell_new]; rfl
            have p2 : W3.cell? ⟨wr.heap.size, 2, none⟩ = some (.int .i64 k1) := by rw [hW3, cell_new]; rfl
            have p3 : W3.cell? ⟨wr.heap.size, 3, none⟩ = some (.bool e1) := by rw [hW3, cell_new]; rfl
            have p4 : W3.cell? ⟨wr.heap.size, 4, none⟩ = some (.slice A1 n1 c1) := by rw [hW3, cell_new]; rfl
            have hbk3 : W3.heap[wr.heap.size]? = some (.cells #[.int .i64 r1, .int .i64 t1, .int .i64 k1, .bool e1, .slice A1 n1 c1] 45 (0, 0)) := by rw [hW3]; exact heap_alloc_new wr _
            have hne3 : wr.heap.size ≠ b := by have := hI2.1.size; have := IsWr.lt (.inr hI1 : IsWr B b _ x wr); omega
            have HB3 := hid hbk3
            have HI2 := hid hI2
            have HK3 := hid k3
            have H3 := hid h3
            have HST := hid hst
            clear hbk3 hI1 hI2 k3 h3 hst hb3 hTk hszj hI
            go_wp2_with fail
            rw [← hW3]
            refine (writeByteW_any B b _ x 32 W3 H3.out (by have := HLEN.out; simp; omega) (by have := HK3.out.1.size; omega)).mono ?_
            rintro e w4 ⟨rfl, h4, k4⟩
            have hb4 := k4.cells HB3.out hne3 (by decide)
            have r0 : w4.cell? ⟨wr.heap.size, 0, none⟩ = some (.int .i64 r1) := by rw [Lib.cell_of_heap hb4]; rfl
            have r1' : w4.cell? ⟨wr.heap.size, 1, none⟩ = some (.int .i64 t1) := by rw [Lib.cell_of_heap hb4]; rfl
            have r2 : w4.cell? ⟨wr.heap.size, 2, none⟩ = some (.int .i64 k1) := by rw [Lib.cell_of_heap hb4]; rfl
            have r3 : w4.cell? ⟨wr.heap.size, 3, none⟩ = some (.bool e1) := by rw [Lib.cell_of_heap hb4]; rfl
            have r4 : w4.cell? ⟨wr.heap.size, 4, none⟩ = some (.slice A1 n1 c1) := by rw [Lib.cell_of_heap hb4]; rfl
            have H4 := hid h4
            have K4 := hid k4
            clear h4 k4 hb4 p0 p1 p2 p3 p4
            go_wp2_with fail
            refine (HIH.out _ w4 (.inr H4.out) (HK3.out.trans K4.out) (by simp; omega)).mono ?_
            rintro e w5 ⟨rfl, h5, k5⟩
            go_wp2_with fail
            go_roundw
            case rel =>
              refine ⟨j + 1, by omega, by go_num, hid ⟨?_, HI2.out.trans ((HK3.out.trans K4.out).trans k5)⟩⟩
              rw [HST.out, if_neg (by simp)]
              simpa using h5
            case measure => simp [intOf]; omega
          · obtain rfl : j = subs.length := by omega
            rw [List.take_length] at hI1 hlr
            clear hI
            go_wp2_with fail
            refine (writeByteW_any B b _ x 41 wr (.inr hI1) (by have := HLEN.out; simp; omega) hBr).mono ?_
            rintro e w3 ⟨rfl, h3, k3⟩
            go_wp2_with fail
            go_end0
            refine ⟨rfl, ?_, hI2.trans k3⟩
            rw [HL1.out] at h3
            rw [Rp.treeT, if_neg hr1, if_neg (show ¬ r < -1 by omega)]
            simpa using h3
end Go.Proofs.YtcbilcfieoibbaaGreatDoor
