/-
  Problems as text: the reference's walk.
-/
import Derived.Test.YtcbilcfieoibbaaGreatDoorRep9
namespace Go.Proofs.YtcbilcfieoibbaaGreatDoor
open Go.RowKit
open Go.Sort (grow)
set_option maxRecDepth 100000
set_option maxHeartbeats 8000000 in
theorem refProb_any (gn : ByteArray) (g1 g2 : Int) (A : Option Addr) (c : Nat) (l : List RuP) (code : Nat) (i : Int) (named : List UInt8) (w : World) (hT : TB w.heap.size w) (hG : GRR w w.heap.size A l) (hl : ∀ r ∈ l, r.ok) (hc : code < 256) (hi : i64b i) (hn : named.length ≤ 140737488351232) :
    Calls Tryz.prog 10 #[.agg #[.string gn, .int .i64 g1, .int .i64 g2, .slice A l.length c], .int .i64 (code : Nat), .int .i64 i, .string ⟨named.toArray⟩] w fun e w' => e = .returned (.string ⟨(probT l code i named).toArray⟩) ∧ Below w.heap.size w w' := by
  obtain ⟨w1, hw1⟩ : ∃ w1, w1 = w.alloc (.cells #[.string gn, .int .i64 g1, .int .i64 g2, .slice A l.length c] 31) := ⟨_, rfl⟩
  have hb1 : Below w.heap.size w w1 := by rw [hw1]; exact below_new _ _
  have hs1 : w1.heap.size = w.heap.size + 1 := by rw [hw1]; simp
  have k3 : w1.cell? ⟨w.heap.size, 3, none⟩ = some (.slice A l.length c) := by rw [hw1]; simp
  go_enter Tryz.func10, Tryz.ntmps10
  go_upto_region 3 with fail
  rw [← hw1]
  clear hw1
  go_cut [19] from 11 (fun b wx => wx = w1 ∧ b = .bool (decide (0 ≤ i ∧ i < l.length)))
  case first =>
    by_cases h0 : 0 ≤ i
    · have d0 : decide ((0 : Int) ≤ i) = true := decide_eq_true h0
      go_wp2_with fail
      go_meet
      case rel => exact ⟨rfl, by simp [h0]⟩
    · have d0 : decide ((0 : Int) ≤ i) = false := decide_eq_false h0
      go_wp2_with fail
      go_meet
      case rel => exact ⟨rfl, by simp; omega⟩
  case rest =>
  obtain ⟨rfl, rfl⟩ := hcut
  go_upto_if 19 with fail
  go_cut [9, 10] from 11 (fun at' r wx => Hid (Below wc.heap.size wc wx) ∧ r = .string ⟨(nmP l i).toArray⟩ ∧ at' = .string ⟨(atP l i).toArray⟩)
  case first =>
    by_cases h0 : 0 ≤ i ∧ i < l.length
    · obtain ⟨k, rfl⟩ : ∃ k : Nat, i = k := ⟨i.toNat, by omega⟩
      have hk : k < l.length := by omega
      rw [show decide ((0 : Int) ≤ (k : Int) ∧ (k : Int) < l.length) = true from decide_eq_true h0]
      obtain ⟨b, off, rfl, hbl, x0, x7, x8, x9⟩ := (hG.below hb1) k hk
      have hok := hl l[k] (List.getElem_mem hk)
      have HN := hid (nmP_in hk)
      have HA := hid (atP_in hk)
      have hk2 : (k : Int) < l.length := by omega
      go_wp2_with fail
      refine (refPlace_any l[k].at0 l[k].line l[k].col hok.2.1 hok.2.2 wc (hT.next hb1)).mono ?_
      rintro e w2 ⟨rfl, hb2⟩
      have y3 := (hb2.cell (p := ⟨w.heap.size, 3, none⟩) (by show w.heap.size < _; omega)).trans k3
      have y0 := (hb2.cell (p := ⟨b, off + k * 10, none⟩) (by show b < _; omega)).trans x0
      have HB := hid hb2
      clear hb2
      go_wp2_with fail
      go_meet
      case rel => exact ⟨HB, by rw [HN.out], by rw [HA.out]⟩
    · rw [show decide ((0 : Int) ≤ i ∧ i < l.length) = false from decide_eq_false h0]
      have HN := hid (nmP_out (l := l) (i := i) (by omega))
      have HA := hid (atP_out (l := l) (i := i) (by omega))
      go_wp2_with fail
      go_meet
      case rel => exact ⟨hid (Below.refl _ _), by rw [HN.out], by rw [HA.out]⟩
  case rest =>
  rename World => wd
  obtain ⟨hb2, rfl, rfl⟩ := hcut
  have hbd := hb2.out
  have hTd := (hT.next hb1).next hbd
  have hbw := hb1.trans (hbd.mono hb1.size)
  have hal := atP_len l hl i
  have hnl := nmP_len l hl i
  have hil := Lib.itoa_length_le (code : Int) (by omega) (by omega)
  have hPT : probT l code i named = if 9 ≤ code ∨ code = 0 then atP l i ++ [112, 114, 111, 98, 108, 101, 109, 32] ++ Lib.itoa code else atP l i ++ fillT (nmP l i) named (texts.getD code []) := rfl
  generalize atP l i = AT at *
  generalize nmP l i = NM at *
  have HPT := hid hPT
  clear hPT
  have z1 : ¬ 9223372036854775807 < AT.length + 8 := by omega
  have z2 : ¬ 9223372036854775807 < AT.length + 8 + (Lib.itoa (code : Int)).length := by omega
  have y1 : ¬ 9223372036854775807 < AT.length + named.length := by omega
  have y2 : ¬ 9223372036854775807 < AT.length + named.length + 17 := by omega
  have y3 : ¬ 9223372036854775807 < AT.length + NM.length := by omega
  have y4 : ¬ 9223372036854775807 < AT.length + NM.length + 14 := by omega
  have y5 : ¬ 9223372036854775807 < AT.length + NM.length + 14 + named.length := by omega
  have y6 : ¬ 9223372036854775807 < AT.length + NM.length + 2 := by omega
  have y7 : ¬ 9223372036854775807 < AT.length + NM.length + 2 + named.length := by omega
  have y8 : ¬ 9223372036854775807 < AT.length + NM.length + 2 + named.length + 17 := by omega
  have y9 : ¬ 9223372036854775807 < AT.length + NM.length + 32 := by omega
  have y10 : ¬ 9223372036854775807 < AT.length + NM.length + 13 := by omega
  have y11 : ¬ 9223372036854775807 < AT.length + NM.length + 27 := by omega
  have y12 : ¬ 9223372036854775807 < AT.length + 28 := by omega
  have HBW := hid hbw
  by_cases h9 : 9 ≤ code ∨ code = 0
  · have e1 : ((code : Int) == 1) = false := by simp; omega
    have e2 : ((code : Int) == 2) = false := by simp; omega
    have e3 : ((code : Int) == 3) = false := by simp; omega
    have e4 : ((code : Int) == 4) = false := by simp; omega
    have e5 : ((code : Int) == 5) = false := by simp; omega
    have e6 : ((code : Int) == 6) = false := by simp; omega
    have e7 : ((code : Int) == 7) = false := by simp; omega
    have e8 : ((code : Int) == 8) = false := by simp; omega
    go_wp2_with fail
    refine (itoa_any (code : Int) (by omega) (by omega) wd hTd).mono ?_
    rintro e w3 ⟨rfl, hb3⟩
    go_wp2_with fail
    go_ret
    refine ⟨?_, hbw.trans (hb3.mono hbw.size)⟩
    rw [HPT.out, if_pos h9]
    rfl
  · clear z1 z2 hil hb2 hbd hTd hbw
    obtain rfl | rfl | rfl | rfl | rfl | rfl | rfl | rfl : code = 1 ∨ code = 2 ∨ code = 3 ∨ code = 4 ∨ code = 5 ∨ code = 6 ∨ code = 7 ∨ code = 8 := by omega
    all_goals (
      go_wp2_with fail
      go_ret
      refine ⟨?_, HBW.out⟩
      rw [HPT.out, if_neg (by decide)]
      refine congrArg (fun b => Ending.returned (Value.string b)) (ByteArray.ext ?_)
      simp [fillT, texts])
end Go.Proofs.YtcbilcfieoibbaaGreatDoor
