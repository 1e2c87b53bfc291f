/-
  SubsetsApart: the walk.
-/
import Derived.Test.YtoclbcfgfaialaaGreatDoorSubApart
namespace Go.Proofs.YtoclbcfgfaialaaGreatDoor
open Go.RowKit
set_option maxRecDepth 100000
theorem cells3 {w : World} {b : Nat} {T : TypeId} {x0 x1 x2 : Value} (h : w.heap[b]? = some (.cells #[x0, x1, x2] T (0, 0))) :
    w.cell? ⟨b, 0, none⟩ = some x0 ∧ w.cell? ⟨b, 1, none⟩ = some x1 ∧ w.cell? ⟨b, 2, none⟩ = some x2 := by
  refine ⟨?_, ?_, ?_⟩ <;> (rw [Lib.cell_of_heap h]; rfl)
set_option maxHeartbeats 6400000 in
theorem apartW_any (a : Au) (PA FA : Option Addr) (cp cf : Nat) (w : World) (hn : a.places.length ≤ 140737488351232) (hf : a.first.length ≤ 140737488351232) (hpf : Hid (∀ p ∈ a.places, p.follow.length ≤ 140737488351232 ∧ p.set.length ≤ 140737488351232))
    (hwf : Hid (WfL (a.places.map (·.set)).flatten)) (hp : PlsR w w.heap.size PA a.places) (hr : Reads w w.heap.size 1 FA a.first.length (a.first.map (Value.int .i64))) :
    Calls Tryz.prog 4 #[.agg #[.slice PA a.places.length cp, .slice FA a.first.length cf, .int .i64 a.kinds]] w fun e w' => e = .returned (.bool true) ∧ Below w.heap.size w w' := by
  obtain ⟨q, hq⟩ : ∃ q, Hid (hugeB a = q) := ⟨_, rfl⟩
  obtain ⟨wx, hwx⟩ : ∃ wx, Hid (w.alloc (.cells #[.slice PA a.places.length cp, .slice FA a.first.length cf, .int .i64 a.kinds] 25) = wx) := ⟨_, rfl⟩
  have hb : Below w.heap.size w wx := by rw [← hwx.out]; exact below_new _ _
  have hs : w.heap.size < wx.heap.size := by rw [← hwx.out]; simp
  have hA : wx.heap[w.heap.size]? = some (.cells #[.slice PA a.places.length cp, .slice FA a.first.length cf, .int .i64 a.kinds] 25 (0, 0)) := by rw [← hwx.out]; exact heap_alloc_new _ _
  have hp := hp.next hb
  have hr := hr.next hb
  obtain ⟨c0, c1, c2⟩ := cells3 hA
  go_enter Tryz.func4, Tryz.ntmps4
  go_wp2_with fail
  rw [hwx.out]
  clear hwx
  refine (huge_any a PA FA cp cf q wx hn hf hpf hp hq).mono ?_
  rintro e w1 ⟨rfl, hb1⟩
  have hbw : Below w.heap.size w w1 := hb.trans (hb1.mono hb.size)
  have hA := (hb1.block _ hs).trans hA
  have hs := Nat.lt_of_lt_of_le hs hb1.size
  have hp := hp.next hb1
  have hr := hr.next hb1
  clear c0 c1 c2 hb hb1
  obtain ⟨c0, c1, c2⟩ := cells3 hA
  cases q with
  | true =>
    go_wp2_with fail
    refine (lives9_any _).mono ?_
    rintro e w2 ⟨rfl, hb2⟩
    go_wp2_with fail
    go_ret
    exact ⟨rfl, hbw.trans (hb2.mono hbw.size)⟩
  | false =>
    by_cases hmany : 40 < a.places.length
    · have h1 : (40 : Int) < (a.places.length : Int) := by omega
      go_wp2_with fail
      refine (lives9_any _).mono ?_
      rintro e w2 ⟨rfl, hb2⟩
      go_wp2_with fail
      go_ret
      exact ⟨rfl, hbw.trans (hb2.mono hbw.size)⟩
    · have h1 : ¬ (40 : Int) < (a.places.length : Int) := by omega
      have hh := hq.out
      have hsl := hugeB_sets hh
      have hfl : a.first.length ≤ 1000000 := by
        have := (hugeB_no hh).1
        unfold totOf at this
        omega
      have hpf2 : Hid (∀ p ∈ a.places, p.follow.length ≤ 1000000) := hid fun p hp' => by have := (hugeB_place hh hp').1; omega
      have HH := hid hh
      clear hh
      go_wp2_with fail
      refine (of_any a PA FA cp cf w1 (by omega) hfl hpf2 (by omega) hwf.out hp hr).mono ?_
      rintro e w2 ⟨hb2, h⟩
      have hbw2 : Below w.heap.size w w2 := hbw.trans (hb2.mono hbw.size)
      rcases h with ⟨_, rfl⟩ | ⟨_, _, rfl⟩ | ⟨hmay, m, rows, RA, CA, NA, EA, gs, ht, rfl, hT⟩
      · clear c0 c1 c2 hp hr hA hb2 hbw
        unfold emptyT
        go_wp2_with fail
        refine (lives9_any _).mono ?_
        rintro e w3 ⟨rfl, hb3⟩
        go_wp2_with fail
        go_ret
        exact ⟨rfl, hbw2.trans ((below_drop hb3).mono hbw2.size)⟩
      · clear c0 c1 c2 hp hr hA hb2 hbw
        unfold emptyT
        go_wp2_with fail
        refine (lives9_any _).mono ?_
        rintro e w3 ⟨rfl, hb3⟩
        go_wp2_with fail
        go_ret
        exact ⟨rfl, hbw2.trans ((below_drop hb3).mono hbw2.size)⟩
      · have hG := goodT_of hmay (by omega) hwf.out ht
        have hI := (tableM_law hmay ht).1
        have hTab := hT.tab
        have hop := (tableM_law hmay ht).2.1
        unfold tableV
        clear c0 c1 c2 hp hr hA hT ht
        rw [hG.el]
        have HI := hid hI
        have HOP := hid hop
        clear hI hop
        generalize rsOf a = rs at hG hTab ⊢
        generalize m.ends = ends at hG hTab
        have HG := hid hG
        clear hG
        obtain ⟨n, hnn⟩ : ∃ n, Hid (rs.length = n) := ⟨_, rfl⟩
        obtain ⟨k, hkk⟩ : ∃ k, Hid (rows.length = k) := ⟨_, rfl⟩
        rw [hnn.out, hkk.out]
        have hn1 : n ≤ 10000000 := by rw [← hnn.out]; exact HG.out.few
        have hk1 : 1 ≤ k := by rw [← hkk.out]; exact HG.out.one
        have hk2 : k ≤ 1000000 := by rw [← hkk.out]; exact HG.out.few2
        obtain ⟨w3, hw3⟩ : ∃ w3, Hid (w2.alloc (.cells #[.slice RA n n, .slice CA n n, .slice NA k k, .slice EA k k] 43) = w3) := ⟨_, rfl⟩
        have h0 : w3.heap[w2.heap.size]? = some (.cells #[.slice RA n n, .slice CA n n, .slice NA k k, .slice EA k k] 43 (0, 0)) := by rw [← hw3.out]; exact heap_alloc_new _ _
        have hb3 : Below w2.heap.size w2 w3 := by rw [← hw3.out]; exact below_new _ _
        have hTab := hTab.next hb3
        have hbw3 := hbw2.trans (hb3.mono hbw2.size)
        have hs := heap_lt h0
        have htb : w.heap.size ≤ w2.heap.size := hbw2.size
        generalize htbe : w2.heap.size = tb at h0 hs htb
        have HTB := hid htbe
        clear htbe
        clear hb3 hbw hbw2 hb2
        go_wp2_with fail
        rw [hw3.out, HTB.out]
        clear hw3
        refine (may_good RA CA NA EA n n k k n k rs rows ends _ hnn hkk HG hTab).mono ?_
        rintro e w4 ⟨rfl, hb4⟩
        have h0 := (hb4.block _ hs).trans h0
        have hs := Nat.lt_of_lt_of_le hs hb4.size
        have hTab := hTab.next hb4
        have hbw4 := hbw3.trans (hb4.mono hbw3.size)
        clear hb4 hbw3
        obtain ⟨r0, r1, r2, r3, z0, z1, z2, z3⟩ := cells4 h0
        have hmkb : ∀ u : World, (Instr.makeSlice 56 (.int .i64 (k : Int)) (.int .i64 (k : Int))).run Tryz.prog u = .ok (.slice (some ⟨u.heap.size, 0, none⟩) k k) (u.alloc (.cells (Array.replicate k (Value.bool false)) 4)) := fun u => by
          obtain ⟨i3, hi3, hz3, hs3, hy3⟩ := info_parts infoBool
          have h := run_make (P := Tryz.prog) u 56 4 i3 (.bool false) Tryz.underlying56 hi3 hz3 .i64 .i64 (k : Int) (k : Int) (by omega) (Int.le_refl _) (by rw [hy3]; omega) (by omega)
          have e : (k : Int).toNat = k := by omega
          rw [e] at h
          rw [← made_bool]
          simpa [hs3, Value.cells] using h
        have hm0 : (w4.alloc (.cells (Array.replicate k (Value.bool false)) 4)).cell? ⟨w4.heap.size, 0, none⟩ = some (.bool false) := by
          rw [cell_new, Array.getElem?_replicate, if_pos (by omega)]
        have hm1 : (w4.alloc (.cells (Array.replicate k (Value.bool false)) 4)).frozen? ⟨w4.heap.size, 0, none⟩ = false := frozen_new _ _ _ _
        go_wp2_with fail
        clear hm0 hm1 hmkb
        obtain ⟨w5, hw5⟩ : ∃ w5, Hid (w4.alloc (.cells ((Array.replicate k (Value.bool false)).setIfInBounds 0 (Value.bool true)) 4) = w5) := ⟨_, rfl⟩
        have q0 : w5.heap[w4.heap.size]? = some (.cells ((Array.replicate k (Value.bool false)).setIfInBounds 0 (Value.bool true)) 4 (0, 0)) := by rw [← hw5.out]; exact heap_alloc_new _ _
        have hb5 : Below w4.heap.size w4 w5 := by rw [← hw5.out]; exact below_new _ _
        rw [hw5.out]
        clear hw5
        have hbA : BoolsAt w5 w4.heap.size k (Rch rows 0 0) := by
          refine ⟨(List.replicate k false).set 0 true, by simp, ?_, fun j hj hp => ?_⟩
          · rw [q0]
            congr 2
            apply Array.ext'
            simp [List.map_set]
          · rcases hp with rfl | ⟨q, _, hq, _⟩ | ⟨row, _, h⟩
            · rw [List.getElem?_set_self (by simp; omega)]
            · omega
            · simp at h
        clear q0
        generalize hrb : w4.heap.size = rb at hs hTab hb5 hbA ⊢
        have HRB := hid hrb
        clear hrb z0 z1 z2 z3 r0 r3 h0
        have hrbk : w.heap.size ≤ rb := by rw [← HRB.out]; exact hbw4.size
        go_loopw [6] (fun i wr => ∃ s : Nat, s ≤ k ∧ i = .int .i64 s ∧ BoolsAt wr rb k (Rch rows s 0) ∧ Below rb w4 wr) (fun i _ => k - (intOf i).toNat)
        case atStart => exact ⟨0, Nat.zero_le _, rfl, hbA, hb5⟩
        case round =>
          obtain ⟨s, hsk, rfl, hbo, hbr⟩ := hrel
          have t1 := (hbr.cell (p := ⟨tb, 1, none⟩) hs).trans r1
          have t2 := (hbr.cell (p := ⟨tb, 2, none⟩) hs).trans r2
          by_cases hlt : s < k
          · have hrs : s < rows.length := by rw [hkk.out]; exact hlt
            have HSR : Hid (rows[s]? = some rows[s]) := hid (List.getElem?_eq_getElem hrs)
            have hrow := HG.out.row _ (List.getElem_mem hrs)
            have hcl := HI.out.cell _ (List.getElem_mem hrs)
            have hreach : Rch rows s 0 s := by
              by_cases e : s = 0
              · exact .inl e
              · obtain ⟨q, hq, hql, hqm⟩ := HI.out.come s (by omega) (by rw [← HOP.out]; exact hrs)
                exact .inr (.inl ⟨q, _, hq, List.getElem?_eq_getElem hql, hqm⟩)
            obtain ⟨b, hc0, hc1, hc2⟩ := hbo.cell s hlt
            obtain rfl := hc2 hreach
            clear hc2 hreach
            obtain ⟨b2, off2, Ai, ci, rfl, hbl2, v1, rA⟩ := (hTab.nxt.below hbr).at s hrs
            rw [hrow, hnn.out] at v1
            rw [hnn.out] at hrow
            rw [← HOP.out, hkk.out] at hcl
            generalize rows[s] = row at HSR hrow hcl rA
            have HROW := hid hrow
            have HCL := hid hcl
            clear hcl
            rw [hrow] at rA
            clear hrow
            have hcls := hTab.cls
            rw [hnn.out] at hcls
            go_wp2_with fail
            obtain ⟨wo, hwo⟩ : ∃ wo : World, wo = wr := ⟨_, rfl⟩
            subst hwo
            clear hc0 hc1
            go_loopw [7] (fun c wi => ∃ j : Nat, j ≤ n ∧ c = .int .i64 j ∧ BoolsAt wi rb k (Rch rows s j) ∧ Below rb wo wi) (fun c _ => n - (intOf c).toNat)
            case atStart => exact ⟨0, Nat.zero_le _, rfl, hbo, Below.refl _ _⟩
            case round =>
              obtain ⟨j, hjn, rfl, hbi, hbj⟩ := hrel
              have u1 := (hbj.cell (p := ⟨tb, 1, none⟩) hs).trans t1
              have u2 := (hbj.cell (p := ⟨tb, 2, none⟩) hs).trans t2
              have v2 := (hbj.cell (p := ⟨b2, off2 + s, none⟩) hbl2).trans v1
              by_cases hjl : j < n
              · obtain ⟨b3, off3, rfl, hbl3, y0⟩ := readsC (w' := wr) hcls (hbr.trans hbj) j hjl
                have hj2 : j < row.length := by rw [HROW.out]; exact hjl
                obtain ⟨b4, off4, hAi, hbl4, y1⟩ := readsZ (l := row) (w := wo) (w' := wr) (by rw [HROW.out]; exact rA) hbj j hj2
                subst hAi
                have hx := HCL.out _ (List.getElem_mem hj2)
                have HGX : Hid (∀ i, Rch rows s (j + 1) i → Rch rows s j i ∨ (i : Int) = row[j]) := hid fun i hi => hi.cell HSR.out hj2
                generalize row[j] = x at y1 hx HGX
                have hx0 : (x == 0) = false := by rw [beq_eq_false_iff_ne]; omega
                by_cases hxp : 0 < x
                · obtain ⟨y, rfl⟩ : ∃ y : Nat, x = y := ⟨x.toNat, by omega⟩
                  have hyk : y < k := by omega
                  obtain ⟨b, g0, g1, _⟩ := hbi.cell y hyk
                  have hset := hbi.set y hyk
                  go_wp2
                  go_roundw
                  case rel => exact ⟨j + 1, by omega, by go_num, hset.weak fun i _ hi => (HGX.out i hi).imp id fun e => by omega, hbj.setCell (Nat.le_refl _) _⟩
                  case measure => simp [intOf]; omega
                · have hxm : x = -1 := by omega
                  subst hxm
                  go_wp2
                  go_roundw
                  case rel => exact ⟨j + 1, by omega, by go_num, hbi.weak fun i _ hi => (HGX.out i hi).elim id fun e => by omega, hbj⟩
                  case measure => simp [intOf]; omega
              · obtain rfl : j = n := by omega
                go_wp2
                go_roundw
                case rel =>
                  refine ⟨s + 1, by omega, by go_num, hbi.weak fun i _ hi => ?_, hbr.trans hbj⟩
                  have := hi.next HSR.out
                  rw [HROW.out] at this
                  exact this
                case measure => simp [intOf]; omega
          · go_wp2_with fail
            refine (lives9_any _).mono ?_
            rintro e w6 ⟨rfl, hb6⟩
            have hfin : Below w.heap.size w w6 := (hbw4.trans (hbr.mono hrbk)).trans (hb6.mono (by have := hbr.size; rw [HRB.out] at this; omega))
            go_wp2_with fail
            go_ret
            exact ⟨rfl, hfin⟩
end Go.Proofs.YtoclbcfgfaialaaGreatDoor
