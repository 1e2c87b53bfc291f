/-
  Subsets: the document's Of: the walk.
-/
import Derived.Test.YtoclbcfgfaialaaGreatDoorSubRef3
import Derived.Test.YtoclbcfgfaialaaGreatDoorRefSplit
namespace Go.Proofs.YtoclbcfgfaialaaGreatDoor
open Go.RowKit
set_option maxRecDepth 100000
theorem beq_cast (s : Nat) : (s == 0) = ((s : Int) == 0) := by
  rcases Nat.eq_zero_or_pos s with e | e
  · subst e; rfl
  · rw [beq_eq_false_iff_ne.2 (show s ≠ 0 by omega), beq_eq_false_iff_ne.2 (show (s : Int) ≠ 0 by omega)]
theorem cells3b {w : World} {b : Nat} {T : TypeId} {x0 x1 x2 : Value} (h : w.heap[b]? = some (.cells #[x0, x1, x2] T (0, 0))) :
    w.cell? ⟨b, 0, none⟩ = some x0 ∧ w.cell? ⟨b, 1, none⟩ = some x1 ∧ w.cell? ⟨b, 2, none⟩ = some x2 := by
  refine ⟨?_, ?_, ?_⟩ <;> (rw [Lib.cell_of_heap h]; rfl)
def RefPost (a : Au) (w : World) (e : Ending) (w' : World) : Prop :=
  Below w.heap.size w w' ∧
  ((mayB a = false ∧ e = .returned (.tuple #[emptyT, .int .i64 1])) ∨
   (mayB a = true ∧ refL a (rsOf a) 4098 0 start0 [] = .limit ∧ e = .returned (.tuple #[emptyT, .int .i64 3])) ∨
   (mayB a = true ∧ refL a (rsOf a) 4098 0 start0 [] = .depth ∧ e = .returned (.tuple #[emptyT, .int .i64 7])) ∨
   (mayB a = true ∧ ∃ m rows RA rc CA cc NA nc EA ec, refL a (rsOf a) 4098 0 start0 [] = .done m rows ∧ e = .returned (.tuple #[.agg #[.slice RA (rsOf a).length rc, .slice CA (rsOf a).length cc, .slice NA rows.length nc, .slice EA m.ends.length ec], .int .i64 0]) ∧ TabR w' w'.heap.size RA CA NA EA (rsOf a) rows m.ends))
set_option maxHeartbeats 12800000 in
theorem refOf_any (a : Au) (PA FA : Option Addr) (cp cf : Nat) (w : World) (hn : a.places.length ≤ 100) (hf : a.first.length ≤ 1000000) (hpf : Hid (∀ p ∈ a.places, p.follow.length ≤ 1000000)) (hsl : (a.places.map (·.set)).flatten.length ≤ 100000) (hwf : WfL (a.places.map (·.set)).flatten)
    (hp : PlsR w w.heap.size PA a.places) (hr : Reads w w.heap.size 1 FA a.first.length (a.first.map (Value.int .i64))) :
    Calls Tryz.prog 7 #[.agg #[.slice PA a.places.length cp, .slice FA a.first.length cf, .int .i64 a.kinds], .int .i64 200] w fun e w' => RefPost a w e w' := by
  obtain ⟨q, hq⟩ : ∃ q, Hid (mayB a = q) := ⟨_, rfl⟩
  have hsl0 := hsl
  obtain ⟨wx, hwx⟩ : ∃ wx, Hid ((w.alloc (.cells #[.slice PA a.places.length cp, .slice FA a.first.length cf, .int .i64 a.kinds] 37)).alloc (.cells #[.slice none 0 0, .slice none 0 0, .slice none 0 0, .slice none 0 0] 31) = wx) := ⟨_, hid rfl⟩
  have hsx : wx.heap.size = w.heap.size + 2 := by rw [← hwx.out]; simp
  have hbx : Below w.heap.size w wx := by rw [← hwx.out]; exact ((Below.refl _ _).alloc (Nat.le_refl _) _).alloc (by simp) _
  have a0 : wx.heap[w.heap.size]? = some (.cells #[.slice PA a.places.length cp, .slice FA a.first.length cf, .int .i64 a.kinds] 37 (0, 0)) := by
    rw [← hwx.out, Below.heap_alloc _ _ _ (by simp), heap_alloc_new]
  have a1 : wx.heap[w.heap.size + 1]? = some (.cells #[.slice none 0 0, .slice none 0 0, .slice none 0 0, .slice none 0 0] 31 (0, 0)) := by
    rw [← hwx.out, ← size_alloc w (.cells #[.slice PA a.places.length cp, .slice FA a.first.length cf, .int .i64 a.kinds] 37), heap_alloc_new]
  have x0 : wx.cell? ⟨w.heap.size, 0, none⟩ = some (.slice PA a.places.length cp) := by rw [Lib.cell_of_heap a0]; rfl
  have x1 : wx.cell? ⟨w.heap.size, 1, none⟩ = some (.slice FA a.first.length cf) := by rw [Lib.cell_of_heap a0]; rfl
  have x2 : wx.cell? ⟨w.heap.size, 2, none⟩ = some (.int .i64 a.kinds) := by rw [Lib.cell_of_heap a0]; rfl
  go_enter Tryz.func7, Tryz.ntmps7
  go_wp2_with fail
  rw [hwx.out]
  clear hwx
  go_wp2_with fail
  refine (mayPlaces_any a PA FA cp cf q wx (by omega) (by omega) (hid fun p hp' => by have := hpf.out p hp'; omega) ((hp.below hbx).more (by omega)) (hr.next hbx) hq).mono ?_
  rintro e w1 ⟨rfl, hb1⟩
  have hbw : Below w.heap.size w w1 := hbx.trans (hb1.mono hbx.size)
  have hs1 : w.heap.size + 2 ≤ w1.heap.size := by have := hb1.size; omega
  have b0 := (hb1.block w.heap.size (by omega)).trans a0
  have b1 := (hb1.block (w.heap.size + 1) (by omega)).trans a1
  clear a0 a1 hb1 hbx hsx x0 x1 x2
  cases q with
  | false =>
    obtain ⟨r0, r1, r2, r3, z0, z1, z2, z3⟩ := cells4 b1
    obtain ⟨w2, hw2, c1, ho2⟩ := set4 w1 (w.heap.size + 1) _ _ _ _ _ (.slice none 0 0) (.slice none 0 0) (.slice none 0 0) (.slice none 0 0) b1
    go_wp2_with fail
    rw [hw2.out]
    obtain ⟨s0, s1, s2, s3, _⟩ := cells4 c1
    clear hw2 r0 r1 r2 r3 z0 z1 z2 z3
    exact bodyPost_ret (v := .tuple #[emptyT, .int .i64 1]) (by simp [results, Tryz.results7, go_sem, s0, s1, s2, s3, emptyT]) rfl ⟨ho2.below (fun j e => by omega) hbw (by omega), .inl ⟨hq.out, rfl⟩⟩
  | true =>
    have p0 : w1.cell? ⟨w.heap.size, 0, none⟩ = some (.slice PA a.places.length cp) := by rw [Lib.cell_of_heap b0]; rfl
    obtain ⟨vs, hvr, hvp⟩ := hp
    obtain ⟨iS, hiS, hzS, hsS, hyS⟩ := info_parts infoS
    go_wp2_with fail
    go_loopw [6, 7] (fun u i wr => ∃ k : Nat, k ≤ a.places.length ∧ i = .int .i64 k ∧ wr.ownsRow w1.heap.size 28 1 u k ((List.range k).map fun j => vs.getD (j * 4) undef) ∧ Below w1.heap.size w1 wr) (fun _ i _ => a.places.length - (intOf i).toNat)
    case atStart => exact ⟨0, Nat.zero_le _, rfl, World.ownsRow_nil w1 _ _ _, Below.refl _ _⟩
    case round =>
      obtain ⟨k, hk, rfl, hown, hb⟩ := hrel
      have hsz := hb.size
      have p0' := (hb.cell (p := ⟨w.heap.size, 0, none⟩) (show w.heap.size < w1.heap.size by omega)).trans p0
      by_cases hlt : k < a.places.length
      · obtain ⟨SA, cs, FA', cf', e0, e1, e2, e3, _, _⟩ := hvp k hlt
        obtain ⟨b, off, rfl, hbl, hc⟩ := hvr.2 (by omega)
        have hbwr : Below w.heap.size w wr := hbw.trans (hb.mono hbw.size)
        have d0 := (hbwr.cell (p := ⟨b, off + k * 4, none⟩) hbl).trans (hc _ _ e0)
        have HE : Hid ((List.range (k + 1)).map (fun j => vs.getD (j * 4) undef) = (List.range k).map (fun j => vs.getD (j * 4) undef) ++ [.slice SA a.places[k].set.length cs]) := hid (by
          rw [List.range_succ, List.map_append, List.map_singleton, List.getD_eq_getElem?_getD, e0]; rfl)
        have hlk : ((List.range k).map fun j => vs.getD (j * 4) undef).length = k * 1 := by simp
        have HK := hid hlk
        clear hlk e0 e1 e2 e3 hc
        generalize a.places[k] = x at d0 HE
        generalize (List.range k).map (fun j => vs.getD (j * 4) undef) = xs at hown HE HK
        have hmx : k + 1 ≤ maxLen := by simp only [maxLen]; omega
        have hmy : (k + 1) * 24 ≤ 140737488355328 := by omega
        go_wp2_with (at_builtin; go_must (refine wpList_push _ rfl _ _ 60 rfl w1.heap.size 28 iS _ 1 24 Tryz.underlying60 hiS hzS hsS hyS rfl (by omega) u6 k xs rfl hown [.slice SA x.set.length cs] 1 wr.heap.size rfl (by simp) rfl (by simp [Value.oneCell']) hmx hmy (by omega) ?_); intro v' w' hown' hsz' hB')
        go_roundw
        case rel => exact ⟨k + 1, by omega, by go_num, by rw [HE.out]; exact hown', hB' _ hb⟩
        case measure => simp [intOf]; omega
      · have hkl : k = a.places.length := by omega
        subst hkl
        obtain ⟨Au, cu, rfl, hru, _⟩ := Reads.own hown
        have hll := sets_ll hvp (hbw.trans (hb.mono hbw.size)) (by omega) hru
        have hrs : splitOf ((a.places.map (·.set)).map neatOf) = rsOf a := rfl
        have hsets : (a.places.map (·.set)).length = a.places.length := by simp
        have HB := hid hb
        have hrl0 := rsOf_len a hsl0
        generalize a.places.map (·.set) = sets at hll hsl hwf hrs hsets
        have HRS0 := hid hrs
        clear hrs
        go_wp2_with fail
        have hsp := refSplit_any Au cu sets (rsOf a) wr (by omega) hsl hwf HRS0 hll
        rw [hsets] at hsp
        clear hsets
        refine hsp.mono ?_
        rintro e w3 ⟨RA, rc, rfl, hrng, hb3⟩
        clear hsp hll hru hown hb HRS0 hsl hwf
        have hbw3 : Below w.heap.size w w3 := hbw.trans ((HB.out.trans (hb3.mono hsz)).mono hbw.size)
        have hb13 : Below w1.heap.size w1 w3 := HB.out.trans (hb3.mono hsz)
        have HVP := hid hvp
        clear hvp hb3 HB
        have hpls : PlsR w w.heap.size PA a.places := ⟨vs, hvr, HVP.out⟩
        generalize hrs : rsOf a = rs at hrng hrl0 ⊢
        have HRS := hid hrs
        clear hrs
        have hs3 : w.heap.size + 2 ≤ w3.heap.size := by have := hb13.size; omega
        obtain ⟨w4, hw4⟩ : ∃ w4, Hid ((w3.alloc (.cells #[.int .i64 (-1)] 3)).alloc (.cells #[.slice RA rs.length rc, .slice none 0 0, .slice none 0 0, .slice (some ⟨w3.heap.size, 0, none⟩) 1 1] 31) = w4) := ⟨_, hid rfl⟩
        have hs4 : w4.heap.size = w3.heap.size + 2 := by rw [← hw4.out]; simp
        have hb4 : Below w3.heap.size w3 w4 := by rw [← hw4.out]; exact ((Below.refl _ _).alloc (Nat.le_refl _) _).alloc (by simp) _
        have g0 : w4.heap[w3.heap.size]? = some (.cells #[.int .i64 (-1)] 3 (0, 0)) := by rw [← hw4.out, Below.heap_alloc _ _ _ (by simp), heap_alloc_new]
        have g1 : w4.heap[w3.heap.size + 1]? = some (.cells #[.slice RA rs.length rc, .slice none 0 0, .slice none 0 0, .slice (some ⟨w3.heap.size, 0, none⟩) 1 1] 31 (0, 0)) := by
          rw [← hw4.out, ← size_alloc w3 (.cells #[.int .i64 (-1)] 3), heap_alloc_new]
        go_wp2_with fail
        rw [hw4.out]
        clear hw4
        obtain ⟨i2, hi2, hz2, hsz2, hy2⟩ := info_parts infoInt
        obtain ⟨i3, hi3, hz3, hsz3, hy3⟩ := info_parts infoInts
        generalize htbe : w3.heap.size + 1 = tb at g1 ⊢
        have HTB := hid htbe
        clear htbe
        go_loopw [9] (fun i wr => ∃ k : Nat, k ≤ rs.length ∧ i = .int .i64 k ∧ ∃ vc, wr.heap[tb]? = some (.cells #[.slice RA rs.length rc, vc, .slice none 0 0, .slice (some ⟨w3.heap.size, 0, none⟩) 1 1] 31 (0, 0)) ∧ wr.ownsRow w4.heap.size 3 1 vc k ((iotaI k).map (Value.int .i64)) ∧ Only (fun j => j = tb) w4 wr) (fun i _ => rs.length - (intOf i).toNat)
        case atStart => exact ⟨0, Nat.zero_le _, rfl, _, g1, World.ownsRow_nil w4 _ _ _, Only.refl _ _⟩
        case round =>
          rename World => wo
          obtain ⟨k, hk, rfl, vc, hblk, hown, ho⟩ := hrel
          have hT := HTB.out
          have hso := ho.size
          have htlt := heap_lt hblk
          obtain ⟨Ac, cc, rfl, hrc, hcc⟩ := Reads.own hown
          obtain ⟨r0, r1, r2, r3, z0, z1, z2, z3⟩ := cells4 hblk
          by_cases hlt : k < rs.length
          · have hmx : k + 1 ≤ maxLen := by simp only [maxLen]; omega
            have hmy : (k + 1) * 8 ≤ 140737488355328 := by omega
            have HBL := hid hblk
            clear hblk hT
            go_wp2_with (at_builtin; go_must (refine wpList_push4 wo rfl _ _ 23 rfl w4.heap.size 3 i2 _ 1 8 Tryz.underlying23 hi2 hz2 hsz2 hy2 rfl (by omega) (.slice Ac k cc) k _ rfl hown [.int .i64 k] 1 wo.heap.size rfl rfl rfl (by simp [Value.oneCell']) Nat.zero_lt_one hmx hmy hso ?_); intro g5 c5 w5 hown5 hg5 ho5; have b5 := (ho5.block tb htlt (row_not hown HBL.out tab_int)).trans HBL.out; have e5 : w5.cell? ⟨tb, 1, none⟩ = some (.slice Ac k cc) := (by rw [Lib.cell_of_heap b5]; rfl); have y5 : w5.frozen? ⟨tb, 1, none⟩ = false := Lib.frozen_of_heap b5 1)
            go_roundw
            case rel =>
              refine ⟨k + 1, by omega, by go_num, _, heap_setCell_same w5 tb 1 _ _ _ b5, ?_, ?_⟩
              · rw [iotaI_snoc, List.map_append]
                exact own_setTb hown5 b5 tab_int
              · refine (ho.trans ho5 fun b hb e => ?_).trans (Only.of_set w5 tb 1 _) fun _ _ e => e
                have := (hown.lt b e).1
                omega
            case measure => simp [intOf]; omega
          · have hkr : k = rs.length := by omega
            subst hkr
            have p0w : wo.cell? ⟨w.heap.size, 0, none⟩ = some (.slice PA a.places.length cp) := (ho.cell (by omega) (by omega)).trans ((hb4.cell (p := ⟨w.heap.size, 0, none⟩) (show w.heap.size < w3.heap.size by omega)).trans ((hb13.cell (p := ⟨w.heap.size, 0, none⟩) (show w.heap.size < w1.heap.size by omega)).trans p0))
            have hmkb : ∀ u : World, (Instr.makeSlice 56 (.int .i64 (a.places.length : Int)) (.int .i64 (a.places.length : Int))).run Tryz.prog u =
                .ok (.slice (some ⟨u.heap.size, 0, none⟩) a.places.length a.places.length) (u.alloc (.cells (Array.replicate a.places.length (Value.bool false)) 4)) := fun u => by
              obtain ⟨i4, hi4, hz4, hs4, hy4⟩ := info_parts infoBool
              have h := run_make (P := Tryz.prog) u 56 4 i4 (.bool false) Tryz.underlying56 hi4 hz4 .i64 .i64 (a.places.length : Int) (a.places.length : Int) (by omega) (Int.le_refl _) (by rw [hy4]; omega) (by omega)
              have e : (a.places.length : Int).toNat = a.places.length := by omega
              rw [e] at h
              rw [← made_bool]
              simpa [hs4, Value.cells] using h
            obtain ⟨w6, hw6⟩ : ∃ w6, Hid ((wo.alloc (.cells (Array.replicate a.places.length (Value.bool false)) 4)).alloc (.cells #[.slice (some ⟨wo.heap.size, 0, none⟩) a.places.length a.places.length] 56) = w6) := ⟨_, hid rfl⟩
            have hs6 : w6.heap.size = wo.heap.size + 2 := by rw [← hw6.out]; simp
            have hb6 : Below wo.heap.size wo w6 := by rw [← hw6.out]; exact ((Below.refl _ _).alloc (Nat.le_refl _) _).alloc (by simp) _
            have k0 : w6.heap[wo.heap.size]? = some (.cells (Array.replicate a.places.length (Value.bool false)) 4 (0, 0)) := by rw [← hw6.out, Below.heap_alloc _ _ _ (by simp), heap_alloc_new]
            have k1 : w6.heap[wo.heap.size + 1]? = some (.cells #[.slice (some ⟨wo.heap.size, 0, none⟩) a.places.length a.places.length] 56 (0, 0)) := by
              rw [← hw6.out, ← size_alloc wo (.cells (Array.replicate a.places.length (Value.bool false)) 4), heap_alloc_new]
            have hclO := OwnC.of hown
            have hst : RefSt ⟨a.places.length, tb, w3.heap.size, RA, rc, Ac, cc, rs, w3⟩ (.slice (some ⟨wo.heap.size + 1, 0, none⟩) 1 1) (.slice (some ⟨w3.heap.size, 0, none⟩) 1 1) (.slice none 0 0) (.slice none 0 0) start0 [] [] w6 := by
              have hb36 : Below w3.heap.size w3 w6 := (ho.below (fun j e => (by omega : w3.heap.size ≤ j)) hb4 (by omega)).trans (hb6.mono (by omega))
              refine RefSt.start (e0 := w3.heap.size) (s0 := wo.heap.size) (s1 := wo.heap.size + 1) ((hb6.block _ htlt).trans hblk) ?_ k0 k1 (by show wo.heap.size ≠ tb; omega) (by omega) (by omega) (Nat.le_refl _) (by show w3.heap.size ≤ wo.heap.size + 1; omega) (by show w3.heap.size ≤ tb; omega) hb36 (by show w3.heap.size ≤ w6.heap.size; omega) ?_ ?_
              · exact (hb6.block _ (by omega)).trans ((ho.block _ (by omega) (by omega)).trans g0)
              · refine RO.of_reads (hrng.below hb36) (by omega) fun b e => ?_
                rcases e with e | e | e
                · have e : b = tb := e
                  omega
                · omega
                · omega
              · refine ⟨hrc.1, fun hn => ?_⟩
                obtain ⟨b, off, hA, hb, hc⟩ := hrc.2 hn
                have hb2 := (hown.lt b (by rw [hA]; rfl)).1
                refine ⟨b, off, hA, by omega, fun e => ?_, fun j u hu => (hb6.cell (p := ⟨b, off + j, none⟩) hb).trans (hc j u hu)⟩
                rcases e with e | e | e
                · have e : b = tb := e
                  omega
                · omega
                · omega
            clear hblk hclO hown hrc z0 z1 z2 z3
            go_wp2_with fail
            rw [hw6.out]
            clear hw6 hmkb r0 r1 r2 r3
            have A3 := (hb13.block _ (by omega)).trans b0
            have R3 := (hb13.block _ (by omega)).trans b1
            have hpls3 : PlsR w3 w3.heap.size PA a.places := (hpls.below hbw3).more hbw3.size
            have hr3 : Reads w3 w3.heap.size 1 FA a.first.length (a.first.map (Value.int .i64)) := hr.next hbw3
            have hset : Hid (∀ p ∈ a.places, p.set.length ≤ 100000) := hid fun p hp => set_le hsl0 hp
            have HHR := hid hr3
            have HVR := hid hpls3
            have HHRNG := hid hrng
            have hLR := LoopR.start a rs
            clear k0 k1 hb6 hs6 p0w ho hso htlt hrng hr hr3 hpls3 hpls hvr p0 b0 b1 hb4 g0 hs4 hb13 hcc hsl0 i3 hi3 hz3 hsz3 hy3 HVP
            generalize (Value.slice (some ⟨wo.heap.size + 1, 0, none⟩) 1 1) = vs0 at hst ⊢
            generalize (Value.slice (some ⟨w3.heap.size, 0, none⟩) 1 1) = ve0 at hst ⊢
            go_loopw [10, 11] (fun vs i wr => ∃ (s : Nat) (m : Mk) (rows : List (List Int)) (ve vn : Value), i = .int .i64 s ∧ RefSt ⟨a.places.length, tb, w3.heap.size, RA, rc, Ac, cc, rs, w3⟩ vs ve vn (.slice none 0 0) m rows [] wr ∧ Hid (LoopR a rs s m rows)) (fun _ i _ => 4098 - (intOf i).toNat)
            case atStart => exact ⟨0, start0, [], _, _, rfl, hst, hid hLR⟩
            case round =>
              clear hst hLR
              rename World => wl
              obtain ⟨s, m, rows, ve, vn, rfl, hst, HLR⟩ := hrel
              obtain ⟨es, hso, heach⟩ := hst.sts
              obtain ⟨As, cs, rfl, hrs, _⟩ := Reads.own hso
              have tblk : wl.heap[tb]? = some (.cells #[.slice RA rs.length rc, .slice Ac rs.length cc, vn, ve] 31 (0, 0)) := hst.tbl
              have bel : Below w3.heap.size w3 wl := hst.bel
              have hfew := HLR.out.few
              by_cases hlt : s < m.opens.length
              · have HSO : Hid (m.opens[s]? = some m.opens[s]) := hid (List.getElem?_eq_getElem hlt)
                generalize m.opens[s] = o at HSO
                have hdist := HLR.out.dist
                have hgo : GoodO a.places.length o := hdist.good o (List.mem_of_getElem? HSO.out)
                have hng := nextM_good hq.out m.opens s
                have HNG := hid hng
                have hIn := InR.start (rs := rs) (nx := nextM a m.opens s) hdist hfew HLR.out.el
                clear hng hdist
                generalize hnx : nextM a m.opens s = nx at HNG hIn
                have HNX := hid hnx
                clear hnx hrs hso heach tblk bel
                go_wp2_with fail
                go_loopw [10, 12, 13] (fun vs vr i wr => ∃ (j : Nat) (x : Mk × List Int) (ve : Value), j ≤ rs.length ∧ i = .int .i64 j ∧ RefSt ⟨a.places.length, tb, w3.heap.size, RA, rc, Ac, cc, rs, w3⟩ vs ve vn vr x.1 rows x.2 wr ∧ Hid (InR a nx rs m j x)) (fun _ _ i _ => rs.length - (intOf i).toNat)
                case atStart => exact ⟨0, (m, []), ve, Nat.zero_le _, rfl, hst, hid hIn⟩
                case round =>
                  clear hst hIn
                  rename World => wj
                  obtain ⟨j, x, ve, hj, rfl, hst, HIN⟩ := hrel
                  obtain ⟨es, hso, heach⟩ := hst.sts
                  obtain ⟨As, cs, rfl, hrs, _⟩ := Reads.own hso
                  have tblk : wj.heap[tb]? = some (.cells #[.slice RA rs.length rc, .slice Ac rs.length cc, vn, ve] 31 (0, 0)) := hst.tbl
                  obtain ⟨t0, t1, t2, t3, y0, y1, y2, y3⟩ := cells4 tblk
                  have hxf := HIN.out.few
                  by_cases hjl : j < rs.length
                  · have hpos : 0 < a.places.length := by
                      rcases Nat.eq_zero_or_pos a.places.length with h0 | h0
                      · have := rsOf_nil h0
                        rw [HRS.out] at this
                        rw [this] at hjl
                        exact absurd hjl (by simp)
                      · exact h0
                    have HSTEP := hid (HIN.out.step hjl hn HNG.out)
                    obtain ⟨br, offr, rfl, hbr, q0, _⟩ := readsR (hst.rng.reads) (Below.refl _ _) j hjl
                    obtain ⟨A1, c1, hE1, hR1⟩ := heach.at (HIN.out.at HSO.out)
                    obtain ⟨A2, c2, hE2, hR2⟩ := heach.at HIN.out.dist.head
                    have hsx : s < x.1.opens.length := (List.getElem?_eq_some_iff.1 (HIN.out.at HSO.out)).1
                    obtain ⟨bs, offs, rfl, hbs, hcs⟩ := hrs.2 (by omega)
                    have z1 := hcs s _ hE1
                    have z2 := hcs 0 _ hE2
                    have HEACH := hid heach
                    have HCS := hid hcs
                    have HSOW := hid hso
                    clear heach hcs hso hE1 hE2 y0 y1 y2 y3
                    have HR := hid (rfl : rs[j] = rs[j])
                    generalize rs[j] = r at q0 HSTEP
                    obtain ⟨rlo, rhi⟩ := r
                    go_wp2_with fail
                    refine still_tail 13 (by kernel_rfl) (by kernel_rfl) ?_
                    intro w5 HW5
                    have hb5 : Below wj.heap.size wj w5 := by rw [HW5.out]; exact (Below.refl _ _).drew
                    clear HW5
                    have h5 := hst.below hb5
                    have bel5 : Below w3.heap.size w3 w5 := h5.bel
                    have a5 := (bel5.block w.heap.size (by omega)).trans A3
                    obtain ⟨p0, p1, p2⟩ := cells3b a5
                    have t5 : w5.heap[tb]? = some (.cells #[.slice (some ⟨br, offr, none⟩) rs.length rc, .slice Ac rs.length cc, vn, ve] 31 (0, 0)) := h5.tbl
                    obtain ⟨t50, _⟩ := cells4 t5
                    have z15 := (hb5.cell (p := ⟨bs, offs + s, none⟩) hbs).trans z1
                    have q05 := (hb5.cell (p := ⟨br, offr + j * 2, none⟩) hbr).trans q0
                    have i1 : (s : Int) < (x.1.opens.length : Int) := by omega
                    have i2' : (j : Int) < (rs.length : Int) := by omega
                    simp only [List.take_succ_cons, List.take_zero, List.drop_succ_cons, List.drop_zero]
                    repeat still_step
                    refine wpStill_nil ?_
                    clear i1 i2'
                    obtain ⟨fz, hfz⟩ : ∃ fz, Hid (((s : Int) == 0) = fz) := ⟨_, hid rfl⟩
                    have HZ : Hid ((s == 0) = fz) := hid (by rw [← hfz.out]; exact beq_cast s)
                    have hp5 : PlsR w5 w5.heap.size PA a.places := (HVR.out.below bel5).more bel5.size
                    have hr5 : Reads w5 w5.heap.size 1 FA a.first.length (a.first.map (Value.int .i64)) := HHR.out.next bel5
                    have hR1' : Reads wj wj.heap.size 1 A1 a.places.length ((boolsOf a.places.length o).map Value.bool) := hR1.reads
                    have hw5 := hR1'.next hb5
                    go_wp2_with fail
                    rw [hfz.out]
                    refine (open_any a PA FA A1 cp cf c1 a.places.length (boolsOf a.places.length o) fz rlo w5 (hid rfl) hpos hn hq hset (hid (boolsOf_len _ _)) hp5 hr5 hw5).mono ?_
                    rintro e w6 ⟨g, rfl, hBk, hgw, hb6⟩
                    clear hR1' hw5 hp5 hr5 hR1 z15 q05 t50 p0 p1 p2 a5 t5
                    have h6 := h5.below hb6
                    have hgl := heap_lt hBk
                    have hnotS : ∀ k, SR ⟨a.places.length, tb, w3.heap.size, some ⟨br, offr, none⟩, rc, Ac, cc, rs, w3⟩ (.slice (some ⟨bs, offs, none⟩) x.1.opens.length cs) ve vn u12 k → k ≠ g := fun k hk => by
                      have := (h5.SR_ge hk).2
                      omega
                    have HNS := hid hnotS
                    clear hnotS
                    obtain ⟨oa, hoa⟩ : ∃ oa, Hid (openAt a nx (rlo, rhi) = oa) := ⟨_, hid rfl⟩
                    have goa : GoodO a.places.length oa := by rw [← hoa.out]; exact HNG.out.filter _
                    have hob : (List.range a.places.length).map (fun i => openF a (boolsOf a.places.length o) fz a.places.length i && hasB (a.at (i : Int)).set rlo) = boolsOf a.places.length oa := by
                      have := openB_law (r := (rlo, rhi)) HLR.out.dist HSO.out
                      rw [HNX.out, hoa.out, HZ.out] at this
                      exact this
                    have hopen := hBk.reads
                    rw [hob] at hopen
                    have HGO := hid goa
                    clear hob hBk goa
                    have hb56 : Below wj.heap.size wj w6 := hb5.trans (hb6.mono hb5.size)
                    have z26 := (hb56.cell (p := ⟨bs, offs, none⟩) hbs).trans z2
                    have hR2' : Reads w6 w6.heap.size 1 A2 a.places.length ((boolsOf a.places.length []).map Value.bool) := Reads.next hR2.reads hb56
                    have HL := like_any (some ⟨g, 0, none⟩) A2 a.places.length c2 (boolsOf a.places.length oa) (boolsOf a.places.length []) w6 (hid (by rw [boolsOf_len, boolsOf_len])) (by rw [boolsOf_len]; omega) (by rw [boolsOf_len]; exact hopen) (by rw [boolsOf_len]; exact hR2')
                    rw [boolsOf_len, boolsOf_len] at HL
                    have hlx : x.2.length + 1 ≤ maxLen := by have := HIN.out.len; simp only [maxLen]; omega
                    have hly : (x.2.length + 1) * 8 ≤ 140737488355328 := by have := HIN.out.len; omega
                    by_cases hoe : oa = []
                    · have HS : Hid (stepR a nx x (rlo, rhi) = (x.1, x.2 ++ [-1])) := hid (by unfold stepR; rw [hoa.out, if_pos hoe])
                      rw [decide_eq_true (by rw [hoe])] at HL
                      have HLL := hid HL
                      clear HL
                      go_wp2_with fail
                      refine HLL.out.mono ?_
                      rintro e w7 ⟨rfl, hb7⟩
                      have h7 := h6.below hb7
                      have hown7 : w7.ownsRow w3.heap.size 3 1 u12 x.2.length (x.2.map (Value.int .i64)) := h7.row
                      have hsz7 : w3.heap.size ≤ w7.heap.size := h7.bsz
                      clear HLL hoe hopen z26 hR2'
                      go_wp2_with (at_builtin; go_must (refine wpList_push4 w7 rfl _ _ 23 rfl w3.heap.size 3 i2 _ 1 8 Tryz.underlying23 hi2 hz2 hsz2 hy2 rfl (by omega) u12 x.2.length _ rfl hown7 [.int .i64 (-1)] 1 w7.heap.size rfl rfl rfl (by simp [Value.oneCell']) Nat.zero_lt_one hlx hly hsz7 ?_); intro g8 c8 w8 hown8 hg8 ho8; have h8 := h7.push_row hown8 hg8 ho8)
                      go_roundw
                      case rel => exact ⟨j + 1, (x.1, x.2 ++ [-1]), ve, by omega, by go_num, h8, by rw [HS.out] at HSTEP; exact HSTEP⟩
                      case measure => simp [intOf]; omega
                    · rw [decide_eq_false (fun e => hoe (boolsOf_inj HGO.out (GoodO.nil _) e))] at HL
                      have HLL := hid HL
                      have HOE := hid hoe
                      clear HL hoe
                      go_wp2_with fail
                      refine HLL.out.mono ?_
                      rintro e w7 ⟨rfl, hb7⟩
                      have h7 := h6.below hb7
                      have hb57 : Below wj.heap.size wj w7 := hb56.trans (hb7.mono hb56.size)
                      have hopen7 := hopen.next hb7
                      have h1x : 1 ≤ x.1.opens.length := by omega
                      clear HLL z26 hR2' hopen
                      go_wp2_with fail
                      go_loopw [15, 16] (fun t i wr => ∃ kk : Nat, 1 ≤ kk ∧ kk ≤ x.1.opens.length ∧ i = .int .i64 kk ∧ t = .int .i64 (lastAt x.1.opens oa kk) ∧ Below w7.heap.size w7 wr) (fun _ i _ => x.1.opens.length - (intOf i).toNat)
                      case atStart => exact ⟨1, Nat.le_refl _, h1x, rfl, by rw [lastAt_one], Below.refl _ _⟩
                      case round =>
                        rename World => wk
                        obtain ⟨kk, hk1, hkk, rfl, rfl, hbk⟩ := hrel
                        have hbjk : Below wj.heap.size wj wk := hb57.trans (hbk.mono hb57.size)
                        by_cases hkl : kk < x.1.opens.length
                        · obtain ⟨A7, c7, hE7, hR7⟩ := HEACH.out.at (List.getElem?_eq_getElem hkl)
                          have hgk := HIN.out.dist.good _ (List.getElem_mem hkl)
                          have z7 := (hbjk.cell (p := ⟨bs, offs + kk, none⟩) hbs).trans (HCS.out kk _ hE7)
                          have HLS := hid (lastAt_succ (o := oa) hk1 hkl)
                          generalize x.1.opens[kk] = ok at hgk hR7 HLS
                          have hR7' : Reads wk wk.heap.size 1 A7 a.places.length ((boolsOf a.places.length ok).map Value.bool) := Reads.next hR7.reads hbjk
                          have HL := like_any (some ⟨g, 0, none⟩) A7 a.places.length c7 (boolsOf a.places.length oa) (boolsOf a.places.length ok) wk (hid (by rw [boolsOf_len, boolsOf_len])) (by rw [boolsOf_len]; omega) (by rw [boolsOf_len]; exact hopen7.next hbk) (by rw [boolsOf_len]; exact hR7')
                          rw [boolsOf_len, boolsOf_len] at HL
                          clear hE7 hR7 hR7'
                          by_cases he : ok = oa
                          · rw [decide_eq_true (by rw [he])] at HL
                            have HLL := hid HL
                            have HLS2 : Hid (lastAt x.1.opens oa (kk + 1) = (kk : Int)) := hid (by rw [HLS.out, if_pos he])
                            clear HL he HLS
                            go_wp2_with fail
                            refine HLL.out.mono ?_
                            rintro e w9 ⟨rfl, hb9⟩
                            clear HLL
                            go_wp2
                            go_roundw
                            case rel => exact ⟨kk + 1, by omega, by omega, by go_num, by rw [HLS2.out], hbk.trans (hb9.mono hbk.size)⟩
                            case measure => simp [intOf]; omega
                          · rw [decide_eq_false (fun e => he (boolsOf_inj HGO.out hgk e).symm)] at HL
                            have HLL := hid HL
                            have HLS2 : Hid (lastAt x.1.opens oa (kk + 1) = lastAt x.1.opens oa kk) := hid (by rw [HLS.out, if_neg he])
                            clear HL he HLS
                            go_wp2_with fail
                            refine HLL.out.mono ?_
                            rintro e w9 ⟨rfl, hb9⟩
                            clear HLL
                            go_wp2
                            go_roundw
                            case rel => exact ⟨kk + 1, by omega, by omega, by go_num, by rw [HLS2.out], hbk.trans (hb9.mono hbk.size)⟩
                            case measure => simp [intOf]; omega
                        · obtain rfl : kk = x.1.opens.length := by omega
                          have h8 := h7.below hbk
                          cases hfn : findName x.1.opens oa with
                          | some s9 =>
                            have hat := lastAt_some HIN.out.dist hn HGO.out hfn
                            have hs9 : ¬ ((s9 : Int) < 0) := by omega
                            have HS : Hid (stepR a nx x (rlo, rhi) = (x.1, x.2 ++ [(s9 : Int)])) := hid (by
                              unfold stepR
                              rw [hoa.out, if_neg HOE.out]
                              unfold stateM
                              rw [hfn])
                            have hown7 : wk.ownsRow w3.heap.size 3 1 u12 x.2.length (x.2.map (Value.int .i64)) := h8.row
                            have hsz7 : w3.heap.size ≤ wk.heap.size := h8.bsz
                            rw [hat]
                            clear hat hfn
                            go_wp2_with (at_builtin; go_must (refine wpList_push4 wk rfl _ _ 23 rfl w3.heap.size 3 i2 _ 1 8 Tryz.underlying23 hi2 hz2 hsz2 hy2 rfl (by omega) u12 x.2.length _ rfl hown7 [.int .i64 (s9 : Int)] 1 wk.heap.size rfl rfl rfl (by simp [Value.oneCell']) Nat.zero_lt_one hlx hly hsz7 ?_); intro g8 c8 w8 hown8 hg8 ho8; have h8 := h8.push_row hown8 hg8 ho8)
                            go_roundw
                            case rel => exact ⟨j + 1, (x.1, x.2 ++ [(s9 : Int)]), ve, by omega, by go_num, h8, by rw [HS.out] at HSTEP; exact HSTEP⟩
                            case measure => simp [intOf]; omega
                          | none =>
                            have hat := lastAt_none HIN.out.dist hn HGO.out hfn
                            have HS : Hid (stepR a nx x (rlo, rhi) = (⟨x.1.opens ++ [oa], x.1.ends ++ [endOf a oa]⟩, x.2 ++ [(x.1.opens.length : Int)])) := hid (by
                              unfold stepR
                              rw [hoa.out, if_neg HOE.out]
                              unfold stateM
                              rw [hfn])
                            obtain ⟨i5, hi5, hz5, hsz5, hy5⟩ := info_parts infoBools2
                            obtain ⟨es8, own8, each8⟩ := h8.sts
                            obtain ⟨Ae, ce, rfl, _, _⟩ := Reads.own h8.ends
                            have hel := HIN.out.el
                            have hro := RO.of_open (hopen7.next hbk) fun e => HNS.out g e rfl
                            have own8' : wk.ownsRow w3.heap.size 56 1 (.slice (some ⟨bs, offs, none⟩) x.1.opens.length cs) x.1.opens.length es8 := own8
                            have hsz7 : w3.heap.size ≤ wk.heap.size := h8.bsz
                            have hox : x.1.opens.length + 1 ≤ maxLen := by simp only [maxLen]; omega
                            have hoy : (x.1.opens.length + 1) * 24 ≤ 140737488355328 := by omega
                            have hex : x.1.ends.length + 1 ≤ maxLen := by simp only [maxLen]; omega
                            have hey : (x.1.ends.length + 1) * 8 ≤ 140737488355328 := by omega
                            have HEL := hid hel
                            rw [hat]
                            clear hat hfn hel
                            go_wp2_with (at_builtin; go_must (refine wpList_push4 wk rfl _ _ 63 rfl w3.heap.size 56 i5 _ 1 24 Tryz.underlying63 hi5 hz5 hsz5 hy5 rfl (by omega) (.slice (some ⟨bs, offs, none⟩) x.1.opens.length cs) x.1.opens.length _ rfl own8' [.slice (some ⟨g, 0, none⟩) a.places.length a.places.length] 1 wk.heap.size rfl rfl rfl (by simp [Value.oneCell']) Nat.zero_lt_one hox hoy hsz7 ?_); intro g9 c9 w9 hown9 hg9 ho9)
                            have h9 := RefSt.push_state (opens := x.1.opens) (ends := x.1.ends) h8 own8 each8 hown9 hg9 ho9 hro
                            have hop9 := (hro.only (ho9.more fun _ _ e => .inr (.inl e)) fun _ _ e => e).reads
                            have bel9 : Below w3.heap.size w3 w9 := h9.bel
                            obtain ⟨p0, p1, p2⟩ := cells3b ((bel9.block w.heap.size (by omega)).trans A3)
                            have t9 : w9.heap[tb]? = some (.cells #[.slice (some ⟨br, offr, none⟩) rs.length rc, .slice Ac rs.length cc, vn, .slice Ae x.1.ends.length ce] 31 (0, 0)) := h9.tbl
                            have htb9 := heap_lt t9
                            obtain ⟨_, _, _, c63, _⟩ := cells4 t9
                            have p0d : w9.drew.cell? ⟨w.heap.size, 0, none⟩ = some (.slice PA a.places.length cp) := p0
                            have p1d : w9.drew.cell? ⟨w.heap.size, 1, none⟩ = some (.slice FA a.first.length cf) := p1
                            have p2d : w9.drew.cell? ⟨w.heap.size, 2, none⟩ = some (.int .i64 a.kinds) := p2
                            have c63d : w9.drew.cell? ⟨tb, 3, none⟩ = some (.slice Ae x.1.ends.length ce) := c63
                            have hP9 : PlsR w9.drew w9.drew.heap.size PA a.places := ((HVR.out.below bel9).more bel9.size)
                            have hop9d : Reads w9.drew w9.drew.heap.size 1 (some ⟨g, 0, none⟩) a.places.length ((boolsOf a.places.length oa).map Value.bool) := hop9
                            have hE := end_any a PA FA (some ⟨g, 0, none⟩) cp cf a.places.length (boolsOf a.places.length oa) (endOf a oa) w9.drew (hid (boolsOf_len _ _)) (by omega) hP9 (by rw [boolsOf_len]; exact hop9d) (hid (by rw [boolsOf_len]; exact endB_bools HGO.out))
                            rw [boolsOf_len] at hE
                            have HE := hid hE
                            have h9e := hid fun w10 (hb : Below w9.heap.size w9 w10) => h9.below hb
                            generalize hE4 : endOf a oa = E4 at HE HS
                            clear hE hE4 p0 p1 p2 c63 hop9 hro own8' hown9 hg9 ho9 h9 bel9 hop9d hP9
                            have htb9d : tb < w9.drew.heap.size := htb9
                            go_region_law
                              (first
                                | (go_simp; go_at_call 26; refine HE.out.mono ?_; rintro e w10 ⟨rfl, hb10⟩; have h10 := h9e.out w10 ⟨hb10.os, hb10.tape, hb10.output, hb10.size, hb10.block⟩; have t10 : w10.heap[tb]? = some (.cells #[.slice (some ⟨br, offr, none⟩) rs.length rc, .slice Ac rs.length cc, vn, .slice Ae x.1.ends.length ce] 31 (0, 0)) := h10.tbl; have ce10 : w10.ownsRow w3.heap.size 3 1 (.slice Ae x.1.ends.length ce) x.1.ends.length (x.1.ends.map (Value.int .i64)) := h10.ends; have sz10 : w3.heap.size ≤ w10.heap.size := h10.bsz; have c63t : w10.cell? ⟨tb, 3, none⟩ = some (.slice Ae x.1.ends.length ce) := (by rw [Lib.cell_of_heap t10]; rfl); have htb10 : tb < w10.heap.size := heap_lt t10; dsimp only)
                                | (refine step_push4 w10 rfl _ _ 23 rfl w3.heap.size 3 i2 _ 1 8 Tryz.underlying23 hi2 hz2 hsz2 hy2 rfl (by omega) (.slice Ae x.1.ends.length ce) x.1.ends.length _ rfl ce10 [.int .i64 E4] 1 _ rfl rfl rfl (by simp [Value.oneCell']) Nat.zero_lt_one hex hey sz10 ?_; intro g11 c11 w11 hown11 hg11 ho11; have t11 := (ho11.block tb (heap_lt t10) (row_not ce10 t10 tab_int)).trans t10; have c66 : w11.cell? ⟨tb, 3, none⟩ = some (.slice Ae x.1.ends.length ce) := (by rw [Lib.cell_of_heap t11]; rfl); have z66 : w11.frozen? ⟨tb, 3, none⟩ = false := Lib.frozen_of_heap t11 3))
                            all_goals
                              have h12 := RefSt.push_ends (opens := x.1.opens ++ [oa]) (ends := x.1.ends) h10 hown11 hg11 ho11
                              clear c66 z66 c63t htb10 t10 t11 ce10 sz10 hown11 hg11 ho11 h10 hb10
                              generalize w11.setCell ⟨tb, 3, none⟩ (.slice (some ⟨g11, 0, none⟩) (x.1.ends.length + 1) c11) = w12 at h12 ⊢
                              generalize (Value.slice (some ⟨g11, 0, none⟩) (x.1.ends.length + 1) c11) = ve12 at h12 ⊢
                              have hown7 : w12.ownsRow w3.heap.size 3 1 u12 x.2.length (x.2.map (Value.int .i64)) := h12.row
                              have hsz12 : w3.heap.size ≤ w12.heap.size := h12.bsz
                              go_wp2_with (at_builtin; go_must (refine wpList_push4 w12 rfl _ _ 23 rfl w3.heap.size 3 i2 _ 1 8 Tryz.underlying23 hi2 hz2 hsz2 hy2 rfl (by omega) u12 x.2.length _ rfl hown7 [.int .i64 (x.1.opens.length : Int)] 1 w12.heap.size rfl rfl rfl (by simp [Value.oneCell']) Nat.zero_lt_one hlx hly hsz12 ?_); intro g8 c8 w8 hown8 hg8 ho8; have h8 := h12.push_row hown8 hg8 ho8)
                              go_roundw
                              case rel => exact ⟨j + 1, (⟨x.1.opens ++ [oa], x.1.ends ++ [E4]⟩, x.2 ++ [(x.1.opens.length : Int)]), ve12, by omega, by go_num, h8, by rw [HS.out] at HSTEP; exact HSTEP⟩
                              case measure => simp [intOf]; omega
                  · obtain rfl : j = rs.length := by omega
                    have HROW := HLR.out.row hlt (x := x) (by rw [HNX.out]; exact HIN.out)
                    have belj : Below w3.heap.size w3 wj := hst.bel
                    have hbwj : Below w.heap.size w wj := hbw3.trans (belj.mono hbw3.size)
                    have hresj := (belj.block (w.heap.size + 1) (by omega)).trans R3
                    have hszj := belj.size
                    have hmulw : IntKind.i64.wrap ((x.1.opens.length : Int) * (rs.length : Int)) = (x.1.opens.length : Int) * (rs.length : Int) := by
                      have h2 : x.1.opens.length * rs.length ≤ 2000000 * 200000 := Nat.mul_le_mul (by omega) (by omega)
                      have h3 : (x.1.opens.length : Int) * (rs.length : Int) = ((x.1.opens.length * rs.length : Nat) : Int) := by rw [Int.natCast_mul]
                      exact w64 (by omega) (by omega)
                    have hmulN : (x.1.opens.length : Int) * (rs.length : Int) = ((x.1.opens.length * rs.length : Nat) : Int) := by rw [Int.natCast_mul]
                    cases ht : tooMany x.1.opens.length rs.length with
                    | true =>
                      have hlim := HROW.1 ht
                      have hor : 4096 < x.1.opens.length ∨ (¬ 4096 < x.1.opens.length ∧ 1048576 < x.1.opens.length * rs.length) := by
                        simp only [tooMany, Bool.or_eq_true, decide_eq_true_eq] at ht
                        omega
                      have HLIM := hid hlim
                      clear HROW hlim hrs hso heach
                      rcases hor with ho1 | ⟨ho1, ho2⟩
                      · have ht4 : (4096 : Int) < (x.1.opens.length : Int) := by omega
                        clear hmulN hmulw ho1 ht
                        obtain ⟨r0, r1, r2, r3, z0, z1, z2, z3⟩ := cells4 hresj
                        obtain ⟨w9, hw9, c91, ho9⟩ := set4 wj (w.heap.size + 1) _ _ _ _ _ (.slice none 0 0) (.slice none 0 0) (.slice none 0 0) (.slice none 0 0) hresj
                        go_wp2_with fail
                        rw [hw9.out]
                        obtain ⟨s0, s1, s2, s3, _⟩ := cells4 c91
                        clear hw9 r0 r1 r2 r3 z0 z1 z2 z3
                        exact bodyPost_ret (v := .tuple #[emptyT, .int .i64 3]) (by simp [results, Tryz.results7, go_sem, s0, s1, s2, s3, emptyT]) rfl ⟨ho9.below (fun j e => by omega) hbwj (by omega), .inr (.inl ⟨hq.out, by rw [HRS.out]; exact HLIM.out, rfl⟩)⟩
                      · have ht4 : ¬ (4096 : Int) < (x.1.opens.length : Int) := by omega
                        have ht5 : (1048576 : Int) < (x.1.opens.length : Int) * (rs.length : Int) := by rw [hmulN]; omega
                        clear hmulN ho1 ho2 ht
                        obtain ⟨r0, r1, r2, r3, z0, z1, z2, z3⟩ := cells4 hresj
                        obtain ⟨w9, hw9, c91, ho9⟩ := set4 wj (w.heap.size + 1) _ _ _ _ _ (.slice none 0 0) (.slice none 0 0) (.slice none 0 0) (.slice none 0 0) hresj
                        go_wp2_with fail
                        rw [hw9.out]
                        obtain ⟨s0, s1, s2, s3, _⟩ := cells4 c91
                        clear hw9 r0 r1 r2 r3 z0 z1 z2 z3
                        exact bodyPost_ret (v := .tuple #[emptyT, .int .i64 3]) (by simp [results, Tryz.results7, go_sem, s0, s1, s2, s3, emptyT]) rfl ⟨ho9.below (fun j e => by omega) hbwj (by omega), .inr (.inl ⟨hq.out, by rw [HRS.out]; exact HLIM.out, rfl⟩)⟩
                    | false =>
                      have hno : ¬ 4096 < x.1.opens.length ∧ ¬ 1048576 < x.1.opens.length * rs.length := by
                        simp only [tooMany, Bool.or_eq_false_iff, decide_eq_false_iff_not] at ht
                        exact ht
                      have ht4 : ¬ (4096 : Int) < (x.1.opens.length : Int) := by omega
                      have ht5 : ¬ (1048576 : Int) < (x.1.opens.length : Int) * (rs.length : Int) := by rw [hmulN]; omega
                      clear hmulN hno
                      by_cases hd : 200 < x.1.opens.length
                      · have HDEP := hid (HROW.2.1 ht hd)
                        have hd' : (200 : Int) < (x.1.opens.length : Int) := by omega
                        clear HROW ht hrs hso heach
                        obtain ⟨r0, r1, r2, r3, z0, z1, z2, z3⟩ := cells4 hresj
                        obtain ⟨w9, hw9, c91, ho9⟩ := set4 wj (w.heap.size + 1) _ _ _ _ _ (.slice none 0 0) (.slice none 0 0) (.slice none 0 0) (.slice none 0 0) hresj
                        go_wp2_with fail
                        rw [hw9.out]
                        obtain ⟨s0, s1, s2, s3, _⟩ := cells4 c91
                        clear hw9 r0 r1 r2 r3 z0 z1 z2 z3
                        exact bodyPost_ret (v := .tuple #[emptyT, .int .i64 7]) (by simp [results, Tryz.results7, go_sem, s0, s1, s2, s3, emptyT]) rfl ⟨ho9.below (fun j e => by omega) hbwj (by omega), .inr (.inr (.inl ⟨hq.out, by rw [HRS.out]; exact HDEP.out, rfl⟩))⟩
                      · have HNEXT := hid (HROW.2.2 ht hd)
                        have hd' : ¬ (200 : Int) < (x.1.opens.length : Int) := by omega
                        obtain ⟨i3, hi3, hz3, hsz3, hy3⟩ := info_parts infoInts
                        obtain ⟨Ar, cr, rfl, _, _⟩ := Reads.own hst.row
                        obtain ⟨es2, own2, each2⟩ := hst.nxt
                        obtain ⟨An, cn, rfl, _, _⟩ := Reads.own own2
                        have own2' : wj.ownsRow w3.heap.size 23 1 (.slice An rows.length cn) rows.length es2 := own2
                        have hsl9 := HLR.out.sle
                        have hrl9 := HLR.out.rl
                        have hnx1 : rows.length + 1 ≤ maxLen := by simp only [maxLen]; omega
                        have hny1 : (rows.length + 1) * 24 ≤ 140737488355328 := by omega
                        have HTB9 := hid tblk
                        clear HROW ht hrs hso heach own2 hsl9 hrl9 tblk
                        go_wp2_with (at_builtin; go_must (refine wpList_push4 wj rfl _ _ 29 rfl w3.heap.size 23 i3 _ 1 24 Tryz.underlying29 hi3 hz3 hsz3 hy3 rfl (by omega) (.slice An rows.length cn) rows.length _ rfl own2' [.slice Ar x.2.length cr] 1 wj.heap.size rfl rfl rfl (by simp [Value.oneCell']) Nat.zero_lt_one hnx1 hny1 hszj ?_); intro g9 c9 w9 hown9 hg9 ho9; have t9 := (ho9.block tb (heap_lt HTB9.out) (row_not own2' HTB9.out tab_ints)).trans HTB9.out; have e9 : w9.cell? ⟨tb, 2, none⟩ = some (.slice An rows.length cn) := (by rw [Lib.cell_of_heap t9]; rfl); have y9 : w9.frozen? ⟨tb, 2, none⟩ = false := Lib.frozen_of_heap t9 2)
                        have h9 := RefSt.push_next hst own2' each2 hown9 hg9 ho9
                        go_roundw
                        case rel => exact ⟨s + 1, x.1, rows ++ [x.2], ve, _, by go_num, h9, HNEXT⟩
                        case measure =>
                          have := HLR.out.sle
                          have := HLR.out.few
                          simp [intOf]; omega
              · have HDONE := hid (HLR.out.over hlt)
                obtain ⟨An, cn, rfl, _, _⟩ := Reads.own hst.nxt.choose_spec.1
                obtain ⟨Ae, ce, rfl, _, _⟩ := Reads.own hst.ends
                obtain ⟨t0, t1, t2, t3, y0, y1, y2, y3⟩ := cells4 tblk
                have hresl := (bel.block (w.heap.size + 1) (by omega)).trans R3
                have hbwl : Below w.heap.size w wl := hbw3.trans (bel.mono hbw3.size)
                have hszl := bel.size
                obtain ⟨r0, r1, r2, r3, z0, z1, z2, z3⟩ := cells4 hresl
                obtain ⟨w9, hw9, c91, ho9⟩ := set4 wl (w.heap.size + 1) _ _ _ _ _ (.slice RA rs.length rc) (.slice Ac rs.length cc) (.slice An rows.length cn) (.slice Ae m.ends.length ce) hresl
                have hTab := hst.tab hresl (show w.heap.size + 1 < w3.heap.size by omega) ho9
                clear hrs hso heach tblk
                go_wp2_with fail
                rw [hw9.out]
                obtain ⟨s0, s1, s2, s3, _⟩ := cells4 c91
                clear hw9 r0 r1 r2 r3 z0 z1 z2 z3
                refine bodyPost_ret (v := .tuple #[.agg #[.slice RA rs.length rc, .slice Ac rs.length cc, .slice An rows.length cn, .slice Ae m.ends.length ce], .int .i64 0]) (by simp [results, Tryz.results7, go_sem, s0, s1, s2, s3]) rfl ⟨ho9.below (fun j e => by omega) hbwl (by omega), .inr (.inr (.inr ⟨hq.out, ?_⟩))⟩
                rw [HRS.out]
                exact ⟨m, rows, RA, rc, Ac, cc, An, cn, Ae, ce, HDONE.out, rfl, hTab⟩
end Go.Proofs.YtoclbcfgfaialaaGreatDoor
