/-
  SubsetsOf: the walk.
-/
import Derived.Test.YtoclbcfgfaialaaGreatDoorSubOf4
import Derived.Test.YtoclbcfgfaialaaGreatDoorLast
import Derived.Test.YtoclbcfgfaialaaGreatDoorSubLive2
import Derived.Test.YtoclbcfgfaialaaGreatDoorPageZ
import Derived.Deep.CutRange
import Derived.Deep.RegionHeld3
namespace Go.Proofs.YtoclbcfgfaialaaGreatDoor
open Go.RowKit
open Go.Sort (grow)
set_option maxRecDepth 100000
theorem left_quietR (l : List Rg) (g : Nat) (B : Option Addr) (d : Nat) (w : World) (hm : l.length ≤ 1000000) (ht : Reads w w.heap.size 2 (some ⟨g, 0, none⟩) (l.length + 2) (flat encR (l ++ [mkR, mkR]))) (hr : Reads w w.heap.size 2 B l.length (flat encR l)) (i : Nat) (os : Array Obj) :
    Calls Tryz.prog 14 #[.slice (some ⟨g, 0, none⟩) l.length (l.length + 2), .slice B l.length d] (grow (redrawn w i) os) fun e w'' => e = .returned (.bool true) ∧ ∃ p : Regrown, w'' = grow (redrawn w p.d) p.os :=
  Calls.regrown_of (leftR_any l g B d (grow (redrawn w i) os) hm (ht.next (below_regrown w i os)) (hr.next (below_regrown w i os)))
theorem left_quietN (l : List Int) (g : Nat) (B : Option Addr) (d : Nat) (w : World) (hm : l.length ≤ 1000000) (ht : Reads w w.heap.size 1 (some ⟨g, 0, none⟩) (l.length + 2) ((l ++ [-77, -77]).map (Value.int .i64))) (hr : Reads w w.heap.size 1 B l.length (l.map (Value.int .i64))) (i : Nat) (os : Array Obj) :
    Calls Tryz.prog 13 #[.slice (some ⟨g, 0, none⟩) l.length (l.length + 2), .slice B l.length d] (grow (redrawn w i) os) fun e w'' => e = .returned (.bool true) ∧ ∃ p : Regrown, w'' = grow (redrawn w p.d) p.os :=
  Calls.regrown_of (leftN_any l g B d (grow (redrawn w i) os) hm (ht.next (below_regrown w i os)) (hr.next (below_regrown w i os)))
/-- the twin's box: nothing in it but the twin of the first list -/
def TwA (w4 wx : World) (v : Value) (l : List Int) (kk : Int) : Prop :=
  ∃ tb gf, v = .pointer (some ⟨tb, 0, none⟩) ∧ w4.heap.size ≤ tb ∧ wx.heap[tb]? = some (.cells #[.slice none 0 0, .slice (some ⟨gf, 0, none⟩) l.length (l.length + 2), .int .i64 kk] 25 (0, 0)) ∧
    OwnC wx w4.heap.size 3 1 (.slice (some ⟨gf, 0, none⟩) (l.length + 2) (l.length + 2)) (l.length + 2) ((l ++ [-77, -77]).map (Value.int .i64)) ∧ Below w4.heap.size w4 wx
theorem twA_new {w4 w5 : World} {l : List Int} {kk : Int} {gf : Nat} (h : w5.ownsRow w4.heap.size 3 1 (.slice (some ⟨gf, 0, none⟩) (l.length + 2) (l.length + 2)) (l.length + 2) ((l ++ [-77, -77]).map (Value.int .i64))) (hb : Below w4.heap.size w4.drew w5) :
    TwA w4 (w5.alloc (.cells #[.slice none 0 0, .slice (some ⟨gf, 0, none⟩) l.length (l.length + 2), .int .i64 kk] 25)) (.pointer (some ⟨w5.heap.size, 0, none⟩)) l kk :=
  have hb' : Below w4.heap.size w4 w5 := (Below.refl _ _).drew.trans hb
  ⟨_, gf, rfl, hb'.size, heap_alloc_new _ _, OwnC.of (h.alloc _), hb'.alloc hb'.size _⟩
theorem twA_set {w4 w5 : World} {l : List Int} {kk : Int} {gf : Nat} {o : Obj} (h : w5.ownsRow (w4.drew.alloc o).heap.size 3 1 (.slice (some ⟨gf, 0, none⟩) (l.length + 2) (l.length + 2)) (l.length + 2) ((l ++ [-77, -77]).map (Value.int .i64))) (hb : Below (w4.drew.alloc o).heap.size (w4.drew.alloc o) w5)
    (hT : w5.heap[w4.heap.size]? = some (.cells #[.slice none 0 0, .slice none 0 0, .int .i64 0] 25 (0, 0))) :
    TwA w4 (((w5.setCell ⟨w4.heap.size, 0, none⟩ (.slice none 0 0)).setCell ⟨w4.heap.size, 1, none⟩ (.slice (some ⟨gf, 0, none⟩) l.length (l.length + 2))).setCell ⟨w4.heap.size, 2, none⟩ (.int .i64 kk)) (.pointer (some ⟨w4.heap.size, 0, none⟩)) l kk := by
  have hd : w4.drew.heap.size = w4.heap.size := rfl
  have hz : (w4.drew.alloc o).heap.size = w4.heap.size + 1 := by rw [size_alloc, hd]
  have hb0 : Below w4.heap.size w4 w5 := ((Below.refl _ w4).drew.alloc (Nat.le_refl _) o).trans (hb.mono (by rw [hz]; omega))
  have h1 := heap_setCell_same w5 w4.heap.size 0 _ _ (.slice none 0 0) hT
  have h2 := heap_setCell_same _ w4.heap.size 1 _ _ (.slice (some ⟨gf, 0, none⟩) l.length (l.length + 2)) h1
  have h3 := heap_setCell_same _ w4.heap.size 2 _ _ (.int .i64 kk) h2
  exact ⟨_, gf, rfl, Nat.le_refl _, h3, (OwnC.of (own_setTb (own_setTb (own_setTb h hT (by decide)) h1 (by decide)) h2 (by decide))).base (by rw [hz]; omega), ((hb0.setCell (Nat.le_refl _) _).setCell (Nat.le_refl _) _).setCell (Nat.le_refl _) _⟩
set_option maxHeartbeats 6400000 in
theorem ofW_any (a : Au) (PA FA : Option Addr) (cp cf : Nat) (w : World) (hn : a.places.length ≤ 140737488351232) (hf : a.first.length ≤ 140737488351232) (hpf : Hid (∀ p ∈ a.places, p.follow.length ≤ 140737488351232 ∧ p.set.length ≤ 140737488351232))
    (hwf : Hid (WfL (a.places.map (·.set)).flatten)) (hp : PlsR w w.heap.size PA a.places) (hr : Reads w w.heap.size 1 FA a.first.length (a.first.map (Value.int .i64))) :
    Calls Tryz.prog 3 #[.agg #[.slice PA a.places.length cp, .slice FA a.first.length cf, .int .i64 a.kinds]] w fun e w' => e = .returned (.bool true) ∧ Below w.heap.size w w' := by
  obtain ⟨q, hq⟩ : ∃ q, Hid (hugeB a = q) := ⟨_, rfl⟩
  have HP := hid hp
  have HR0 := hid hr
  obtain ⟨wx, hwx⟩ : ∃ wx, Hid (w.alloc (.cells #[.slice PA a.places.length cp, .slice FA a.first.length cf, .int .i64 a.kinds] 25) = wx) := ⟨_, rfl⟩
  have hb : Below w.heap.size w wx := by rw [← hwx.out]; exact below_new _ _
  have hs : w.heap.size < wx.heap.size := by rw [← hwx.out]; simp
  have hA : wx.heap[w.heap.size]? = some (.cells #[.slice PA a.places.length cp, .slice FA a.first.length cf, .int .i64 a.kinds] 25 (0, 0)) := by rw [← hwx.out]; exact heap_alloc_new _ _
  have hp := hp.next hb
  have hr := hr.next hb
  obtain ⟨c0, c1, c2⟩ := cells3 hA
  go_enter Tryz.func3, Tryz.ntmps3
  go_wp2_with fail
  rw [hwx.out]
  clear hwx
  refine (huge_any a PA FA cp cf q wx hn hf hpf hp hq).mono ?_
  rintro e w1 ⟨rfl, hb1⟩
  have hbw : Below w.heap.size w w1 := hb.trans (hb1.mono hb.size)
  have hA := (hb1.block _ hs).trans hA
  have hs := Nat.lt_of_lt_of_le hs hb1.size
  have hp := hp.next hb1
  have hr := hr.next hb1
  clear c0 c1 c2 hb hb1
  obtain ⟨c0, c1, c2⟩ := cells3 hA
  cases q with
  | true =>
    go_wp2_with fail
    refine (lives9_any _).mono ?_
    rintro e w2 ⟨rfl, hb2⟩
    go_wp2_with fail
    go_ret
    exact ⟨rfl, hbw.trans (hb2.mono hbw.size)⟩
  | false =>
    have hh := hq.out
    have hsl := hugeB_sets hh
    have hpl := (hugeB_no hh).2
    have hfl : a.first.length ≤ 1000000 := by
      have := (hugeB_no hh).1
      unfold totOf at this
      omega
    have hpf2 : Hid (∀ p ∈ a.places, p.follow.length ≤ 1000000) := hid fun p hp' => by have := (hugeB_place hh hp').1; omega
    have hps2 : Hid (∀ p ∈ a.places, p.set.length ≤ 1000000) := hid fun p hp' => by have := (hugeB_place hh hp').2; omega
    have hsl' : (a.places.map (·.set)).flatten.length ≤ 100000 := by omega
    clear hh hq hpf
    go_wp2_with fail
    refine (places_any a PA FA cp cf w1 (by omega) hp).mono ?_
    rintro e w2 ⟨hb2, PB, cb, rfl, hpB⟩
    have hbw : Below w.heap.size w w2 := hbw.trans (hb2.mono hbw.size)
    have hA := (hb2.block _ hs).trans hA
    have hs := Nat.lt_of_lt_of_le hs hb2.size
    have hp := hp.next hb2
    have hr := hr.next hb2
    clear c0 c1 c2 hb2
    go_wp2_with fail
    refine (refOf_any a PB FA cb cf w2 (by omega) hfl hpf2 hsl' hwf.out hpB hr).mono ?_
    rintro e w3 hpost
    have hb3 := hpost.1
    have hbw : Below w.heap.size w w3 := hbw.trans (hb3.mono hbw.size)
    have hA := (hb3.block _ hs).trans hA
    have hs := Nat.lt_of_lt_of_le hs hb3.size
    have hp := hp.next hb3
    have hr := hr.next hb3
    clear hb3 hpB
    rcases ref_cases hsl' hpost with rfl | ⟨er, rs, m, rows, RB, rc, CB, cc, NB, nc, EB, ec, rfl, her, hTB, hRes⟩
    · clear hpost hp hr hA
      unfold emptyT
      go_wp2_with fail
      refine (lives9_any _).mono ?_
      rintro e w4 ⟨rfl, hb4⟩
      go_wp2_with fail
      go_ret
      exact ⟨rfl, hbw.trans ((below_drop hb4).mono hbw.size)⟩
    · clear hpost
      have hRES := hid hRes
      clear hRes
      have her7 : ¬ er = 7 := by omega
      obtain ⟨w4, hw4⟩ : ∃ w4, Hid (w3.alloc (.cells #[.slice RB rs.length rc, .slice CB rs.length cc, .slice NB rows.length nc, .slice EB m.ends.length ec] 31) = w4) := ⟨_, hid rfl⟩
      have hb4 : Below w3.heap.size w3 w4 := by rw [← hw4.out]; exact below_new _ _
      have hT4 : w4.heap[w3.heap.size]? = some (.cells #[.slice RB rs.length rc, .slice CB rs.length cc, .slice NB rows.length nc, .slice EB m.ends.length ec] 31 (0, 0)) := by rw [← hw4.out]; exact heap_alloc_new _ _
      have hbw : Below w.heap.size w w4 := hbw.trans (hb4.mono hbw.size)
      have hA := (hb4.block _ hs).trans hA
      have hs := Nat.lt_of_lt_of_le hs hb4.size
      have hp := hp.next hb4
      have hr := hr.next hb4
      have hTB := hTB.next hb4
      have hbb := hb4.size
      have hwb : w.heap.size < w3.heap.size := by omega
      clear hb4
      obtain ⟨bb, hbb⟩ : ∃ bb, Hid (w3.heap.size = bb) := ⟨_, rfl⟩
      rw [hbb.out] at hT4 hwb
      have hsT := heap_lt hT4
      obtain ⟨c0, c1, c2⟩ := cells3 hA
      obtain ⟨t0, t1, t2, t3, _⟩ := cells4 hT4
      have c1d : w4.drew.cell? ⟨w.heap.size, 1, none⟩ = some (.slice FA a.first.length cf) := c1
      have c2d : w4.drew.cell? ⟨w.heap.size, 2, none⟩ = some (.int .i64 a.kinds) := c2
      have hrd : Reads w4.drew w4.drew.heap.size 1 FA a.first.length (a.first.map (Value.int .i64)) := hr
      go_upto_region 6 with fail
      rw [hw4.out, hbb.out]
      clear hw4
      go_cut [5] from 12 (fun v wx => Hid (TwA w4 wx v a.first a.kinds))
      case first =>
        have c1o := fun o => ((below_new w4.drew o).cell (p := ⟨w.heap.size, 1, none⟩) hs).trans c1d
        have c2o := fun o => ((below_new w4.drew o).cell (p := ⟨w.heap.size, 2, none⟩) hs).trans c2d
        have hDS : Hid (w4.drew.heap.size = w4.heap.size) := hid rfl
        go_region_law
          (first
            | (go_simp; go_at_call 9; refine (twinN_any a.first FA cf w4.drew hfl hrd).mono ?_; rintro e w5 ⟨gf, rfl, hownF, hb5⟩; have HR := twA_new (w4 := w4) (w5 := w5) (l := a.first) (gf := gf) (kk := a.kinds) hownF hb5; have c25 : w5.cell? ⟨w.heap.size, 2, none⟩ = some (.int .i64 a.kinds) := (hb5.cell (p := ⟨w.heap.size, 2, none⟩) hs).trans c2d; have c25o := fun o => ((below_new w5 o).cell (p := ⟨w.heap.size, 2, none⟩) (Nat.lt_of_lt_of_le hs hb5.size)).trans c25; obtain ⟨k0, k1, k2, z0, z1, z2⟩ := cells3f (heap_alloc_new w5 (.cells #[.slice none 0 0, .slice none 0 0, .int .i64 0] 25)))
            | (go_simp; go_at_call 9; refine (twinN_any a.first FA cf (w4.drew.alloc (.cells #[.slice none 0 0, .slice none 0 0, .int .i64 0] 25)) hfl (hrd.next (below_new _ _))).mono ?_; rintro e w5 ⟨gf, rfl, hownF, hb5⟩; have hT5 : w5.heap[w4.heap.size]? = some (.cells #[.slice none 0 0, .slice none 0 0, .int .i64 0] 25 (0, 0)) := (hb5.block _ (heap_lt (heap_alloc_new _ _))).trans (heap_alloc_new w4.drew (.cells #[.slice none 0 0, .slice none 0 0, .int .i64 0] 25)); have HR := twA_set (w4 := w4) (w5 := w5) (l := a.first) (gf := gf) (kk := a.kinds) hownF hb5 hT5; have c25 : w5.cell? ⟨w.heap.size, 2, none⟩ = some (.int .i64 a.kinds) := (hb5.cell (p := ⟨w.heap.size, 2, none⟩) (Nat.lt_of_lt_of_le hs (below_new _ _).size)).trans (c2o _); obtain ⟨k0, k1, k2, z0, z1, z2⟩ := cells3f hT5))
        all_goals
          go_wp2_with fail
          go_meet
          case rel => exact hid HR
      case rest =>
        obtain ⟨tb, gf, rfl, htb, hblk, hownF, hb5⟩ := hcut.out
        have hbt : bb ≠ tb := by omega
        have hs4 : w.heap.size ≤ w4.heap.size := by omega
        have hbw := hbw.trans (hb5.mono hbw.size)
        have hT := (hb5.block _ hsT).trans hT4
        have hsT := Nat.lt_of_lt_of_le hsT hb5.size
        have hA := (hb5.block _ hs).trans hA
        have hs := Nat.lt_of_lt_of_le hs hb5.size
        have HTB := hid (hTB.below hb5)
        have HTLE : Hid (w4.heap.size ≤ tb ∧ w4.heap.size ≤ wc.heap.size ∧ w.heap.size ≤ w4.heap.size) := hid ⟨htb, hb5.size, hs4⟩
        have HF := hid hownF
        have hwt : w.heap.size < tb := by omega
        clear hcut c0 c1 c2 c1d c2d hrd t0 t1 t2 t3 hownF hb5 hT4 hTB hp hr htb
        go_wp2_with fail
        go_loopw [6] (fun i wr => ∃ k : Nat, k ≤ a.places.length ∧ i = .int .i64 k ∧ Hid (LpT wc wr tb gf a k)) (fun i _ => a.places.length - (intOf i).toNat)
        case atStart => exact ⟨0, Nat.zero_le _, rfl, hid (LpT.start hblk)⟩
        case round =>
          rename World => wk
          obtain ⟨k, hk, rfl, hL⟩ := hrel
          obtain ⟨v, vs, hb, hown, hTw, ho⟩ := hL.out
          have hso := ho.size
          have htlt := heap_lt hb
          have hAk := (ho.block w.heap.size hs (by omega)).trans hA
          obtain ⟨p0, p1, p2, _⟩ := cells3f hAk
          have hbk : Below w.heap.size w wk := ho.below (fun j e => by omega) hbw (Nat.le_of_lt hs)
          by_cases hlt : k < a.places.length
          · obtain ⟨pvs, hvr, hvp⟩ := HP.out.below hbk
            obtain ⟨SA, cs, FA', cf', e0, e1, e2, e3, rs0, rf0⟩ := hvp k hlt
            obtain ⟨b, off, rfl, hbl, hc⟩ := hvr.2 (by omega)
            have d0 := hc _ _ e0
            have d1 := hc _ _ e1
            have d2 := hc _ _ e2
            have d3 := hc _ _ e3
            rw [← Nat.add_assoc] at d1 d2 d3
            have HQ : Hid (a.places[k]? = some a.places[k]) := hid (List.getElem?_eq_getElem hlt)
            clear e0 e1 e2 e3 hc hvp hvr
            generalize a.places[k] = pk at d0 d1 d2 d3 rs0 rf0 HQ
            obtain ⟨i0, hi0, hz0, hsz0, hy0⟩ := info_parts infoPl9
            have hps := hps2.out pk (List.mem_of_getElem? HQ.out)
            have hpfo := hpf2.out pk (List.mem_of_getElem? HQ.out)
            have hmx : k + 1 ≤ maxLen := by simp only [maxLen]; omega
            have hmy : (k + 1) * 64 ≤ 140737488355328 := by omega
            have V7 : LpV wc wk tb gf a k v vs := ⟨hb, hown, hTw, ho⟩
            have hvp : v.ownBlock ≠ some wk.heap.size := fun e => by have := (hown.lt _ e).2; omega
            clear hb hown hTw hL
            go_upto_region 11 with fail
            obtain ⟨w8, hw8⟩ : ∃ x, Hid (wk.alloc (.cells #[.slice SA pk.set.length cs, .int .i64 pk.kind, .bool pk.last, .slice FA' pk.follow.length cf'] 41) = x) := ⟨_, hid rfl⟩
            have hb8 : Below wk.heap.size wk w8 := by rw [← hw8.out]; exact below_new _ _
            have P8 : w8.heap[wk.heap.size]? = some (.cells #[.slice SA pk.set.length cs, .int .i64 pk.kind, .bool pk.last, .slice FA' pk.follow.length cf'] 41 (0, 0)) := by rw [← hw8.out]; exact heap_alloc_new _ _
            rw [hw8.out]
            clear hw8 d0 d1 d2 d3 p0 p1 p2
            have V8 : LpV wc w8.drew tb gf a k v vs := (V7.next hb8).next (Below.refl _ _).drew
            have rs8 : Reads w8.drew w8.drew.heap.size 2 SA pk.set.length (flat encR pk.set) := (rs0.below (hb8.mono hbk.size)).more (Nat.le_trans hbk.size hb8.size)
            have rf8 : Reads w8.drew w8.drew.heap.size 1 FA' pk.follow.length (pk.follow.map (Value.int .i64)) := (rf0.below (hb8.mono hbk.size)).more (Nat.le_trans hbk.size hb8.size)
            have hpt : wk.heap.size ≠ tb := by omega
            have hcs : wc.heap.size ≤ w8.drew.heap.size := Nat.le_trans hso hb8.size
            clear V7 rs0 rf0
            generalize wk.heap.size = pb at P8 hvp hpt ⊢
            have P8d : w8.drew.heap[pb]? = some (.cells #[.slice SA pk.set.length cs, .int .i64 pk.kind, .bool pk.last, .slice FA' pk.follow.length cf'] 41 (0, 0)) := P8
            have hp8 : pb < w8.drew.heap.size := heap_lt P8d
            have S8 := pbS P8d
            obtain ⟨c8, z8⟩ := V8.cell
            refine wp_region_last (l := 16) (S := fun w' => (w'.cell? ⟨pb, 0, none⟩ = some (.slice SA pk.set.length cs) ∧ w'.cell? ⟨pb, 1, none⟩ = some (.int .i64 pk.kind) ∧ w'.cell? ⟨pb, 2, none⟩ = some (.bool pk.last) ∧ w'.cell? ⟨pb, 3, none⟩ = some (.slice FA' pk.follow.length cf')) ∧ w'.cell? ⟨tb, 0, none⟩ = some v) (by kernel_rfl) ⟨S8, c8⟩ (fun hHeld => ?_)
            refine wpAnyE_take (i := 0) (.pointer (some ⟨tb, 0, none⟩)) rfl (by kernel_rfl) (by kernel_rfl) (by kernel_rfl) (by kernel_rfl) (fun _ _ _ h => h) hHeld (by rfl) (fun w' hSw => ?_) ?_
            · obtain ⟨⟨s0, s1, s2, s3⟩, s4⟩ := hSw; go_simp
            simp only [Act.put, List.getElem_toArray, List.getElem_cons_zero, List.setIfInBounds_toArray, List.set_cons_zero, List.set_cons_succ]
            refine wpAnyE_take (i := 1) (v) rfl (by kernel_rfl) (by kernel_rfl) (by kernel_rfl) (by kernel_rfl) (fun _ _ _ h => h) hHeld (by rfl) (fun w' hSw => ?_) ?_
            · obtain ⟨⟨s0, s1, s2, s3⟩, s4⟩ := hSw; go_simp
            simp only [Act.put, List.getElem_toArray, List.getElem_cons_zero, List.getElem_cons_succ, List.setIfInBounds_toArray, List.set_cons_zero, List.set_cons_succ]
            refine wpAnyE_take (i := 2) (.pointer (some ⟨pb, 0, none⟩)) rfl (by kernel_rfl) (by kernel_rfl) (by kernel_rfl) (by kernel_rfl) (fun _ _ _ h => h) hHeld (by rfl) (fun w' hSw => ?_) ?_
            · obtain ⟨⟨s0, s1, s2, s3⟩, s4⟩ := hSw; go_simp
            simp only [Act.put, List.getElem_toArray, List.getElem_cons_zero, List.getElem_cons_succ, List.setIfInBounds_toArray, List.set_cons_zero, List.set_cons_succ]
            refine wpAnyE_take (i := 3) (.slice SA pk.set.length cs) rfl (by kernel_rfl) (by kernel_rfl) (by kernel_rfl) (by kernel_rfl) (fun _ _ _ h => h) hHeld (by rfl) (fun w' hSw => ?_) ?_
            · obtain ⟨⟨s0, s1, s2, s3⟩, s4⟩ := hSw; go_simp
            simp only [Act.put, List.getElem_toArray, List.getElem_cons_zero, List.getElem_cons_succ, List.setIfInBounds_toArray, List.set_cons_zero, List.set_cons_succ]
            refine wpAnyE_take (i := 5) (.pointer (some ⟨pb, 1, none⟩)) rfl (by kernel_rfl) (by kernel_rfl) (by kernel_rfl) (by kernel_rfl) (fun _ _ _ h => h) hHeld (by rfl) (fun w' hSw => ?_) ?_
            · obtain ⟨⟨s0, s1, s2, s3⟩, s4⟩ := hSw; go_simp
            simp only [Act.put, List.getElem_toArray, List.getElem_cons_zero, List.getElem_cons_succ, List.setIfInBounds_toArray, List.set_cons_zero, List.set_cons_succ]
            refine wpAnyE_take (i := 6) (.int .i64 pk.kind) rfl (by kernel_rfl) (by kernel_rfl) (by kernel_rfl) (by kernel_rfl) (fun _ _ _ h => h) hHeld (by rfl) (fun w' hSw => ?_) ?_
            · obtain ⟨⟨s0, s1, s2, s3⟩, s4⟩ := hSw; go_simp
            simp only [Act.put, List.getElem_toArray, List.getElem_cons_zero, List.getElem_cons_succ, List.setIfInBounds_toArray, List.set_cons_zero, List.set_cons_succ]
            refine wpAnyE_take (i := 7) (.pointer (some ⟨pb, 2, none⟩)) rfl (by kernel_rfl) (by kernel_rfl) (by kernel_rfl) (by kernel_rfl) (fun _ _ _ h => h) hHeld (by rfl) (fun w' hSw => ?_) ?_
            · obtain ⟨⟨s0, s1, s2, s3⟩, s4⟩ := hSw; go_simp
            simp only [Act.put, List.getElem_toArray, List.getElem_cons_zero, List.getElem_cons_succ, List.setIfInBounds_toArray, List.set_cons_zero, List.set_cons_succ]
            refine wpAnyE_take (i := 8) (.bool pk.last) rfl (by kernel_rfl) (by kernel_rfl) (by kernel_rfl) (by kernel_rfl) (fun _ _ _ h => h) hHeld (by rfl) (fun w' hSw => ?_) ?_
            · obtain ⟨⟨s0, s1, s2, s3⟩, s4⟩ := hSw; go_simp
            simp only [Act.put, List.getElem_toArray, List.getElem_cons_zero, List.getElem_cons_succ, List.setIfInBounds_toArray, List.set_cons_zero, List.set_cons_succ]
            refine wpAnyE_take (i := 9) (.pointer (some ⟨pb, 3, none⟩)) rfl (by kernel_rfl) (by kernel_rfl) (by kernel_rfl) (by kernel_rfl) (fun _ _ _ h => h) hHeld (by rfl) (fun w' hSw => ?_) ?_
            · obtain ⟨⟨s0, s1, s2, s3⟩, s4⟩ := hSw; go_simp
            simp only [Act.put, List.getElem_toArray, List.getElem_cons_zero, List.getElem_cons_succ, List.setIfInBounds_toArray, List.set_cons_zero, List.set_cons_succ]
            refine wpAnyE_take (i := 10) (.slice FA' pk.follow.length cf') rfl (by kernel_rfl) (by kernel_rfl) (by kernel_rfl) (by kernel_rfl) (fun _ _ _ h => h) hHeld (by rfl) (fun w' hSw => ?_) ?_
            · obtain ⟨⟨s0, s1, s2, s3⟩, s4⟩ := hSw; go_simp
            simp only [Act.put, List.getElem_toArray, List.getElem_cons_zero, List.getElem_cons_succ, List.setIfInBounds_toArray, List.set_cons_zero, List.set_cons_succ]
            clear hHeld
            refine wpAnyE_step 4 (by kernel_rfl) rfl (fun K hK => ?_)
            go_simp
            go_at_call 10
            refine (twinR_any pk.set SA cs w8.drew hps rs8).mono ?_
            rintro e w9 ⟨g, rfl, own9, hb9⟩
            have V9 := V8.next hb9
            have P9 := (hb9.block pb hp8).trans P8d
            have S9 := pbS P9
            obtain ⟨c9, z9⟩ := V9.cell
            go_simp
            refine hK.out _ _ ⟨S9, c9⟩ (fun hHeld => ?_)
            clear hK K
            try simp only [Act.put, List.getElem_toArray, List.getElem_cons_zero, List.getElem_cons_succ, List.setIfInBounds_toArray, List.set_cons_zero, List.set_cons_succ]
            refine wpAnyE_step 11 (by kernel_rfl) rfl (fun K hK => ?_)
            go_simp
            go_at_call 9
            refine (twinN_any pk.follow FA' cf' w9 hpfo (rf8.next hb9)).mono ?_
            rintro e w10 ⟨f, rfl, own10, hb10⟩
            have V10 := V9.next hb10
            have P10 := (hb10.block pb (heap_lt P9)).trans P9
            have S10 := pbS P10
            obtain ⟨c10, z10⟩ := V10.cell
            have S10o := fun o => pbS ((Below.heap_alloc w10 o pb (heap_lt P10)).trans P10)
            have c10o := fun o => (V10.next (below_new w10 o)).cell.1
            have r0 := RO.of_blk (S := fun j => j = tb ∨ v.ownBlock = some j) ((Reads.of_own own9).next hb10) (V8.fresh (own_ge own9))
            have r1 := RO.of_blk (S := fun j => j = tb ∨ v.ownBlock = some j) (Reads.of_own own10) (V9.fresh (own_ge own10))
            have s10 := Nat.le_trans (Nat.le_trans hcs hb9.size) hb10.size
            go_simp
            refine hK.out _ _ ⟨S10, c10⟩ (fun hHeld => ?_)
            clear hK K
            try simp only [Act.put, List.getElem_toArray, List.getElem_cons_zero, List.getElem_cons_succ, List.setIfInBounds_toArray, List.set_cons_zero, List.set_cons_succ]
            refine wpAnyE_take (i := 12) (.agg #[.slice (some ⟨g, 0, none⟩) pk.set.length (pk.set.length + 2), .int .i64 pk.kind, .bool pk.last, .slice (some ⟨f, 0, none⟩) pk.follow.length (pk.follow.length + 2)]) rfl (by kernel_rfl) (by kernel_rfl) (by kernel_rfl) (by kernel_rfl) (fun _ _ _ h => h) hHeld (by rfl) (fun w' hSw => ?_) ?_
            · obtain ⟨⟨s0, s1, s2, s3⟩, s4⟩ := hSw; go_simp
            simp only [Act.put, List.getElem_toArray, List.getElem_cons_zero, List.getElem_cons_succ, List.setIfInBounds_toArray, List.set_cons_zero, List.set_cons_succ]
            refine wpAnyE_step 13 (by kernel_rfl) rfl (fun K hK => ?_)
            go_simp
            refine hK.out _ _ ⟨S10o _, c10o _⟩ (fun hHeld => ?_)
            clear hK K
            try simp only [Act.put, List.getElem_toArray, List.getElem_cons_zero, List.getElem_cons_succ, List.setIfInBounds_toArray, List.set_cons_zero, List.set_cons_succ]
            refine wpAnyE_step 14 (by kernel_rfl) rfl (fun K hK => ?_)
            refine step_push4 w10 rfl _ _ 22 rfl wc.heap.size 41 i0 _ 4 64 Tryz.underlying22 hi0 hz0 hsz0 hy0 rfl (by omega) v k vs rfl V10.2.1 [.slice (some ⟨g, 0, none⟩) pk.set.length (pk.set.length + 2), .int .i64 pk.kind, .bool pk.last, .slice (some ⟨f, 0, none⟩) pk.follow.length (pk.follow.length + 2)] 1 _ rfl rfl rfl (by simp [Value.oneCell']) Nat.zero_lt_one hmx hmy s10 ?_
            intro g11 c11 w11 hown11 hg11 ho11
            have P11 := (ho11.block pb (heap_lt P10) hvp).trans P10
            have S11 := pbS P11
            have T11 := (ho11.block tb (heap_lt V10.1) (row_not V10.2.1 V10.1 (by decide))).trans V10.1
            have c11c : w11.cell? ⟨tb, 0, none⟩ = some v := (by rw [Lib.cell_of_heap T11]; rfl)
            have z11 := Lib.frozen_of_heap T11 0
            refine hK.out _ _ ⟨S11, c11c⟩ (fun hHeld => ?_)
            clear hK K
            try simp only [Act.put, List.getElem_toArray, List.getElem_cons_zero, List.getElem_cons_succ, List.setIfInBounds_toArray, List.set_cons_zero, List.set_cons_succ]
            refine wpAnyE_take (i := 15) (.pointer (some ⟨tb, 0, none⟩)) rfl (by kernel_rfl) (by kernel_rfl) (by kernel_rfl) (by kernel_rfl) (fun _ _ _ h => h) hHeld (by rfl) (fun w' hSw => ?_) ?_
            · obtain ⟨⟨s0, s1, s2, s3⟩, s4⟩ := hSw; go_simp
            simp only [Act.put, List.getElem_toArray, List.getElem_cons_zero, List.getElem_cons_succ, List.setIfInBounds_toArray, List.set_cons_zero, List.set_cons_succ]
            refine wpAnyE_end (by kernel_rfl) rfl (by kernel_rfl) (fun K hK => ?_)
            go_simp
            refine hK.out _ _ ?_
            clear hK K hHeld
            try simp only [Act.put, List.getElem_toArray, List.getElem_cons_zero, List.getElem_cons_succ, List.setIfInBounds_toArray, List.set_cons_zero, List.set_cons_succ]
            have HN := hid (V10.push HQ.out r0 r1 hown11 hg11 ho11)
            go_wp2
            go_roundw
            case rel => exact ⟨k + 1, by omega, by go_num, HN⟩
            case measure => simp [intOf]; omega
          · obtain rfl : k = a.places.length := by omega
            rw [List.take_length] at hTw
            obtain ⟨hle1, hle2, hle3⟩ := HTLE.out
            have hF7 := ownC_only HF.out ho (fun j e e2 => ownC_not HF.out hblk (by decide) (by rw [e, e2]))
            have hT7 := (ho.block bb hsT hbt).trans hT
            have hTB7 := HTB.out.below (ho.below' (fun j e => by omega) hle2)
            obtain ⟨A7, c7, rfl, hR7, _⟩ := Reads.own hown
            have hP7 := hTw.plsR hR7
            have hr7 : Reads wk wk.heap.size 1 (some ⟨gf, 0, none⟩) a.first.length (a.first.map (Value.int .i64)) := by
              have h := hF7.reads
              rw [show a.first.length + 2 = (a.first ++ [-77, -77]).length by simp] at h
              exact reads_prefixZ h
            obtain ⟨q0, q1, q2, _⟩ := cells3f hb
            have HT7 := hid hTw
            have HR7 := hid hR7
            have HF7 := hid hF7
            have HTB7 := hid hTB7
            have HBK := hid hbk
            have HB := hid hb
            have HAK := hid hAk
            have HT7b := hid hT7
            have hsk := heap_lt hAk
            have hle4 : w4.heap.size ≤ wk.heap.size := Nat.le_trans hle2 hso
            clear hTw hR7 hown hL hF7 hTB7 hbk hb hAk hT7 HF HTB hblk hT
            go_wp2_with fail
            refine (of_any a A7 (some ⟨gf, 0, none⟩) c7 (a.first.length + 2) wk (by omega) hfl hpf2 hsl' hwf.out hP7 hr7).mono ?_
            rintro e w9 hpost
            have hb9 := hpost.1
            obtain ⟨RA, CA, NA, EA, gs, rfl, hT9⟩ := of_cases hRES.out hpost
            clear hpost hP7 hr7 q0 q1 q2 p0 p1 p2
            obtain ⟨w10, hw10⟩ : ∃ x, Hid (w9.alloc (.cells #[.slice RA rs.length rs.length, .slice CA rs.length rs.length, .slice NA rows.length rows.length, .slice EA m.ends.length m.ends.length] 43) = x) := ⟨_, hid rfl⟩
            have hb10 : Below w9.heap.size w9 w10 := by rw [← hw10.out]; exact below_new _ _
            have hB10 : w10.heap[w9.heap.size]? = some (.cells #[.slice RA rs.length rs.length, .slice CA rs.length rs.length, .slice NA rows.length rows.length, .slice EA m.ends.length m.ends.length] 43 (0, 0)) := by rw [← hw10.out]; exact heap_alloc_new _ _
            have HT10 := hid (hT9.next hb10)
            have hX10 : Below wk.heap.size wk w10 := hb9.trans (hb10.mono hb9.size)
            have hks := hb9.size
            clear hb10 hb9 hT9
            unfold tableV
            go_upto_region 13 with fail
            rw [hw10.out]
            clear hw10
            generalize w9.heap.size = b9 at hB10 hks ⊢
            obtain ⟨x0, x1, x2, x3, _⟩ := cells4 hB10
            have hR10 := (hX10.block bb (heap_lt HT7b.out)).trans HT7b.out
            obtain ⟨y0, y1, y2, y3, _⟩ := cells4 hR10
            obtain ⟨hn1, hk1, hq1, hrl⟩ := hRES.out.bounds hsl' hwf.out
            have HRL : Hid (∀ r ∈ rows, r.length ≤ 1000000000) := hid fun r hr => by rw [hrl r hr]; omega
            have hTP := HT10.out.tab
            have hTQ := (HTB7.out.below (hX10.mono hle4)).more (Nat.le_trans hle4 hX10.size)
            clear hrl hR10
            go_wp2_with fail
            refine (sameT_any RA CA NA EA RB CB NB EB rs.length rs.length rows.length m.ends.length rc cc nc ec rs.length rows.length m.ends.length rs rows m.ends w10 (hid rfl) (hid rfl) (hid rfl) hn1 hk1 hq1 HRL hTP hTQ).mono ?_
            rintro e w11 ⟨rfl, hb11⟩
            have hX11 := hX10.trans (hb11.mono hX10.size)
            have hB11 := (hb11.block b9 (heap_lt hB10)).trans hB10
            have HT11 := hid (HT10.out.next hb11)
            clear x0 x1 x2 x3 y0 y1 y2 y3 hTP hTQ hX10 hb11 hB10 HT10
            have hT11 := (hX11.block tb (heap_lt HB.out)).trans HB.out
            have hA11 := (hX11.block _ hsk).trans HAK.out
            obtain ⟨_, q1, _⟩ := cells3f hT11
            obtain ⟨_, p1, _⟩ := cells3f hA11
            have hF11 := (HF7.out.reads).next hX11
            have hr11 := (HR0.out.below (HBK.out.trans (hX11.mono HBK.out.size))).more (Nat.le_trans HBK.out.size hX11.size)
            clear hT11 hA11
            go_wp2_with fail
            refine (leftN_any a.first gf FA cf w11 hfl hF11 hr11).mono ?_
            rintro e w12 ⟨rfl, hb12⟩
            have HX12 := hid (hX11.trans (hb12.mono hX11.size))
            have hB12 := (hb12.block b9 (heap_lt hB11)).trans hB11
            have HT12 := hid (HT11.out.next hb12)
            clear q1 p1 hF11 hr11 hX11 hb12 hB11 HT11
            go_wp2_with fail
            go_loopw [10] (fun i wr => ∃ k : Nat, k ≤ a.places.length ∧ i = .int .i64 k ∧ Hid (Below w12.heap.size w12 wr)) (fun i _ => a.places.length - (intOf i).toNat)
            case atStart => exact ⟨0, Nat.zero_le _, rfl, hid (Below.refl _ _)⟩
            case round =>
              rename World => wm
              obtain ⟨k, hkn, rfl, hM⟩ := hrel
              have hXm : Below wk.heap.size wk wm := HX12.out.trans (hM.out.mono HX12.out.size)
              have hAm := (hXm.block _ hsk).trans HAK.out
              obtain ⟨p0, p1, p2, _⟩ := cells3f hAm
              have hTm := (hXm.block tb (heap_lt HB.out)).trans HB.out
              obtain ⟨q0, q1, q2, _⟩ := cells3f hTm
              by_cases hlt : k < a.places.length
              · obtain ⟨pvs, hvr, hvp⟩ := HP.out.below (HBK.out.trans (hXm.mono HBK.out.size))
                obtain ⟨SA, cs, FA', cf', e0, e1, e2, e3, rs0, rf0⟩ := hvp k hlt
                obtain ⟨b, off, rfl, hbl, hc⟩ := hvr.2 (by omega)
                have d0 := hc _ _ e0
                have d3 := hc _ _ e3
                obtain ⟨g, f, u0, _, _, u3, r0, r1⟩ := HT7.out.2 k hlt
                obtain ⟨b', off', rfl, hbl', hc'⟩ := (HR7.out.next hXm).2 (by omega)
                have d4 := hc' _ _ u0
                have d5 := hc' _ _ u3
                rw [← Nat.add_assoc] at d3 d5
                have hps := hps2.out _ (List.getElem_mem hlt)
                have hpfo := hpf2.out _ (List.getElem_mem hlt)
                have hBm := Nat.le_trans HBK.out.size hXm.size
                have ca := fun i os => left_quietR a.places[k].set g SA cs wm hps (r0.reads.next hXm) (rs0.more hBm) i os
                have cb := fun i os => left_quietN a.places[k].follow f FA' cf' wm hpfo (r1.reads.next hXm) (rf0.more hBm) i os
                clear e0 e1 e2 e3 hc hvp hvr u0 u3 r0 r1 rs0 rf0 hc' hAm hTm hps hpfo
                generalize a.places[k] = pk at d0 d3 d4 d5 ca cb
                have k0 := fun d os => cell_regrown p0 d os
                have k1 := fun d os => cell_regrown q0 d os
                have k2 := fun d os => cell_regrown d0 d os
                have k3 := fun d os => cell_regrown d3 d os
                have k4 := fun d os => cell_regrown d4 d os
                have k5 := fun d os => cell_regrown d5 d os
                have e6 : (0 : Int) ≤ (k : Int) := by omega
                have e7 : (k : Int).toNat = k := by omega
                have e8 : (k : Int) < (a.places.length : Int) := by omega
                go_wp2_with fail
                clear p0 p1 p2 q0 q1 q2 d0 d3 d4 d5
                refine wp_region_quiet_below (by kernel_rfl) (by kernel_rfl) ?_
                repeat (quiet_step (first | exact ca _ _ | exact cb _ _))
                refine wpQuiet_nil ?_
                intro _ hw'
                obtain ⟨⟨dq, osq⟩, hw''⟩ := hw'
                subst hw''
                clear k0 k1 k2 k3 k4 k5 ca cb e6 e7 e8
                go_wp2
                go_roundw
                case rel => exact ⟨k + 1, by omega, by go_num, hid (hM.out.trans ((below_regrown wm dq osq).mono hM.out.size))⟩
                case measure => simp [intOf]; omega
              · obtain rfl : k = a.places.length := by omega
                obtain ⟨hgw, cur, hcur, hcs⟩ := ownC_at HF7.out
                obtain ⟨hn1, hk1, hq1, _⟩ := hRES.out.bounds hsl' hwf.out
                have hgl := heap_lt hcur
                have hTAm := HT12.out.next hM.out
                obtain ⟨ps, hPS, hvals⟩ := table_pages (B := w.heap.size) (n := a.first.length) (c := a.first.length + 2) hTAm ((hXm.block gf hgl).trans hcur) hgl (by omega) (Nat.le_add_right _ 2) hcs (by omega) (by omega) (by omega)
                have HPS := hid hPS
                have HV := hid hvals
                have hN := hTAm.nxt.reads
                have HGL := hid hTAm.row.len
                have hbm := HBK.out.trans (hXm.mono HBK.out.size)
                have hbsz := hbm.size
                have hBXm := (hM.out.block b9 (heap_lt hB12)).trans hB12
                obtain ⟨w13, hw13⟩ : ∃ x, Hid (wm.alloc (.cells #[.slice none 0 0] 51) = x) := ⟨_, hid rfl⟩
                have hb13 : Below wm.heap.size wm w13 := by rw [← hw13.out]; exact below_new _ _
                have hBK13 : BookAt w13 wm.heap.size none 0 [] := by rw [← hw13.out]; exact bookAt_new wm
                clear hPS hvals hTAm hcur hcs hAm p1 p2 q0 q1 q2
                go_upto_region 21 with fail
                rw [hw13.out]
                clear hw13 p0
                obtain ⟨_, q1, _⟩ := cells3f ((hb13.block tb (heap_lt hTm)).trans hTm)
                have hBX13 := (hb13.block b9 (heap_lt hBXm)).trans hBXm
                have hb9m := heap_lt hBXm
                have hN13 := hN.below hb13
                generalize hbk9 : wm.heap.size = bk at hb13 hBK13 hN13 hb9m hbsz ⊢
                have HBK9 := hid hbk9
                have hnb : ¬ BkS bk none ([] : List Value).length 0 b9 := fun e => by have := (hBK13.ge e).1; omega
                clear hTm hBXm hN hbk9
                go_wp2_with fail
                refine (bookZ2_any bk a.first.length (a.first.length + 2) (some ⟨gf, 0, none⟩) none 0 [] w13 (by simp) hBK13).mono ?_
                intro e w14 hp14
                obtain ⟨rfl, A14, c14, hbk14, _, ht14, hb14⟩ := book_step hBK13 hp14 hnb hBX13
                obtain ⟨x0, x1, x2, x3, _⟩ := cells4 ht14
                have hN14 := hN13.below hb14
                have HB14 := hid (hb13.trans hb14)
                clear hp14 hBK13 hnb hBX13 q1 hN13 hb13 hb14 ht14
                go_wp2_with fail
                refine (lists_any bk rs.length rows.length m.ends.length rs.length A14 RA CA NA EA c14 rs.length rs.length rows.length m.ends.length _ _ gs w14 (by simp) hbk14 HGL hk1 hN14 (hid rfl)).mono ?_
                rintro e w15 ⟨rfl, hb15, A15, c15, hbk15⟩
                have hb15 := HB14.out.trans hb15
                rw [← HBK9.out] at hb15
                have hst15 : BookSt w15 bk (ps.map fun p => .iface p.T p.v) := by rw [HV.out]; exact hbk15.st
                clear x0 x1 x2 x3 hN14 hbk14 hbk15
                go_wp2_with fail
                refine (apart_go bk ps wm w15 HPS.out.few HBK9.out.symm HPS.out.ok HPS.out.apart HPS.out.st HPS.out.lt hb15 hst15).mono ?_
                rintro e w16 ⟨rfl, ho16⟩
                have hb15w := hbm.trans (hb15.mono hbm.size)
                have hb16 : Below w.heap.size w w16 := ho16.below HPS.out.ge hb15w hb15w.size
                clear hb15 hst15 hb15w hbm ho16
                go_wp2_with fail
                refine (lives9_any _).mono ?_
                rintro e w17 ⟨rfl, hb17⟩
                go_wp2_with fail
                go_ret
                exact ⟨rfl, hb16.trans (hb17.mono hb16.size)⟩
end Go.Proofs.YtoclbcfgfaialaaGreatDoor
