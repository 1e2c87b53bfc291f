/-
  SubsetsOf: Places, Same of the statements: the walks.
-/
import Derived.Test.YtoclbcfgfaialaaGreatDoorSubRef4
import Derived.Test.YtoclbcfgfaialaaGreatDoorSubTail
import Derived.Test.YtoclbcfgfaialaaGreatDoorSameR
import Derived.Test.YtoclbcfgfaialaaGreatDoorSubLive2
namespace Go.Proofs.YtoclbcfgfaialaaGreatDoor
open Go.RowKit
set_option maxRecDepth 100000
theorem infoPl8 : (Tryz.prog.info? 61).map (fun i => (i.zero, i.size, i.bytes)) = some (some (.agg #[.slice none 0 0, .int .i64 0, .bool false, .slice none 0 0]), 4, 64) := by kernel_rfl
/-- the cells of places, as they stand in memory -/
theorem PlsR.cells {w : World} {B : Nat} {A : Option Addr} {ps : List Pl} (h : PlsR w B A ps) : ∃ vs : List Value, Reads w B 4 A ps.length vs ∧ (∀ i (h : i < ps.length), PlV w B vs i ps[i]) := h
def PlacesPost (a : Au) (FA : Option Addr) (cf : Nat) (w : World) (e : Ending) (w' : World) : Prop :=
  Below w.heap.size w w' ∧ ∃ PA c, e = .returned (.agg #[.slice PA a.places.length c, .slice FA a.first.length cf, .int .i64 a.kinds]) ∧ PlsR w' w'.heap.size PA a.places
theorem plV_moved {w w' : World} {B B' : Nat} {vs xs : List Value} {i : Nat} {p : Pl} (h : PlV w B vs i p) (hx : ∀ j, j < 4 → xs[i * 4 + j]? = vs[i * 4 + j]?) (hb : Below B w w') (hB : B ≤ B') : PlV w' B' xs i p := by
  obtain ⟨SA, cs, FA, cf, e0, e1, e2, e3, r0, r1⟩ := h
  exact ⟨SA, cs, FA, cf, (hx 0 (by omega)).trans e0, (hx 1 (by omega)).trans e1, (hx 2 (by omega)).trans e2, (hx 3 (by omega)).trans e3, (r0.below hb).more hB, (r1.below hb).more hB⟩
theorem set3 (w : World) (b : Nat) (T : TypeId) (x0 x1 x2 y0 y1 y2 : Value) (h : w.heap[b]? = some (.cells #[x0, x1, x2] T (0, 0))) :
    ∃ w', Hid (((w.setCell ⟨b, 0, none⟩ y0).setCell ⟨b, 1, none⟩ y1).setCell ⟨b, 2, none⟩ y2 = w') ∧ w'.heap[b]? = some (.cells #[y0, y1, y2] T (0, 0)) ∧ Only (fun j => j = b) w w' := by
  refine ⟨_, hid rfl, ?_, ?_⟩
  · have h0 := heap_setCell_same w b 0 _ _ y0 h
    have h1 := heap_setCell_same _ b 1 _ _ y1 h0
    exact heap_setCell_same _ b 2 _ _ y2 h1
  · exact ((Only.of_set w b 0 y0).trans (Only.of_set _ b 1 y1) fun _ _ e => e).trans (Only.of_set _ b 2 y2) fun _ _ e => e
theorem cells3f {w : World} {b : Nat} {T : TypeId} {x0 x1 x2 : Value} (h : w.heap[b]? = some (.cells #[x0, x1, x2] T (0, 0))) :
    w.cell? ⟨b, 0, none⟩ = some x0 ∧ w.cell? ⟨b, 1, none⟩ = some x1 ∧ w.cell? ⟨b, 2, none⟩ = some x2 ∧ w.frozen? ⟨b, 0, none⟩ = false ∧ w.frozen? ⟨b, 1, none⟩ = false ∧ w.frozen? ⟨b, 2, none⟩ = false := by
  refine ⟨?_, ?_, ?_, Lib.frozen_of_heap h 0, Lib.frozen_of_heap h 1, Lib.frozen_of_heap h 2⟩ <;> (rw [Lib.cell_of_heap h]; rfl)
theorem take_four {α : Type} {vs : List α} {k : Nat} {x0 x1 x2 x3 : α} (e0 : vs[k*4]? = some x0) (e1 : vs[k*4+1]? = some x1) (e2 : vs[k*4+2]? = some x2) (e3 : vs[k*4+3]? = some x3) : vs.take ((k+1)*4) = vs.take (k*4) ++ [x0, x1, x2, x3] := by
  have st : ∀ i (x : α), vs[i]? = some x → vs.take (i+1) = vs.take i ++ [x] := fun i x h => by
    obtain ⟨h1, h2⟩ := List.getElem?_eq_some_iff.1 h
    rw [List.take_succ_eq_append_getElem h1, h2]
  have : (k+1)*4 = k*4+1+1+1+1 := by omega
  rw [this, st _ _ e3, st _ _ e2, st _ _ e1, st _ _ e0]
  simp
set_option maxHeartbeats 3200000 in
theorem places_any (a : Au) (PA FA : Option Addr) (cp cf : Nat) (w : World) (hn : a.places.length ≤ 1000000) (hp : PlsR w w.heap.size PA a.places) :
    Calls Tryz.prog 8 #[.agg #[.slice PA a.places.length cp, .slice FA a.first.length cf, .int .i64 a.kinds]] w fun e w' => PlacesPost a FA cf w e w' := by
  obtain ⟨wx, hwx⟩ : ∃ wx, Hid (((w.alloc (.cells #[.slice PA a.places.length cp, .slice FA a.first.length cf, .int .i64 a.kinds] 25)).alloc (.cells #[.slice none 0 0, .slice none 0 0, .int .i64 0] 37)).alloc (.cells #[.slice none 0 0, .slice FA a.first.length cf, .int .i64 a.kinds] 37) = wx) := ⟨_, hid rfl⟩
  have hsx : wx.heap.size = w.heap.size + 3 := by rw [← hwx.out]; simp
  have hbx : Below w.heap.size w wx := by rw [← hwx.out]; exact (((Below.refl _ _).alloc (Nat.le_refl _) _).alloc (by simp) _).alloc (by simp; omega) _
  have a0 : wx.heap[w.heap.size]? = some (.cells #[.slice PA a.places.length cp, .slice FA a.first.length cf, .int .i64 a.kinds] 25 (0, 0)) := by
    rw [← hwx.out, Below.heap_alloc _ _ _ (by simp; omega), Below.heap_alloc _ _ _ (by simp), heap_alloc_new]
  have a1 : wx.heap[w.heap.size + 1]? = some (.cells #[.slice none 0 0, .slice none 0 0, .int .i64 0] 37 (0, 0)) := by
    rw [← hwx.out, Below.heap_alloc _ _ _ (by simp), ← size_alloc w (.cells #[.slice PA a.places.length cp, .slice FA a.first.length cf, .int .i64 a.kinds] 25), heap_alloc_new]
  have a2 : wx.heap[w.heap.size + 1 + 1]? = some (.cells #[.slice none 0 0, .slice FA a.first.length cf, .int .i64 a.kinds] 37 (0, 0)) := by
    rw [← hwx.out]
    have h2 : ((w.alloc (.cells #[.slice PA a.places.length cp, .slice FA a.first.length cf, .int .i64 a.kinds] 25)).alloc (.cells #[.slice none 0 0, .slice none 0 0, .int .i64 0] 37)).heap.size = w.heap.size + 1 + 1 := by simp
    rw [← h2, heap_alloc_new]
  obtain ⟨vs, hvr, hvp⟩ := hp
  obtain ⟨i0, hi0, hz0, hsz0, hy0⟩ := info_parts infoPl8
  go_enter Tryz.func8, Tryz.ntmps8
  go_wp2_with fail
  rw [hwx.out]
  clear hwx
  obtain ⟨tb, htb⟩ : ∃ tb, Hid (w.heap.size + 1 + 1 = tb) := ⟨_, hid rfl⟩
  rw [htb.out] at a2
  try rw [htb.out]
  go_loopw [4] (fun i wr => ∃ k : Nat, k ≤ a.places.length ∧ i = .int .i64 k ∧ ∃ v, wr.heap[tb]? = some (.cells #[v, .slice FA a.first.length cf, .int .i64 a.kinds] 37 (0, 0)) ∧ wr.ownsRow wx.heap.size 61 4 v k (vs.take (k * 4)) ∧ Only (fun j => j = tb) wx wr) (fun i _ => a.places.length - (intOf i).toNat)
  case atStart => exact ⟨0, Nat.zero_le _, rfl, _, a2, World.ownsRow_nil wx _ _ _, Only.refl _ _⟩
  case round =>
    rename World => wk
    obtain ⟨k, hk, rfl, v, hblk, hown, ho⟩ := hrel
    have hT := htb.out
    have hso := ho.size
    have htlt := heap_lt hblk
    obtain ⟨Ak, ck, rfl, hrk, hck⟩ := Reads.own hown
    obtain ⟨r0, r1, r2, z0, z1, z2⟩ := cells3f hblk
    have p0 := (ho.cell (b := w.heap.size) (o := 0) (by omega) (by omega)).trans (show wx.cell? ⟨w.heap.size, 0, none⟩ = some (.slice PA a.places.length cp) by rw [Lib.cell_of_heap a0]; rfl)
    have hbk : Below w.heap.size w wk := ho.below (fun j e => (by omega : w.heap.size ≤ j)) hbx (by omega)
    by_cases hlt : k < a.places.length
    · obtain ⟨SA, cs, FA', cf', e0, e1, e2, e3, _, _⟩ := hvp k hlt
      obtain ⟨b, off, rfl, hbl, hc⟩ := hvr.2 (by omega)
      have d0 := (hbk.cell (p := ⟨b, off + k * 4, none⟩) hbl).trans (hc _ _ e0)
      have d1 := (hbk.cell (p := ⟨b, off + (k * 4 + 1), none⟩) hbl).trans (hc _ _ e1)
      have d2 := (hbk.cell (p := ⟨b, off + (k * 4 + 2), none⟩) hbl).trans (hc _ _ e2)
      have d3 := (hbk.cell (p := ⟨b, off + (k * 4 + 3), none⟩) hbl).trans (hc _ _ e3)
      rw [← Nat.add_assoc] at d1 d2 d3
      have HE := hid (take_four e0 e1 e2 e3)
      have HV : Hid ((vs.take (k * 4)).length = k * 4) := hid hown.1
      clear e0 e1 e2 e3 hc
      generalize a.places[k].set.length = sl at d0 HE
      generalize a.places[k].kind = kd at d1 HE
      generalize a.places[k].last = la at d2 HE
      generalize a.places[k].follow.length = fl at d3 HE
      generalize vs.take (k * 4) = xs at hown HE HV hrk
      have hmx : k + 1 ≤ maxLen := by simp only [maxLen]; omega
      have hmy : (k + 1) * 64 ≤ 140737488355328 := by omega
      have hownA := fun o => hown.alloc (w := wk) o
      have HBL := hid hblk
      have hbsz : wx.heap.size ≤ (wk.alloc (.cells #[.slice SA sl cs, .int .i64 kd, .bool la, .slice FA' fl cf'] 41)).heap.size := by simp; omega
      clear hblk hT hrk
      go_wp2_with (at_builtin; go_must (refine wpList_push4 (wk.alloc (.cells #[.slice SA sl cs, .int .i64 kd, .bool la, .slice FA' fl cf'] 41)) rfl _ _ 35 rfl wx.heap.size 61 i0 _ 4 64 Tryz.underlying35 hi0 hz0 hsz0 hy0 rfl (by omega) (.slice Ak k ck) k _ rfl (hownA _) [.slice SA sl cs, .int .i64 kd, .bool la, .slice FA' fl cf'] 1 (wk.heap.size + 1) rfl (by simp) rfl (by simp [Value.oneCell']) Nat.zero_lt_one hmx hmy hbsz ?_); intro g5 c5 w5 hown5 hg5 ho5; have hbA : (wk.alloc (.cells #[.slice SA sl cs, .int .i64 kd, .bool la, .slice FA' fl cf'] 41)).heap[tb]? = some (.cells #[.slice Ak k ck, .slice FA a.first.length cf, .int .i64 a.kinds] 37 (0, 0)) := (Below.heap_alloc wk _ _ htlt).trans HBL.out; have b5 := (ho5.block tb (heap_lt hbA) (row_not (hownA _) hbA (by decide))).trans hbA; have e5 : w5.cell? ⟨tb, 0, none⟩ = some (.slice Ak k ck) := (by rw [Lib.cell_of_heap b5]; rfl); have y5 : w5.frozen? ⟨tb, 0, none⟩ = false := Lib.frozen_of_heap b5 0)
      go_roundw
      case rel =>
        refine ⟨k + 1, by omega, by go_num, _, heap_setCell_same w5 tb 0 _ _ _ b5, ?_, ?_⟩
        · rw [HE.out]
          exact own_setTb hown5 b5 (by decide)
        · refine (((ho.trans (Only.of_below (S := fun _ => False) (below_new wk _)) fun _ _ e => e.elim).trans ho5 fun b hb e => ?_).trans (Only.of_set w5 tb 0 _) fun _ _ e => e)
          have := (hown.lt b e).1
          omega
      case measure => simp [intOf]; omega
    · have hkl : k = a.places.length := by omega
      subst hkl
      have hlen : vs.take (a.places.length * 4) = vs := List.take_of_length_le (by have := hvr.1; omega)
      rw [hlen] at hown
      have hb1 := (ho.block (w.heap.size + 1) (by omega) (by omega)).trans a1
      obtain ⟨q0, q1, q2, x0, x1, x2⟩ := cells3f hb1
      obtain ⟨w9, hw9, c91, ho9⟩ := set3 wk (w.heap.size + 1) _ _ _ _ (.slice Ak a.places.length ck) (.slice FA a.first.length cf) (.int .i64 a.kinds) hb1
      have hown9 := ownsRow_only hown ho9 fun j e1 e2 => by have := (hown.lt j e1).1; have e2 : j = w.heap.size + 1 := e2; omega
      have hb9 : Below w.heap.size w w9 := ho9.below (fun j e => (by omega : w.heap.size ≤ j)) hbk (by omega)
      have hR9 := Reads.of_own hown9
      have hP9 : PlsR w9 w9.heap.size (Ak) a.places := ⟨vs, hR9, fun i hi => plV_moved (hvp i hi) (fun _ _ => rfl) hb9 hb9.size⟩
      clear hlen hown hown9 hR9 hrk
      go_wp2_with fail
      rw [hw9.out]
      obtain ⟨s0, s1, s2, _⟩ := cells3f c91
      clear hw9
      exact bodyPost_ret (v := .agg #[.slice Ak a.places.length ck, .slice FA a.first.length cf, .int .i64 a.kinds]) (by simp [results, Tryz.results8, go_sem, s0, s1, s2]) rfl ⟨hb9, Ak, ck, rfl, hP9⟩
end Go.Proofs.YtoclbcfgfaialaaGreatDoor

/-
  SubsetsOf: Same of the statements, at one table in two places: the walk.
-/
namespace Go.Proofs.YtoclbcfgfaialaaGreatDoor
open Go.RowKit
set_option maxRecDepth 100000
set_option maxHeartbeats 6400000 in
theorem sameT_any (RA CA NA EA RB CB NB EB : Option Addr) (rc cc nc ec rd cd nd ed n k q : Nat) (rs : List Rg) (rows : List (List Int)) (ends : List Int) (w : World) (hn : Hid (rs.length = n)) (hk : Hid (rows.length = k)) (hq : Hid (ends.length = q)) (hn1 : n ≤ 10000000) (hk1 : k ≤ 1000000) (hq1 : q ≤ 1000000)
    (hrl : Hid (∀ r ∈ rows, r.length ≤ 1000000000)) (h1 : TabR w w.heap.size RA CA NA EA rs rows ends) (h2 : TabR w w.heap.size RB CB NB EB rs rows ends) :
    Calls Tryz.prog 12 #[.agg #[.slice RA n rc, .slice CA n cc, .slice NA k nc, .slice EA q ec], .agg #[.slice RB n rd, .slice CB n cd, .slice NB k nd, .slice EB q ed]] w fun e w' => e = .returned (.bool true) ∧ Below w.heap.size w w' := by
  obtain ⟨wx, hwx⟩ : ∃ wx, Hid ((w.alloc (.cells #[.slice RA n rc, .slice CA n cc, .slice NA k nc, .slice EA q ec] 43)).alloc (.cells #[.slice RB n rd, .slice CB n cd, .slice NB k nd, .slice EB q ed] 31) = wx) := ⟨_, hid rfl⟩
  have hsx : wx.heap.size = w.heap.size + 2 := by rw [← hwx.out]; simp
  have hbx : Below w.heap.size w wx := by rw [← hwx.out]; exact ((Below.refl _ _).alloc (Nat.le_refl _) _).alloc (by simp) _
  have a0 : wx.heap[w.heap.size]? = some (.cells #[.slice RA n rc, .slice CA n cc, .slice NA k nc, .slice EA q ec] 43 (0, 0)) := by
    rw [← hwx.out, Below.heap_alloc _ _ _ (by simp), heap_alloc_new]
  have a1 : wx.heap[w.heap.size + 1]? = some (.cells #[.slice RB n rd, .slice CB n cd, .slice NB k nd, .slice EB q ed] 31 (0, 0)) := by
    rw [← hwx.out, ← size_alloc w (.cells #[.slice RA n rc, .slice CA n cc, .slice NA k nc, .slice EA q ec] 43), heap_alloc_new]
  have h1 := h1.next hbx
  have h2 := h2.next hbx
  have hsz0 : w.heap.size < wx.heap.size := by omega
  have hsz1 : w.heap.size + 1 < wx.heap.size := by omega
  obtain ⟨p0, p1, p2, p3, _⟩ := cells4 a0
  obtain ⟨q0, q1, q2, q3, _⟩ := cells4 a1
  have HR := fun w0 (x : Reads w0 w0.heap.size 2 RA n (flat encR rs)) (y : Reads w0 w0.heap.size 2 RB n (flat encR rs)) => sameR_any RA RB rc rd rs rs w0 (by rw [hn.out]; exact hn1) (by rw [hn.out]; exact x) (by rw [hn.out]; exact y)
  rw [hn.out, decide_eq_true rfl] at HR
  have hil := iotaI_len n
  have HC := fun w0 (x : Reads w0 w0.heap.size 1 CA n ((iotaI n).map (Value.int .i64))) (y : Reads w0 w0.heap.size 1 CB n ((iotaI n).map (Value.int .i64))) => sameZ_eq CA CB cc cd (iotaI n) w0 (by rw [hil]; omega) (by rw [hil]; exact x) (by rw [hil]; exact y)
  rw [hil] at HC
  have HE := fun w0 (x : Reads w0 w0.heap.size 1 EA q (ends.map (Value.int .i64))) (y : Reads w0 w0.heap.size 1 EB q (ends.map (Value.int .i64))) => sameZ_eq EA EB ec ed ends w0 (by rw [hq.out]; omega) (by rw [hq.out]; exact x) (by rw [hq.out]; exact y)
  rw [hq.out] at HE
  have HRR := hid HR
  have HCC := hid HC
  have HEE := hid HE
  clear HR HC HE hil
  have ⟨rA, cA, nA, eA⟩ := h1
  have ⟨rB, cB, nB, eB⟩ := h2
  rw [hn.out] at rA rB cA cB
  rw [hq.out] at eA eB
  go_enter Tryz.func12, Tryz.ntmps12
  go_wp2_with fail
  rw [hwx.out]
  clear hwx
  go_wp2_with fail
  refine (HRR.out _ rA rB).mono ?_
  rintro e w1 ⟨rfl, hb1⟩
  have p1 := (hb1.cell (p := ⟨w.heap.size, 1, none⟩) hsz0).trans p1
  have p2 := (hb1.cell (p := ⟨w.heap.size, 2, none⟩) hsz0).trans p2
  have p3 := (hb1.cell (p := ⟨w.heap.size, 3, none⟩) hsz0).trans p3
  have q1 := (hb1.cell (p := ⟨w.heap.size + 1, 1, none⟩) hsz1).trans q1
  have q2 := (hb1.cell (p := ⟨w.heap.size + 1, 2, none⟩) hsz1).trans q2
  have q3 := (hb1.cell (p := ⟨w.heap.size + 1, 3, none⟩) hsz1).trans q3
  have hsz0 := Nat.lt_of_lt_of_le hsz0 hb1.size
  have hsz1 := Nat.lt_of_lt_of_le hsz1 hb1.size
  have cA := cA.next hb1
  have cB := cB.next hb1
  have eA := eA.next hb1
  have eB := eB.next hb1
  have nA := nA.next hb1
  have nB := nB.next hb1
  have hbw := hbx.trans (hb1.mono hbx.size)
  clear HRR rA rB p0 q0 a0 a1 h1 h2 hbx hb1 hsx
  go_wp2_with fail
  refine (HCC.out _ cA cB).mono ?_
  rintro e w2 ⟨rfl, hb2⟩
  have p2 := (hb2.cell (p := ⟨w.heap.size, 2, none⟩) hsz0).trans p2
  have p3 := (hb2.cell (p := ⟨w.heap.size, 3, none⟩) hsz0).trans p3
  have q2 := (hb2.cell (p := ⟨w.heap.size + 1, 2, none⟩) hsz1).trans q2
  have q3 := (hb2.cell (p := ⟨w.heap.size + 1, 3, none⟩) hsz1).trans q3
  have hsz0 := Nat.lt_of_lt_of_le hsz0 hb2.size
  have hsz1 := Nat.lt_of_lt_of_le hsz1 hb2.size
  have eA := eA.next hb2
  have eB := eB.next hb2
  have nA := nA.next hb2
  have nB := nB.next hb2
  have hbw := hbw.trans (hb2.mono hbw.size)
  clear HCC cA cB p1 q1 hb2
  go_wp2_with fail
  refine (HEE.out _ eA eB).mono ?_
  rintro e w3 ⟨rfl, hb3⟩
  have p2 := (hb3.cell (p := ⟨w.heap.size, 2, none⟩) hsz0).trans p2
  have q2 := (hb3.cell (p := ⟨w.heap.size + 1, 2, none⟩) hsz1).trans q2
  have hsz0 := Nat.lt_of_lt_of_le hsz0 hb3.size
  have hsz1 := Nat.lt_of_lt_of_le hsz1 hb3.size
  have nA := nA.next hb3
  have nB := nB.next hb3
  have hbw := hbw.trans (hb3.mono hbw.size)
  clear HEE eA eB p3 q3 hb3
  go_wp2_with fail
  go_loopw [5] (fun i wr => ∃ j : Nat, j ≤ k ∧ i = .int .i64 j ∧ Below w3.heap.size w3 wr) (fun i _ => k - (intOf i).toNat)
  case atStart => exact ⟨0, Nat.zero_le _, rfl, Below.refl _ _⟩
  case round =>
    obtain ⟨j, hj, rfl, hbr⟩ := hrel
    have u2 := (hbr.cell (p := ⟨w.heap.size, 2, none⟩) hsz0).trans p2
    have v2 := (hbr.cell (p := ⟨w.heap.size + 1, 2, none⟩) hsz1).trans q2
    have HBR := hid hbr
    by_cases hlt : j < k
    · have hjr : j < rows.length := by rw [hk.out]; exact hlt
      obtain ⟨b, off, Ai, ci, rfl, hbl, z0, rA⟩ := (nA.below hbr).at j hjr
      obtain ⟨b', off', Bi, di, rfl, hbl', z1, rB⟩ := (nB.below hbr).at j hjr
      have hro := hrl.out _ (List.getElem_mem hjr)
      generalize rows[j] = row at z0 z1 rA rB hro
      go_wp2_with fail
      refine still_tail 10 (by kernel_rfl) (by kernel_rfl) ?_
      intro w5 HW5
      have hb5 : Below wr.heap.size wr w5 := by rw [HW5.out]; exact (Below.refl _ _).drew
      clear HW5
      have u25 := (hb5.cell (p := ⟨w.heap.size, 2, none⟩) (Nat.lt_of_lt_of_le hsz0 hbr.size)).trans u2
      have v25 := (hb5.cell (p := ⟨w.heap.size + 1, 2, none⟩) (Nat.lt_of_lt_of_le hsz1 hbr.size)).trans v2
      have z05 := (hb5.cell (p := ⟨b, off + j, none⟩) (Nat.lt_of_lt_of_le hbl hbr.size)).trans z0
      have z15 := (hb5.cell (p := ⟨b', off' + j, none⟩) (Nat.lt_of_lt_of_le hbl' hbr.size)).trans z1
      have i1 : (j : Int) < (k : Int) := by omega
      simp only [List.take_succ_cons, List.take_zero, List.drop_succ_cons, List.drop_zero]
      repeat still_step
      refine wpStill_nil ?_
      clear i1
      go_wp2_with fail
      have hb35 : Below w3.heap.size w3 w5 := hbr.trans (hb5.mono hbr.size)
      refine (sameZ_eq Ai Bi ci di row w5 (by omega) ((rA.more hbr.size).next hb5) ((rB.more hbr.size).next hb5)).mono ?_
      rintro e w6 ⟨rfl, hb6⟩
      go_wp2
      go_roundw
      case rel => exact ⟨j + 1, by omega, by go_num, hb35.trans (hb6.mono hb35.size)⟩
      case measure => simp [intOf]; omega
    · go_wp2
      go_ret
      exact ⟨rfl, hbw.trans (HBR.out.mono hbw.size)⟩
end Go.Proofs.YtoclbcfgfaialaaGreatDoor
