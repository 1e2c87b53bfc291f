/-
  harbingerlaw25.ReportsApart: the walk. Printed by gen_rep26.py.
-/
import Derived.Test.YtcbilcfieoibbaaGreatDoorRep22
import Derived.Test.YtcbilcfieoibbaaGreatDoorRep23
import Derived.Test.YtcbilcfieoibbaaGreatDoorRep24
import Derived.Test.YtcbilcfieoibbaaGreatDoorRep25
namespace Go.Proofs.YtcbilcfieoibbaaGreatDoor
open Go.RowKit
open Go.Sort (grow)
set_option maxRecDepth 100000
/-- what came in -/
structure ApIn (W : World) (RA TA XA : Option Addr) (n m x : List Rp.By) (T0 T1 : Rp.Tr) (v0 v1 : List Value) : Prop where
  tb : TB W.heap.size W
  sr : SR W W.heap.size RA n
  st : SR W W.heap.size TA m
  sx : SR W W.heap.size XA x
  t0 : TrR W W.heap.size T0 v0
  t1 : TrR W W.heap.size T1 v1
theorem ApIn.next {w w' : World} {RA TA XA : Option Addr} {n m x : List Rp.By} {T0 T1 : Rp.Tr} {v0 v1 : List Value} (h : ApIn w RA TA XA n m x T0 T1 v0 v1) (hb : Below w.heap.size w w') : ApIn w' RA TA XA n m x T0 T1 v0 v1 :=
  ⟨h.tb.next hb, h.sr.next hb, h.st.next hb, h.sx.next hb, TrR.keep hb hb.size _ _ h.t0, TrR.keep hb hb.size _ _ h.t1⟩
/-- what is asked of names -/
def NmOK (l : List Rp.By) : Prop := l.Nodup ∧ ∀ s ∈ l, Rp.plainB s = true ∧ s.length ≤ 100
def tkOf (x : List Rp.By) : List Tk := x.map fun s => (0, s, 0)
theorem txs_tkOf (x : List Rp.By) : txs (tkOf x) = x := by unfold txs tkOf; rw [List.map_map]; exact List.map_id _
theorem tkOf_len (x : List Rp.By) : (tkOf x).length = x.length := by unfold tkOf; simp
theorem tkOf_snoc (x : List Rp.By) (j : Nat) (h : j < x.length) : tkOf (x.take (j + 1)) = tkOf (x.take j) ++ [(0, x[j], 0)] := by
  unfold tkOf
  rw [List.take_succ_eq_append_getElem h, List.map_append]
  rfl
theorem all_snoc {P : Rp.By → Prop} {l : List Rp.By} {j : Nat} (h : ∀ s ∈ l.take j, P s) (hj : j < l.length) (hp : P l[j]) : ∀ s ∈ l.take (j + 1), P s := by
  rw [List.take_succ_eq_append_getElem hj]
  intro s hs
  rcases List.mem_append.1 hs with hs | hs
  · exact h s hs
  · have : s = l[j] := by simpa using hs
    rw [this]; exact hp
theorem infoTk : (Tryz.prog.info? 48).map (fun i => (i.zero, i.size, i.bytes)) = some (some (.agg #[.int .i64 0, .string ⟨#[]⟩, .int .i64 0]), 3, 32) := by kernel_rfl
theorem equalQ (T T' : Rp.Tr) (vs vs' : List Value) (b : Bool) (hb : b = true ↔ T = T') (w1 : World) (d : Nat) (os : Array Obj) (h0 : TrR w1 w1.heap.size T vs) (h1 : TrR w1 w1.heap.size T' vs') (hok : Rp.okT T) (hok' : Rp.okT T') :
    Calls Tryz.prog 19 #[.agg vs.toArray, .agg vs'.toArray] (grow (redrawn w1 d) os) fun e w'' => e = .returned (.bool b) ∧ ∃ p : Regrown, w'' = grow (redrawn w1 p.d) p.os := by
  have hbl := below_regrown w1 d os
  refine Calls.regrown_of ((equal_any w1.heap.size _ T T' _ vs vs' (Nat.le_refl _) (TrR.keep hbl (Nat.le_refl _) _ _ h0) (TrR.keep hbl (Nat.le_refl _) _ _ h1) hok hok' hbl.size).mono ?_)
  rintro e w' ⟨b', rfl, hb', hl⟩
  refine ⟨?_, hl⟩
  have : b' = b := by rw [Bool.eq_iff_iff, hb', hb]
  rw [this]
set_option maxHeartbeats 16000000 in
theorem apartW_any (RA TA XA : Option Addr) (rc tc xc : Nat) (n m x : List Rp.By) (r t k : Int) (e0 : Bool) (subs : List Rp.Tr) (A : Option Addr) (ca : Nat) (r' t' k' : Int) (e' : Bool) (subs' : List Rp.Tr) (A' : Option Addr) (ca' : Nat) (w : World)
    (hI : ApIn w RA TA XA n m x (.node r t k e0 subs) (.node r' t' k' e' subs') [.int .i64 r, .int .i64 t, .int .i64 k, .bool e0, .slice A subs.length ca] [.int .i64 r', .int .i64 t', .int .i64 k', .bool e', .slice A' subs'.length ca'])
    (ln : n.length ≤ 8796093022207) (lm : m.length ≤ 8796093022207) (lx : x.length ≤ 8796093022207) (bn : ∀ s ∈ n, s.length ≤ 140737488351232) (bm : ∀ s ∈ m, s.length ≤ 140737488351232) (bx : ∀ s ∈ x, s.length ≤ 140737488351232) (hok : Rp.okT (.node r t k e0 subs)) (hok' : Rp.okT (.node r' t' k' e' subs')) :
    Calls Tryz.prog 5 #[.agg #[.slice RA n.length rc, .slice TA m.length tc], .slice XA x.length xc, .agg #[.int .i64 r, .int .i64 t, .int .i64 k, .bool e0, .slice A subs.length ca, .int .i64 r', .int .i64 t', .int .i64 k', .bool e', .slice A' subs'.length ca']] w (TwP w) := by
  obtain ⟨W, hW⟩ : ∃ W, W = (w.alloc (.cells #[.slice RA n.length rc, .slice TA m.length tc] 42)).alloc (.cells #[.int .i64 r, .int .i64 t, .int .i64 k, .bool e0, .slice A subs.length ca, .int .i64 r', .int .i64 t', .int .i64 k', .bool e', .slice A' subs'.length ca'] 73) := ⟨_, rfl⟩
  have hWo : W = [Obj.cells #[.slice RA n.length rc, .slice TA m.length tc] 42, .cells #[.int .i64 r, .int .i64 t, .int .i64 k, .bool e0, .slice A subs.length ca, .int .i64 r', .int .i64 t', .int .i64 k', .bool e', .slice A' subs'.length ca'] 73].foldl World.alloc w := hW
  have hx1 : W.heap[w.heap.size]? = some (.cells #[.slice RA n.length rc, .slice TA m.length tc] 42 (0, 0)) := by rw [hWo]; exact al_at _ _ 0 _ rfl
  have hx2 : W.heap[w.heap.size + 1]? = some (.cells #[.int .i64 r, .int .i64 t, .int .i64 k, .bool e0, .slice A subs.length ca, .int .i64 r', .int .i64 t', .int .i64 k', .bool e', .slice A' subs'.length ca'] 73 (0, 0)) := by rw [hWo]; exact al_at _ _ 1 _ rfl
  have hbW : Below w.heap.size w W := by rw [hWo]; exact al_below _ _
  have hWs : w.heap.size + 1 < W.heap.size := by rw [hWo, al_size]; simp
  have n0 : W.cell? ⟨w.heap.size, 0, none⟩ = some (.slice RA n.length rc) := by rw [Lib.cell_of_heap hx1]; rfl
  have n1 : W.cell? ⟨w.heap.size, 1, none⟩ = some (.slice TA m.length tc) := by rw [Lib.cell_of_heap hx1]; rfl
  have x0 : W.cell? ⟨w.heap.size + 1, 0, none⟩ = some (.int .i64 r) := by rw [Lib.cell_of_heap hx2]; rfl
  have x1 : W.cell? ⟨w.heap.size + 1, 1, none⟩ = some (.int .i64 t) := by rw [Lib.cell_of_heap hx2]; rfl
  have x2 : W.cell? ⟨w.heap.size + 1, 2, none⟩ = some (.int .i64 k) := by rw [Lib.cell_of_heap hx2]; rfl
  have x3 : W.cell? ⟨w.heap.size + 1, 3, none⟩ = some (.bool e0) := by rw [Lib.cell_of_heap hx2]; rfl
  have x4 : W.cell? ⟨w.heap.size + 1, 4, none⟩ = some (.slice A subs.length ca) := by rw [Lib.cell_of_heap hx2]; rfl
  have x5 : W.cell? ⟨w.heap.size + 1, 5, none⟩ = some (.int .i64 r') := by rw [Lib.cell_of_heap hx2]; rfl
  have x6 : W.cell? ⟨w.heap.size + 1, 6, none⟩ = some (.int .i64 t') := by rw [Lib.cell_of_heap hx2]; rfl
  have x7 : W.cell? ⟨w.heap.size + 1, 7, none⟩ = some (.int .i64 k') := by rw [Lib.cell_of_heap hx2]; rfl
  have x8 : W.cell? ⟨w.heap.size + 1, 8, none⟩ = some (.bool e') := by rw [Lib.cell_of_heap hx2]; rfl
  have x9 : W.cell? ⟨w.heap.size + 1, 9, none⟩ = some (.slice A' subs'.length ca') := by rw [Lib.cell_of_heap hx2]; rfl
  have hIW := hI.next hbW
  have HN := hid fun (u : World) (hb : Below W.heap.size W u) (j : Nat) (hj : j < 2) => (show ∃ A c, NmAt u W.heap.size w.heap.size j (nm n m j) A c by
    have hc := fun i => hb.cell (p := ⟨w.heap.size, i, none⟩) (show w.heap.size < W.heap.size by omega)
    obtain rfl | rfl : j = 0 ∨ j = 1 := by omega
    · exact ⟨_, _, ⟨(hc 0).trans n0, hIW.sr.below hb, ln, bn⟩⟩
    · exact ⟨_, _, ⟨(hc 1).trans n1, hIW.st.below hb, lm, bm⟩⟩)
  have HNC := hid fun (u : World) (hb : Below W.heap.size W u) => (show u.cell? ⟨w.heap.size, 0, none⟩ = some (.slice RA n.length rc) ∧ u.cell? ⟨w.heap.size, 1, none⟩ = some (.slice TA m.length tc) from
    ⟨(hb.cell (p := ⟨w.heap.size, 0, none⟩) (show w.heap.size < W.heap.size by omega)).trans n0, (hb.cell (p := ⟨w.heap.size, 1, none⟩) (show w.heap.size < W.heap.size by omega)).trans n1⟩)
  have HXC := hid fun (u : World) (hb : Below W.heap.size W u) => (show u.cell? ⟨w.heap.size + 1, 0, none⟩ = some (.int .i64 r) ∧ u.cell? ⟨w.heap.size + 1, 1, none⟩ = some (.int .i64 t) ∧ u.cell? ⟨w.heap.size + 1, 2, none⟩ = some (.int .i64 k) ∧ u.cell? ⟨w.heap.size + 1, 3, none⟩ = some (.bool e0) ∧ u.cell? ⟨w.heap.size + 1, 4, none⟩ = some (.slice A subs.length ca) ∧ u.cell? ⟨w.heap.size + 1, 5, none⟩ = some (.int .i64 r') ∧ u.cell? ⟨w.heap.size + 1, 6, none⟩ = some (.int .i64 t') ∧ u.cell? ⟨w.heap.size + 1, 7, none⟩ = some (.int .i64 k') ∧ u.cell? ⟨w.heap.size + 1, 8, none⟩ = some (.bool e') ∧ u.cell? ⟨w.heap.size + 1, 9, none⟩ = some (.slice A' subs'.length ca') from
    ⟨(hb.cell (p := ⟨w.heap.size + 1, 0, none⟩) hWs).trans x0, (hb.cell (p := ⟨w.heap.size + 1, 1, none⟩) hWs).trans x1, (hb.cell (p := ⟨w.heap.size + 1, 2, none⟩) hWs).trans x2, (hb.cell (p := ⟨w.heap.size + 1, 3, none⟩) hWs).trans x3, (hb.cell (p := ⟨w.heap.size + 1, 4, none⟩) hWs).trans x4, (hb.cell (p := ⟨w.heap.size + 1, 5, none⟩) hWs).trans x5, (hb.cell (p := ⟨w.heap.size + 1, 6, none⟩) hWs).trans x6, (hb.cell (p := ⟨w.heap.size + 1, 7, none⟩) hWs).trans x7, (hb.cell (p := ⟨w.heap.size + 1, 8, none⟩) hWs).trans x8, (hb.cell (p := ⟨w.heap.size + 1, 9, none⟩) hWs).trans x9⟩)
  have HBW := hid hbW
  have HI := hid hIW
  clear hx1 hx2 hbW hWo hI hIW
  by_cases h1 : 20 < n.length
  · have f1 : decide ((20 : Int) < (n.length : Int)) = true := decide_eq_true (by omega)
    have f1' : decide (20 < n.length) = true := decide_eq_true h1
    have HLV := hid (lives_any W HI.out.tb)
    go_enter Tryz.func5, Tryz.ntmps5
    go_wp2_with fail
    rw [← hW]
    refine HLV.out.mono ?_
    rintro e w9 ⟨rfl, hb9⟩
    go_wp2_with fail
    go_ret
    exact TwP.of (HBW.out.trans (hb9.mono HBW.out.size))
  · have f1 : decide ((20 : Int) < (n.length : Int)) = false := decide_eq_false (by omega)
    have f1' : decide (20 < n.length) = false := decide_eq_false h1
    by_cases h2 : 20 < m.length
    · have f2 : decide ((20 : Int) < (m.length : Int)) = true := decide_eq_true (by omega)
      have f2' : decide (20 < m.length) = true := decide_eq_true h2
      have HLV := hid (lives_any W HI.out.tb)
      go_enter Tryz.func5, Tryz.ntmps5
      go_wp2_with fail
      rw [← hW]
      refine HLV.out.mono ?_
      rintro e w9 ⟨rfl, hb9⟩
      go_wp2_with fail
      go_ret
      exact TwP.of (HBW.out.trans (hb9.mono HBW.out.size))
    · have f2 : decide ((20 : Int) < (m.length : Int)) = false := decide_eq_false (by omega)
      have f2' : decide (20 < m.length) = false := decide_eq_false h2
      by_cases h3 : 20 < x.length
      · have f3 : decide ((20 : Int) < (x.length : Int)) = true := decide_eq_true (by omega)
        have f3' : decide (20 < x.length) = true := decide_eq_true h3
        have HLV := hid (lives_any W HI.out.tb)
        go_enter Tryz.func5, Tryz.ntmps5
        go_wp2_with fail
        rw [← hW]
        refine HLV.out.mono ?_
        rintro e w9 ⟨rfl, hb9⟩
        go_wp2_with fail
        go_ret
        exact TwP.of (HBW.out.trans (hb9.mono HBW.out.size))
      · have f3 : decide ((20 : Int) < (x.length : Int)) = false := decide_eq_false (by omega)
        have f3' : decide (20 < x.length) = false := decide_eq_false h3
        obtain ⟨c0, hc0⟩ : ∃ c, c = Rp.cnt (.node r t k e0 subs) 300 := ⟨_, rfl⟩
        have hd0 : c0 = min (Rp.szT (.node r t k e0 subs)) 301 := hc0
        have HC0 := hid fun (u : World) (hu : Below W.heap.size W u) => (show Calls Tryz.prog 11 #[.agg #[.int .i64 r, .int .i64 t, .int .i64 k, .bool e0, .slice A subs.length ca], .int .i64 300] u (fun e w' => e = .returned (.int .i64 (c0 : Nat)) ∧ Below u.heap.size u w') by rw [hc0]; exact count_any W.heap.size 300 (.node r t k e0 subs) u _ (by omega) (TrR.keep hu (Nat.le_refl _) _ _ HI.out.t0) hu.size hok)
        have HD0 := hid hd0
        clear hc0 hd0
        obtain ⟨c1, hc1⟩ : ∃ c, c = Rp.cnt (.node r' t' k' e' subs') 300 := ⟨_, rfl⟩
        have hd1 : c1 = min (Rp.szT (.node r' t' k' e' subs')) 301 := hc1
        have HC1 := hid fun (u : World) (hu : Below W.heap.size W u) => (show Calls Tryz.prog 11 #[.agg #[.int .i64 r', .int .i64 t', .int .i64 k', .bool e', .slice A' subs'.length ca'], .int .i64 300] u (fun e w' => e = .returned (.int .i64 (c1 : Nat)) ∧ Below u.heap.size u w') by rw [hc1]; exact count_any W.heap.size 300 (.node r' t' k' e' subs') u _ (by omega) (TrR.keep hu (Nat.le_refl _) _ _ HI.out.t1) hu.size hok')
        have HD1 := hid hd1
        clear hc1 hd1
        by_cases h4 : 300 < c0
        · have f4 : decide ((300 : Int) < (c0 : Int)) = true := decide_eq_true (by omega)
          have f4' : decide (300 < c0) = true := decide_eq_true h4
          go_enter Tryz.func5, Tryz.ntmps5
          go_wp2_with fail
          rw [← hW]
          refine (HC0.out W (Below.refl _ _)).mono ?_
          rintro e w2 ⟨rfl, hb2⟩
          have HLV := hid (lives_any w2 (HI.out.next hb2).tb)
          have HB2 := hid (HBW.out.trans (hb2.mono HBW.out.size))
          go_wp2_with fail
          refine HLV.out.mono ?_
          rintro e w9 ⟨rfl, hb9⟩
          go_wp2_with fail
          go_ret
          exact TwP.of (HB2.out.trans (hb9.mono HB2.out.size))
        · have f4 : decide ((300 : Int) < (c0 : Int)) = false := decide_eq_false (by omega)
          have f4' : decide (300 < c0) = false := decide_eq_false h4
          have hz0 : Rp.szT (.node r t k e0 subs) ≤ 300 := by have := HD0.out; omega
          clear HD0
          by_cases h5 : 300 < c1
          · have f5 : decide ((300 : Int) < (c1 : Int)) = true := decide_eq_true (by omega)
            have f5' : decide (300 < c1) = true := decide_eq_true h5
            go_enter Tryz.func5, Tryz.ntmps5
            go_wp2_with fail
            rw [← hW]
            refine (HC0.out W (Below.refl _ _)).mono ?_
            rintro e w2 ⟨rfl, hb2⟩
            obtain ⟨z0, z1, z2, z3, z4, z5, z6, z7, z8, z9⟩ := HXC.out w2 hb2
            go_wp2_with fail
            refine (HC1.out w2 hb2).mono ?_
            rintro e w3 ⟨rfl, hb3⟩
            have HB3 := hid (hb2.trans (hb3.mono hb2.size))
            have HLV := hid (lives_any w3 (HI.out.next HB3.out).tb)
            have HB4 := hid (HBW.out.trans (HB3.out.mono HBW.out.size))
            go_wp2_with fail
            refine HLV.out.mono ?_
            rintro e w9 ⟨rfl, hb9⟩
            go_wp2_with fail
            go_ret
            exact TwP.of (HB4.out.trans (hb9.mono HB4.out.size))
          · have f5 : decide ((300 : Int) < (c1 : Int)) = false := decide_eq_false (by omega)
            have f5' : decide (300 < c1) = false := decide_eq_false h5
            have hz1 : Rp.szT (.node r' t' k' e' subs') ≤ 300 := by have := HD1.out; omega
            clear HD1
            go_enter Tryz.func5, Tryz.ntmps5
            go_wp2_with fail
            rw [← hW]
            refine (HC0.out W (Below.refl _ _)).mono ?_
            rintro e w2 ⟨rfl, hb2⟩
            obtain ⟨z0, z1, z2, z3, z4, z5, z6, z7, z8, z9⟩ := HXC.out w2 hb2
            clear hW x0 x1 x2 x3 x4 x5 x6 x7 x8 x9 n0 n1
            go_wp2_with fail
            refine (HC1.out w2 hb2).mono ?_
            rintro e w3 ⟨rfl, hb3⟩
            have HB3 := hid (hb2.trans (hb3.mono hb2.size))
            clear z0 z1 z2 z3 z4 z5 z6 z7 z8 z9 hb2 hb3 HC0 HC1 f1 f1' f2 f2' f3 f3' f4 f4' f5 f5'
            go_wp2_with fail
            go_loopw [7] (fun v wr => ∃ q : Nat, q ≤ 2 ∧ v = .int .i64 q ∧ Hid (Below W.heap.size W wr ∧ ∀ i, i < q → NmOK (nm n m i))) (fun v _ => 2 - (intOf v).toNat)
            case atStart => exact ⟨0, by omega, rfl, hid ⟨HB3.out, fun i hi => by omega⟩⟩
            case round =>
              obtain ⟨q, hq, rfl, hI⟩ := hrel
              rename World => wo
              obtain ⟨hb, hNm⟩ := hI.out
              by_cases hq2 : q < 2
              · have f2 : decide ((q : Int) < 2) = true := decide_eq_true (by omega)
                have f2' : decide (q < 2) = true := decide_eq_true hq2
                obtain ⟨NA, nc, hNA⟩ := HN.out wo hb q hq2
                have k0 := hNA.cell
                have HUN := hid (unlike_any wo NA nc (nm n m q) W.heap.size hNA.sr hb.size hNA.len)
                unfold UnP at HUN
                have HB := hid hb
                have HNM := hid hNm
                clear hb hNm hI hNA
                by_cases hun : (nm n m q).Nodup
                · rw [decide_eq_true hun] at HUN
                  have HND := hid hun
                  clear hun
                  go_wp2_with fail
                  refine HUN.out.mono ?_
                  rintro e w4 ⟨rfl, hb4⟩
                  have HB4 := hid (HB.out.trans (hb4.mono HB.out.size))
                  obtain ⟨NA, nc, hNA⟩ := HN.out w4 HB4.out q hq2
                  have k1 := hNA.cell
                  have hlen := hNA.len
                  clear hb4 k0 HUN
                  go_wp2_with fail
                  go_loop [8] (fun v => ∃ p : Nat, p ≤ (nm n m q).length ∧ v = .int .i64 p ∧ Hid (∀ s ∈ (nm n m q).take p, Rp.plainB s = true ∧ s.length ≤ 100)) (fun v => (nm n m q).length - (intOf v).toNat)
                  case atStart => exact ⟨0, Nat.zero_le _, rfl, hid (by simp)⟩
                  case round =>
                    obtain ⟨p, hp, rfl, hQ⟩ := hrel
                    by_cases hlp : p < (nm n m q).length
                    · have f3 : decide ((p : Int) < ((nm n m q).length : Int)) = true := decide_eq_true (by omega)
                      have f3' : decide (p < (nm n m q).length) = true := decide_eq_true hlp
                      obtain ⟨nb, noff, hnA, hnb, kc⟩ := hNA.sr.at p hlp
                      subst hnA
                      have hbl := hNA.bd _ (List.getElem_mem hlp)
                      have hnx := fun h => all_snoc (P := fun s => Rp.plainB s = true ∧ s.length ≤ 100) hQ.out hlp h
                      have HNX := hid hnx
                      clear hnx hQ
                      generalize (nm n m q)[p] = s at kc hbl HNX
                      have HPL := hid (plain_any s w4 hbl)
                      unfold PlP at HPL
                      have HLV := hid (lives_any w4 (HI.out.next HB4.out).tb)
                      cases hpl : Rp.plainB s with
                      | false =>
                        rw [hpl] at HPL
                        clear hpl HNX
                        go_wp2_with fail
                        refine HPL.out.mono ?_
                        rintro e w5 ⟨rfl, rfl⟩
                        rename World => w4
                        go_wp2_with fail
                        have HBF := hid (HBW.out.trans (HB4.out.mono HBW.out.size))
                        refine HLV.out.mono ?_
                        rintro e w9 ⟨rfl, hb9⟩
                        go_wp2_with fail
                        go_ret
                        exact TwP.of (HBF.out.trans (hb9.mono HBF.out.size))
                      | true =>
                        rw [hpl] at HPL
                        have HPT := hid hpl
                        clear hpl
                        by_cases hs : 100 < s.length
                        · have f6 : decide ((100 : Int) < (s.length : Int)) = true := decide_eq_true (by omega)
                          have f6' : decide (100 < s.length) = true := decide_eq_true hs
                          clear HNX
                          go_wp2_with fail
                          refine HPL.out.mono ?_
                          rintro e w5 ⟨rfl, rfl⟩
                          rename World => w4
                          go_wp2_with fail
                          have HBF := hid (HBW.out.trans (HB4.out.mono HBW.out.size))
                          refine HLV.out.mono ?_
                          rintro e w9 ⟨rfl, hb9⟩
                          go_wp2_with fail
                          go_ret
                          exact TwP.of (HBF.out.trans (hb9.mono HBF.out.size))
                        · have f6 : decide ((100 : Int) < (s.length : Int)) = false := decide_eq_false (by omega)
                          have f6' : decide (100 < s.length) = false := decide_eq_false hs
                          have HNX2 := hid (HNX.out ⟨HPT.out, by omega⟩)
                          clear HNX HLV
                          go_wp2_with fail
                          refine HPL.out.mono ?_
                          rintro e w5 ⟨rfl, rfl⟩
                          go_wp2_with fail
                          go_round
                          case rel => exact ⟨p + 1, by omega, by go_num, hid HNX2.out⟩
                          case measure => simp [intOf]; omega
                    · obtain rfl : p = (nm n m q).length := by omega
                      have f3 : decide (((nm n m q).length : Int) < ((nm n m q).length : Int)) = false := decide_eq_false (by omega)
                      rw [List.take_length] at hQ
                      have HFIN : Hid (∀ i, i < q + 1 → NmOK (nm n m i)) := hid fun i hi => by
                        by_cases e : i = q
                        · subst e; exact ⟨HND.out, hQ.out⟩
                        · exact HNM.out i (by omega)
                      clear hQ
                      go_wp2_with fail
                      go_roundw
                      case rel => exact ⟨q + 1, by omega, by go_num, hid ⟨HB4.out, HFIN.out⟩⟩
                      case measure => simp [intOf]; omega
                · rw [decide_eq_false hun] at HUN
                  clear hun
                  go_wp2_with fail
                  refine HUN.out.mono ?_
                  rintro e w4 ⟨rfl, hb4⟩
                  have HB4 := hid (HB.out.trans (hb4.mono HB.out.size))
                  have HLV := hid (lives_any w4 (HI.out.next HB4.out).tb)
                  have HBF := hid (HBW.out.trans (HB4.out.mono HBW.out.size))
                  go_wp2_with fail
                  refine HLV.out.mono ?_
                  rintro e w9 ⟨rfl, hb9⟩
                  go_wp2_with fail
                  go_ret
                  exact TwP.of (HBF.out.trans (hb9.mono HBF.out.size))
              · obtain rfl : q = 2 := by omega
                rw [show ((2 : Nat) : Int) = (2 : Int) from rfl]
                have HNn : Hid (NmOK n) := hid (hNm 0 (by omega))
                have HNm : Hid (NmOK m) := hid (hNm 1 (by omega))
                have HB := hid hb
                clear hb hNm hI
                obtain ⟨i0, hi, hzz0, hzz1, hzz2⟩ := info_parts infoTk
                go_wp2_with fail
                go_loopw [9, 10] (fun v i wr => ∃ j : Nat, j ≤ x.length ∧ i = .int .i64 j ∧ Hid (wr.ownsRow W.heap.size 48 3 v (tkOf (x.take j)).length (flat encTk (tkOf (x.take j))) ∧ Below W.heap.size W wr ∧ ∀ s ∈ x.take j, Rp.good s = true ∧ s.length ≤ 100)) (fun _ i _ => x.length - (intOf i).toNat)
                case atStart => exact ⟨0, Nat.zero_le _, rfl, hid ⟨World.ownsRow_nil wo _ 48 3, HB.out, by simp⟩⟩
                case round =>
                  obtain ⟨j, hj, rfl, hQ⟩ := hrel
                  obtain ⟨hown, hb, hg⟩ := hQ.out
                  by_cases hlt : j < x.length
                  · have f3 : decide ((j : Int) < (x.length : Int)) = true := decide_eq_true (by omega)
                    have f3' : decide (j < x.length) = true := decide_eq_true hlt
                    obtain ⟨xb, xoff, hxA, hxb, kc⟩ := (HI.out.sx.below hb).at j hlt
                    subst hxA
                    have kn := fun (u : World) (hu : Below wr.heap.size wr u) => (hu.cell (p := ⟨xb, xoff + j, none⟩) (Nat.lt_of_lt_of_le hxb hb.size)).trans kc
                    have KN := hid kn
                    have hbl := bx _ (List.getElem_mem hlt)
                    have hnx := fun h => all_snoc (P := fun s => Rp.good s = true ∧ s.length ≤ 100) hg hlt h
                    have HNX := hid hnx
                    have htk := tkOf_snoc x j hlt
                    have HTK := hid htk
                    have hlt2 : (tkOf (x.take j)).length ≤ 20 := by rw [tkOf_len, List.length_take]; omega
                    clear hnx hg kn htk
                    generalize x[j] = s at kc hbl HNX KN HTK
                    have HBD := hid (bad_any s wr (HI.out.next hb).tb hbl)
                    have HB := hid hb
                    have HOWN := hid hown
                    clear hb hown hQ
                    cases hgd : Rp.good s with
                    | false =>
                      go_wp2_with fail
                      refine HBD.out.mono ?_
                      rintro e w5 ⟨y, rfl, hy, hb5⟩
                      have hy0 : 0 ≤ y := hy.2 hgd
                      have f6 : decide (0 ≤ y) = true := decide_eq_true hy0
                      have HB5 := hid (HB.out.trans (hb5.mono HB.out.size))
                      have HLV := hid (lives_any w5 (HI.out.next HB5.out).tb)
                      have HBF := hid (HBW.out.trans (HB5.out.mono HBW.out.size))
                      clear hy hb5 hgd HNX HTK
                      go_wp2_with fail
                      refine HLV.out.mono ?_
                      rintro e w9 ⟨rfl, hb9⟩
                      go_wp2_with fail
                      go_ret
                      exact TwP.of (HBF.out.trans (hb9.mono HBF.out.size))
                    | true =>
                      go_wp2_with fail
                      refine HBD.out.mono ?_
                      rintro e w5 ⟨y, rfl, hy, hb5⟩
                      have hy0 : ¬ 0 ≤ y := fun h => by have := hy.1 h; rw [hgd] at this; cases this
                      have f6 : decide (0 ≤ y) = false := decide_eq_false hy0
                      have HB5 := hid (HB.out.trans (hb5.mono HB.out.size))
                      have kc5 := KN.out w5 hb5
                      have hown5 := hid (ownsRow_below HOWN.out hb5 (Nat.le_refl _))
                      have HGD := hid hgd
                      clear hy hb5 hgd hy0
                      by_cases hs : 100 < s.length
                      · have f7 : decide ((100 : Int) < (s.length : Int)) = true := decide_eq_true (by omega)
                        have f7' : decide (100 < s.length) = true := decide_eq_true hs
                        have HLV := hid (lives_any w5 (HI.out.next HB5.out).tb)
                        have HBF := hid (HBW.out.trans (HB5.out.mono HBW.out.size))
                        clear HNX HTK
                        go_wp2_with fail
                        refine HLV.out.mono ?_
                        rintro e w9 ⟨rfl, hb9⟩
                        go_wp2_with fail
                        go_ret
                        exact TwP.of (HBF.out.trans (hb9.mono HBF.out.size))
                      · have f7 : decide ((100 : Int) < (s.length : Int)) = false := decide_eq_false (by omega)
                        have f7' : decide (100 < s.length) = false := decide_eq_false hs
                        have HNX2 := hid (HNX.out ⟨HGD.out, by omega⟩)
                        have hown6 := hown5.out
                        clear HNX hown5
                        go_wp2_with (at_builtin; refine wpList_push _ rfl _ _ 46 rfl W.heap.size 48 i0 _ 3 32 Tryz.underlying46 hi hzz0 hzz1 hzz2 rfl (by omega) _ _ _ rfl hown6 [.int .i64 0, .string ⟨s.toArray⟩, .int .i64 0] 1 _ rfl (by simp) rfl (by simp [Value.oneCell']) (by simp only [maxLen]; omega) (by omega) HB5.out.size ?_; intro v' w' hown' hsz' hB')
                        go_roundw
                        case rel =>
                          refine ⟨j + 1, by omega, by go_num, hid ⟨?_, hB' _ HB5.out, HNX2.out⟩⟩
                          rw [HTK.out, List.length_append, flat_snoc]
                          exact hown'
                        case measure => simp [intOf]; omega
                  · obtain rfl : j = x.length := by omega
                    have f3 : decide ((x.length : Int) < (x.length : Int)) = false := decide_eq_false (by omega)
                    rw [List.take_length] at hown hg
                    obtain ⟨WA, wc, hv, hsw, -⟩ := Reads.own hown
                    subst hv
                    rw [tkOf_len]
                    have HUN := hid (unlike_any wr XA xc x W.heap.size (HI.out.sx.below hb) hb.size lx)
                    unfold UnP at HUN
                    have HSW := hid hsw
                    have HG := hid hg
                    have HB := hid hb
                    clear hown hsw hg hb hQ
                    by_cases hun : x.Nodup
                    · rw [decide_eq_true hun] at HUN
                      have HXN := hid hun
                      clear hun
                      have HP0 := hid fun (u : World) (hu : Below W.heap.size W u) => proper_any W.heap.size RA TA n.length rc m.length tc x.length _ (.node r t k e0 subs) u _ (Nat.le_refl _) (TrR.keep hu (Nat.le_refl _) _ _ HI.out.t0) hok hu.size
                      unfold PrP at HP0
                      have HP1 := hid fun (u : World) (hu : Below W.heap.size W u) => proper_any W.heap.size RA TA n.length rc m.length tc x.length _ (.node r' t' k' e' subs') u _ (Nat.le_refl _) (TrR.keep hu (Nat.le_refl _) _ _ HI.out.t1) hok' hu.size
                      unfold PrP at HP1
                      obtain ⟨b0, hb0⟩ : ∃ b, b = Rp.propT n.length m.length x.length (.node r t k e0 subs) := ⟨_, rfl⟩
                      obtain ⟨b1, hb1⟩ : ∃ b, b = Rp.propT n.length m.length x.length (.node r' t' k' e' subs') := ⟨_, rfl⟩
                      rw [← hb0] at HP0
                      rw [← hb1] at HP1
                      have HBE0 := hid hb0
                      have HBE1 := hid hb1
                      clear hb0 hb1
                      go_wp2_with fail
                      refine HUN.out.mono ?_
                      rintro e w4 ⟨rfl, hb4⟩
                      have HB4 := hid (HB.out.trans (hb4.mono HB.out.size))
                      have HSW4 := hid (HSW.out.next hb4)
                      obtain ⟨z0, z1, z2, z3, z4, z5, z6, z7, z8, z9⟩ := HXC.out w4 HB4.out
                      obtain ⟨y0, y1⟩ := HNC.out w4 HB4.out
                      clear hb4 HUN HSW
                      go_wp2_with fail
                      refine (HP0.out w4 HB4.out).mono ?_
                      rintro e w5 ⟨rfl, hb5⟩
                      have HB5 := hid (HB4.out.trans (hb5.mono HB4.out.size))
                      have HSW5 := hid (HSW4.out.next hb5)
                      obtain ⟨z0, z1, z2, z3, z4, z5, z6, z7, z8, z9⟩ := HXC.out w5 HB5.out
                      obtain ⟨y0, y1⟩ := HNC.out w5 HB5.out
                      clear hb5 HP0
                      cases b0 with
                      | false =>
                        have HLV := hid (lives_any w5 (HI.out.next HB5.out).tb)
                        have HBF := hid (HBW.out.trans (HB5.out.mono HBW.out.size))
                        go_wp2_with fail
                        refine HLV.out.mono ?_
                        rintro e w9 ⟨rfl, hb9⟩
                        go_wp2_with fail
                        go_ret
                        exact TwP.of (HBF.out.trans (hb9.mono HBF.out.size))
                      | true =>
                        go_wp2_with fail
                        refine (HP1.out w5 HB5.out).mono ?_
                        rintro e w6 ⟨rfl, hb6⟩
                        have HB6 := hid (HB5.out.trans (hb6.mono HB5.out.size))
                        have HSW6 := hid (HSW5.out.next hb6)
                        obtain ⟨z0, z1, z2, z3, z4, z5, z6, z7, z8, z9⟩ := HXC.out w6 HB6.out
                        obtain ⟨y0, y1⟩ := HNC.out w6 HB6.out
                        clear hb6 HP1
                        cases b1 with
                        | false =>
                          have HLV := hid (lives_any w6 (HI.out.next HB6.out).tb)
                          have HBF := hid (HBW.out.trans (HB6.out.mono HBW.out.size))
                          go_wp2_with fail
                          refine HLV.out.mono ?_
                          rintro e w9 ⟨rfl, hb9⟩
                          go_wp2_with fail
                          go_ret
                          exact TwP.of (HBF.out.trans (hb9.mono HBF.out.size))
                        | true =>
                          go_upto_region 23 with fail
                          obtain ⟨w7, hw7⟩ : ∃ w7, w7 = w6.alloc (.cells (tabC (.slice RA n.length rc) (.slice TA m.length tc)) 61) := ⟨_, rfl⟩
                          have hx7 : w7.heap[w6.heap.size]? = some (.cells (tabC (.slice RA n.length rc) (.slice TA m.length tc)) 61 (0, 0)) := by rw [hw7]; exact heap_alloc_new _ _
                          have hb7 : Below w6.heap.size w6 w7 := by rw [hw7]; exact below_new _ _
                          unfold tabC at hw7
                          rw [← hw7]
                          have HB7 := hid (HB6.out.trans (hb7.mono HB6.out.size))
                          have HSW7 := hid (HSW6.out.next hb7)
                          obtain ⟨g0, g1, g2, g3, g4, g5, g6, g7, g8, g9⟩ := HXC.out w7 HB7.out
                          have G0 := fun d os => cell_regrown g0 d os
                          have G1 := fun d os => cell_regrown g1 d os
                          have G2 := fun d os => cell_regrown g2 d os
                          have G3 := fun d os => cell_regrown g3 d os
                          have G4 := fun d os => cell_regrown g4 d os
                          have G5 := fun d os => cell_regrown g5 d os
                          have G6 := fun d os => cell_regrown g6 d os
                          have G7 := fun d os => cell_regrown g7 d os
                          have G8 := fun d os => cell_regrown g8 d os
                          have G9 := fun d os => cell_regrown g9 d os
                          have t0 : w7.cell? ⟨w6.heap.size, 0, none⟩ = some (.slice RA n.length rc) := by rw [Lib.cell_of_heap hx7]; rfl
                          have T0 := fun d os => cell_regrown t0 d os
                          have t1 : w7.cell? ⟨w6.heap.size, 1, none⟩ = some (.slice TA m.length tc) := by rw [Lib.cell_of_heap hx7]; rfl
                          have T1 := fun d os => cell_regrown t1 d os
                          have t2 : w7.cell? ⟨w6.heap.size, 2, none⟩ = some (.slice none 0 0) := by rw [Lib.cell_of_heap hx7]; rfl
                          have T2 := fun d os => cell_regrown t2 d os
                          have t3 : w7.cell? ⟨w6.heap.size, 3, none⟩ = some (.slice none 0 0) := by rw [Lib.cell_of_heap hx7]; rfl
                          have T3 := fun d os => cell_regrown t3 d os
                          have t4 : w7.cell? ⟨w6.heap.size, 4, none⟩ = some (.slice none 0 0) := by rw [Lib.cell_of_heap hx7]; rfl
                          have T4 := fun d os => cell_regrown t4 d os
                          have t5 : w7.cell? ⟨w6.heap.size, 5, none⟩ = some (.slice none 0 0) := by rw [Lib.cell_of_heap hx7]; rfl
                          have T5 := fun d os => cell_regrown t5 d os
                          have t6 : w7.cell? ⟨w6.heap.size, 6, none⟩ = some (.slice none 0 0) := by rw [Lib.cell_of_heap hx7]; rfl
                          have T6 := fun d os => cell_regrown t6 d os
                          have t7 : w7.cell? ⟨w6.heap.size, 7, none⟩ = some (.slice none 0 0) := by rw [Lib.cell_of_heap hx7]; rfl
                          have T7 := fun d os => cell_regrown t7 d os
                          have t8 : w7.cell? ⟨w6.heap.size, 8, none⟩ = some (.slice none 0 0) := by rw [Lib.cell_of_heap hx7]; rfl
                          have T8 := fun d os => cell_regrown t8 d os
                          have t9 : w7.cell? ⟨w6.heap.size, 9, none⟩ = some (.slice none 0 0) := by rw [Lib.cell_of_heap hx7]; rfl
                          have T9 := fun d os => cell_regrown t9 d os
                          have t10 : w7.cell? ⟨w6.heap.size, 10, none⟩ = some (.slice none 0 0) := by rw [Lib.cell_of_heap hx7]; rfl
                          have T10 := fun d os => cell_regrown t10 d os
                          have t11 : w7.cell? ⟨w6.heap.size, 11, none⟩ = some (.slice none 0 0) := by rw [Lib.cell_of_heap hx7]; rfl
                          have T11 := fun d os => cell_regrown t11 d os
                          have t12 : w7.cell? ⟨w6.heap.size, 12, none⟩ = some (.slice none 0 0) := by rw [Lib.cell_of_heap hx7]; rfl
                          have T12 := fun d os => cell_regrown t12 d os
                          have hI7 := HI.out.next HB7.out
                          obtain ⟨D, hD⟩ : ∃ D : WrD, D = ⟨RA, TA, WA, rc, tc, wc, n, m, tkOf x⟩ := ⟨_, rfl⟩
                          have hJ : ∀ (T : Rp.Tr) (vs : List Value), TrR w7 w7.heap.size T vs → TwIn w7 D T vs := fun T vs h => by rw [hD]; exact ⟨hI7.tb, hI7.sr, hI7.st, HSW7.out, h⟩
                          have sn : Rp.Short 2000 D.n := by rw [hD]; exact fun y hy => Nat.le_trans (HNn.out.2 y hy).2 (by omega)
                          have sm : Rp.Short 2000 D.m := by rw [hD]; exact fun y hy => Nat.le_trans (HNm.out.2 y hy).2 (by omega)
                          have sx : Rp.Short 2000 (txs D.tk) := by rw [hD]; show Rp.Short 2000 (txs (tkOf x)); rw [txs_tkOf]; exact fun y hy => Nat.le_trans (HG.out y hy).2 (by omega)
                          have c1 := fun d os => treeQ D sn sm sx (.node r t k e0 subs) _ w7 d os (hJ _ _ hI7.t0) (by omega)
                          have c2 := fun d os => treeQ D sn sm sx (.node r' t' k' e' subs') _ w7 d os (hJ _ _ hI7.t1) (by omega)
                          have told : Rp.treeT n m x (.node r t k e0 subs) = Rp.treeT n m x (.node r' t' k' e' subs') ↔ (.node r t k e0 subs) = ((.node r' t' k' e' subs') : Rp.Tr) := Rp.tree_told ⟨fun y hy => (HNn.out.2 y hy).1, fun y hy => (HNm.out.2 y hy).1, HNn.out.1, HNm.out.1, fun y hy => (HG.out y hy).1, HXN.out⟩ HBE0.out.symm HBE1.out.symm
                          have c3 := fun b hb d os => equalQ _ _ _ _ b hb w7 d os hI7.t0 hI7.t1 hok hok'
                          have c5 := fun d os => lives_quiet w7 d os hI7.tb
                          rw [hD] at c1 c2
                          dsimp only at c1 c2
                          rw [txs_tkOf, tkOf_len] at c1 c2
                          unfold tabV at c1 c2
                          have HBF := hid (HBW.out.trans (HB7.out.mono HBW.out.size))
                          clear hD hJ sn sm sx hI7 hx7 hb7 hw7 g0 g1 g2 g3 g4 g5 g6 g7 g8 g9 t0 t1 t2 t3 t4 t5 t6 t7 t8 t9 t10 t11 t12 z0 z1 z2 z3 z4 z5 z6 z7 z8 z9 y0 y1 HBE0 HBE1 HG HXN HNn HNm
                          generalize Rp.treeT n m x (.node r t k e0 subs) = X at c1 told
                          generalize Rp.treeT n m x (.node r' t' k' e' subs') = Y at c2 told
                          by_cases hxy : X = Y
                          · have c4 := c3 true ⟨fun _ => told.1 hxy, fun _ => rfl⟩
                            subst hxy
                            clear told c3
                            refine wp_region_quiet_below (by kernel_rfl) (by kernel_rfl) ?_
                            repeat (quiet_step (first | with_reducible exact c1 _ _ | with_reducible exact c2 _ _ | with_reducible exact c4 _ _ | with_reducible exact c5 _ _))
                            refine wpQuiet_nil ?_
                            intro _ hw'
                            obtain ⟨⟨dq, osq⟩, hw''⟩ := hw'
                            subst hw''
                            go_wp2_with fail
                            go_ret
                            exact TwP.of (HBF.out.trans ((below_regrown w7 dq osq).mono HBF.out.size))
                          · have c4 := c3 false ⟨fun e => (by cases e), fun e => absurd (told.2 e) hxy⟩
                            have hne := str_ne hxy
                            clear told c3 hxy
                            refine wp_region_quiet_below (by kernel_rfl) (by kernel_rfl) ?_
                            repeat (quiet_step (first | with_reducible exact c1 _ _ | with_reducible exact c2 _ _ | with_reducible exact c4 _ _ | with_reducible exact c5 _ _))
                            refine wpQuiet_nil ?_
                            intro _ hw'
                            obtain ⟨⟨dq, osq⟩, hw''⟩ := hw'
                            subst hw''
                            go_wp2_with fail
                            go_ret
                            exact TwP.of (HBF.out.trans ((below_regrown w7 dq osq).mono HBF.out.size))
                    · rw [decide_eq_false hun] at HUN
                      clear hun
                      go_wp2_with fail
                      refine HUN.out.mono ?_
                      rintro e w4 ⟨rfl, hb4⟩
                      have HB4 := hid (HB.out.trans (hb4.mono HB.out.size))
                      have HLV := hid (lives_any w4 (HI.out.next HB4.out).tb)
                      have HBF := hid (HBW.out.trans (HB4.out.mono HBW.out.size))
                      go_wp2_with fail
                      refine HLV.out.mono ?_
                      rintro e w9 ⟨rfl, hb9⟩
                      go_wp2_with fail
                      go_ret
                      exact TwP.of (HBF.out.trans (hb9.mono HBF.out.size))
end Go.Proofs.YtcbilcfieoibbaaGreatDoor
