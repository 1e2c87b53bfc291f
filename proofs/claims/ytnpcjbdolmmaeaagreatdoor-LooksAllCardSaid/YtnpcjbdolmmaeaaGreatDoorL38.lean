/-
  Looks: LkA, LkLvL, CfLm, LkLv (texts joined).
-/
import Derived.Test.YtnpcjbdolmmaeaaGreatDoorL19
import Derived.Test.YtnpcjbdolmmaeaaGreatDoorL35
import Derived.Test.YtnpcjbdolmmaeaaGreatDoorL37
namespace Go.Proofs.YtnpcjbdolmmaeaaGreatDoor
open Go.RowKit Go.Maps
set_option maxRecDepth 100000
theorem AutIn.below {w w' : World} {B : Nat} {A : Option Addr} {l : List Drv.LSt} (h : AutIn w B A l) (hb : Below w.heap.size w w') : AutIn w' B A l := by
  obtain ⟨vs, E, h1, h2⟩ := h
  exact ⟨vs, E, h1.below hb (Nat.le_refl _), h2.kept (LkKept.below hb)⟩
theorem AutR.below {w w' : World} {B c : Nat} {A : Option Addr} {l : List Drv.LSt} (h : AutR w B A c l) (hb : Below w.heap.size w w') : AutR w' B A c l := by
  obtain ⟨vs, E, h1, h2⟩ := h
  exact ⟨vs, E, h1.below hb (Nat.le_refl _), h2.only (Only.of_below (S := fun _ => False) hb) (fun _ e => e.elim) (Nat.le_refl _)⟩
theorem LsR.len {w : World} {B E : Nat} {x : Drv.LSt} {vs : List Value} (h : LsR w B E x vs) : vs.length = 3 := by
  obtain ⟨AA, ac, EA, ec, e, _⟩ := h
  rw [e]; rfl
theorem LsRs.at {w : World} {B E : Nat} : ∀ {l : List Drv.LSt} {vs : List Value}, LsRs w B E l vs → ∀ (i : Nat) (hi : i < l.length), ∃ vx, LsR w B E l[i] vx ∧ ∀ k, k < 3 → vs[i*3+k]? = vx[k]?
  | [], _, _, _, hi => absurd hi (Nat.not_lt_zero _)
  | x :: l, vs, h, i, hi => by
    obtain ⟨a, b, e, h1, h2⟩ := h
    have hl := h1.len
    cases i with
    | zero => exact ⟨a, h1, fun k hk => by rw [e, List.getElem?_append_left (by omega)]; simp⟩
    | succ i =>
      obtain ⟨vx, h3, h4⟩ := h2.at i (by simpa using hi)
      refine ⟨vx, h3, fun k hk => ?_⟩
      rw [e, List.getElem?_append_right (by omega), hl, show (i + 1) * 3 + k - 3 = i * 3 + k by omega]
      exact h4 k hk
theorem AutIn.at {w : World} {B : Nat} {A : Option Addr} {l : List Drv.LSt} (h : AutIn w B A l) (i : Nat) (hi : i < l.length) : ∃ b o AA ac EA ec, A = some ⟨b, o, none⟩ ∧ b < w.heap.size ∧ w.cell? ⟨b, o + i * 3, none⟩ = some (.int .u8 l[i].kind) ∧ w.cell? ⟨b, o + i * 3 + 1, none⟩ = some (.slice AA l[i].alts.length ac) ∧ w.cell? ⟨b, o + i * 3 + 2, none⟩ = some (.slice EA l[i].edges.length ec) ∧
    OwnC w B 3 1 (.slice AA l[i].alts.length ac) l[i].alts.length (l[i].alts.map (Value.int .i64)) ∧ OwnC w B 71 2 (.slice EA l[i].edges.length ec) l[i].edges.length (flat encL2 l[i].edges) := by
  obtain ⟨vs, E, h1, h2⟩ := h
  obtain ⟨b, o, hA, hb, hc⟩ := h1.reads.2 (by omega)
  obtain ⟨vx, ⟨AA, ac, EA, ec, rfl, h3, h4, _⟩, h5⟩ := h2.at i hi
  refine ⟨b, o, AA, ac, EA, ec, hA, hb, ?_, ?_, ?_, h3, h4⟩
  · exact hc (i * 3) _ (by have := h5 0 (by omega); rw [Nat.add_zero] at this; rw [this]; rfl)
  · exact hc (i * 3 + 1) _ (by rw [h5 1 (by omega)]; rfl)
  · exact hc (i * 3 + 2) _ (by rw [h5 2 (by omega)]; rfl)
theorem AutR.at {w : World} {B c : Nat} {A : Option Addr} {l : List Drv.LSt} (h : AutR w B A c l) (i : Nat) (hi : i < l.length) : ∃ b o AA ac EA ec, A = some ⟨b, o, none⟩ ∧ b < w.heap.size ∧ w.cell? ⟨b, o + i * 3, none⟩ = some (.int .i64 l[i].kind) ∧ w.cell? ⟨b, o + i * 3 + 1, none⟩ = some (.slice AA l[i].alts.length ac) ∧ w.cell? ⟨b, o + i * 3 + 2, none⟩ = some (.slice EA l[i].edges.length ec) ∧
    OwnC w B 3 1 (.slice AA l[i].alts.length ac) l[i].alts.length (l[i].alts.map (Value.int .i64)) ∧ OwnC w B 121 2 (.slice EA l[i].edges.length ec) l[i].edges.length (flat encL2 l[i].edges) := by
  obtain ⟨vs, E, h1, h2⟩ := h
  obtain ⟨b, o, hA, hb, hc⟩ := h1.reads.2 (by omega)
  obtain ⟨vx, ⟨AA, ac, EA, ec, rfl, h3, h4, _⟩, h5⟩ := h2.at i hi
  refine ⟨b, o, AA, ac, EA, ec, hA, hb, ?_, ?_, ?_, h3, h4⟩
  · exact hc (i * 3) _ (by have := h5 0 (by omega); rw [Nat.add_zero] at this; rw [this]; rfl)
  · exact hc (i * 3 + 1) _ (by rw [h5 1 (by omega)]; rfl)
  · exact hc (i * 3 + 2) _ (by rw [h5 2 (by omega)]; rfl)
theorem ed2_at {w : World} {B c : Nat} {T : TypeId} {A : Option Addr} {l : List (Int × Int)} (h : OwnC w B T 2 (.slice A l.length c) l.length (flat encL2 l)) (i : Nat) (hi : i < l.length) : ∃ b o, A = some ⟨b, o, none⟩ ∧ b < w.heap.size ∧ w.cell? ⟨b, o + i * 2, none⟩ = some (.int .i64 l[i].1) ∧ w.cell? ⟨b, o + i * 2 + 1, none⟩ = some (.int .i64 l[i].2) := by
  obtain ⟨b, o, hA, hb, hc⟩ := h.reads.2 (by omega)
  refine ⟨b, o, hA, hb, ?_, ?_⟩
  · exact hc (i * 2) _ (by have := flat_get encL2 2 (fun _ => rfl) l i hi 0 (by omega); rw [Nat.add_zero] at this; rw [this]; rfl)
  · exact hc (i * 2 + 1) _ (by rw [flat_get encL2 2 (fun _ => rfl) l i hi 1 (by omega)]; rfl)
set_option maxHeartbeats 8000000 in
theorem sameA_any (l : List Drv.LSt) (A B : Option Addr) (cb Ba Bb : Nat) (w : World) (ha : AutIn w Ba A l) (hb : AutR w Bb B cb l) (hs : Cf.AutS l) (hl : l.length ≤ 4096) :
    Calls Tryz.prog 23 #[.agg #[.slice A l.length l.length], .agg #[.slice B l.length cb]] w fun e w' => e = .returned (.bool true) ∧ Below w.heap.size w w' := by
  have z1 : (w.alloc (.cells #[.slice A l.length l.length] 57)).heap.size = w.heap.size + 1 := by simp
  obtain ⟨w1, hw1⟩ : ∃ w1, Hid ((w.alloc (.cells #[.slice A l.length l.length] 57)).alloc (.cells #[.slice B l.length cb] 62) = w1) := ⟨_, hid rfl⟩
  have hb1 : Below w.heap.size w w1 := by rw [← hw1.out]; exact (below_new _ _).alloc (by omega) _
  have h0 : w1.heap[w.heap.size]? = some (.cells #[.slice A l.length l.length] 57 (0, 0)) := by
    rw [← hw1.out, Below.heap_alloc _ _ _ (by omega)]; exact heap_alloc_new _ _
  have h1 : w1.heap[w.heap.size + 1]? = some (.cells #[.slice B l.length cb] 62 (0, 0)) := by rw [← hw1.out, ← z1]; exact heap_alloc_new _ _
  have x0 : w1.cell? ⟨w.heap.size, 0, none⟩ = some (.slice A l.length l.length) := by rw [Lib.cell_of_heap h0]; rfl
  have y0 : w1.cell? ⟨w.heap.size + 1, 0, none⟩ = some (.slice B l.length cb) := by rw [Lib.cell_of_heap h1]; rfl
  have HA := hid (ha.below hb1)
  have HB := hid (hb.below hb1)
  have HB1 := hid hb1
  have HS := hid hs
  have hl1 := heap_lt h1
  obtain ⟨n, hn⟩ : ∃ n, l.length = n := ⟨_, rfl⟩
  have HN := hid hn
  rw [hn] at hw1 x0 y0 hl ⊢
  clear ha hb hs hb1 h0 h1 z1 hn
  go_enter Tryz.func23, Tryz.ntmps23
  go_upto_region 1 with fail
  rw [hw1.out]
  clear hw1
  have X0 := hid x0
  have Y0 := hid y0
  go_wp2_with fail
  clear x0 y0
  go_loopw [5] (fun iv wr => ∃ k : Nat, k ≤ n ∧ iv = .int .i64 (k : Int) ∧ Hid (Below w1.heap.size w1 wr)) (fun iv _ => n - (intOf iv).toNat)
  case atStart => exact ⟨0, Nat.zero_le _, rfl, hid (Below.refl _ _)⟩
  case round =>
    obtain ⟨k, hk, rfl, HW⟩ := hrel
    have x0 := (HW.out.cell (p := ⟨w.heap.size, 0, none⟩) (show w.heap.size < w1.heap.size by omega)).trans X0.out
    have y0 := (HW.out.cell (p := ⟨w.heap.size + 1, 0, none⟩) hl1).trans Y0.out
    have hwk : IntKind.i64.wrap ((k : Int) + 1) = (k : Int) + 1 := w64 (by omega) (by omega)
    have hsz := HW.out.size
    by_cases hlt : k < n
    · have hkl : k < l.length := by have := HN.out; omega
      obtain ⟨ba, oa, AA, ac, EA, ec, hA, hba, a0, a1, a2, oal, oed⟩ := (HA.out.below HW.out).at k hkl
      obtain ⟨bb, ob, AB, bc, EB, fc, hB, hbb, b0, b1, b2, obl, obd⟩ := (HB.out.below HW.out).at k hkl
      have hsm := HS.out _ (List.getElem_mem hkl)
      obtain ⟨x, hx⟩ : ∃ x, l[k] = x := ⟨_, rfl⟩
      rw [hx] at a0 a1 a2 oal oed b0 b1 b2 obl obd hsm
      obtain ⟨hk0, hk3, hal, hel⟩ := hsm
      have HX := hid hx
      have hwa := below_new wr (.cells #[.int .u8 x.kind, .slice AA x.alts.length ac, .slice EA x.edges.length ec] 69)
      have h2 := heap_alloc_new wr (.cells #[.int .u8 x.kind, .slice AA x.alts.length ac, .slice EA x.edges.length ec] 69)
      obtain ⟨w2, hw2⟩ : ∃ w2, Hid (wr.alloc (.cells #[.int .u8 x.kind, .slice AA x.alts.length ac, .slice EA x.edges.length ec] 69) = w2) := ⟨_, hid rfl⟩
      have z2 : w2.heap.size = wr.heap.size + 1 := by rw [← hw2.out]; simp
      rw [hw2.out] at hwa h2
      have hwb := below_new w2 (.cells #[.int .i64 x.kind, .slice AB x.alts.length bc, .slice EB x.edges.length fc] 119)
      have h3 := heap_alloc_new w2 (.cells #[.int .i64 x.kind, .slice AB x.alts.length bc, .slice EB x.edges.length fc] 119)
      obtain ⟨w3, hw3⟩ : ∃ w3, Hid (w2.alloc (.cells #[.int .i64 x.kind, .slice AB x.alts.length bc, .slice EB x.edges.length fc] 119) = w3) := ⟨_, hid rfl⟩
      rw [hw3.out] at hwb h3
      have hw23 := hwa.trans (hwb.mono hwa.size)
      have h23 := (hwb.block wr.heap.size (by omega)).trans h2
      have b0 := (hwa.cell (p := ⟨bb, ob + k * 3, none⟩) hbb).trans b0
      have b1 := (hwa.cell (p := ⟨bb, ob + k * 3 + 1, none⟩) hbb).trans b1
      have b2 := (hwa.cell (p := ⟨bb, ob + k * 3 + 2, none⟩) hbb).trans b2
      have y0 := (hwa.cell (p := ⟨w.heap.size + 1, 0, none⟩) (show w.heap.size + 1 < wr.heap.size by omega)).trans y0
      have hsn := sameZ_eq AA AB ac bc x.alts w3 (by omega) (oal.below hw23 (Nat.le_refl _)).reads (obl.below hw23 (Nat.le_refl _)).reads
      obtain ⟨p0, p1, p2⟩ := cells3 h23
      obtain ⟨q0, q1, q2⟩ := cells3 h3
      have HSN := hid hsn
      have HED := hid (oed.below hw23 (Nat.le_refl _))
      have HBD := hid (obd.below hw23 (Nat.le_refl _))
      have HB3 := hid (HW.out.trans (hw23.mono hsz))
      have HX2 := hid h23
      have HX3 := hid h3
      have hz3 := heap_lt h3
      have hkd : IntKind.i64.wrap x.kind = x.kind := w64 (by omega) (by omega)
      obtain ⟨kd, hkde⟩ : ∃ kd, x.kind = kd := ⟨_, rfl⟩
      obtain ⟨na, hna⟩ : ∃ na, x.alts.length = na := ⟨_, rfl⟩
      obtain ⟨ne, hne⟩ : ∃ ne, x.edges.length = ne := ⟨_, rfl⟩
      have HNE := hid hne
      rw [hkde] at hkd a0 b0 p0 q0 hw2 hw3
      rw [hna] at a1 b1 p1 q1 hw2 hw3 HSN
      rw [hne] at a2 b2 p2 q2 hw2 hw3 hel
      have hltI : (k : Int) < (n : Int) := by omega
      have f1 : (kd != kd) = false := by simp
      have f2 : ((ne : Int) != (ne : Int)) = false := by simp
      rw [hA] at x0
      rw [hB] at y0
      clear hA hB hwa h2 hwb h3 hw23 h23 hsn oal oed obl obd hal hx hkde hna hne hk0 hk3
      go_upto_region 7 with fail
      rw [hw2.out]
      go_upto_region 8 with fail
      rw [← z2, hw3.out]
      have hwr3 : wr.heap.size < w3.heap.size := by omega
      clear z2
      clear hw2 hw3 a0 a1 a2 b0 b1 b2 x0 y0
      go_wp2_with fail
      go_at_call 27
      refine HSN.out.mono ?_
      rintro _ w4 ⟨rfl, hb4⟩
      have HB4 := hid (HB3.out.trans (hb4.mono HB3.out.size))
      have h4 := (hb4.block wr.heap.size hwr3).trans HX2.out
      have h4' := (hb4.block w2.heap.size hz3).trans HX3.out
      have HX4 := hid h4
      have HX5 := hid h4'
      have HED4 := hid (HED.out.below hb4 (Nat.le_refl _))
      have HBD4 := hid (HBD.out.below hb4 (Nat.le_refl _))
      obtain ⟨p0, p1, p2⟩ := cells3 h4
      obtain ⟨q0, q1, q2⟩ := cells3 h4'
      rw [HNE.out] at p2 q2
      clear hb4 h4 h4'
      obtain ⟨wo, hwo⟩ : ∃ wo, wo = wr := ⟨_, rfl⟩
      subst hwo
      go_wp2_with fail
      clear p0 p1 p2 q0 q1 q2
      go_loopw [8] (fun iv wr => ∃ e : Nat, e ≤ ne ∧ iv = .int .i64 (e : Int) ∧ Hid (Below w4.heap.size w4 wr)) (fun iv _ => ne - (intOf iv).toNat)
      case atStart => exact ⟨0, Nat.zero_le _, rfl, hid (Below.refl _ _)⟩
      case round =>
        obtain ⟨e, he, rfl, HE⟩ := hrel
        have h4 := (HE.out.block wo.heap.size (heap_lt HX4.out)).trans HX4.out
        have h5 := (HE.out.block w2.heap.size (heap_lt HX5.out)).trans HX5.out
        have hwe : IntKind.i64.wrap ((e : Int) + 1) = (e : Int) + 1 := w64 (by omega) (by omega)
        obtain ⟨p0, p1, p2⟩ := cells3 h4
        obtain ⟨q0, q1, q2⟩ := cells3 h5
        rw [HNE.out] at p2 q2
        clear h4 h5
        by_cases hlte : e < ne
        · obtain ⟨g1, o1, rfl, hg1, c0, c1⟩ := ed2_at (HED4.out.below HE.out (Nat.le_refl _)) e (by have := HNE.out; omega)
          obtain ⟨g2, o2, rfl, hg2, d0, d1⟩ := ed2_at (HBD4.out.below HE.out (Nat.le_refl _)) e (by have := HNE.out; omega)
          generalize (x.edges[e]'(by have := HNE.out; omega)).1 = u1 at c0 d0
          generalize (x.edges[e]'(by have := HNE.out; omega)).2 = u2 at c1 d1
          have hlteI : (e : Int) < (ne : Int) := by omega
          have e1 : (u1 != u1) = false := by simp
          have e2 : (u2 != u2) = false := by simp
          clear p0 p1 q0 q1
          go_wp2_with fail
          go_quiet (fail)
          go_wp2_with fail
          go_roundw
          case rel => exact ⟨e + 1, hlte, by go_num, hid (below_drewN HE.out _)⟩
          case measure => simp [intOf]; omega
        · have hee : e = ne := by omega
          subst hee
          have HF := hid (HB4.out.trans (HE.out.mono HB4.out.size))
          clear p0 p1 q0 q1
          go_wp2_with fail
          go_roundw
          case rel => exact ⟨k + 1, hlt, by go_num, HF⟩
          case measure => simp [intOf]; omega
    · have hke : k = n := by omega
      subst hke
      go_wp2_with fail
      go_ret
      exact ⟨rfl, HB1.out.trans (HW.out.mono HB1.out.size)⟩
end Go.Proofs.YtnpcjbdolmmaeaaGreatDoor
namespace Go.Proofs.YtnpcjbdolmmaeaaGreatDoor
namespace Cf
open Drv
theorem start14F : startF v14 = s14 := setF_eq set14
theorem closed14n : closed v14 [] = ⟨[], [], false⟩ := by kernel_rfl
theorem set14n : IsSet v14 [] ⟨[], [], false⟩ := by
  unfold IsSet
  rw [closed14n, if_neg (by decide)]
  exact ⟨rfl, ⟨by unfold Rise; decide, by decide, by decide, by decide⟩, ⟨by decide, fun a => by simp⟩⟩
theorem move14e : moveL v14 s14 (-1) = [] := by kernel_rfl
theorem move14o : moveL v14 s14 1 = [] := by kernel_rfl
theorem moveF14e : moveF v14 s14 (-1) = ⟨[], [], false⟩ := by
  unfold moveF
  rw [if_neg (by decide), move14e]
  exact setF_eq set14n
theorem moveF14o : moveF v14 s14 1 = ⟨[], [], false⟩ := by
  unfold moveF
  rw [if_neg (by decide), move14o]
  exact setF_eq set14n
theorem moveF14 : moveF v14 s14 0 = t14 := by
  unfold moveF
  rw [if_neg (by decide)]
  exact setF_eq set14b
theorem toks2 : toks 2 = [-1, 0, 1] := by decide
theorem kind14 : kindS s14 = 0 := by decide
theorem kind14b : kindS t14 = 1 := by decide
theorem find14 : findS [s14] t14 = none := by decide
theorem edges14 : edgesF v14 s14 9 (toks 2) [s14] [] = some ([s14, t14], [(0, 1)]) := by
  rw [toks2, edgesF_cons, moveF14e, if_pos (show (⟨[], [], false⟩ : St).alts.length = 0 from rfl), edgesF_cons, moveF14, if_neg (by decide), find14]
  simp only
  rw [if_neg (by decide), edgesF_cons, moveF14o, if_pos (show (⟨[], [], false⟩ : St).alts.length = 0 from rfl)]
  rfl
theorem edges14b : edgesF v14 s14 1 (toks 2) [s14] [] = none := by
  rw [toks2, edgesF_cons, moveF14e, if_pos (show (⟨[], [], false⟩ : St).alts.length = 0 from rfl), edgesF_cons, moveF14, if_neg (by decide), find14]
  simp only
  rw [if_pos (by decide)]
theorem auto14a : autoF v14 9 2 = [⟨0, [], [(0, 1)]⟩, ⟨1, [0], []⟩] := by
  unfold autoF
  rw [start14F, buildF_at (s := s14) rfl, if_pos kind14, edges14]
  simp only
  rw [buildF_at (s := t14) rfl, if_neg (by rw [kind14b]; decide), buildF_end (by decide)]
  rfl
theorem auto14b : autoF v14 1 2 = [⟨3, [0, 1], []⟩] := by
  unfold autoF
  rw [start14F, buildF_at (s := s14) rfl, if_pos kind14, edges14b]
  rfl
theorem autoQ14a : autoQ n14 0 1 9 2 = some [⟨0, [], [(0, 1)]⟩, ⟨1, [0], []⟩] := by
  unfold autoQ
  rw [new14]
  simp only
  rw [if_pos (by decide), show (9 : Int).toNat = 9 from rfl, show (2 : Int).toNat = 2 from rfl, auto14a]
theorem autoQ14b : autoQ n14 0 1 1 2 = some [⟨3, [0, 1], []⟩] := by
  unfold autoQ
  rw [new14]
  simp only
  rw [if_pos (by decide), show (1 : Int).toNat = 1 from rfl, show (2 : Int).toNat = 2 from rfl, auto14b]
end Cf
end Go.Proofs.YtnpcjbdolmmaeaaGreatDoor
namespace Go.Proofs.YtnpcjbdolmmaeaaGreatDoor
open Go.RowKit
set_option maxRecDepth 100000
theorem allocs_get : ∀ (l : List Obj) (w : World) (i : Nat) (h : i < l.length), (l.foldl World.alloc w).heap[w.heap.size + i]? = some l[i] ∧ Below w.heap.size w (l.foldl World.alloc w) ∧ (l.foldl World.alloc w).heap.size = w.heap.size + l.length := by
  intro l
  induction l with
  | nil => intro w i h; exact absurd h (Nat.not_lt_zero _)
  | cons o l ih =>
    intro w i h
    have hz : (w.alloc o).heap.size = w.heap.size + 1 := by simp
    have hb := below_new w o
    rw [List.foldl_cons]
    cases l with
    | nil =>
      have : i = 0 := by simp at h; omega
      subst this
      exact ⟨heap_alloc_new _ _, hb, hz⟩
    | cons p l =>
      cases i with
      | zero =>
        obtain ⟨_, g2, g3⟩ := ih (w.alloc o) 0 (by simp)
        exact ⟨(g2.block _ (by omega)).trans (heap_alloc_new _ _), hb.trans (g2.mono hb.size), by rw [g3, hz]; simp; omega⟩
      | succ i =>
        obtain ⟨g1, g2, g3⟩ := ih (w.alloc o) i (by simpa using h)
        exact ⟨by rw [hz, Nat.add_assoc, Nat.add_comm 1 i] at g1; exact g1, hb.trans (g2.mono hb.size), by rw [g3, hz]; simp; omega⟩
theorem rdh {w : World} {b n size : Nat} {T : TypeId} {cs : Array Value} (h : w.heap[b]? = some (.cells cs T (0, 0))) (hl : cs.size = n * size) : Reads w w.heap.size size (some ⟨b, 0, none⟩) n cs.toList :=
  ⟨by rw [Array.length_toList]; exact hl, fun _ => ⟨b, 0, rfl, heap_lt h, fun j u hu => by rw [Lib.cell_of_heap h, Nat.zero_add, ← Array.getElem?_toList]; exact hu⟩⟩
theorem rd0 {w : World} {B size : Nat} {A : Option Addr} : Reads w B size A 0 [] := ⟨by simp, fun h => absurd h (Nat.lt_irrefl 0)⟩
theorem live_mem (w wq : World) (h : wq = ((((((((((((((((w.alloc (.cells #[.int .i64 0] 3)).alloc (.cells #[.int .i64 1] 3)).alloc (.cells #[.int .i64 2] 3)).alloc (.cells #[.int .u8 0, .int .i64 0, .int .i64 2] 86)).alloc (.cells #[.int .u8 0, .int .i64 0, .int .i64 2] 86)).alloc (.cells #[.int .u8 0, .int .i64 0, .int .i64 4] 86)).alloc (.cells #[.int .u8 0, .int .i64 0, .int .i64 5] 86)).alloc (.cells #[.int .u8 0, .int .i64 0, .int .i64 4, .int .u8 0, .int .i64 0, .int .i64 5] 86)).alloc (.cells #[.int .i64 3, .int .i64 3] 3)).alloc (.cells #[.int .u8 0, .int .i64 0, .int .i64 1] 86)).alloc (.cells #[.int .u8 0, .int .i64 0, .int .i64 1] 86)).alloc (.cells #[.int .u8 1, .int .i64 0, .int .i64 3] 86)).alloc (.cells #[.int .u8 1, .int .i64 0, .int .i64 6] 86)).alloc (.cells #[.int .u8 1, .int .i64 1, .int .i64 3] 86)).alloc (.cells #[.int .i64 0, .slice (some ⟨w.heap.size + 1 + 1 + 1 + 1, 0, none⟩) 1 1, .slice none 0 0, .int .i64 0, .slice none 0 0, .slice none 0 0, .int .i64 0, .slice (some ⟨w.heap.size + 1 + 1 + 1 + 1 + 1 + 1 + 1, 0, none⟩) 2 2, .slice (some ⟨w.heap.size + 1 + 1 + 1 + 1 + 1 + 1 + 1 + 1, 0, none⟩) 2 2, .int .i64 0, .slice (some ⟨w.heap.size + 1 + 1 + 1 + 1 + 1 + 1 + 1 + 1 + 1 + 1, 0, none⟩) 1 1, .slice none 0 0, .int .i64 0, .slice (some ⟨w.heap.size + 1 + 1 + 1 + 1 + 1 + 1 + 1 + 1 + 1 + 1 + 1, 0, none⟩) 1 1, .slice none 0 0, .int .i64 0, .slice (some ⟨w.heap.size + 1 + 1 + 1 + 1 + 1 + 1 + 1 + 1 + 1 + 1 + 1 + 1, 0, none⟩) 1 1, .slice none 0 0, .int .i64 0, .slice (some ⟨w.heap.size + 1 + 1 + 1 + 1 + 1 + 1 + 1 + 1 + 1 + 1 + 1 + 1 + 1, 0, none⟩) 1 1, .slice none 0 0] 83)).alloc (.cells #[.slice (some ⟨w.heap.size + 1 + 1 + 1 + 1 + 1 + 1 + 1 + 1 + 1 + 1 + 1 + 1 + 1 + 1, 0, none⟩) 7 7, .slice (some ⟨w.heap.size, 0, none⟩) 1 1, .slice (some ⟨w.heap.size + 1, 0, none⟩) 1 1, .slice none 0 0, .slice (some ⟨w.heap.size + 1 + 1, 0, none⟩) 1 1] 25))) : Below w.heap.size w wq ∧ wq.heap[w.heap.size + 1 + 1 + 1 + 1 + 1 + 1 + 1 + 1 + 1 + 1 + 1 + 1 + 1 + 1 + 1]? = some (.cells #[.slice (some ⟨w.heap.size + 1 + 1 + 1 + 1 + 1 + 1 + 1 + 1 + 1 + 1 + 1 + 1 + 1 + 1, 0, none⟩) 7 7, .slice (some ⟨w.heap.size, 0, none⟩) 1 1, .slice (some ⟨w.heap.size + 1, 0, none⟩) 1 1, .slice none 0 0, .slice (some ⟨w.heap.size + 1 + 1, 0, none⟩) 1 1] 25 (0, 0)) ∧ w.heap.size + 15 < wq.heap.size ∧
    NetR wq wq.heap.size (some ⟨w.heap.size + 1 + 1 + 1 + 1 + 1 + 1 + 1 + 1 + 1 + 1 + 1 + 1 + 1 + 1, 0, none⟩) (some ⟨w.heap.size, 0, none⟩) (some ⟨w.heap.size + 1, 0, none⟩) none (some ⟨w.heap.size + 1 + 1, 0, none⟩) Cf.n14 := by
  have hall := fun i hi => allocs_get [(.cells #[.int .i64 0] 3), (.cells #[.int .i64 1] 3), (.cells #[.int .i64 2] 3), (.cells #[.int .u8 0, .int .i64 0, .int .i64 2] 86), (.cells #[.int .u8 0, .int .i64 0, .int .i64 2] 86), (.cells #[.int .u8 0, .int .i64 0, .int .i64 4] 86), (.cells #[.int .u8 0, .int .i64 0, .int .i64 5] 86), (.cells #[.int .u8 0, .int .i64 0, .int .i64 4, .int .u8 0, .int .i64 0, .int .i64 5] 86), (.cells #[.int .i64 3, .int .i64 3] 3), (.cells #[.int .u8 0, .int .i64 0, .int .i64 1] 86), (.cells #[.int .u8 0, .int .i64 0, .int .i64 1] 86), (.cells #[.int .u8 1, .int .i64 0, .int .i64 3] 86), (.cells #[.int .u8 1, .int .i64 0, .int .i64 6] 86), (.cells #[.int .u8 1, .int .i64 1, .int .i64 3] 86), (.cells #[.int .i64 0, .slice (some ⟨w.heap.size + 1 + 1 + 1 + 1, 0, none⟩) 1 1, .slice none 0 0, .int .i64 0, .slice none 0 0, .slice none 0 0, .int .i64 0, .slice (some ⟨w.heap.size + 1 + 1 + 1 + 1 + 1 + 1 + 1, 0, none⟩) 2 2, .slice (some ⟨w.heap.size + 1 + 1 + 1 + 1 + 1 + 1 + 1 + 1, 0, none⟩) 2 2, .int .i64 0, .slice (some ⟨w.heap.size + 1 + 1 + 1 + 1 + 1 + 1 + 1 + 1 + 1 + 1, 0, none⟩) 1 1, .slice none 0 0, .int .i64 0, .slice (some ⟨w.heap.size + 1 + 1 + 1 + 1 + 1 + 1 + 1 + 1 + 1 + 1 + 1, 0, none⟩) 1 1, .slice none 0 0, .int .i64 0, .slice (some ⟨w.heap.size + 1 + 1 + 1 + 1 + 1 + 1 + 1 + 1 + 1 + 1 + 1 + 1, 0, none⟩) 1 1, .slice none 0 0, .int .i64 0, .slice (some ⟨w.heap.size + 1 + 1 + 1 + 1 + 1 + 1 + 1 + 1 + 1 + 1 + 1 + 1 + 1, 0, none⟩) 1 1, .slice none 0 0] 83), (.cells #[.slice (some ⟨w.heap.size + 1 + 1 + 1 + 1 + 1 + 1 + 1 + 1 + 1 + 1 + 1 + 1 + 1 + 1, 0, none⟩) 7 7, .slice (some ⟨w.heap.size, 0, none⟩) 1 1, .slice (some ⟨w.heap.size + 1, 0, none⟩) 1 1, .slice none 0 0, .slice (some ⟨w.heap.size + 1 + 1, 0, none⟩) 1 1] 25)] w i hi
  simp only [List.foldl_cons, List.foldl_nil] at hall
  rw [← h] at hall
  have h0 : wq.heap[w.heap.size]? = some (.cells #[.int .i64 0] 3 (0, 0)) := (hall 0 (by simp)).1
  have h1 : wq.heap[w.heap.size + 1]? = some (.cells #[.int .i64 1] 3 (0, 0)) := (hall 1 (by simp)).1
  have h2 : wq.heap[w.heap.size + 1 + 1]? = some (.cells #[.int .i64 2] 3 (0, 0)) := (hall 2 (by simp)).1
  have h4 : wq.heap[w.heap.size + 1 + 1 + 1 + 1]? = some (.cells #[.int .u8 0, .int .i64 0, .int .i64 2] 86 (0, 0)) := (hall 4 (by simp)).1
  have h7 : wq.heap[w.heap.size + 1 + 1 + 1 + 1 + 1 + 1 + 1]? = some (.cells #[.int .u8 0, .int .i64 0, .int .i64 4, .int .u8 0, .int .i64 0, .int .i64 5] 86 (0, 0)) := (hall 7 (by simp)).1
  have h8 : wq.heap[w.heap.size + 1 + 1 + 1 + 1 + 1 + 1 + 1 + 1]? = some (.cells #[.int .i64 3, .int .i64 3] 3 (0, 0)) := (hall 8 (by simp)).1
  have h10 : wq.heap[w.heap.size + 1 + 1 + 1 + 1 + 1 + 1 + 1 + 1 + 1 + 1]? = some (.cells #[.int .u8 0, .int .i64 0, .int .i64 1] 86 (0, 0)) := (hall 10 (by simp)).1
  have h11 : wq.heap[w.heap.size + 1 + 1 + 1 + 1 + 1 + 1 + 1 + 1 + 1 + 1 + 1]? = some (.cells #[.int .u8 1, .int .i64 0, .int .i64 3] 86 (0, 0)) := (hall 11 (by simp)).1
  have h12 : wq.heap[w.heap.size + 1 + 1 + 1 + 1 + 1 + 1 + 1 + 1 + 1 + 1 + 1 + 1]? = some (.cells #[.int .u8 1, .int .i64 0, .int .i64 6] 86 (0, 0)) := (hall 12 (by simp)).1
  have h13 : wq.heap[w.heap.size + 1 + 1 + 1 + 1 + 1 + 1 + 1 + 1 + 1 + 1 + 1 + 1 + 1]? = some (.cells #[.int .u8 1, .int .i64 1, .int .i64 3] 86 (0, 0)) := (hall 13 (by simp)).1
  have h14 : wq.heap[w.heap.size + 1 + 1 + 1 + 1 + 1 + 1 + 1 + 1 + 1 + 1 + 1 + 1 + 1 + 1]? = some (.cells #[.int .i64 0, .slice (some ⟨w.heap.size + 1 + 1 + 1 + 1, 0, none⟩) 1 1, .slice none 0 0, .int .i64 0, .slice none 0 0, .slice none 0 0, .int .i64 0, .slice (some ⟨w.heap.size + 1 + 1 + 1 + 1 + 1 + 1 + 1, 0, none⟩) 2 2, .slice (some ⟨w.heap.size + 1 + 1 + 1 + 1 + 1 + 1 + 1 + 1, 0, none⟩) 2 2, .int .i64 0, .slice (some ⟨w.heap.size + 1 + 1 + 1 + 1 + 1 + 1 + 1 + 1 + 1 + 1, 0, none⟩) 1 1, .slice none 0 0, .int .i64 0, .slice (some ⟨w.heap.size + 1 + 1 + 1 + 1 + 1 + 1 + 1 + 1 + 1 + 1 + 1, 0, none⟩) 1 1, .slice none 0 0, .int .i64 0, .slice (some ⟨w.heap.size + 1 + 1 + 1 + 1 + 1 + 1 + 1 + 1 + 1 + 1 + 1 + 1, 0, none⟩) 1 1, .slice none 0 0, .int .i64 0, .slice (some ⟨w.heap.size + 1 + 1 + 1 + 1 + 1 + 1 + 1 + 1 + 1 + 1 + 1 + 1 + 1, 0, none⟩) 1 1, .slice none 0 0] 83 (0, 0)) := (hall 14 (by simp)).1
  have h15 : wq.heap[w.heap.size + 1 + 1 + 1 + 1 + 1 + 1 + 1 + 1 + 1 + 1 + 1 + 1 + 1 + 1 + 1]? = some (.cells #[.slice (some ⟨w.heap.size + 1 + 1 + 1 + 1 + 1 + 1 + 1 + 1 + 1 + 1 + 1 + 1 + 1 + 1, 0, none⟩) 7 7, .slice (some ⟨w.heap.size, 0, none⟩) 1 1, .slice (some ⟨w.heap.size + 1, 0, none⟩) 1 1, .slice none 0 0, .slice (some ⟨w.heap.size + 1 + 1, 0, none⟩) 1 1] 25 (0, 0)) := (hall 15 (by simp)).1
  refine ⟨(hall 0 (by simp)).2.1, h15, by rw [(hall 0 (by simp)).2.2]; simp, ⟨⟨_, rdh h14 rfl, fun i hi => ?_⟩, rdh h0 rfl, rdh h1 rfl, rd0, rdh h2 rfl⟩⟩
  have hi : i < 7 := hi
  rcases (by omega : i = 0 ∨ i = 1 ∨ i = 2 ∨ i = 3 ∨ i = 4 ∨ i = 5 ∨ i = 6) with rfl | rfl | rfl | rfl | rfl | rfl | rfl
  · exact ⟨_, _, _, _, rfl, rfl, rfl, rdh h4 rfl, rd0⟩
  · exact ⟨_, _, _, _, rfl, rfl, rfl, rd0, rd0⟩
  · exact ⟨_, _, _, _, rfl, rfl, rfl, rdh h7 rfl, rdh h8 rfl⟩
  · exact ⟨_, _, _, _, rfl, rfl, rfl, rdh h10 rfl, rd0⟩
  · exact ⟨_, _, _, _, rfl, rfl, rfl, rdh h11 rfl, rd0⟩
  · exact ⟨_, _, _, _, rfl, rfl, rfl, rdh h12 rfl, rd0⟩
  · exact ⟨_, _, _, _, rfl, rfl, rfl, rdh h13 rfl, rd0⟩
end Go.Proofs.YtnpcjbdolmmaeaaGreatDoor
namespace Go.Proofs.YtnpcjbdolmmaeaaGreatDoor
open Go.RowKit Go.Maps
set_option maxRecDepth 100000
end Go.Proofs.YtnpcjbdolmmaeaaGreatDoor
namespace Go.Proofs.YtnpcjbdolmmaeaaGreatDoor
open Go.RowKit Go.Maps
set_option maxRecDepth 100000
theorem empty15_any (tt : Int) (w : World) : Calls Tryz.prog 38 #[.int .i64 tt] w fun e w' => e = .returned (.agg #[.int .u8 0, .int .i64 0, .int .i64 tt]) ∧ w' = w.alloc (.cells #[.int .u8 0, .int .i64 0, .int .i64 tt] 86) := by
  have HQ := hid (heap_alloc_new w (.cells #[.int .u8 0, .int .i64 0, .int .i64 tt] 86))
  go_enter Tryz.func38, Tryz.ntmps38
  go_wp2
  refine bodyPost_ret (results_cell_row rfl _ _ w.heap.size 86 _ _ _ rfl HQ.out Tryz.underlying86 rfl infoEd) rfl ?_
  exact ⟨rfl, rfl⟩
set_option maxHeartbeats 12800000 in
theorem lives15_any (w : World) (hT : PT w) : Calls Tryz.prog 20 #[] w fun e w' => e = .returned (.bool true) ∧ Below w.heap.size w w' := by
  have LM := fun wq h => live_mem w wq h
  have HT := hid hT
  clear hT
  go_enter Tryz.func20, Tryz.ntmps20
  go_wp2_with fail
  go_at_call 38
  refine (empty15_any 2 _).mono ?_
  rintro _ _ ⟨rfl, rfl⟩
  go_wp2_with fail
  go_at_call 38
  refine (empty15_any 4 _).mono ?_
  rintro _ _ ⟨rfl, rfl⟩
  go_wp2_with fail
  go_at_call 38
  refine (empty15_any 5 _).mono ?_
  rintro _ _ ⟨rfl, rfl⟩
  go_wp2_with fail
  go_at_call 38
  refine (empty15_any 1 _).mono ?_
  rintro _ _ ⟨rfl, rfl⟩
  go_upto_region 2 with fail
  generalize hq : World.alloc _ _ = wq
  obtain ⟨hb0, hbx, hsz, hnet⟩ := LM wq hq.symm
  clear LM hq
  obtain ⟨bx, hbxe⟩ : ∃ bx, w.heap.size + 1 + 1 + 1 + 1 + 1 + 1 + 1 + 1 + 1 + 1 + 1 + 1 + 1 + 1 + 1 = bx := ⟨_, rfl⟩
  obtain ⟨bs, hbse⟩ : ∃ bs, w.heap.size + 1 + 1 + 1 + 1 + 1 + 1 + 1 + 1 + 1 + 1 + 1 + 1 + 1 + 1 = bs := ⟨_, rfl⟩
  obtain ⟨b2, hb2e⟩ : ∃ b2, w.heap.size + 1 + 1 = b2 := ⟨_, rfl⟩
  obtain ⟨b1, hb1e⟩ : ∃ b1, w.heap.size + 1 = b1 := ⟨_, rfl⟩
  rw [hbse] at hbxe hbx hnet
  rw [hbxe] at hbx
  rw [hb2e, hb1e] at hbx hnet
  rw [hbse, hbxe]
  clear hbxe hbse hb2e hb1e
  have x0 : wq.cell? ⟨bx, 0, none⟩ = some (.slice (some ⟨bs, 0, none⟩) 7 7) := by rw [Lib.cell_of_heap hbx]; rfl
  have x1 : wq.cell? ⟨bx, 1, none⟩ = some (.slice (some ⟨w.heap.size, 0, none⟩) 1 1) := by rw [Lib.cell_of_heap hbx]; rfl
  have x2 : wq.cell? ⟨bx, 2, none⟩ = some (.slice (some ⟨b1, 0, none⟩) 1 1) := by rw [Lib.cell_of_heap hbx]; rfl
  have x3 : wq.cell? ⟨bx, 3, none⟩ = some (.slice none 0 0) := by rw [Lib.cell_of_heap hbx]; rfl
  have x4 : wq.cell? ⟨bx, 4, none⟩ = some (.slice (some ⟨b2, 0, none⟩) 1 1) := by rw [Lib.cell_of_heap hbx]; rfl
  have HNT := hid (fun (u : World) (hb : Below wq.heap.size wq u) => (show NetR u u.heap.size _ _ _ _ _ Cf.n14 from ⟨(hnet.below hb).sts.more hb.size, (hnet.below hb).starts.more hb.size, (hnet.below hb).stops.more hb.size, (hnet.below hb).preds.more hb.size, (hnet.below hb).decs.more hb.size⟩))
  have HBX := hid hbx
  have HB0 := hid hb0
  have HTQ := hid (HT.out.next hb0)
  have hbl1 := build_all Cf.n14 0 1 9 2 _ _ _ _ _ 7 1 1 0 1 wq hnet ⟨by decide, by decide, by decide, by decide, by decide, by decide⟩ Cf.few14 HTQ.out
  have HBL := hid hbl1
  clear hbl1 hb0 hbx hnet hsz
  go_wp2_with fail
  go_at_call 21
  refine HBL.out.mono ?_
  rintro _ w2 (⟨hno, _, _⟩ | ⟨l, A, hl, rfl, hau, hlen, hb2⟩)
  · rw [Cf.autoQ14a] at hno; cases hno
  rw [Cf.autoQ14a] at hl
  injection hl with hl
  subst hl
  have hby := below_new w2 (.cells #[.slice A 2 2] 57)
  have h3 := heap_alloc_new w2 (.cells #[.slice A 2 2] 57)
  obtain ⟨w3, hw3⟩ : ∃ w3, Hid (w2.alloc (.cells #[.slice A 2 2] 57) = w3) := ⟨_, hid rfl⟩
  rw [hw3.out] at hby h3
  have hb3 := hb2.trans (hby.mono hb2.size)
  have hx3 := (hb3.block _ (heap_lt HBX.out)).trans HBX.out
  have HAU := hid (hau.below hby)
  have HX3 := hid h3
  have HB3 := hid hb3
  have HB03 := hid (HB0.out.trans (hb3.mono HB0.out.size))
  have hbl2 := build_all Cf.n14 0 1 1 2 _ _ _ _ _ 7 1 1 0 1 w3 (HNT.out w3 hb3) ⟨by decide, by decide, by decide, by decide, by decide, by decide⟩ Cf.few14 (HTQ.out.next hb3)
  have HBL2 := hid hbl2
  have hl3 := heap_lt h3
  rw [show ([⟨0, [], [(0, 1)]⟩, ⟨1, [0], []⟩] : List Drv.LSt).length = 2 from rfl]
  clear x0 x1 x2 x3 x4 HBL hbl2 hby h3 hb3 hb2 hau hlen
  have x0 : w3.cell? ⟨bx, 0, none⟩ = some (.slice (some ⟨bs, 0, none⟩) 7 7) := by rw [Lib.cell_of_heap hx3]; rfl
  have x1 : w3.cell? ⟨bx, 1, none⟩ = some (.slice (some ⟨w.heap.size, 0, none⟩) 1 1) := by rw [Lib.cell_of_heap hx3]; rfl
  have x2 : w3.cell? ⟨bx, 2, none⟩ = some (.slice (some ⟨b1, 0, none⟩) 1 1) := by rw [Lib.cell_of_heap hx3]; rfl
  have x3 : w3.cell? ⟨bx, 3, none⟩ = some (.slice none 0 0) := by rw [Lib.cell_of_heap hx3]; rfl
  have x4 : w3.cell? ⟨bx, 4, none⟩ = some (.slice (some ⟨b2, 0, none⟩) 1 1) := by rw [Lib.cell_of_heap hx3]; rfl
  clear hx3
  go_upto_region 3 with fail
  rw [hw3.out]
  clear hw3
  go_wp2_with fail
  go_at_call 21
  refine HBL2.out.mono ?_
  rintro _ w4 (⟨hno, _, _⟩ | ⟨l, B, hl, rfl, hau, hlen, hb4⟩)
  · rw [Cf.autoQ14b] at hno; cases hno
  rw [Cf.autoQ14b] at hl
  injection hl with hl
  subst hl
  have hby := below_new w4 (.cells #[.slice B 1 1] 57)
  have h5 := heap_alloc_new w4 (.cells #[.slice B 1 1] 57)
  obtain ⟨w5, hw5⟩ : ∃ w5, Hid (w4.alloc (.cells #[.slice B 1 1] 57) = w5) := ⟨_, hid rfl⟩
  rw [hw5.out] at hby h5
  have hb5 := hb4.trans (hby.mono hb4.size)
  have hx3 := (hb5.block _ hl3).trans HX3.out
  have HB5 := hid (HB03.out.trans (hb5.mono HB03.out.size))
  have hA := HAU.out.below hb5
  have hB := hau.below hby
  obtain ⟨ga, oa, A0, a0, E0, e0, rfl, hga, c0, c1, c2, _, ed⟩ := hA.at 0 (by decide)
  obtain ⟨ga', oa', A1, a1, E1, e1, hAe, _, k0, k1, k2, al, _⟩ := hA.at 1 (by decide)
  injection hAe with hAe
  injection hAe with h8 h9 _
  subst h8 h9
  obtain ⟨gb, ob, B0, b0, F0, f0, rfl, hgb, m0, m1, m2, _, _⟩ := hB.at 0 (by decide)
  obtain ⟨g1, o1, rfl, hg1, r0, r1⟩ := ed2_at ed 0 (by decide)
  obtain ⟨g2, o2, hA1, hg2, s0⟩ := al.reads.2 (by decide)
  have s0 := s0 0 (.int .i64 0) rfl
  subst hA1
  simp at c0 c1 c2 k0 k1 k2 m0 m1 m2 r0 r1 s0
  have y0 : w5.cell? ⟨w2.heap.size, 0, none⟩ = some (.slice (some ⟨ga, oa, none⟩) 2 2) := by rw [Lib.cell_of_heap hx3]; rfl
  have z0 : w5.cell? ⟨w4.heap.size, 0, none⟩ = some (.slice (some ⟨gb, ob, none⟩) 1 1) := by rw [Lib.cell_of_heap h5]; rfl
  rw [show ([⟨3, [0, 1], []⟩] : List Drv.LSt).length = 1 from rfl]
  clear x0 x1 x2 x3 x4 HBL2 hby h5 hb5 hb4 hau hlen hA hB hx3 ed al
  go_upto_region 4 with fail
  rw [hw5.out]
  clear hw5
  go_wp2
  go_ret
  exact ⟨rfl, HB5.out⟩
end Go.Proofs.YtnpcjbdolmmaeaaGreatDoor
