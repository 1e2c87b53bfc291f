/-
  Which rules may be empty, as a list (nulls.Empty); may a node of a rule be empty (nulls.May): the walks.
-/
import Derived.Test.YtpbnfinmjnpkpaaGreatDoorGrKn
import Derived.Deep.RegionHeld3
namespace Go.Proofs.YtpbnfinmjnpkpaaGreatDoor
open Go.RowKit
set_option maxRecDepth 100000
section
variable {w0 : World} {B : Nat} {rs : List Gr.Ru}
/-- a list of bools in a block of its own -/
def BoolsP (l : List Bool) (w : World) (e : Ending) (w' : World) : Prop := ∃ kb, e = .returned (.slice (some ⟨kb, 0, none⟩) l.length l.length) ∧ w'.heap[kb]? = some (.cells (l.map Value.bool).toArray 4 (0, 0)) ∧ Below w.heap.size w w'
set_option maxHeartbeats 4000000 in
theorem empty_any (gn : List UInt8) (bd st : Int) (RA : Option Addr) (rc : Nat) (W : World) (hr : RsAt w0 B RA rs) (hb : Below B w0 W) (hB : B ≤ W.heap.size) :
    Calls Tryz.prog 126 #[.agg #[Gr.strV gn, .int .i64 bd, .int .i64 st, .slice RA rs.length rc]] W (BoolsP (Gr.emptyR rs) W) := by
  have hb1 := below_new W (.cells #[.string ⟨gn.toArray⟩, .int .i64 bd, .int .i64 st, .slice RA rs.length rc] 56)
  have h1 := heap_alloc_new W (.cells #[.string ⟨gn.toArray⟩, .int .i64 bd, .int .i64 st, .slice RA rs.length rc] 56)
  obtain ⟨W1, hW1⟩ : ∃ W1, Hid (W.alloc (.cells #[.string ⟨gn.toArray⟩, .int .i64 bd, .int .i64 st, .slice RA rs.length rc] 56) = W1) := ⟨_, hid rfl⟩
  rw [hW1.out] at hb1 h1
  have H := hid (known_any gn bd st RA rc W1 hr (hb.trans (hb1.mono hB)) (Nat.le_trans hB hb1.size))
  have k0 : W1.cell? ⟨W.heap.size, 0, none⟩ = some (.string ⟨gn.toArray⟩) := by rw [Lib.cell_of_heap h1]; rfl
  have k1 : W1.cell? ⟨W.heap.size, 1, none⟩ = some (.int .i64 bd) := by rw [Lib.cell_of_heap h1]; rfl
  have k2 : W1.cell? ⟨W.heap.size, 2, none⟩ = some (.int .i64 st) := by rw [Lib.cell_of_heap h1]; rfl
  have k3 : W1.cell? ⟨W.heap.size, 3, none⟩ = some (.slice RA rs.length rc) := by rw [Lib.cell_of_heap h1]; rfl
  have HB1 := hid hb1
  have HL := hid (Gr.emptyR_len rs)
  unfold BoolsP
  unfold Gr.strV at *
  obtain ⟨n, hnn⟩ : ∃ n, rs.length = n := ⟨_, rfl⟩
  have HL2 : Hid ((Gr.emptyR rs).length = n) := hid (by rw [HL.out, hnn])
  rw [hnn] at H k3 hW1 ⊢
  clear h1 hb1 hr hb hB hnn
  go_enter Tryz.func126, Tryz.ntmps126
  go_upto_region 1 with fail
  rw [hW1.out]
  clear hW1
  go_wp2_with fail
  refine H.out.mono ?_
  rintro _ w2 ⟨ab, rfl, hask, hb2, kb, gn', bd', sta, RA', n', rc', hA, hK, hl⟩
  have a4 : w2.cell? ⟨ab, 4, none⟩ = some (.slice (some ⟨kb, 0, none⟩) n' n') := by rw [Lib.cell_of_heap hA]; rfl
  obtain rfl : n' = n := by rw [← hl, HL2.out]
  have HF := hid (HB1.out.trans (hb2.mono HB1.out.size))
  have HK := hid hK
  clear k0 k1 k2 k3 hb2 hA hK hl hask
  go_wp2_with fail
  go_ret
  exact ⟨kb, by rw [HL2.out]; rfl, HK.out, HF.out⟩
set_option maxHeartbeats 8000000 in
theorem nmay_any (gn : List UInt8) (bd st : Int) (RA : Option Addr) (rc r : Nat) (nd : Gr.Nd) (cs : List Value) (W : World) (hr : RsAt w0 B RA rs) (hn : NdR w0 B nd cs) (hok : Gr.okN nd) (hb : Below B w0 W) (hB : B ≤ W.heap.size) (hlt : r < rs.length) :
    Calls Tryz.prog 167 #[.agg #[Gr.strV gn, .int .i64 bd, .int .i64 st, .slice RA rs.length rc], .int .i64 (r : Int), .agg cs.toArray] W fun e W' => e = .returned (.bool (Gr.mayN rs (Gr.emptyR rs) (Gr.isTok (Gr.ruAt rs r)) nd)) ∧ Below W.heap.size W W' := by
  obtain ⟨xk, xm, xt, xSA, xa, xsc, xUA, xb, xuc, rfl⟩ := hn.form
  obtain ⟨xs, hr1, hr2⟩ := hr.r
  obtain ⟨b, o, u0, u1, u2, u3, u4, u5, u6, u7, u8, u9, hRA, hbB, hru, c0, c1, c2, c3, c4, c5, c6, c7, c8, c9⟩ := readsRu hr1 hr2 r hlt
  obtain ⟨yk, ym, yt, ySA, ya, ysc, yUA, yb, yuc, y0, y1, y2, hv, _⟩ := hru.form
  obtain ⟨ui, hui⟩ : ∃ u, Gr.ruAt rs r = u := ⟨_, rfl⟩
  rw [show rs[r] = ui by rw [← hui, ruAt_eq hlt]] at hru hv
  rw [hui]
  injection hv with hv0 hv
  injection hv with hv1 hv
  injection hv with hv2 hv
  injection hv with hv3 hv
  injection hv with hv4 hv
  injection hv with hv5 hv
  injection hv with hv6 hv
  injection hv with hv7 hv
  injection hv with hv8 hv
  injection hv with hv9 hv
  subst hv0 hv1 hv2 hv3 hv4 hv5 hv6 hv7 hv8 hv9 hRA
  obtain ⟨n, hnn⟩ : ∃ n, rs.length = n := ⟨_, rfl⟩
  have HKN := hid (fun (u : World) (h : Below W.heap.size W u) => known_any gn bd st (some ⟨b, o, none⟩) rc u hr (hb.trans (h.mono hB)) (Nat.le_trans hB h.size))
  have HTK := hid (fun (u : World) => token_any ui _ u hru)
  have HMY := hid (fun (ab : Nat) (u : World) (h : AskAt w0 B rs (Gr.emptyR rs) ab u) => may_any (token := Gr.isTok ui) nd hok _ u hn h)
  rw [hnn] at HKN hlt ⊢
  have hbw : ∀ u, Below W.heap.size W u → Below B w0 u := fun u h => hb.trans (h.mono hB)
  have z1 : (W.alloc (.cells #[.string ⟨gn.toArray⟩, .int .i64 bd, .int .i64 st, .slice (some ⟨b, o, none⟩) n rc] 56)).heap.size = W.heap.size + 1 := by simp
  obtain ⟨W1, hW1⟩ : ∃ W1, Hid ((W.alloc (.cells #[.string ⟨gn.toArray⟩, .int .i64 bd, .int .i64 st, .slice (some ⟨b, o, none⟩) n rc] 56)).alloc (.cells #[.int .u8 xk, .string xm, .string xt, .slice xSA xa xsc, .slice xUA xb xuc] 74) = W1) := ⟨_, hid rfl⟩
  have hb1 : Below W.heap.size W W1 := by rw [← hW1.out]; exact (below_new _ _).alloc (by omega) _
  have h0 : W1.heap[W.heap.size]? = some (.cells #[.string ⟨gn.toArray⟩, .int .i64 bd, .int .i64 st, .slice (some ⟨b, o, none⟩) n rc] 56 (0, 0)) := by rw [← hW1.out, Below.heap_alloc _ _ _ (by omega)]; exact heap_alloc_new _ _
  have h1 : W1.heap[W.heap.size + 1]? = some (.cells #[.int .u8 xk, .string xm, .string xt, .slice xSA xa xsc, .slice xUA xb xuc] 74 (0, 0)) := by rw [← hW1.out, ← z1]; exact heap_alloc_new _ _
  have hS : ∀ u : World, Below W1.heap.size W1 u → u.cell? ⟨W.heap.size, 0, none⟩ = some (.string ⟨gn.toArray⟩) ∧ u.cell? ⟨W.heap.size, 1, none⟩ = some (.int .i64 bd) ∧ u.cell? ⟨W.heap.size, 2, none⟩ = some (.int .i64 st) ∧ u.cell? ⟨W.heap.size, 3, none⟩ = some (.slice (some ⟨b, o, none⟩) n rc) ∧ u.cell? ⟨W.heap.size + 1, 0, none⟩ = some (.int .u8 xk) ∧ u.cell? ⟨W.heap.size + 1, 1, none⟩ = some (.string xm) ∧ u.cell? ⟨W.heap.size + 1, 2, none⟩ = some (.string xt) ∧ u.cell? ⟨W.heap.size + 1, 3, none⟩ = some (.slice xSA xa xsc) ∧ u.cell? ⟨W.heap.size + 1, 4, none⟩ = some (.slice xUA xb xuc) ∧ u.cell? ⟨b, o + r * 10, none⟩ = some (.string ⟨ui.name.toArray⟩) ∧ u.cell? ⟨b, o + r * 10 + 1, none⟩ = some (.int .u8 (ui.sort : Int)) ∧ u.cell? ⟨b, o + r * 10 + 2, none⟩ = some (.int .u8 yk) ∧ u.cell? ⟨b, o + r * 10 + 3, none⟩ = some (.string ym) ∧ u.cell? ⟨b, o + r * 10 + 4, none⟩ = some (.string yt) ∧ u.cell? ⟨b, o + r * 10 + 5, none⟩ = some (.slice ySA ya ysc) ∧ u.cell? ⟨b, o + r * 10 + 6, none⟩ = some (.slice yUA yb yuc) ∧ u.cell? ⟨b, o + r * 10 + 7, none⟩ = some (.int .i64 y0) ∧ u.cell? ⟨b, o + r * 10 + 8, none⟩ = some (.int .i64 y1) ∧ u.cell? ⟨b, o + r * 10 + 9, none⟩ = some (.int .i64 y2) := fun u h => by
    have g0 := (h.block _ (heap_lt h0)).trans h0
    have g1 := (h.block _ (heap_lt h1)).trans h1
    have g2 := hbw u (hb1.trans (h.mono hb1.size))
    exact ⟨by rw [Lib.cell_of_heap g0]; rfl, by rw [Lib.cell_of_heap g0]; rfl, by rw [Lib.cell_of_heap g0]; rfl, by rw [Lib.cell_of_heap g0]; rfl, by rw [Lib.cell_of_heap g1]; rfl, by rw [Lib.cell_of_heap g1]; rfl, by rw [Lib.cell_of_heap g1]; rfl, by rw [Lib.cell_of_heap g1]; rfl, by rw [Lib.cell_of_heap g1]; rfl, (g2.cell (p := ⟨b, o + r * 10, none⟩) hbB).trans c0, (g2.cell (p := ⟨b, o + r * 10 + 1, none⟩) hbB).trans c1, (g2.cell (p := ⟨b, o + r * 10 + 2, none⟩) hbB).trans c2, (g2.cell (p := ⟨b, o + r * 10 + 3, none⟩) hbB).trans c3, (g2.cell (p := ⟨b, o + r * 10 + 4, none⟩) hbB).trans c4, (g2.cell (p := ⟨b, o + r * 10 + 5, none⟩) hbB).trans c5, (g2.cell (p := ⟨b, o + r * 10 + 6, none⟩) hbB).trans c6, (g2.cell (p := ⟨b, o + r * 10 + 7, none⟩) hbB).trans c7, (g2.cell (p := ⟨b, o + r * 10 + 8, none⟩) hbB).trans c8, (g2.cell (p := ⟨b, o + r * 10 + 9, none⟩) hbB).trans c9⟩
  obtain ⟨s0, s1, s2, s3, s4, s5, s6, s7, s8, s9, s10, s11, s12, s13, s14, s15, s16, s17, s18⟩ := hS W1 (Below.refl _ _)
  generalize Gr.isTok ui = tk at *
  generalize Gr.mayN rs (Gr.emptyR rs) tk nd = q at *
  have HB1 := hid hb1
  have HS := hid hS
  have hr0 : ¬ (r : Int) < 0 := by omega
  have hr1' : (r : Int) < (n : Int) := by omega
  have hr2' : ¬ (n : Int) ≤ (r : Int) := by omega
  unfold Gr.strV at *
  clear hb1 hS h0 h1 hbw z1 hnn hr1 hr2 hr hn hb hB hru hv c0 c1 c2 c3 c4 c5 c6 c7 c8 c9 hui
  go_enter Tryz.func167, Tryz.ntmps167
  go_upto_region 1 with fail
  rw [hW1.out]
  clear hW1
  go_upto_region 3 with fail
  go_region_held3 (fun w' => w'.cell? ⟨W.heap.size, 0, none⟩ = some (.string ⟨gn.toArray⟩) ∧ w'.cell? ⟨W.heap.size, 1, none⟩ = some (.int .i64 bd) ∧ w'.cell? ⟨W.heap.size, 2, none⟩ = some (.int .i64 st) ∧ w'.cell? ⟨W.heap.size, 3, none⟩ = some (.slice (some ⟨b, o, none⟩) n rc) ∧ w'.cell? ⟨W.heap.size + 1, 0, none⟩ = some (.int .u8 xk) ∧ w'.cell? ⟨W.heap.size + 1, 1, none⟩ = some (.string xm) ∧ w'.cell? ⟨W.heap.size + 1, 2, none⟩ = some (.string xt) ∧ w'.cell? ⟨W.heap.size + 1, 3, none⟩ = some (.slice xSA xa xsc) ∧ w'.cell? ⟨W.heap.size + 1, 4, none⟩ = some (.slice xUA xb xuc) ∧ w'.cell? ⟨b, o + r * 10, none⟩ = some (.string ⟨ui.name.toArray⟩) ∧ w'.cell? ⟨b, o + r * 10 + 1, none⟩ = some (.int .u8 (ui.sort : Int)) ∧ w'.cell? ⟨b, o + r * 10 + 2, none⟩ = some (.int .u8 yk) ∧ w'.cell? ⟨b, o + r * 10 + 3, none⟩ = some (.string ym) ∧ w'.cell? ⟨b, o + r * 10 + 4, none⟩ = some (.string yt) ∧ w'.cell? ⟨b, o + r * 10 + 5, none⟩ = some (.slice ySA ya ysc) ∧ w'.cell? ⟨b, o + r * 10 + 6, none⟩ = some (.slice yUA yb yuc) ∧ w'.cell? ⟨b, o + r * 10 + 7, none⟩ = some (.int .i64 y0) ∧ w'.cell? ⟨b, o + r * 10 + 8, none⟩ = some (.int .i64 y1) ∧ w'.cell? ⟨b, o + r * 10 + 9, none⟩ = some (.int .i64 y2)) (first | assumption | exact ⟨s0, s1, s2, s3, s4, s5, s6, s7, s8, s9, s10, s11, s12, s13, s14, s15, s16, s17, s18⟩)
    (first
      | (go_simp; go_at_call 155; refine (HKN.out _ HB1.out.drew).mono ?_; rintro _ w3 ⟨ab, rfl, hask, hb3, _⟩; have hb3 : Below W1.heap.size W1 w3 := ⟨hb3.os, hb3.tape, hb3.output, hb3.size, hb3.block⟩; have s3 := HS.out w3 hb3; have HA3 := hid hask; have HB3 := hid hb3; clear hask hb3; dsimp only)
      | (go_simp; go_at_call 157; refine (HTK.out _).mono ?_; rintro _ w4 ⟨rfl, hb4⟩; have s4 := HS.out w4 (HB3.out.trans (hb4.mono HB3.out.size)); have HA4 := hid (HA3.out.next hb4); have HB4 := hid (HB3.out.trans (hb4.mono HB3.out.size)); clear hb4; dsimp only)
      | (go_simp; go_at_call 179; refine (HMY.out _ _ HA4.out).mono ?_; rintro _ w5 ⟨rfl, hb5⟩; have s5 := HS.out w5 (HB4.out.trans (hb5.mono HB4.out.size)); have HB5 := hid (HB1.out.trans ((HB4.out.trans (hb5.mono HB4.out.size)).mono HB1.out.size)); clear hb5; dsimp only))
  clear s0 s1 s2 s3 s4 s5 s6 s7 s8 s9 s10 s11 s12 s13 s14 s15 s16 s17 s18
  go_wp2_with fail
  go_ret
  exact ⟨rfl, HB5.out⟩
end
end Go.Proofs.YtpbnfinmjnpkpaaGreatDoor
