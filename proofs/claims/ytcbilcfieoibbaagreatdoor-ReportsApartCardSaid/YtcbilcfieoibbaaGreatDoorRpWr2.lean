/-
  A writing: a token: the walk.
-/
import Derived.Test.YtcbilcfieoibbaaGreatDoorRpWr
import Derived.Deep.QuietTactic
import Derived.BigQuiet
namespace Go.Proofs.YtcbilcfieoibbaaGreatDoor
open Go.RowKit
set_option maxRecDepth 100000
/-- a token: its kind, its text, where -/
abbrev Tk := Int × Rp.By × Int
def encTk (t : Tk) : List Value := [.int .i64 t.1, .string ⟨t.2.1.toArray⟩, .int .i64 t.2.2]
theorem encTk_len (t : Tk) : (encTk t).length = 3 := rfl
def txs (l : List Tk) : List Rp.By := l.map (·.2.1)
/-- what a writing writes by -/
structure WrD where
  (RA TA WA : Option Addr)
  (rc tc wc : Nat)
  (n m : List Rp.By)
  (tk : List Tk)
structure WrOK (w : World) (B : Nat) (D : WrD) (x : Wr) : Prop where
  eR : x.R = .slice D.RA D.n.length D.rc
  eT : x.T = .slice D.TA D.m.length D.tc
  eW : x.W = .slice D.WA D.tk.length D.wc
  sr : SR w B D.RA D.n
  st : SR w B D.TA D.m
  sw : Reads w B 3 D.WA D.tk.length (flat encTk D.tk)
theorem WrOK.below {w w' : World} {B : Nat} {D : WrD} {x : Wr} (h : WrOK w B D x) (hb : Below B w w') : WrOK w' B D x := ⟨h.eR, h.eT, h.eW, h.sr.below hb, h.st.below hb, h.sw.below hb⟩
/-- a tree's cells, as they are handed in -/
def trV (r t k : Int) (e : Bool) (A : Option Addr) (n c : Nat) : Value := .agg #[.int .i64 r, .int .i64 t, .int .i64 k, .bool e, .slice A n c]
theorem wr_cells {B b : Nat} {l : List UInt8} {x : Wr} {w : World} (h : IsWr B b l x w) : w.cell? ⟨b, 2, none⟩ = some x.R ∧ w.cell? ⟨b, 3, none⟩ = some x.T ∧ w.cell? ⟨b, 15, none⟩ = some x.W := by
  obtain ⟨p, v, hb⟩ := h.heap
  refine ⟨?_, ?_, ?_⟩
  all_goals rw [Lib.cell_of_heap hb]; rfl
set_option maxHeartbeats 4000000 in
theorem wtoken_any (B b : Nat) (l : List UInt8) (x : Wr) (D : WrD) (r t k : Int) (e0 : Bool) (A : Option Addr) (n c K : Nat) (w : World) (h : IsWr B b l x w) (hD : WrOK w B D x) (hTB : TB B w) (hm : Rp.Short K D.m) (hw : Rp.Short K (txs D.tk)) (hK : 1 ≤ K) (hK2 : K ≤ 1000000) (hlen : l.length + 13 * K + 2 ≤ 140737488355328) (hBw : B ≤ w.heap.size) :
    Calls Tryz.prog 44 #[.pointer (some ⟨b, 0, none⟩), trV r t k e0 A n c] w fun e w' => e = .returned (.tuple #[]) ∧ (WrAt B b (.pointer (some ⟨b, 0, none⟩)) (l ++ Rp.tokT D.m (txs D.tk) k t) x w' ∧ Kp B b w w') := by
  obtain ⟨W, hW⟩ : ∃ W, W = w.alloc (.cells #[.int .i64 r, .int .i64 t, .int .i64 k, .bool e0, .slice A n c] 45) := ⟨_, rfl⟩
  have hbx : W.heap[w.heap.size]? = some (.cells #[.int .i64 r, .int .i64 t, .int .i64 k, .bool e0, .slice A n c] 45 (0, 0)) := by rw [hW]; exact heap_alloc_new w _
  have hW1 : IsWr B b l x W := by rw [hW]; exact h.alloc _
  have hbW : Below w.heap.size w W := by rw [hW]; exact below_new _ _
  have hWs : w.heap.size < W.heap.size := by rw [hW]; simp
  have hbn : w.heap.size ≠ b := by have := h.lt; omega
  have hKW : Kp B b w W := Kp.of_below hbW hBw
  have hDW : WrOK W B D x := hD.below hKW.1
  obtain ⟨c2, c3, c15⟩ := wr_cells hW1
  rw [hDW.eT] at c3
  have b2 : W.cell? ⟨w.heap.size, 2, none⟩ = some (.int .i64 k) := by rw [Lib.cell_of_heap hbx]; rfl
  have hnl := Rp.name_len hm hK k
  have HN := hid fun W' (hb : Below B W W') => rname_any W' B D.TA D.tc D.m k (hDW.st.below hb)
  have HW1 := hid hW1
  have HDW := hid hDW
  have HTB := hid (hTB.below hKW.1)
  have HKW := hid hKW
  have HBX := hid hbx
  have HLEN := hid hlen
  have HW := hid hw
  have HM := hid hm
  clear hD hTB hDW hW1 hKW hbx hlen hw hm h c2 c15 hbW
  unfold trV
  go_enter Tryz.func44, Tryz.ntmps44
  go_wp2_with fail
  rw [← hW]
  clear hW
  go_region_law
    (first
      | (go_simp; go_at_call 46; refine (HN.out _ (Below.drew (Below.refl _ _))).mono ?_; rintro e w3 ⟨rfl, rfl⟩)
      | (go_simp; go_at_call 45; refine (writeStrW_any B b l x (Rp.name D.m k) W.drew HW1.out (by have := HLEN.out; omega) (by show B ≤ W.heap.size; omega)).mono ?_; rintro e w4 ⟨rfl, h4, k4⟩))
  all_goals
    have hKW2 : Kp B b W w4 := (Kp.refl B b W).drew.trans k4
    have hB4 : B ≤ w4.heap.size := by have := hKW2.1.size; omega
    have hbx4 := hKW2.cells HBX.out hbn (by decide)
    have c1 : w4.cell? ⟨w.heap.size, 1, none⟩ = some (.int .i64 t) := by rw [Lib.cell_of_heap hbx4]; rfl
    obtain ⟨_, _, c15⟩ := wr_cells (.inr h4)
    have hD4 := HDW.out.below hKW2.1
    rw [hD4.eW] at c15
    have HK := hid (HKW.out.trans hKW2)
    have HTB4 := hid (HTB.out.below hKW2.1)
    have H4 := hid h4
    clear k4 hKW2 b2 c3 hbx4
    by_cases ht : t < 0
    · have f0 : decide (t < 0) = true := decide_eq_true ht
      clear hD4 c15
      go_wp2_with fail
      refine (writeStrW_any B b _ x [63] w4 (.inr H4.out) (by have := HLEN.out; simp; omega) hB4).mono ?_
      rintro e w5 ⟨rfl, h5, k5⟩
      go_wp2_with fail
      go_end0
      refine ⟨rfl, ?_, HK.out.trans k5⟩
      unfold Rp.tokT
      rw [if_pos ht, ← List.append_assoc]
      exact h5
    · have f0 : decide (t < 0) = false := decide_eq_false ht
      obtain ⟨j, rfl⟩ : ∃ j : Nat, t = j := ⟨t.toNat, by omega⟩
      by_cases hj : j < D.tk.length
      · have f1 : decide ((j : Int) < (D.tk.length : Int)) = true := decide_eq_true (by omega)
        have f2 : decide (j < D.tk.length) = true := decide_eq_true hj
        obtain ⟨wb, off, hWA, hwb, hcell⟩ := hD4.sw.2 (by omega)
        have hcx : w4.cell? ⟨wb, off + j * 3 + 1, none⟩ = some (.string ⟨(D.tk[j]).2.1.toArray⟩) := by
          have := hcell (j * 3 + 1) _ (by rw [flat_get encTk 3 encTk_len D.tk j hj 1 (by decide)]; rfl)
          rw [← Nat.add_assoc] at this
          exact this
        rw [hWA] at c15
        have hsl : (D.tk[j]).2.1.length ≤ K := HW.out _ (List.mem_map.2 ⟨_, List.getElem_mem hj, rfl⟩)
        have hge : (txs D.tk).getD j [] = (D.tk[j]).2.1 := by
          rw [List.getD_eq_getElem?_getD]
          unfold txs
          rw [List.getElem?_map, List.getElem?_eq_getElem hj]
          rfl
        have HX := hid fun W' (hb : Below w4.heap.size w4 W') => wtext_any B b (l ++ Rp.name D.m k) x (D.tk[j]).2.1 W' (.inr (H4.out.below hb)) (HTB4.out.below (hb.mono hB4)) (by have := HLEN.out; simp; omega) (by omega) (Nat.le_trans hB4 hb.size)
        have HGE := hid hge
        clear hD4 hcell hge hsl
        generalize (D.tk[j]).2.1 = sx at hcx HX HGE
        go_wp2_with fail
        go_quiet (fail)
        go_wp2_with fail
        go_region_law
          (first
            | (go_simp; go_at_call 65; refine (HX.out _ (Below.drew (below_drewN (Below.refl _ _) _))).mono ?_; rintro e w5 ⟨rfl, h5, k5⟩))
        all_goals
          go_wp2_with fail
          go_end0
          refine ⟨rfl, ?_, HK.out.trans ((Kp.of_below (Below.drew (below_drewN (Below.refl _ _) _)) hB4).trans k5)⟩
          unfold Rp.tokT
          rw [if_neg (show ¬ (j : Int) < 0 by omega), if_pos (by unfold txs; simpa using hj), Int.toNat_natCast, HGE.out]
          simpa using h5
      · have f1 : decide ((j : Int) < (D.tk.length : Int)) = false := decide_eq_false (by omega)
        have f2 : decide (j < D.tk.length) = false := decide_eq_false hj
        have HX := hid fun W' (hb : Below w4.heap.size w4 W') => wtext_any B b (l ++ Rp.name D.m k) x [] W' (.inr (H4.out.below hb)) (HTB4.out.below (hb.mono hB4)) (by have := HLEN.out; simp; omega) (by simp) (Nat.le_trans hB4 hb.size)
        clear hD4
        go_wp2_with fail
        go_quiet (fail)
        go_wp2_with fail
        refine (HX.out _ (below_drewN (Below.refl _ _) _)).mono ?_
        rintro e w5 ⟨rfl, h5, k5⟩
        go_wp2_with fail
        go_end0
        refine ⟨rfl, ?_, HK.out.trans ((Kp.of_below (below_drewN (Below.refl _ _) _) hB4).trans k5)⟩
        unfold Rp.tokT
        rw [if_neg (show ¬ (j : Int) < 0 by omega), if_neg (by unfold txs; simpa using hj)]
        simpa [Rp.spell_nil] using h5
end Go.Proofs.YtcbilcfieoibbaaGreatDoor
