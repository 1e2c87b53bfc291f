/-
  Checks: a problem more (check.tell): the walk.
-/
import Derived.Test.YtpbnfinmjnpkpaaGreatDoorGrCk
import Derived.RangeFuncNested
namespace Go.Proofs.YtpbnfinmjnpkpaaGreatDoor
open Go.RowKit
set_option maxRecDepth 100000
theorem infoPb : (Tryz.prog.info? 215).map (fun i => (i.zero, i.size, i.bytes)) = some (some (.agg #[.int .u8 0, .int .i64 0, .string ⟨#[]⟩]), 3, 32) := by kernel_rfl
def encPb (p : Gr.Pb) : List Value := [.int .u8 (p.code : Int), .int .i64 p.rule, Gr.strV p.name]
/-- the box of a check, and what is told so far -/
def OutR (base cb : Nat) (x0 x1 x2 x3 x4 x5 x6 : Value) (out : List Gr.Pb) (W : World) : Prop :=
  ∃ ov, W.heap[cb]? = some (.cells #[x0, x1, x2, x3, x4, x5, x6, ov] 210 (0, 0)) ∧ W.ownsRow base 215 3 ov out.length (flat encPb out)
/-- what a problem more turns -/
def TlC (cb : Nat) (k : Nat) (T : TypeId) : Prop := k = cb ∨ T = 215
theorem OutR.next {base cb : Nat} {x0 x1 x2 x3 x4 x5 x6 : Value} {out : List Gr.Pb} {W W' : World} (h : OutR base cb x0 x1 x2 x3 x4 x5 x6 out W) (hb : Below W.heap.size W W') : OutR base cb x0 x1 x2 x3 x4 x5 x6 out W' := by
  obtain ⟨ov, h1, h2⟩ := h
  exact ⟨ov, (hb.block _ (heap_lt h1)).trans h1, ownsRow_below h2 hb (Nat.le_refl _)⟩
set_option maxHeartbeats 4000000 in
theorem tell_any (base cb : Nat) (x0 x1 x2 x3 x4 x5 x6 : Value) (out : List Gr.Pb) (code : Nat) (r : Int) (nm : List UInt8) (W : World) (h : OutR base cb x0 x1 x2 x3 x4 x5 x6 out W) (hcb : base ≤ cb) (hbs : base ≤ W.heap.size) (hlen : out.length ≤ 1000000000) :
    Calls Tryz.prog 130 #[.pointer (some ⟨cb, 0, none⟩), .int .u8 (code : Int), .int .i64 r, Gr.strV nm] W fun e W' => (∃ v, e = .returned v) ∧ OutR base cb x0 x1 x2 x3 x4 x5 x6 (out ++ [⟨code, r, nm⟩]) W' ∧ KpT base (TlC cb) W W' ∧ KeepsOthers W W' := by
  obtain ⟨i0, hi, hz0, hz1, hz2⟩ := info_parts infoPb
  obtain ⟨ov, h1, hown⟩ := h
  obtain ⟨A, c0, rfl⟩ := row_form hown
  have c7 : W.cell? ⟨cb, 7, none⟩ = some (.slice A out.length c0) := by rw [Lib.cell_of_heap h1]; rfl
  have hne := row_not hown h1 (by decide)
  have H1 := hid h1
  have HOWN := hid hown
  obtain ⟨m, hm⟩ : ∃ m, out.length = m := ⟨_, rfl⟩
  have HM := hid hm
  rw [hm] at hown c7 H1 hlen hne
  have HCB := hid hcb
  have HBS := hid hbs
  have HNE := hid hne
  clear h1 hm hcb hne
  have hsv : Gr.strV nm = .string ⟨nm.toArray⟩ := rfl
  rw [hsv]
  clear hsv
  go_enter Tryz.func130, Tryz.ntmps130
  go_wp2_with (at_builtin; go_must (refine wpList_push4 W rfl _ _ 171 rfl base 215 i0 _ 3 32 Tryz.underlying171 hi hz0 hz1 hz2 rfl (by omega) (.slice A m c0) m _ rfl hown [.int .u8 (code : Int), .int .i64 r, .string ⟨nm.toArray⟩] 1 W.heap.size rfl rfl rfl (by simp [Value.oneCell']) Nat.zero_lt_one (by simp only [maxLen]; omega) (by omega) hbs ?_); intro g c w1 hown1 hblk ho1; have q1 := (ho1.block _ (heap_lt H1.out) HNE.out).trans H1.out; have q2 : ∃ v, w1.cell? ⟨cb, 7, none⟩ = some v := ⟨_, by rw [Lib.cell_of_heap q1]; rfl⟩; obtain ⟨v7, q2⟩ := q2; have q3 := Lib.frozen_of_heap q1 7; have HO1 := hid ho1; have HW1 := hid hown1; have HQ1 := hid q1; clear ho1 hown1 hown q1 hblk)
  go_end0
  have hs := heap_setCell_same w1 cb 7 _ _ (.slice (some ⟨g, 0, none⟩) (m + 1) c) HQ1.out
  have hos := Only.of_set w1 cb 7 (.slice (some ⟨g, 0, none⟩) (m + 1) c)
  have hne1 := row_not HW1.out HQ1.out (by decide)
  refine ⟨⟨_, rfl⟩, ⟨.slice (some ⟨g, 0, none⟩) (m + 1) c, hs, ?_⟩, ⟨?_, fun k cs T e hc => ?_⟩, (KeepsOthers.trans ⟨HO1.out.size, fun k o e hc => ?_⟩ (KeepsOthers.setCell _ _ _))⟩
  · rw [List.length_append, HM.out, flat_snoc]
    exact ownsRow_only HW1.out hos (fun k e e2 => hne1 (by rw [e, e2]))
  · have hlt := HOWN.out.lt
    rw [HM.out] at hlt
    refine Below.trans (HO1.out.below (fun k e => (hlt k e).1) (Below.refl _ _) HBS.out) (hos.below (fun k e => by have := HCB.out; omega) (Below.refl _ _) (Nat.le_trans HBS.out HO1.out.size))
  · have h9 : (Value.slice A m c0).ownBlock ≠ some k := fun e2 => by
      have h8 := row_not HOWN.out e (fun e3 => hc (.inr e3.symm))
      rw [HM.out] at h8
      exact h8 e2
    exact (hos.block _ (by have := heap_lt e; have := HO1.out.size; omega) (fun e2 => hc (.inl e2))).trans ((HO1.out.block _ (heap_lt e) h9).trans e)
  · refine (HO1.out.block _ (heap_lt e) fun e2 => ?_).trans e
    rcases HOWN.out.2 with ⟨h8, _⟩ | ⟨g', cap, cur, hv, _, hh, _⟩
    · rw [HM.out] at h8
      rw [h8] at e2
      cases e2
    · rw [HM.out] at hv
      rw [hv] at e2
      injection e2 with e2
      have e2 : g' = k := e2
      rw [e2, e] at hh
      cases hh
      cases hc
end Go.Proofs.YtpbnfinmjnpkpaaGreatDoor
