/-
  Drivers: tries: the walk.
-/
import Derived.Test.YtgflanlniejflaaPst5
import Derived.Deep.RegionHeld3
namespace Go.Proofs.Ytgflanlniejflaa
open Go.RowKit Go.Maps
open Go.Sort (grow)
set_option maxRecDepth 100000
/-- what tries leaves -/
def TriesP (f : Fx) (k : Drv.Cf) (d : Int) (alts : List Int) (w : World) (e : Ending) (w' : World) : Prop := e = .returned (.tuple #[]) ∧ Below f.B0 w w' ∧ ∃ v', PstAt w' f v' (Drv.triesM f.c d alts k)
set_option maxHeartbeats 1600000 in
theorem tries_one (w : World) (f : Fx) (v : Vx) (k : Drv.Cf) (d a : Int) (A : Option Addr) (ca : Nat) (hl : Lim f) (h : PstAt w f v k) (hk : k.known.length < 4000000000) (hd : Drv.InR f.c.decs.length d) (ha0 : 0 ≤ a) (ha1 : a < 32) (hp0 : 0 ≤ k.pos) (hp1 : k.pos ≤ f.c.w.length)
    (hr : Reads w w.heap.size 1 A 1 [.int .i64 a]) :
    Calls Try.prog 89 #[.pointer (some ⟨f.P, 0, none⟩), .int .i64 d, .slice A 1 ca] w (TriesP f k d [a] w) := by
  obtain ⟨b0, off0, rfl, hb0, hcell⟩ := hr.2 (by omega)
  have a0 := hcell 0 (.int .i64 a) rfl
  rw [Nat.add_zero] at a0
  obtain ⟨r, t, q, b, s, hpar, _⟩ := h.par
  have c2 := (hpar.cell 2).1
  have c9 := (hpar.cell 9).1
  simp only [parCells, List.getElem?_toArray, List.getElem?_cons_succ, List.getElem?_cons_zero] at c2 c9
  have HPAR := hid hpar
  have H := hid h
  have HL := hid hl
  clear hr hcell hpar h hl
  go_enter Try.func89, Try.ntmps89
  go_wp2_with fail
  refine still_tail 12 (by kernel_rfl) (by kernel_rfl) ?_
  intro w2 HW2
  have ho2 : Only (fun _ => False) w w2 := by rw [HW2.out]; exact ⟨rfl, rfl, rfl, Nat.le_refl _, fun _ _ _ => rfl⟩
  clear HW2
  have c2 := (ho2.cell (o := 2) HPAR.out.lt (fun e => e)).trans c2
  have c9 := (ho2.cell (o := 9) HPAR.out.lt (fun e => e)).trans c9
  have a0 := (ho2.cell (o := off0) hb0 (fun e => e)).trans a0
  have HP2 := hid (H.out.still ho2)
  have HB2 := hid (ho2.below' (B := f.B0) (fun _ e => e.elim) (by have := H.out.ltTS f.P (.inl rfl); have := H.out.geP; omega))
  clear H HPAR ho2 hb0
  simp only [List.take_succ_cons, List.take_zero, List.drop_succ_cons, List.drop_zero]
  repeat still_step
  refine wpStill_nil ?_
  go_wp2_with fail
  refine (sayPick0P w2 f v k d k.pos a HP2.out hk hd HL.out.picks hp0 hp1 HL.out.toks (by omega) ha1).mono ?_
  rintro e w3 ⟨rfl, hb3, _, hP3⟩
  have HB3 := hid (HB2.out.trans hb3)
  have HP3 := hid hP3
  clear c2 c9 a0 HP2 HB2 hb3 hP3
  go_wp2
  go_end0
  exact ⟨rfl, HB3.out, v, HP3.out⟩
/-- a state of the net, where it lies -/
theorem Sta.state {w : World} {f : Fx} (h : Sta w f) {i : Nat} (hi : i < f.c.states.length) : ∃ A c b off EA ec XA xc, A = some ⟨b, off, none⟩ ∧ b < f.B0 ∧ w.cell? ⟨f.pc.D, 0, none⟩ = some (.slice A f.c.states.length c) ∧
    w.cell? ⟨b, off + i * 3, none⟩ = some (.int .i64 f.c.states[i].rule) ∧ w.cell? ⟨b, off + i * 3 + 1, none⟩ = some (.slice EA f.c.states[i].edges.length ec) ∧ w.cell? ⟨b, off + i * 3 + 2, none⟩ = some (.slice XA f.c.states[i].ends.length xc) ∧
    Reads w f.B0 3 EA f.c.states[i].edges.length (flat encEd f.c.states[i].edges) ∧ Reads w f.B0 1 XA f.c.states[i].ends.length (f.c.states[i].ends.map (Value.int .i64)) := by
  obtain ⟨A, c, h1, vs, h2, h3⟩ := h.states
  obtain ⟨EA, ec, XA, xc, e0, e1, e2, r0, r1⟩ := h3 i hi
  obtain ⟨b, off, hA, hb, hc⟩ := h2.2 (by omega)
  refine ⟨A, c, b, off, EA, ec, XA, xc, hA, hb, h1, hc _ _ e0, ?_, ?_, r0, r1⟩
  · have := hc _ _ e1; rwa [← Nat.add_assoc] at this
  · have := hc _ _ e2; rwa [← Nat.add_assoc] at this
/-- a number of a list behind a cell of the driver's block -/
theorem NumsAt.get {w : World} {D B j : Nat} {l : List Int} (h : NumsAt w D B j l) {i : Nat} (hi : i < l.length) : ∃ b off c, b < B ∧ w.cell? ⟨D, j, none⟩ = some (.slice (some ⟨b, off, none⟩) l.length c) ∧ w.cell? ⟨b, off + i, none⟩ = some (.int .i64 l[i]) := by
  obtain ⟨A, c, h1, h2⟩ := h
  obtain ⟨b, off, rfl, hb, hc⟩ := h2.2 (by omega)
  exact ⟨b, off, c, hb, h1, hc i _ (by simp [List.getElem?_eq_getElem hi])⟩
theorem Reads.getZ {w : World} {B : Nat} {A : Option Addr} {l : List Int} (h : Reads w B 1 A l.length (l.map (Value.int .i64))) {i : Nat} (hi : i < l.length) : ∃ b off, A = some ⟨b, off, none⟩ ∧ b < B ∧ w.cell? ⟨b, off + i, none⟩ = some (.int .i64 l[i]) := by
  obtain ⟨b, off, hA, hb, hc⟩ := h.2 (by omega)
  exact ⟨b, off, hA, hb, hc i _ (by simp [List.getElem?_eq_getElem hi])⟩
theorem flat_get3 (l : List Drv.Ed) {i : Nat} (hi : i < l.length) : (flat encEd l)[i * 3]? = some (.int .u8 l[i].kind) ∧ (flat encEd l)[i * 3 + 1]? = some (.int .i64 l[i].what) ∧ (flat encEd l)[i * 3 + 2]? = some (.int .i64 l[i].to) := by
  have h := flat_get encEd 3 (fun _ => rfl) l i hi
  exact ⟨(h 0 (by omega)).trans rfl, (h 1 (by omega)).trans rfl, (h 2 (by omega)).trans rfl⟩
theorem Reads.getE {w : World} {B : Nat} {A : Option Addr} {l : List Drv.Ed} (h : Reads w B 3 A l.length (flat encEd l)) {i : Nat} (hi : i < l.length) : ∃ b off, A = some ⟨b, off, none⟩ ∧ b < B ∧ w.cell? ⟨b, off + i * 3, none⟩ = some (.int .u8 l[i].kind) ∧ w.cell? ⟨b, off + i * 3 + 1, none⟩ = some (.int .i64 l[i].what) ∧ w.cell? ⟨b, off + i * 3 + 2, none⟩ = some (.int .i64 l[i].to) := by
  obtain ⟨b, off, hA, hb, hc⟩ := h.2 (by omega)
  obtain ⟨e0, e1, e2⟩ := flat_get3 l hi
  refine ⟨b, off, hA, hb, hc _ _ e0, ?_, ?_⟩
  · have := hc _ _ e1; rwa [← Nat.add_assoc] at this
  · have := hc _ _ e2; rwa [← Nat.add_assoc] at this
end Go.Proofs.Ytgflanlniejflaa
