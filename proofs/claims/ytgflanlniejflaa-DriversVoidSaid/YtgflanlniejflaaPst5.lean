/-
  Drivers: a walk that ended well (not a real one): the walk.
-/
import Derived.Test.YtgflanlniejflaaPst4
namespace Go.Proofs.Ytgflanlniejflaa
open Go.RowKit Go.Maps
open Go.Sort (grow)
set_option maxRecDepth 100000
/-- limits of a parse -/
structure Lim (f : Fx) : Prop where
  starts : f.c.starts.length ≤ 64
  picks : f.c.decs.length + f.c.preds.length ≤ 65536
  toks : f.c.w.length ≤ 16384
  fuel : f.c.fuel ≤ 1000000
  depth : f.c.depth ≤ 100000
  pfuel : f.pc.fuel = f.c.fuel
  pdepth : f.pc.depth = (f.c.depth : Int)
/-- the cells of an edge -/
def encEd (e : Drv.Ed) : List Value := [.int .u8 e.kind, .int .i64 e.what, .int .i64 e.to]
def StV (w : World) (B : Nat) (vs : List Value) (i : Nat) (s : Drv.NSt) : Prop :=
  ∃ EA ec XA xc, vs[i*3]? = some (.int .i64 s.rule) ∧ vs[i*3+1]? = some (.slice EA s.edges.length ec) ∧ vs[i*3+2]? = some (.slice XA s.ends.length xc) ∧ Reads w B 3 EA s.edges.length (flat encEd s.edges) ∧ Reads w B 1 XA s.ends.length (s.ends.map (Value.int .i64))
/-- a net's states, as they lie in memory -/
def StsR (w : World) (B : Nat) (A : Option Addr) (l : List Drv.NSt) : Prop := ∃ vs, Reads w B 3 A l.length vs ∧ ∀ i (h : i < l.length), StV w B vs i l[i]
theorem StsR.below {w w' : World} {B : Nat} {A : Option Addr} {l : List Drv.NSt} (h : StsR w B A l) (hb : Below B w w') : StsR w' B A l := by
  obtain ⟨vs, h1, h2⟩ := h
  refine ⟨vs, h1.below hb, fun i hi => ?_⟩
  obtain ⟨EA, ec, XA, xc, e0, e1, e2, r0, r1⟩ := h2 i hi
  exact ⟨EA, ec, XA, xc, e0, e1, e2, r0.below hb, r1.below hb⟩
/-- a list of numbers behind a cell of the driver's block -/
def NumsAt (w : World) (D B j : Nat) (l : List Int) : Prop := ∃ A c, w.cell? ⟨D, j, none⟩ = some (.slice A l.length c) ∧ Reads w B 1 A l.length (l.map (Value.int .i64))
theorem NumsAt.below {w w' : World} {D B j : Nat} {l : List Int} (h : NumsAt w D B j l) (hD : D < B) (hb : Below B w w') : NumsAt w' D B j l := by
  obtain ⟨A, c, h1, h2⟩ := h
  exact ⟨A, c, (hb.cell (p := ⟨D, j, none⟩) hD).trans h1, h2.below hb⟩
/-- the driver, as it lies in memory -/
structure Sta (w : World) (f : Fx) : Prop where
  dlt : f.pc.D < f.B0
  states : ∃ A c, w.cell? ⟨f.pc.D, 0, none⟩ = some (.slice A f.c.states.length c) ∧ StsR w f.B0 A f.c.states
  starts : NumsAt w f.pc.D f.B0 1 f.c.starts
  stops : NumsAt w f.pc.D f.B0 2 f.c.stops
  preds : NumsAt w f.pc.D f.B0 3 f.c.preds
  decs : NumsAt w f.pc.D f.B0 4 f.c.decs
  toks : f.pc.wn = f.c.w.length ∧ Reads w f.B0 1 f.pc.WA f.c.w.length (f.c.w.map (Value.int .i64))
theorem Sta.below {w w' : World} {f : Fx} (h : Sta w f) (hb : Below f.B0 w w') : Sta w' f := by
  obtain ⟨A, c, h1, h2⟩ := h.states
  exact ⟨h.dlt, ⟨A, c, (hb.cell (p := ⟨f.pc.D, 0, none⟩) h.dlt).trans h1, h2.below hb⟩, h.starts.below h.dlt hb, h.stops.below h.dlt hb, h.preds.below h.dlt hb, h.decs.below h.dlt hb, h.toks.1, h.toks.2.below hb⟩
theorem walk_cells {w : World} {g : Nat} {so what start state over : Int} {sv av : Value} (h : w.heap[g]? = some (.cells (walkCells so what start state over sv av) 116 (0, 0))) :
    w.cell? ⟨g, 0, none⟩ = some (.int .i64 so) ∧ w.cell? ⟨g, 1, none⟩ = some (.int .i64 what) ∧ w.cell? ⟨g, 2, none⟩ = some (.int .i64 start) ∧ w.cell? ⟨g, 3, none⟩ = some (.int .i64 state) ∧ w.cell? ⟨g, 4, none⟩ = some (.int .i64 over) ∧ w.cell? ⟨g, 5, none⟩ = some sv ∧ w.cell? ⟨g, 6, none⟩ = some av := by
  refine ⟨?_, ?_, ?_, ?_, ?_, ?_, ?_⟩ <;> (rw [Lib.cell_of_heap h]; rfl)
theorem PstAt.still {w w' : World} {f : Fx} {v : Vx} {k : Drv.Cf} (h : PstAt w f v k) (ho : Only (fun _ => False) w w') : PstAt w' f v k := by
  obtain ⟨r, t, q, b, s, hpar, htr⟩ := h.par
  have ho' := ho.more (S' := TS f v) fun _ _ e => e.elim
  refine ⟨⟨r, t, q, b, s, hpar.next ho (fun e => e), TrB.only ho' (fun _ _ e => e) _ _ htr⟩, h.memo.only ho (fun _ _ e => e), h.row.only ho (fun _ _ e => e), h.gl, h.sl, ?_, h.gd, h.sd, h.ge, h.rd⟩
  intro i x g s' h1 h2 h3
  exact (h.walks i x g s' h1 h2 h3).only ho (fun _ _ e => e.elim) (fun _ _ e => e) (fun e => e) (fun _ _ e => e)
theorem PstAt.posSet {w : World} {f : Fx} {v : Vx} {k : Drv.Cf} (h : PstAt w f v k) (q : Int) : PstAt (w.setCell ⟨f.P, 9, none⟩ (.int .i64 q)) f v { k with pos := q } ∧ Below f.B0 w (w.setCell ⟨f.P, 9, none⟩ (.int .i64 q)) := by
  have ho := Only.of_set w f.P 9 (.int .i64 q)
  exact ⟨h.parSet ho { k with pos := q } rfl rfl rfl (fun r t q' b s hp => hp.set 9 _ rfl), h.below ho fun j e => by rw [e]; exact h.geP⟩
def WellP (f : Fx) (k : Drv.Cf) (w : World) (e : Ending) (w' : World) : Prop := e = .returned (.tuple #[]) ∧ Below f.B0 w w' ∧ ∃ v', PstAt w' f v' (Drv.wellM k)
set_option maxHeartbeats 1600000 in
theorem well_rule (w : World) (f : Fx) (v : Vx) (k : Drv.Cf) (y : Drv.Wk) (rest : List Drv.Wk) (hl : Lim f) (h : PstAt w f v k) (hc : Drv.COk f.c k) (ho : k.opn = y :: rest) (hso : y.sort = 1) :
    Calls Try.prog 58 #[.pointer (some ⟨f.P, 0, none⟩)] w (WellP f k w) := by
  have hW := hc.wk y (by rw [ho]; simp)
  have hst := hc.start y (by rw [ho]; simp)
  have hsz := hc.size
  have hfew := hc.few
  have hu1 := hc.used1
  have hp1 := hc.pos1
  have hlf := hl.fuel
  have hld := hl.depth
  have hkn : k.known.length < 4000000000 := by omega
  have hwell : Drv.wellM k = { k with opn := rest, known := Drv.say k.known 2 y.what y.start k.pos } := by
    unfold Drv.wellM
    rw [ho]
    simp only [hso]
    rfl
  have HWL := hid hwell
  have HW := hid hW
  have H := hid h
  have HL := hid hl
  have HST := hid hst
  clear hW hwell hc h hl hst hfew hu1
  go_enter Try.func58, Try.ntmps58
  go_wp2_with fail
  refine (popP_any w f v k y rest H.out ho (by omega)).mono ?_
  rintro e w1 ⟨v1, g, s, rfl, hb1, hP1, hW1, hg1, hs1, hgB⟩
  obtain ⟨A, ca, xs, q1, q2, q3, q4⟩ := hW1
  obtain ⟨r, t, q, b, sv, hpar, _⟩ := hP1.par
  have c2 := (hpar.cell 2).1
  have c9 := (hpar.cell 9).1
  simp only [parCells, List.getElem?_toArray, List.getElem?_cons_succ, List.getElem?_cons_zero] at c2 c9
  rw [hso] at q1
  obtain ⟨k0, k1, k2, _⟩ := walk_cells q1
  have HP1 := hid hP1
  have HB1 := hid hb1
  have HQ1 := hid q1
  have HPAR := hid hpar
  have e1 : ((1 : Nat) : Int) = 1 := rfl
  rw [e1] at k0
  clear hP1 hb1 q1 hpar q2 q3 q4 e1
  go_wp2_with fail
  refine still_tail 16 (by kernel_rfl) (by kernel_rfl) ?_
  intro w2 HW2
  have ho2 : Only (fun _ => False) w1 w2 := by rw [HW2.out]; exact ⟨rfl, rfl, rfl, Nat.le_refl _, fun _ _ _ => rfl⟩
  clear HW2
  have c2 := (ho2.cell (o := 2) HPAR.out.lt (fun e => e)).trans c2
  have c9 := (ho2.cell (o := 9) HPAR.out.lt (fun e => e)).trans c9
  have k1 := (ho2.cell (o := 1) (heap_lt HQ1.out) (fun e => e)).trans k1
  have k2 := (ho2.cell (o := 2) (heap_lt HQ1.out) (fun e => e)).trans k2
  have HP2 := hid (HP1.out.still ho2)
  have HB2 := hid (HB1.out.trans (ho2.below' (fun _ e => e.elim) (by have := HP1.out.ltTS f.P (.inl rfl); have := HP1.out.geP; omega)))
  clear k0 HP1 HB1 HQ1 HPAR ho2
  simp only [List.take_succ_cons, List.take_zero, List.drop_succ_cons, List.drop_zero]
  repeat still_step
  refine wpStill_nil ?_
  go_wp2_with fail
  refine (sayRuleP w2 f v1 { k with opn := rest } y.what y.start k.pos HP2.out hkn (HW.out.rule (by omega)) HL.out.starts HW.out.2.2.1 HW.out.2.2.2.1 HL.out.toks (.inr HST.out) hp1).mono ?_
  rintro e w3 ⟨rfl, hb3, _, hP3⟩
  have HB3 := hid (HB2.out.trans hb3)
  have HP3 := hid hP3
  clear c2 c9 k1 k2 HP2 HB2 hb3 hP3
  go_wp2
  go_end0
  refine ⟨rfl, HB3.out, v1, ?_⟩
  rw [HWL.out]
  exact HP3.out
set_option maxHeartbeats 1600000 in
theorem well_pred (w : World) (f : Fx) (v : Vx) (k : Drv.Cf) (y : Drv.Wk) (rest : List Drv.Wk) (hl : Lim f) (h : PstAt w f v k) (hc : Drv.COk f.c k) (ho : k.opn = y :: rest) (hso : y.sort = 2) (hsta : Sta w f) :
    Calls Try.prog 58 #[.pointer (some ⟨f.P, 0, none⟩)] w (WellP f k w) := by
  have hW := hc.wk y (by rw [ho]; simp)
  have hst := hc.start y (by rw [ho]; simp)
  have hsz := hc.size
  have hfew := hc.few
  have hu1 := hc.used1
  have hp1 := hc.pos1
  have hlf := hl.fuel
  have hld := hl.depth
  have hkn : k.known.length < 4000000000 := by omega
  have hwell : Drv.wellM k = { k with opn := rest, known := Drv.say k.known 1 y.what y.start 0, pos := y.start } := by
    unfold Drv.wellM
    rw [ho]
    simp only [hso]
    rfl
  have HWL := hid hwell
  have HW := hid hW
  have H := hid h
  have HL := hid hl
  have HST := hid hst
  clear hW hwell hc h hl hst hfew hu1
  go_enter Try.func58, Try.ntmps58
  go_wp2_with fail
  refine (popP_any w f v k y rest H.out ho (by omega)).mono ?_
  rintro e w1 ⟨v1, g, s, rfl, hb1, hP1, hW1, hg1, hs1, hgB⟩
  obtain ⟨A, ca, xs, q1, q2, q3, q4⟩ := hW1
  obtain ⟨r, t, q, b, sv, hpar, _⟩ := hP1.par
  have c2 := (hpar.cell 2).1
  have c9 := (hpar.cell 9).1
  simp only [parCells, List.getElem?_toArray, List.getElem?_cons_succ, List.getElem?_cons_zero] at c2 c9
  rw [hso] at q1
  obtain ⟨CA, cc, hD, _⟩ := (hsta.below hb1).decs
  have hDlt : f.pc.D < w1.heap.size := World.block_lt_of_cell? w1 _ hD
  obtain ⟨k0, k1, k2, _⟩ := walk_cells q1
  have HP1 := hid hP1
  have HB1 := hid hb1
  have HQ1 := hid q1
  have HPAR := hid hpar
  have e1 : ((2 : Nat) : Int) = 2 := rfl
  rw [e1] at k0
  clear hP1 hb1 q1 hpar q2 q3 q4 e1
  go_wp2_with fail
  refine still_tail 14 (by kernel_rfl) (by kernel_rfl) ?_
  intro w2 HW2
  have ho2 : Only (fun _ => False) w1 w2 := by rw [HW2.out]; exact ⟨rfl, rfl, rfl, Nat.le_refl _, fun _ _ _ => rfl⟩
  clear HW2
  have c2 := (ho2.cell (o := 2) HPAR.out.lt (fun e => e)).trans c2
  have c9 := (ho2.cell (o := 9) HPAR.out.lt (fun e => e)).trans c9
  have k1 := (ho2.cell (o := 1) (heap_lt HQ1.out) (fun e => e)).trans k1
  have k2 := (ho2.cell (o := 2) (heap_lt HQ1.out) (fun e => e)).trans k2
  have hD := (ho2.cell (o := 4) hDlt (fun e => e)).trans hD
  have HP2 := hid (HP1.out.still ho2)
  have HQ2 := hid ((ho2.block _ (heap_lt HQ1.out) (fun e => e)).trans HQ1.out)
  have HB2 := hid (HB1.out.trans (ho2.below' (fun _ e => e.elim) (by have := HP1.out.ltTS f.P (.inl rfl); have := HP1.out.geP; omega)))
  clear k0 HP1 HB1 HQ1 HPAR ho2
  simp only [List.take_succ_cons, List.take_zero, List.drop_succ_cons, List.drop_zero]
  repeat still_step
  still_call (piece_any w2 f v1 { k with opn := rest } y.what CA cc HP2.out hD (by have := HL.out.picks; omega) (HW.out.pred hso).1 (by have := (HW.out.pred hso).2; have := HL.out.picks; omega))
  repeat still_step
  refine wpStill_nil ?_
  go_wp2_with fail
  refine (sayPick1P w2 f v1 { k with opn := rest } y.what y.start 0 HP2.out hkn (HW.out.pred hso) HL.out.picks HW.out.2.2.1 HW.out.2.2.2.1 HL.out.toks (by decide) (by decide)).mono ?_
  rintro e w3 ⟨rfl, hb3, ho3, hP3⟩
  have HB3 := hid (HB2.out.trans hb3)
  have HP3 := hid hP3
  obtain ⟨r, t, q, b, sv, hpar3, _⟩ := hP3.par
  have c93 := (hpar3.cell 9).1
  have z93 := (hpar3.cell 9).2
  simp only [parCells, List.getElem?_toArray, List.getElem?_cons_succ, List.getElem?_cons_zero] at c93
  have k23 := (ho3.cell (o := 2) (heap_lt HQ2.out) (fun e => hg1 (.inr (.inl e)))).trans k2
  have HF := hid (hP3.posSet y.start)
  clear c2 c9 k1 k2 HP2 HB2 hb3 hP3 hpar3 hD ho3
  go_wp2
  go_end0
  refine ⟨rfl, HB3.out.trans HF.out.2, v1, ?_⟩
  rw [HWL.out]
  exact HF.out.1
set_option maxHeartbeats 1600000 in
theorem well_try (w : World) (f : Fx) (v : Vx) (k : Drv.Cf) (y : Drv.Wk) (rest : List Drv.Wk) (hl : Lim f) (h : PstAt w f v k) (hc : Drv.COk f.c k) (ho : k.opn = y :: rest) (hso : y.sort = 3) (hg : Drv.Rng f.c) :
    Calls Try.prog 58 #[.pointer (some ⟨f.P, 0, none⟩)] w (WellP f k w) := by
  have hW := hc.wk y (by rw [ho]; simp)
  have hst := hc.start y (by rw [ho]; simp)
  have hsz := hc.size
  have hfew := hc.few
  have hu1 := hc.used1
  have hp1 := hc.pos1
  have hlf := hl.fuel
  have hld := hl.depth
  have hkn : k.known.length < 4000000000 := by omega
  have hwell : Drv.wellM k = { k with opn := rest, known := Drv.say k.known 0 y.what y.start (y.alts.headD 0), pos := y.start } := by
    unfold Drv.wellM
    rw [ho]
    simp only [hso]
    rfl
  obtain ⟨hd, hl2, _, hne, hal⟩ := hW.try (by omega)
  have hal0 : Drv.alt1 f.c y.what (y.alts.headD 0) := hal _ (by
    cases hq : y.alts with
    | nil => rw [hq] at hl2; simp at hl2
    | cons a r => simp)
  have HT0 := hid (show -1 ≤ y.alts.headD 0 ∧ y.alts.headD 0 < 32 from by
    have h1 := hal0.1
    have h2 := hal0.2
    have h3 := (hg.both _ hne).2
    omega)
  have HD := hid hd
  clear hal hal0 hne hd
  have HWL := hid hwell
  have HW := hid hW
  have H := hid h
  have HL := hid hl
  have HST := hid hst
  clear hW hwell hc h hl hst hfew hu1
  go_enter Try.func58, Try.ntmps58
  go_wp2_with fail
  refine (popP_any w f v k y rest H.out ho (by omega)).mono ?_
  rintro e w1 ⟨v1, g, s, rfl, hb1, hP1, hW1, hg1, hs1, hgB⟩
  obtain ⟨A, ca, xs, q1, q2, q3, q4⟩ := hW1
  obtain ⟨r, t, q, b, sv, hpar, _⟩ := hP1.par
  have c2 := (hpar.cell 2).1
  have c9 := (hpar.cell 9).1
  simp only [parCells, List.getElem?_toArray, List.getElem?_cons_succ, List.getElem?_cons_zero] at c2 c9
  rw [hso] at q1
  obtain ⟨b0, off0, rfl, hb0, _, hcell⟩ := q2.2 (by omega)
  have a0 := hcell 0 (.int .i64 (y.alts.headD 0)) (by
    cases hq : y.alts with
    | nil => rw [hq] at hl2; simp at hl2
    | cons a r => simp)
  rw [Nat.add_zero] at a0
  obtain ⟨na, hna⟩ : ∃ na, y.alts.length = na := ⟨_, rfl⟩
  rw [hna] at q1
  have hl0 : (0 : Int) < (na : Int) := by omega
  have hl1 : 0 < na := by omega
  generalize hA0 : y.alts.headD 0 = alt0 at a0 HT0 HWL
  have HA0 := hid hA0
  clear hna hl2 hA0
  obtain ⟨k0, k1, k2, _, _, _, k6⟩ := walk_cells q1
  have HP1 := hid hP1
  have HB1 := hid hb1
  have HQ1 := hid q1
  have HPAR := hid hpar
  have e1 : ((3 : Nat) : Int) = 3 := rfl
  rw [e1] at k0
  clear hP1 hb1 q1 hpar q2 q3 q4 e1 hcell
  go_wp2_with fail
  refine still_tail 18 (by kernel_rfl) (by kernel_rfl) ?_
  intro w2 HW2
  have ho2 : Only (fun _ => False) w1 w2 := by rw [HW2.out]; exact ⟨rfl, rfl, rfl, Nat.le_refl _, fun _ _ _ => rfl⟩
  clear HW2
  have c2 := (ho2.cell (o := 2) HPAR.out.lt (fun e => e)).trans c2
  have c9 := (ho2.cell (o := 9) HPAR.out.lt (fun e => e)).trans c9
  have k1 := (ho2.cell (o := 1) (heap_lt HQ1.out) (fun e => e)).trans k1
  have k2 := (ho2.cell (o := 2) (heap_lt HQ1.out) (fun e => e)).trans k2
  have k6 := (ho2.cell (o := 6) (heap_lt HQ1.out) (fun e => e)).trans k6
  have a0 := (ho2.cell (o := off0) hb0 (fun e => e)).trans a0
  have HP2 := hid (HP1.out.still ho2)
  have HQ2 := hid ((ho2.block _ (heap_lt HQ1.out) (fun e => e)).trans HQ1.out)
  have HB2 := hid (HB1.out.trans (ho2.below' (fun _ e => e.elim) (by have := HP1.out.ltTS f.P (.inl rfl); have := HP1.out.geP; omega)))
  clear k0 HP1 HB1 HQ1 HPAR ho2
  simp only [List.take_succ_cons, List.take_zero, List.drop_succ_cons, List.drop_zero]
  repeat still_step
  refine wpStill_nil ?_
  go_wp2_with fail
  refine (sayPick0P w2 f v1 { k with opn := rest } y.what y.start alt0 HP2.out hkn HD.out HL.out.picks HW.out.2.2.1 HW.out.2.2.2.1 HL.out.toks HT0.out.1 HT0.out.2).mono ?_
  rintro e w3 ⟨rfl, hb3, ho3, hP3⟩
  have HB3 := hid (HB2.out.trans hb3)
  have HP3 := hid hP3
  obtain ⟨r, t, q, b, sv, hpar3, _⟩ := hP3.par
  have c93 := (hpar3.cell 9).1
  have z93 := (hpar3.cell 9).2
  simp only [parCells, List.getElem?_toArray, List.getElem?_cons_succ, List.getElem?_cons_zero] at c93
  have k23 := (ho3.cell (o := 2) (heap_lt HQ2.out) (fun e => hg1 (.inr (.inl e)))).trans k2
  have HF := hid (hP3.posSet y.start)
  clear c2 c9 k1 k2 k6 a0 hl0 hl1 HP2 HB2 hb3 hP3 hpar3 ho3
  go_wp2
  go_end0
  refine ⟨rfl, HB3.out.trans HF.out.2, v1, ?_⟩
  rw [HWL.out]
  exact HF.out.1
end Go.Proofs.Ytgflanlniejflaa
