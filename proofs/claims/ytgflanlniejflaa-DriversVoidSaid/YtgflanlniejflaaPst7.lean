/-
  Drivers: tries, more than one alternative: the walk.
-/
import Derived.Test.YtgflanlniejflaaPst6
namespace Go.Proofs.Ytgflanlniejflaa
open Go.RowKit Go.Maps
open Go.Sort (grow)
set_option maxRecDepth 100000
theorem st_at {c : Drv.DC} {i : Nat} (hi : i < c.states.length) : c.st (i : Int) = c.states[i] := by
  unfold Drv.DC.st
  rw [if_neg (by omega), List.getD_eq_getElem?_getD, Int.toNat_natCast, List.getElem?_eq_getElem hi]
  rfl
theorem at0_at {l : List Int} {i : Nat} (hi : i < l.length) : Drv.at0 l (i : Int) = l[i] := by
  unfold Drv.at0
  rw [List.getD_eq_getElem?_getD, Int.toNat_natCast, List.getElem?_eq_getElem hi]
  rfl
theorem ed_at {s : Drv.NSt} {i : Nat} (hi : i < s.edges.length) : s.ed (i : Int) = s.edges[i] := by
  unfold Drv.NSt.ed
  rw [List.getD_eq_getElem?_getD, Int.toNat_natCast, List.getElem?_eq_getElem hi]
  rfl
theorem InR.nat {n : Nat} {x : Int} (h : Drv.InR n x) : ∃ i : Nat, x = i ∧ i < n := ⟨x.toNat, by have := h.1; omega, by have := h.1; have := h.2; omega⟩
theorem st_inR {c : Drv.DC} {i : Int} (h : (c.st i).ends.length ≠ 0) : Drv.InR c.states.length i := by
  unfold Drv.DC.st at h
  split at h
  · exact absurd rfl h
  · by_cases hi : i.toNat < c.states.length
    · exact ⟨by omega, by omega⟩
    · rw [List.getD_eq_getElem?_getD, List.getElem?_eq_none (by omega)] at h
      exact absurd rfl h
set_option maxHeartbeats 1600000 in
theorem tries_more (w : World) (f : Fx) (v : Vx) (k : Drv.Cf) (d : Int) (alts : List Int) (A : Option Addr) (ca : Nat) (hl : Lim f) (h : PstAt w f v k) (hc : Drv.COk f.c k) (hsta : Sta w f) (hd : Drv.InR f.c.decs.length d)
    (he : (f.c.st (Drv.at0 f.c.decs d)).ends.length ≠ 0) (hg : Drv.Rng f.c) (hn : 2 ≤ alts.length) (hn32 : alts.length ≤ 32) (ha : ∀ a ∈ alts, Drv.alt1 f.c d a) (hsp0 : 0 ≤ k.spec) (hsp1 : k.spec ≤ 4000000000)
    (hr : RO w (TS f v) 1 A alts.length (alts.map (Value.int .i64))) (hca : alts.length ≤ ca) :
    Calls Try.prog 89 #[.pointer (some ⟨f.P, 0, none⟩), .int .i64 d, .slice A alts.length ca] w (TriesP f k d alts w) := by
  obtain ⟨a, al, rfl⟩ : ∃ a al, alts = a :: al := by
    cases alts with
    | nil => simp at hn
    | cons a al => exact ⟨a, al, rfl⟩
  have ha0 := ha a (by simp)
  obtain ⟨an, rfl, hae⟩ := InR.nat ha0
  obtain ⟨dn, rfl, hdn⟩ := InR.nat hd
  obtain ⟨sn, hsn, hslt⟩ := InR.nat (st_inR he)
  have hb := hg.both _ he
  rw [hsn] at he hae hb
  rw [st_at hslt] at he hae hb
  have hax : an < f.c.states[sn].ends.length := by omega
  have ha32 : an < 32 := by omega
  obtain ⟨DA, Dc, db, doff, EA, ec, XA, xc, rfl, hdb, d0, s0, s1, s2, rE, rX⟩ := hsta.state hslt
  obtain ⟨eb, eoff, rfl, heb, _, _, e2⟩ := Reads.getE rE hae
  obtain ⟨xb, xoff, rfl, hxb, x0⟩ := Reads.getZ rX hax
  obtain ⟨cb, coff, cc, hcb, d4, c4⟩ := hsta.decs.get hdn
  have hdsn : f.c.decs[dn] = (sn : Int) := by rw [← hsn, at0_at hdn]
  rw [hdsn] at c4
  have hPlt := h.ltTS f.P (.inl rfl)
  have hPge := h.geP
  have hDlt := hsta.dlt
  obtain ⟨b0, off0, rfl, hb0, hb0S, hcell⟩ := hr.2 (by omega)
  have a0 := hcell 0 (.int .i64 an) (by simp)
  rw [Nat.add_zero] at a0
  obtain ⟨r, t, q, b, s, hpar, _⟩ := h.par
  have c0 := (hpar.cell 0).1
  simp only [parCells, List.getElem?_toArray, List.getElem?_cons_zero] at c0
  have htm : Drv.triesM f.c dn (↑an :: al) k = Drv.beginM f.c ⟨3, dn, 0, f.c.states[sn].edges[an].to, f.c.states[sn].ends[an], [], ↑an :: al⟩ k := by
    unfold Drv.triesM
    rw [if_neg (by omega)]
    simp only [List.headD_cons]
    rw [hsn, st_at hslt, ed_at hae, at0_at hax]
  have HTM := hid htm
  have HPAR := hid hpar
  have HR := hid hr
  have H := hid h
  have HL := hid hl
  have HC := hid hc
  have HSTA := hid hsta
  clear hcell hpar h hl hc hsta hr rE rX hd ha0 hb ha hdsn hsn htm hg
  generalize f.c.states[sn].edges[an].to = eto at *
  generalize f.c.states[sn].ends[an] = xto at *
  generalize f.c.states[sn].rule = srule at *
  obtain ⟨en, hen⟩ : ∃ en, f.c.states[sn].edges.length = en := ⟨_, rfl⟩
  obtain ⟨xn, hxn⟩ : ∃ xn, f.c.states[sn].ends.length = xn := ⟨_, rfl⟩
  obtain ⟨stn, hstn⟩ : ∃ stn, f.c.states.length = stn := ⟨_, rfl⟩
  obtain ⟨den, hden⟩ : ∃ den, f.c.decs.length = den := ⟨_, rfl⟩
  obtain ⟨aln, haln⟩ : ∃ aln, (↑an :: al : List Int).length = aln := ⟨_, rfl⟩
  rw [hen] at s1 hae
  rw [hxn] at s2 hax
  rw [hstn] at d0
  rw [hden] at d4 hdn
  rw [haln] at hn hn32
  rw [haln]
  have hal1 : decide ((aln : Int) = 1) = false := decide_eq_false (by omega)
  have hal2 : (0 : Int) < (aln : Int) := by omega
  have hal3 : 0 < aln := by omega
  rw [hstn] at hslt
  have hde1 : (dn : Int) < (den : Int) := by omega
  have hst1 : (sn : Int) < (stn : Int) := by omega
  have he1 : (an : Int) < (en : Int) := by omega
  have hx1 : (an : Int) < (xn : Int) := by omega
  have HAL := hid haln
  clear hen hxn hstn hden he
  clear haln
  have hS7 : ∀ o : Obj, (w.alloc o).drew.cell? ⟨f.P, 0, none⟩ = some (.pointer (some ⟨f.pc.D, 0, none⟩)) ∧ (w.alloc o).drew.cell? ⟨f.pc.D, 0, none⟩ = some (.slice (some ⟨db, doff, none⟩) stn Dc) ∧ (w.alloc o).drew.cell? ⟨f.pc.D, 4, none⟩ = some (.slice (some ⟨cb, coff, none⟩) den cc) ∧ (w.alloc o).drew.cell? ⟨cb, coff + dn, none⟩ = some (.int .i64 sn) ∧ (w.alloc o).drew.cell? ⟨db, doff + sn * 3, none⟩ = some (.int .i64 srule) ∧ (w.alloc o).drew.cell? ⟨db, doff + sn * 3 + 1, none⟩ = some (.slice (some ⟨eb, eoff, none⟩) en ec) ∧ (w.alloc o).drew.cell? ⟨db, doff + sn * 3 + 2, none⟩ = some (.slice (some ⟨xb, xoff, none⟩) xn xc) := fun o => by
    have hn : ∀ (b i : Nat), b < w.heap.size → (w.alloc o).drew.cell? ⟨b, i, none⟩ = w.cell? ⟨b, i, none⟩ := fun b i hb => (below_new w o).drew.cell (p := ⟨b, i, none⟩) hb
    have := heap_lt HPAR.out
    exact ⟨(hn _ _ this).trans c0, (hn _ _ (by omega)).trans d0, (hn _ _ (by omega)).trans d4, (hn _ _ (by omega)).trans c4, (hn _ _ (by omega)).trans s0, (hn _ _ (by omega)).trans s1, (hn _ _ (by omega)).trans s2⟩
  go_enter Try.func89, Try.ntmps89
  go_wp2_with fail
  go_region_held3 (fun w' => w'.cell? ⟨f.P, 0, none⟩ = some (.pointer (some ⟨f.pc.D, 0, none⟩)) ∧ w'.cell? ⟨f.pc.D, 0, none⟩ = some (.slice (some ⟨db, doff, none⟩) stn Dc) ∧ w'.cell? ⟨f.pc.D, 4, none⟩ = some (.slice (some ⟨cb, coff, none⟩) den cc) ∧ w'.cell? ⟨cb, coff + dn, none⟩ = some (.int .i64 sn) ∧ w'.cell? ⟨db, doff + sn * 3, none⟩ = some (.int .i64 srule) ∧ w'.cell? ⟨db, doff + sn * 3 + 1, none⟩ = some (.slice (some ⟨eb, eoff, none⟩) en ec) ∧ w'.cell? ⟨db, doff + sn * 3 + 2, none⟩ = some (.slice (some ⟨xb, xoff, none⟩) xn xc)) (first | assumption | exact ⟨c0, d0, d4, c4, s0, s1, s2⟩ | exact hS7 _) (fail)
  have hb2 : Below w.heap.size w (w.alloc (.cells #[.int .i64 srule, .slice (some ⟨eb, eoff, none⟩) en ec, .slice (some ⟨xb, xoff, none⟩) xn xc] 47)).drew := (below_new w _).drew
  have n1 : (w.alloc (.cells #[.int .i64 srule, .slice (some ⟨eb, eoff, none⟩) en ec, .slice (some ⟨xb, xoff, none⟩) xn xc] 47)).drew.cell? ⟨w.heap.size, 1, none⟩ = some (.slice (some ⟨eb, eoff, none⟩) en ec) := cell_new w _ _ 1
  have n2 : (w.alloc (.cells #[.int .i64 srule, .slice (some ⟨eb, eoff, none⟩) en ec, .slice (some ⟨xb, xoff, none⟩) xn xc] 47)).drew.cell? ⟨w.heap.size, 2, none⟩ = some (.slice (some ⟨xb, xoff, none⟩) xn xc) := cell_new w _ _ 2
  have hsz : (w.alloc (.cells #[.int .i64 srule, .slice (some ⟨eb, eoff, none⟩) en ec, .slice (some ⟨xb, xoff, none⟩) xn xc] 47)).drew.heap.size = w.heap.size + 1 := size_alloc w _
  generalize (w.alloc (.cells #[.int .i64 srule, .slice (some ⟨eb, eoff, none⟩) en ec, .slice (some ⟨xb, xoff, none⟩) xn xc] 47)).drew = w1 at hb2 n1 n2 hsz ⊢
  go_wp2_with fail
  refine still_tail 19 (by kernel_rfl) (by kernel_rfl) ?_
  intro w2 HW2
  have ho2 : Only (fun _ => False) w1 w2 := by rw [HW2.out]; exact ⟨rfl, rfl, rfl, Nat.le_refl _, fun _ _ _ => rfl⟩
  have ho0 : Only (fun _ => False) w w2 := (Only.of_below hb2).trans ho2 fun _ _ e => e
  clear HW2
  have n1 := (ho2.cell (o := 1) (by omega) (fun e => e)).trans n1
  have n2 := (ho2.cell (o := 2) (by omega) (fun e => e)).trans n2
  have a0 := (ho0.cell (o := off0) hb0 (fun e => e)).trans a0
  have e2 := (ho0.cell (o := eoff + an * 3 + 2) (by omega) (fun e => e)).trans e2
  have x0 := (ho0.cell (o := xoff + an) (by omega) (fun e => e)).trans x0
  have HP2 := hid (H.out.still ho0)
  have HR2 := hid (HR.out.only (ho0.more fun _ _ e => e.elim) fun _ _ e => e)
  have HB2 := hid (ho0.below' (B := f.B0) (fun _ e => e.elim) (by omega))
  clear hb2 ho2 ho0 hS7 c0 d0 d4 c4 s0 s1 s2
  simp only [List.take_succ_cons, List.take_zero, List.drop_succ_cons, List.drop_zero]
  repeat still_step
  refine wpStill_nil ?_
  go_wp2_with fail
  have hsz := HC.out.size
  have hld := HL.out.depth
  have hB := beginP_any w2 f v k ⟨3, dn, 0, eto, xto, [], ↑an :: al⟩ (some ⟨b0, off0, none⟩) ca 0 HP2.out rfl HR2.out hca HL.out.pdepth (by omega) hsp0 hsp1
  rw [HAL.out] at hB
  refine hB.mono ?_
  rintro e w3 ⟨rfl, hb3, v3, hP3⟩
  have HB3 := hid (HB2.out.trans hb3)
  have HP3 := hid hP3
  clear hB HP2 HR2 HB2 hb3 hP3 n1 n2 a0 e2 x0
  go_wp2
  go_end0
  refine ⟨rfl, HB3.out, v3, ?_⟩
  rw [HTM.out]
  exact HP3.out
theorem triesP_any (w : World) (f : Fx) (v : Vx) (k : Drv.Cf) (d : Int) (alts : List Int) (A : Option Addr) (ca : Nat) (hl : Lim f) (h : PstAt w f v k) (hc : Drv.COk f.c k) (hsta : Sta w f) (hd : Drv.InR f.c.decs.length d)
    (he : (f.c.st (Drv.at0 f.c.decs d)).ends.length ≠ 0) (hg : Drv.Rng f.c) (hn : alts ≠ []) (hn32 : alts.length ≤ 32) (ha : ∀ a ∈ alts, Drv.alt1 f.c d a) (hsp0 : 0 ≤ k.spec) (hsp1 : k.spec ≤ 4000000000)
    (hr : RO w (TS f v) 1 A alts.length (alts.map (Value.int .i64))) (hca : alts.length ≤ ca) :
    Calls Try.prog 89 #[.pointer (some ⟨f.P, 0, none⟩), .int .i64 d, .slice A alts.length ca] w (TriesP f k d alts w) := by
  by_cases h2 : 2 ≤ alts.length
  · exact tries_more w f v k d alts A ca hl h hc hsta hd he hg h2 hn32 ha hsp0 hsp1 hr hca
  · cases alts with
    | nil => exact absurd rfl hn
    | cons a al =>
      cases al with
      | nil =>
        have h0 := ha a (by simp)
        have h1 := (hg.both _ he).2
        have h3 := h0.1
        have h4 := h0.2
        have hfew := hc.few
        have hu := hc.used1
        have hlf := hl.fuel
        exact tries_one w f v k d a A ca hl h (by omega) hd h3 (by omega) hc.pos0 hc.pos1 hr.reads
      | cons b r => simp at h2
end Go.Proofs.Ytgflanlniejflaa
