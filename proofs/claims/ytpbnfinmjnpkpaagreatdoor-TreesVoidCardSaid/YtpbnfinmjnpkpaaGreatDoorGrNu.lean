/-
  Whose rule a name is, what a node names, may it be empty (nulls.Find, asking.named, asking.may): the walks.
-/
import Derived.Test.YtpbnfinmjnpkpaaGreatDoorGrRx
import Derived.Test.YtpbnfinmjnpkpaaGreatDoorGrIt
import Derived.Lib.QuietBelow
namespace Go.Proofs.YtpbnfinmjnpkpaaGreatDoor
open Go.RowKit
set_option maxRecDepth 100000
/-- rules that came in -/
structure RsAt (w : World) (B : Nat) (RA : Option Addr) (rs : List Gr.Ru) : Prop where
  r : ∃ xs, Reads w B 10 RA rs.length xs ∧ RusR w B rs xs
  ok : ∀ r ∈ rs, Gr.okR r
  few : rs.length ≤ 1000000
/-- the box of what is asked of -/
structure AskAt (w0 : World) (B : Nat) (rs : List Gr.Ru) (e : List Bool) (ab : Nat) (W : World) : Prop where
  b : Below B w0 W
  hB : B ≤ W.heap.size
  h : ∃ gn bd st RA rc EA ec, RsAt w0 B RA rs ∧ W.heap[ab]? = some (.cells #[Gr.strV gn, .int .i64 bd, .int .i64 st, .slice RA rs.length rc, .slice EA rs.length ec] 231 (0, 0)) ∧ Reads W W.heap.size 1 EA rs.length (e.map fun b => Value.bool b) ∧ rs.length ≤ ec
  le : e.length = rs.length
theorem AskAt.next {w0 : World} {B : Nat} {rs : List Gr.Ru} {e : List Bool} {ab : Nat} {W W' : World} (h : AskAt w0 B rs e ab W) (hb : Below W.heap.size W W') : AskAt w0 B rs e ab W' := by
  obtain ⟨b, hB, ⟨gn, bd, st, RA, rc, EA, ec, h1, h2, h3, h4⟩, le⟩ := h
  exact ⟨b.trans (hb.mono hB), Nat.le_trans hB hb.size, ⟨gn, bd, st, RA, rc, EA, ec, h1, (hb.block _ (heap_lt h2)).trans h2, h3.next hb, h4⟩, le⟩
theorem RuR.form {w : World} {B : Nat} {r : Gr.Ru} {vs : List Value} (h : RuR w B r vs) : ∃ (xk : Int) (xm xt : ByteArray) (xSA : Option Addr) (xa xsc : Nat) (xUA : Option Addr) (xb xuc : Nat) (z0 z1 z2 : Int), vs = [Gr.strV r.name, .int .u8 (r.sort : Int), .int .u8 xk, .string xm, .string xt, .slice xSA xa xsc, .slice xUA xb xuc, .int .i64 z0, .int .i64 z1, .int .i64 z2] ∧ NdR w B r.body [.int .u8 xk, .string xm, .string xt, .slice xSA xa xsc, .slice xUA xb xuc] := by
  obtain ⟨cs, z0, z1, z2, rfl, hn⟩ := h
  obtain ⟨xk, xm, xt, xSA, xa, xsc, xUA, xb, xuc, rfl⟩ := hn.form
  exact ⟨xk, xm, xt, xSA, xa, xsc, xUA, xb, xuc, z0, z1, z2, rfl, hn⟩
section
variable {w0 : World} {B : Nat}
theorem find1_any (r : Gr.Ru) (s : List UInt8) (cs : List Value) (W : World) (nb : Nat) (hr : RuR w0 B r cs) (hn : W.cell? ⟨nb, 0, none⟩ = some (Gr.strV s)) (hnb : nb < W.heap.size) :
    Calls Tryz.prog 183 #[.agg cs.toArray, .pointer (some ⟨nb, 0, none⟩)] W fun e W' => e = .returned (.bool (r.name == s)) ∧ Below W.heap.size W W' := by
  obtain ⟨xk, xm, xt, xSA, xa, xsc, xUA, xb, xuc, z0, z1, z2, rfl, _⟩ := hr.form
  obtain ⟨nm, k, nd⟩ := r
  dsimp only
  have hb1 := below_new W (.cells #[Gr.strV nm, .int .u8 (k : Int), .int .u8 xk, .string xm, .string xt, .slice xSA xa xsc, .slice xUA xb xuc, .int .i64 z0, .int .i64 z1, .int .i64 z2] 80)
  have h1 := heap_alloc_new W (.cells #[Gr.strV nm, .int .u8 (k : Int), .int .u8 xk, .string xm, .string xt, .slice xSA xa xsc, .slice xUA xb xuc, .int .i64 z0, .int .i64 z1, .int .i64 z2] 80)
  obtain ⟨W1, hW1⟩ : ∃ W1, Hid (W.alloc (.cells #[Gr.strV nm, .int .u8 (k : Int), .int .u8 xk, .string xm, .string xt, .slice xSA xa xsc, .slice xUA xb xuc, .int .i64 z0, .int .i64 z1, .int .i64 z2] 80) = W1) := ⟨_, hid rfl⟩
  rw [hW1.out] at hb1 h1
  have c0 : W1.cell? ⟨W.heap.size, 0, none⟩ = some (Gr.strV nm) := by rw [Lib.cell_of_heap h1]; rfl
  have c1 : W1.cell? ⟨nb, 0, none⟩ = some (Gr.strV s) := (hb1.cell (p := ⟨nb, 0, none⟩) hnb).trans hn
  have HB1 := hid hb1
  unfold Gr.strV at *
  clear hr hn h1 hb1
  go_enter Tryz.func183, Tryz.ntmps183
  go_upto_region 1 with fail
  rw [hW1.out]
  clear hW1
  go_wp2_with fail
  go_ret
  exact ⟨rfl, HB1.out⟩
theorem find_any (rs : List Gr.Ru) (gn s : List UInt8) (bd st : Int) (RA : Option Addr) (rc : Nat) (W : World) (hr : RsAt w0 B RA rs) (hb : Below B w0 W) (hB : B ≤ W.heap.size) :
    Calls Tryz.prog 160 #[.agg #[Gr.strV gn, .int .i64 bd, .int .i64 st, .slice RA rs.length rc], Gr.strV s] W fun e W' => e = .returned (.int .i64 (idxAns (Gr.findR rs s))) ∧ Below W.heap.size W W' := by
  obtain ⟨xs, hr1, hr2⟩ := hr.r
  have z1 : (W.alloc (.cells #[Gr.strV gn, .int .i64 bd, .int .i64 st, .slice RA rs.length rc] 56)).heap.size = W.heap.size + 1 := by simp
  obtain ⟨W1, hW1⟩ : ∃ W1, Hid ((W.alloc (.cells #[Gr.strV gn, .int .i64 bd, .int .i64 st, .slice RA rs.length rc] 56)).alloc (.cells #[Gr.strV s] 9) = W1) := ⟨_, hid rfl⟩
  have hb1 : Below W.heap.size W W1 := by rw [← hW1.out]; exact (below_new _ _).alloc (by omega) _
  have h0 : W1.heap[W.heap.size]? = some (.cells #[Gr.strV gn, .int .i64 bd, .int .i64 st, .slice RA rs.length rc] 56 (0, 0)) := by rw [← hW1.out, Below.heap_alloc _ _ _ (by omega)]; exact heap_alloc_new _ _
  have h1 : W1.heap[W.heap.size + 1]? = some (.cells #[Gr.strV s] 9 (0, 0)) := by rw [← hW1.out, ← z1]; exact heap_alloc_new _ _
  have hl1 := heap_lt h1
  have H := hid (idxRu_any rs (fun r => r.name == s) 183 #[.pointer (some ⟨W.heap.size + 1, 0, none⟩)] (fun _ _ => rfl) RA rc xs W1 hr1 hr2 (hb.trans (hb1.mono hB)) (Nat.le_trans hB hb1.size)
    (fun i hi cs W2 hcs hb2 => find1_any _ s cs W2 (W.heap.size + 1) hcs (by rw [Lib.cell_of_heap ((hb2.block _ hl1).trans h1)]; rfl) (Nat.lt_of_lt_of_le hl1 hb2.size)) (by have := hr.few; omega))
  have c3 : W1.cell? ⟨W.heap.size, 3, none⟩ = some (.slice RA rs.length rc) := by rw [Lib.cell_of_heap h0]; rfl
  have HB1 := hid hb1
  unfold Gr.findR
  generalize rs.findIdx? (fun r => r.name == s) = q at H ⊢
  generalize idxAns q = q at H ⊢
  generalize rs.length = n at *
  unfold Gr.strV at *
  clear h0 h1 hl1 hb1 z1 hr1 hr2 hr hb hB
  go_enter Tryz.func160, Tryz.ntmps160
  go_upto_region 1 with fail
  rw [hW1.out]
  clear hW1
  go_wp2_with fail
  refine H.out.mono ?_
  rintro _ W2 ⟨rfl, hb2⟩
  have HF := hid (HB1.out.trans (hb2.mono HB1.out.size))
  clear hb2 c3
  go_wp2_with fail
  go_ret
  exact ⟨rfl, HF.out⟩
theorem ruAt_eq {rs : List Gr.Ru} {i : Nat} (h : i < rs.length) : Gr.ruAt rs i = rs[i] := by
  unfold Gr.ruAt
  rw [List.getD_eq_getElem?_getD, List.getElem?_eq_getElem h]
  rfl
def namO (rs : List Gr.Ru) (token : Bool) (k : Nat) : Option Nat → Option Nat
  | none => none
  | some i => if ((Gr.ruAt rs i).sort == 0) != (k == 5) then none else if k == 6 && !token then none else some i
theorem namedR_eq (rs : List Gr.Ru) (token : Bool) (n : Gr.Nd) : Gr.namedR rs token n = namO rs token n.kind (Gr.findR rs n.name) := by
  cases h : Gr.findR rs n.name <;> simp [Gr.namedR, namO, h]
/-- the sort of a rule that came in -/
theorem RsAt.sort {RA : Option Addr} {rs : List Gr.Ru} (h : RsAt w0 B RA rs) (i : Nat) (hi : i < rs.length) : ∃ b o, RA = some ⟨b, o, none⟩ ∧ b < B ∧ w0.cell? ⟨b, o + i * 10 + 1, none⟩ = some (.int .u8 ((Gr.ruAt rs i).sort : Int)) := by
  obtain ⟨xs, h1, h2⟩ := h.r
  obtain ⟨b, o, u0, u1, u2, u3, u4, u5, u6, u7, u8, u9, e, hb, hr, _, c1, _⟩ := readsRu h1 h2 i hi
  obtain ⟨xk, xm, xt, xSA, xa, xsc, xUA, xb, xuc, z0, z1, z2, hv, _⟩ := hr.form
  have hu : u1 = .int .u8 (rs[i].sort : Int) := by
    injection hv with _ hv
    injection hv with hv _
  rw [ruAt_eq hi, ← hu]
  exact ⟨b, o, e, hb, c1⟩
set_option maxHeartbeats 2000000 in
theorem askNamed_any {rs : List Gr.Ru} {em : List Bool} {ab : Nat} (token : Bool) (nd : Gr.Nd) (cs : List Value) (W : World) (hn : NdR w0 B nd cs) (ha : AskAt w0 B rs em ab W) :
    Calls Tryz.prog 180 #[.pointer (some ⟨ab, 0, none⟩), .bool token, .agg cs.toArray] W fun e W' => e = .returned (.int .i64 (idxAns (Gr.namedR rs token nd))) ∧ Below W.heap.size W W' := by
  obtain ⟨k, nm, t, st, L⟩ := nd
  unfold NdR at hn
  obtain ⟨SA, sc, UA, uc, xs, rfl, _⟩ := hn
  have hb1 := below_new W (.cells #[.int .u8 (k : Int), Gr.strV nm, Gr.strV t, .slice SA st.length sc, .slice UA L.length uc] 74)
  have h1 := heap_alloc_new W (.cells #[.int .u8 (k : Int), Gr.strV nm, Gr.strV t, .slice SA st.length sc, .slice UA L.length uc] 74)
  obtain ⟨W1, hW1⟩ : ∃ W1, Hid (W.alloc (.cells #[.int .u8 (k : Int), Gr.strV nm, Gr.strV t, .slice SA st.length sc, .slice UA L.length uc] 74) = W1) := ⟨_, hid rfl⟩
  rw [hW1.out] at hb1 h1
  obtain ⟨hbw, hBw, ⟨gn, bd, sta, RA, rc, EA, ec, hrs, hA, _, _⟩, _⟩ := ha.next hb1
  have a0 : W1.cell? ⟨ab, 0, none⟩ = some (Gr.strV gn) := by rw [Lib.cell_of_heap hA]; rfl
  have a1 : W1.cell? ⟨ab, 1, none⟩ = some (.int .i64 bd) := by rw [Lib.cell_of_heap hA]; rfl
  have a2 : W1.cell? ⟨ab, 2, none⟩ = some (.int .i64 sta) := by rw [Lib.cell_of_heap hA]; rfl
  have a3 : W1.cell? ⟨ab, 3, none⟩ = some (.slice RA rs.length rc) := by rw [Lib.cell_of_heap hA]; rfl
  have k1 : W1.cell? ⟨W.heap.size, 1, none⟩ = some (Gr.strV nm) := by rw [Lib.cell_of_heap h1]; rfl
  have HF := hid (fun (d : Nat) (o : Array Obj) => Calls.regrown_of (find_any rs gn nm bd sta RA rc (Sort.grow (redrawn W1 d) o) hrs (hbw.trans ((below_regrown W1 d o).mono hBw)) (Nat.le_trans hBw (below_regrown W1 d o).size)))
  have A0 := fun d os => cell_regrown a0 d os
  have A1 := fun d os => cell_regrown a1 d os
  have A2 := fun d os => cell_regrown a2 d os
  have A3 := fun d os => cell_regrown a3 d os
  have K1 := fun d os => cell_regrown k1 d os
  have H1 := hid h1
  have HA1 := hid hA
  have HB1 := hid hb1
  have HBW := hid (And.intro hbw hBw)
  have HRS := hid hrs
  obtain ⟨ri, hri⟩ : ∃ ri, rs.length = ri := ⟨_, rfl⟩
  have HRI := hid hri
  rw [hri] at HF A3 HA1
  obtain ⟨fr, hfr⟩ : ∃ fr, Gr.findR rs nm = fr := ⟨_, rfl⟩
  have HFR := hid hfr
  rw [hfr] at HF
  obtain ⟨iz, hiz⟩ : ∃ iz, idxAns fr = iz := ⟨_, rfl⟩
  have HIZ := hid hiz
  rw [hiz] at HF
  clear a0 a1 a2 a3 k1 hA h1 hb1 hbw hBw hrs ha hri hfr hiz
  unfold Gr.strV at *
  go_enter Tryz.func180, Tryz.ntmps180
  go_upto_region 1 with fail
  rw [hW1.out]
  clear hW1
  refine wp_region_quiet_below (by kernel_rfl) (by kernel_rfl) ?_
  repeat (quiet_step (with_reducible exact HF.out _ _))
  refine wpQuiet_nil ?_
  rintro _ ⟨⟨dq, osq⟩, rfl⟩
  have hb2 := below_regrown W1 dq osq
  clear A0 A1 A2 A3 K1 HF
  generalize Sort.grow (redrawn W1 dq) osq = W2 at hb2 ⊢
  have h2 := (hb2.block _ (heap_lt H1.out)).trans H1.out
  have hA2 := (hb2.block _ (heap_lt HA1.out)).trans HA1.out
  have a3 : W2.cell? ⟨ab, 3, none⟩ = some (.slice RA ri rc) := by rw [Lib.cell_of_heap hA2]; rfl
  have k0 : W2.cell? ⟨W.heap.size, 0, none⟩ = some (.int .u8 (k : Int)) := by rw [Lib.cell_of_heap h2]; rfl
  have HB2 := hid (HB1.out.trans (hb2.mono HB1.out.size))
  have HBW2 := hid (HBW.out.1.trans (hb2.mono HBW.out.2))
  clear h2 hA2 hb2 H1 HA1
  have HE := hid (show Gr.namedR rs token (.mk k nm t st L) = namO rs token k fr by rw [namedR_eq, ← HFR.out]; rfl)
  cases fr with
  | none =>
    obtain rfl : -1 = iz := HIZ.out
    go_wp2_with fail
    go_quiet (fail)
    go_wp2_with fail
    go_ret
    exact ⟨by rw [HE.out]; rfl, below_drewN HB2.out _⟩
  | some i =>
    obtain rfl : (i : Int) = iz := HIZ.out
    have hir : i < ri := by have := Gr.findR_lt HFR.out; have := HRI.out; omega
    have hiI : (i : Int) < (ri : Int) := by omega
    have hi0 : ¬ (i : Int) < 0 := by omega
    obtain ⟨b, o, hRA, hbB, c1⟩ := HRS.out.sort i (by have := HRI.out; omega)
    have d1 := (HBW2.out.cell (p := ⟨b, o + i * 10 + 1, none⟩) hbB).trans c1
    subst hRA
    have HE2 := hid (show Gr.namedR rs token (.mk k nm t st L) = (if ((Gr.ruAt rs i).sort == 0) != (k == 5) then none else if k == 6 && !token then none else some i) from HE.out)
    generalize (Gr.ruAt rs i).sort = sn at d1 HE2
    obtain ⟨kz, hkz⟩ : ∃ kz : Int, (k : Int) = kz := ⟨_, rfl⟩
    obtain ⟨sz, hsz⟩ : ∃ sz : Int, (sn : Int) = sz := ⟨_, rfl⟩
    rw [hkz] at k0
    rw [hsz] at d1
    obtain ⟨sb, hsb⟩ : ∃ sb, (sz == 0) = sb := ⟨_, rfl⟩
    obtain ⟨kb, hkb⟩ : ∃ kb, (kz == 5) = kb := ⟨_, rfl⟩
    obtain ⟨qb, hqb⟩ : ∃ qb, (kz == 6) = qb := ⟨_, rfl⟩
    rw [show (sn == 0) = sb by rw [← hsb, ← hsz]; exact Bool.eq_iff_iff.2 (by simp <;> omega), show (k == 5) = kb by rw [← hkb, ← hkz]; exact Bool.eq_iff_iff.2 (by simp <;> omega), show (k == 6) = qb by rw [← hqb, ← hkz]; exact Bool.eq_iff_iff.2 (by simp <;> omega)] at HE2
    have hi63 : (0 : Int) ≤ (i : Int) := by omega
    clear c1 HE HFR hkz hsz HRS HRI HIZ
    cases sb <;> cases kb <;> cases qb <;> cases token <;>
    · go_wp2_with fail
      go_quiet (fail)
      go_wp2_with fail
      go_ret
      exact ⟨by rw [HE2.out]; rfl, below_drewN HB2.out _⟩
end
end Go.Proofs.YtpbnfinmjnpkpaaGreatDoor
