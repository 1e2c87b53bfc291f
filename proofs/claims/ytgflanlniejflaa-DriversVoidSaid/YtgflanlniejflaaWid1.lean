/-
  Drivers: how much one rule does without a token: the walk of a closure that calls itself.
-/
import Derived.Test.YtgflanlniejflaaRchs
import Derived.Test.YtgflanlniejflaaDrvReach
import Derived.Test.YtgflanlniejflaaEno
import Derived.BigQuiet
namespace Go.Proofs.Ytgflanlniejflaa
open Go.RowKit
set_option maxRecDepth 100000
/-- the closure's memory amid its work -/
structure WdI (w0 : World) (B ob b4 b5 : Nat) (clo : Value) (R : Nat) (W : Int → Int) (own : List Int) (u : World) : Prop where
  below : Below B w0 u
  ge : B ≤ ob
  cells : u.heap[ob]? = some (.cells (own.map (Value.int .i64)).toArray 3 (0, 0))
  c4 : u.heap[b4]? = some (.cells #[.slice (some ⟨ob, 0, none⟩) R R] 23 (0, 0))
  c5 : u.heap[b5]? = some (.cells #[clo] 119 (0, 0))
  len : own.length = R
  ok : ∀ (q : Nat) (x : Int), own[q]? = some x → x = 0 ∨ x = W q
section
variable {w0 u u' : World} {B ob b4 b5 R : Nat} {clo : Value} {W : Int → Int} {own : List Int}
theorem WdI.ne4 (h : WdI w0 B ob b4 b5 clo R W own u) : b4 ≠ ob := fun e => by
  have h1 := h.cells
  rw [← e, h.c4] at h1
  injection h1 with h1
  injection h1 with _ h1
  cases h1
theorem WdI.ne5 (h : WdI w0 B ob b4 b5 clo R W own u) : b5 ≠ ob := fun e => by
  have h1 := h.cells
  rw [← e, h.c5] at h1
  injection h1 with h1
  injection h1 with _ h1
  cases h1
theorem WdI.still (h : WdI w0 B ob b4 b5 clo R W own u) (ho : Only (fun _ => False) u u') : WdI w0 B ob b4 b5 clo R W own u' :=
  ⟨ho.below (fun _ e => e.elim) h.below (Nat.le_trans h.ge (Nat.le_of_lt (heap_lt h.cells))), h.ge, (ho.block _ (heap_lt h.cells) id).trans h.cells, (ho.block _ (heap_lt h.c4) id).trans h.c4, (ho.block _ (heap_lt h.c5) id).trans h.c5, h.len, h.ok⟩
theorem WdI.set (h : WdI w0 B ob b4 b5 clo R W own u) (r : Nat) : WdI w0 B ob b4 b5 clo R W (own.set r (W r)) (u.setCell ⟨ob, r, none⟩ (.int .i64 (W r))) := by
  have ho := Only.of_set u ob r (.int .i64 (W r))
  refine ⟨ho.below (fun j e => by rw [e]; exact h.ge) h.below (Nat.le_trans h.ge (Nat.le_of_lt (heap_lt h.cells))), h.ge, ?_, (ho.block _ (heap_lt h.c4) h.ne4).trans h.c4, (ho.block _ (heap_lt h.c5) h.ne5).trans h.c5, by rw [List.length_set]; exact h.len, fun q x hq => ?_⟩
  · rw [heap_setCell_same u ob r _ _ _ h.cells, List.setIfInBounds_toArray, List.map_set]
  · by_cases e : r = q
    · subst e
      have hr : r < own.length := by
        have := (List.getElem?_eq_some_iff.1 hq).1
        rw [List.length_set] at this
        exact this
      rw [List.getElem?_set_self hr] at hq
      injection hq with hq
      exact .inr hq.symm
    · rw [List.getElem?_set_ne e] at hq
      exact h.ok q x hq
end
/-- the closure itself -/
def clo54 (b4 b1 b3 b5 : Nat) : Value := .func (.func 54) #[] #[.pointer (some ⟨b4, 0, none⟩), .pointer (some ⟨b1, 0, none⟩), .pointer (some ⟨b3, 0, none⟩), .pointer (some ⟨b5, 0, none⟩)]
/-- what stays as it was -/
structure WdS (w0 : World) (B b1 b3 : Nat) (SA TA UA QA DA KA : Option Addr) (sc tc uc qc dc kc : Nat) (n : Drv.NNet) (kn : List (List Bool × Bool)) : Prop where
  net : NetR w0 B SA TA UA QA DA n
  known : KnR w0 B KA n.starts.length kn
  full : ∀ r : Nat, r < n.starts.length → (kn.getD r ([], false)).1.length = n.starts.length
  l1 : b1 < B
  l3 : b3 < B
  c1 : w0.heap[b1]? = some (.cells #[.slice SA n.states.length sc, .slice TA n.starts.length tc, .slice UA n.stops.length uc, .slice QA n.preds.length qc, .slice DA n.decs.length dc] 25 (0, 0))
  c3 : w0.heap[b3]? = some (.cells #[.slice KA n.starts.length kc] 134 (0, 0))
theorem WdS.bit {w0 : World} {B b1 b3 sc tc uc qc dc kc : Nat} {SA TA UA QA DA KA : Option Addr} {n : Drv.NNet} {kn : List (List Bool × Bool)} (h : WdS w0 B b1 b3 SA TA UA QA DA KA sc tc uc qc dc kc n kn) {r q : Nat} (hr : r < n.starts.length) (hq : q < n.starts.length) :
    ∃ kb ko ab ao ci, KA = some ⟨kb, ko, none⟩ ∧ kb < B ∧ w0.cell? ⟨kb, ko + r * 2, none⟩ = some (.slice (some ⟨ab, ao, none⟩) n.starts.length ci) ∧ ab < B ∧ w0.cell? ⟨ab, ao + q, none⟩ = some (.bool ((Drv.toK kn).rul r q)) := by
  obtain ⟨hkl, vsK, hkr, hkv⟩ := h.known
  have hrk : r < kn.length := by omega
  obtain ⟨_, Ai, ci, v0, _, rK⟩ := hkv r hrk
  obtain ⟨kb, ko, hKA, hkb, hkc⟩ := hkr.2 (by omega)
  have y4 := hkc _ _ v0
  have hfull := h.full r hr
  have hgd : kn.getD r ([], false) = kn[r] := by rw [List.getD_eq_getElem?_getD, List.getElem?_eq_getElem hrk]; rfl
  rw [hgd] at hfull
  rw [hfull] at y4 rK
  obtain ⟨ab, ao, hAi, hab, hac⟩ := rK.2 (by omega)
  have hqk : q < kn[r].1.length := by omega
  have hbe : kn[r].1[q]? = some kn[r].1[q] := List.getElem?_eq_getElem hqk
  have y5 := hac q _ (by rw [List.getElem?_map, hbe]; rfl)
  subst hAi
  refine ⟨kb, ko, ab, ao, ci, hKA, hkb, y4, hab, ?_⟩
  rw [Drv.toK_rul, hgd, List.getD_eq_getElem?_getD, hbe]
  exact y5
/-- what the closure leaves -/
def Wd1P (w0 : World) (B ob b4 b5 : Nat) (clo : Value) (R : Nat) (W : Int → Int) (r : Int) (u : World) (e : Ending) (u' : World) : Prop :=
  e = .returned (.int .i64 (W r)) ∧ ∃ own, WdI w0 B ob b4 b5 clo R W own u' ∧ Only (fun k => k = ob) u u'
set_option maxHeartbeats 12800000 in
theorem wide1_any (w0 : World) (B b1 b3 ob b4 b5 : Nat) (SA TA UA QA DA KA : Option Addr) (sc tc uc qc dc kc : Nat) (n : Drv.NNet) (kn : List (List Bool × Bool)) (hS : WdS w0 B b1 b3 SA TA UA QA DA KA sc tc uc qc dc kc n kn) (hs : NetS n) (hm : Drv.mayNet n = true) (hk : Drv.Known n (Drv.toK kn)) (hi : ∀ r, (Drv.toK kn).rul r r = false) :
    ∀ (m r : Nat), Drv.hgt n.starts.length (Drv.toK kn).rul r < m → r < n.starts.length → ∀ (u : World) (own : List Int), WdI w0 B ob b4 b5 (clo54 b4 b1 b3 b5) n.starts.length (Drv.wOf n (Drv.toK kn).rul) own u →
      Calls Try.prog 54 #[.int .i64 r, .pointer (some ⟨b4, 0, none⟩), .pointer (some ⟨b1, 0, none⟩), .pointer (some ⟨b3, 0, none⟩), .pointer (some ⟨b5, 0, none⟩)] u (Wd1P w0 B ob b4 b5 (clo54 b4 b1 b3 b5) n.starts.length (Drv.wOf n (Drv.toK kn).rul) r u) := by
  intro m
  induction m with
  | zero => intro r h; exact absurd h (Nat.not_lt_zero _)
  | succ m ih =>
    intro r hr hrR u own hI
    have IH := hid ih
    clear ih
    obtain ⟨R, hR⟩ : ∃ R, n.starts.length = R := ⟨_, rfl⟩
    obtain ⟨nS, hnS⟩ : ∃ R, n.states.length = R := ⟨_, rfl⟩
    have HS := hid hS
    have HNS := hid hs
    have HM := hid hm
    have HK := hid hk
    have HI := hid hi
    have HH := hid hr
    have hrl := hrR
    rw [hR] at hrl hI ⊢
    have hrI : (r : Int) < (R : Int) := by omega
    have HR := hid hR
    have HN := hid hnS
    have HWI := hid hI
    have lS := hs.states
    rw [hnS] at lS
    have k4 : u.cell? ⟨b4, 0, none⟩ = some (.slice (some ⟨ob, 0, none⟩) R R) := by rw [Lib.cell_of_heap hI.c4]; rfl
    obtain ⟨x, hx⟩ : ∃ x, own[r]? = some x := ⟨_, List.getElem?_eq_getElem (by rw [hI.len]; exact hrl)⟩
    have k0 : u.cell? ⟨ob, r, none⟩ = some (.int .i64 x) := by rw [Lib.cell_of_heap hI.cells, List.getElem?_toArray, List.getElem?_map, hx]; rfl
    have hxo := hI.ok r x hx
    have hwn := Drv.wOf_nn n (Drv.toK kn).rul r
    have HX := hid hxo
    have HWN := hid hwn
    clear hS hs hm hk hi hr hR hnS hI hx hxo hwn hrR
    by_cases hx0 : 0 < x
    · have hd : decide (0 < x) = true := decide_eq_true hx0
      have hxe : Hid (x = Drv.wOf n (Drv.toK kn).rul r) := hid (by rcases HX.out with h | h; omega; exact h)
      clear hx0
      go_enter Try.func54, Try.ntmps54
      go_wp2_with fail
      go_ret
      exact ⟨by rw [hxe.out]; rfl, own, HWI.out, Only.refl _ _⟩
    · have hd : decide (0 < x) = false := decide_eq_false hx0
      clear hx0 HX
      have c1 : u.cell? ⟨b1, 0, none⟩ = some (.slice SA nS sc) := by
        have h1 := (HWI.out.below.block b1 HS.out.l1).trans HS.out.c1
        rw [Lib.cell_of_heap h1, HN.out]; rfl
      go_enter Try.func54, Try.ntmps54
      go_wp2_with fail
      go_loopw [7, 24] (fun s i wx => ∃ (j : Nat) (sm : Int), j ≤ nS ∧ s = .int .i64 sm ∧ i = .int .i64 j ∧ Hid (sm = Drv.ownS r ((Drv.toK kn).rul r) (Drv.wOf n (Drv.toK kn).rul) (n.states.take j) 0 ∧ (∃ own, WdI w0 B ob b4 b5 (clo54 b4 b1 b3 b5) R (Drv.wOf n (Drv.toK kn).rul) own wx) ∧ Only (fun k => k = ob) u wx)) (fun _ i _ => nS - (intOf i).toNat)
      case atStart => exact ⟨0, 0, Nat.zero_le _, rfl, rfl, hid ⟨rfl, ⟨own, HWI.out⟩, Only.refl _ _⟩⟩
      case round =>
        clear HWI k4 k0 c1 hd
        obtain ⟨j, sm, hj, rfl, rfl, hJ⟩ := hrel
        obtain ⟨hsm, ⟨ow, hI⟩, hO⟩ := hJ.out
        have hsb := Drv.ownS_bd (r := (r : Int)) (rules := (Drv.toK kn).rul r) (Drv.wOf_nn n (Drv.toK kn).rul) (n.states.take j) 0 1099511627776 (by omega) (by omega) (by omega)
        rw [← hsm] at hsb
        have hjl : (n.states.take j).length ≤ 1000000 := by rw [List.length_take]; omega
        have hsb0 := hsb.1
        have hsb1 : sm ≤ 1099512627776 := by omega
        clear hsb hjl hJ
        have HSM := hid hsm
        have HO := hid hO
        have HWJ := hid hI
        clear hsm hO
        by_cases hlt : j < nS
        · have hjn : j < n.states.length := by rw [HN.out]; exact hlt
          obtain ⟨xb, xo, EA, ec, XA, xc, hSA, hxb, e0, e1, e2, r0, r1⟩ := HS.out.net.sts.at hjn
          have hst := Drv.ownS_take (r := (r : Int)) (rules := (Drv.toK kn).rul r) (was := Drv.wOf n (Drv.toK kn).rul) n.states hjn 0
          have hmem := List.getElem_mem hjn
          have hsz := HNS.out.st _ hmem
          have hme : ∀ e ∈ n.states[j].edges, _ := fun e he => Drv.may_edge HM.out hmem he
          generalize n.states[j] = sx at e0 e1 e2 r0 r1 hst hmem hsz hme
          have hbw := HWJ.out.below
          have c0 := (hbw.cell (p := ⟨xb, xo + j * 3, none⟩) hxb).trans e0
          have c1 := (hbw.cell (p := ⟨xb, xo + j * 3 + 1, none⟩) hxb).trans e1
          have c2 := (hbw.cell (p := ⟨xb, xo + j * 3 + 2, none⟩) hxb).trans e2
          have HST := hid hst
          obtain ⟨nE, hnE⟩ : ∃ m, sx.edges.length = m := ⟨_, rfl⟩
          obtain ⟨nX, hnX⟩ : ∃ m, sx.ends.length = m := ⟨_, rfl⟩
          rw [hnE] at c1 r0
          rw [hnX] at c2
          have HNE := hid hnE
          have hsz1 := hsz.1
          rw [hnE] at hsz1
          have HME := hid hme
          have R0 := hid r0
          subst hSA
          clear hst hmem hsz hme hnE hnX r0 r1 e0 e1 e2 hbw hjn
          obtain ⟨xr, hxr⟩ : ∃ xr, sx.rule = xr := ⟨_, rfl⟩
          rw [hxr] at c0
          have HXR := hid hxr
          clear hxr
          go_upto_region 7 with fail
          have T9 := heap_alloc_new wr (.cells #[.int .i64 xr, .slice EA nE ec, .slice XA nX xc] 47)
          have hb9 := below_new wr (.cells #[.int .i64 xr, .slice EA nE ec, .slice XA nX xc] 47)
          generalize wr.alloc (.cells #[.int .i64 xr, .slice EA nE ec, .slice XA nX xc] 47) = wa at T9 hb9 ⊢
          generalize wr.heap.size = g9 at T9 ⊢
          have x0 : wa.cell? ⟨g9, 0, none⟩ = some (.int .i64 xr) := by rw [Lib.cell_of_heap T9]; rfl
          have x1 : wa.cell? ⟨g9, 1, none⟩ = some (.slice EA nE ec) := by rw [Lib.cell_of_heap T9]; rfl
          have HWA := hid (HWJ.out.still (Only.of_below hb9))
          have HOA := hid (HO.out.trans (Only.of_below (S := fun _ => False) hb9) (fun _ _ e => e.elim))
          clear T9 hb9 c0 c1 c2 HWJ HO
          by_cases hxr : xr = (r : Int)
          · subst hxr
            have hw1 : IntKind.i64.wrap (sm + 1) = sm + 1 := w64 (by omega) (by omega)
            go_wp2_with fail
            go_loopw [7, 37] (fun s i wx => ∃ (k : Nat) (s2 : Int), k ≤ nE ∧ s = .int .i64 s2 ∧ i = .int .i64 k ∧ Hid (s2 = Drv.ownE ((Drv.toK kn).rul r) (Drv.wOf n (Drv.toK kn).rul) (sx.edges.take k) (sm + 1) ∧ (∃ own, WdI w0 B ob b4 b5 (clo54 b4 b1 b3 b5) R (Drv.wOf n (Drv.toK kn).rul) own wx) ∧ Only (fun k => k = ob) u wx)) (fun _ i _ => nE - (intOf i).toNat)
            case atStart => exact ⟨0, sm + 1, Nat.zero_le _, rfl, rfl, hid ⟨rfl, ⟨ow, HWA.out⟩, HOA.out⟩⟩
            case round =>
              rename World => wb
              clear HWA HOA x0 x1 hw1
              obtain ⟨k, s2, hk, rfl, rfl, hJ⟩ := hrel
              obtain ⟨hs2, ⟨ow2, hI2⟩, hO2⟩ := hJ.out
              have hsb2 := Drv.ownE_bd (rules := (Drv.toK kn).rul r) (Drv.wOf_nn n (Drv.toK kn).rul) (c := 1099512627777) (by omega) (sx.edges.take k) (sm + 1) (by omega) (by omega)
              rw [← hs2] at hsb2
              have hsb3 := hsb2.1
              have hsb4 := hsb2.2
              have HS2 := hid hs2
              have HI2 := hid hI2
              have HO2 := hid hO2
              clear hsb2 hs2 hI2 hO2 hJ
              by_cases hlk : k < nE
              · have hje : k < sx.edges.length := by rw [HNE.out]; exact hlk
                obtain ⟨eb, eo, hEA, heb, f0, f1, f2⟩ := Reads.getE ((R0out_len HNE.out R0.out).below HI2.out.below) hje
                have het := Drv.ownE_take (rules := (Drv.toK kn).rul r) (was := Drv.wOf n (Drv.toK kn).rul) sx.edges hje (sm + 1)
                have hwf := HME.out _ (List.getElem_mem hje)
                generalize sx.edges[k] = ex at f0 f1 f2 het hwf
                obtain ⟨ek, ew, et⟩ := ex
                simp only at f0 f1 f2 hwf het
                obtain ⟨_, w2a, w2b, w3a, w4a⟩ := hwf
                subst hEA
                have HET := hid het
                clear het hje
                go_upto_region 12 with fail
                have T9 := heap_alloc_new wb (.cells #[.int .u8 ek, .int .i64 ew, .int .i64 et] 60)
                have hb9 := below_new wb (.cells #[.int .u8 ek, .int .i64 ew, .int .i64 et] 60)
                generalize wb.alloc (.cells #[.int .u8 ek, .int .i64 ew, .int .i64 et] 60) = wc at T9 hb9 ⊢
                generalize wb.heap.size = g8 at T9 ⊢
                have x0 : wc.cell? ⟨g8, 0, none⟩ = some (.int .u8 ek) := by rw [Lib.cell_of_heap T9]; rfl
                have x1 : wc.cell? ⟨g8, 1, none⟩ = some (.int .i64 ew) := by rw [Lib.cell_of_heap T9]; rfl
                have HWC := hid (HI2.out.still (Only.of_below hb9))
                have HOC := hid (HO2.out.trans (Only.of_below (S := fun _ => False) hb9) (fun _ _ e => e.elim))
                clear T9 hb9 f0 f1 f2 HI2 HO2
                by_cases hk2 : ek = 2
                · subst hk2
                  have hwl := w4a rfl
                  obtain ⟨en, rfl⟩ : ∃ en : Nat, ew = en := ⟨ew.toNat, by omega⟩
                  have hen : en < R := by rw [HR.out] at hwl; omega
                  have henI : (en : Int) < (R : Int) := by omega
                  have h3 := (HWC.out.below.block b3 HS.out.l3).trans HS.out.c3
                  rw [HR.out] at h3
                  have y3 : wc.cell? ⟨b3, 0, none⟩ = some (.slice KA R kc) := by rw [Lib.cell_of_heap h3]; rfl
                  obtain ⟨kb, ko, ab, ao, ci, hKA, hkb, y4, hab, y5⟩ := HS.out.bit (r := r) (q := en) (by rw [HR.out]; exact hrl) (by rw [HR.out]; exact hen)
                  rw [HR.out] at y4
                  have y4 := (HWC.out.below.cell (p := ⟨kb, ko + r * 2, none⟩) hkb).trans y4
                  have y5 := (HWC.out.below.cell (p := ⟨ab, ao + en, none⟩) hab).trans y5
                  subst hKA
                  generalize hrul : (Drv.toK kn).rul r en = be at y5
                  have HRUL := hid hrul
                  clear hrul h3
                  cases be with
                  | true =>
                    have hh1 := Drv.hgt_lt (R := n.starts.length) HK.out.trans HI.out (r := (r : Int)) (q := en) (by rw [HR.out]; exact hen) HRUL.out
                    have hh2 := HH.out
                    go_quiet (fail)
                    have x1d : (wc.drewN nq).cell? ⟨g8, 1, none⟩ = some (.int .i64 (en : Int)) := x1
                    have HWD := hid (HWC.out.still (Only.of_below (below_drewN (Below.refl _ _) nq)))
                    have HOD := hid (HOC.out.trans (Only.of_below (S := fun _ => False) (below_drewN (Below.refl _ _) nq)) (fun _ _ e => e.elim))
                    clear x0 x1 y3 y4 y5 HWC HOC
                    generalize wc.drewN nq = wd at x1d HWD HOD ⊢
                    have c5 : wd.cell? ⟨b5, 0, none⟩ = some (.func (.func 54) #[] #[.pointer (some ⟨b4, 0, none⟩), .pointer (some ⟨b1, 0, none⟩), .pointer (some ⟨b3, 0, none⟩), .pointer (some ⟨b5, 0, none⟩)]) := by
                      rw [Lib.cell_of_heap HWD.out.c5]; rfl
                    have hih := IH.out en (by omega) (by rw [HR.out]; exact hen) wd ow2 (by rw [HR.out]; exact HWD.out)
                    rw [HR.out] at hih
                    have HIH := hid hih
                    clear hih hh1 hh2
                    go_wp2_with fail
                    refine HIH.out.mono ?_
                    rintro e w6 ⟨rfl, ow6, hI6, hO6⟩
                    have HI6 := hid hI6
                    have HO6 := hid (HOD.out.trans hO6 (fun _ _ e => e))
                    have hwb0 := Drv.wOf_nn n (Drv.toK kn).rul en
                    have hwb1 := Drv.wOf_le n (Drv.toK kn).rul en
                    rw [HN.out] at hwb1
                    have HF : Hid (Drv.mostP (s2 + Drv.wOf n (Drv.toK kn).rul en) = Drv.ownE ((Drv.toK kn).rul r) (Drv.wOf n (Drv.toK kn).rul) (sx.edges.take (k + 1)) (sm + 1)) := hid (by
                      rw [HET.out, if_pos ⟨by trivial, HRUL.out⟩, ← HS2.out]; rfl)
                    clear hI6 hO6 HIH HWD HOD c5 x1d
                    generalize Drv.wOf n (Drv.toK kn).rul en = we at hwb0 hwb1 HF ⊢
                    have hw2 : IntKind.i64.wrap (s2 + we) = s2 + we := w64 (by omega) (by omega)
                    go_wp2_with fail
                    refine (most_any _ _).mono ?_
                    rintro e w7 ⟨rfl, rfl⟩
                    dsimp only
                    go_wp2_with fail
                    go_roundw
                    case rel => exact ⟨k + 1, _, by omega, rfl, by go_num, hid ⟨HF.out, ⟨ow6, HI6.out⟩, HO6.out⟩⟩
                    case measure => simp [intOf]; omega
                  | false =>
                    have HF : Hid (s2 = Drv.ownE ((Drv.toK kn).rul r) (Drv.wOf n (Drv.toK kn).rul) (sx.edges.take (k + 1)) (sm + 1)) := hid (by
                      rw [HET.out, if_neg (by rw [HRUL.out]; simp)]; exact HS2.out)
                    go_quiet (fail)
                    go_wp2_with fail
                    go_roundw
                    case rel => exact ⟨k + 1, s2, by omega, rfl, by go_num, hid ⟨HF.out, ⟨ow2, HWC.out.still (Only.of_below (below_drewN (Below.refl _ _) _))⟩, HOC.out.trans (Only.of_below (S := fun _ => False) (below_drewN (Below.refl _ _) _)) (fun _ _ e => e.elim)⟩⟩
                    case measure => simp [intOf]; omega
                · have g2 : (ek == 2) = false := by rw [beq_eq_false_iff_ne]; exact hk2
                  have HF : Hid (s2 = Drv.ownE ((Drv.toK kn).rul r) (Drv.wOf n (Drv.toK kn).rul) (sx.edges.take (k + 1)) (sm + 1)) := hid (by
                    rw [HET.out, if_neg (fun e => hk2 e.1)]; exact HS2.out)
                  go_quiet (fail)
                  go_wp2_with fail
                  go_roundw
                  case rel => exact ⟨k + 1, s2, by omega, rfl, by go_num, hid ⟨HF.out, ⟨ow2, HWC.out.still (Only.of_below (below_drewN (Below.refl _ _) _))⟩, HOC.out.trans (Only.of_below (S := fun _ => False) (below_drewN (Below.refl _ _) _)) (fun _ _ e => e.elim)⟩⟩
                  case measure => simp [intOf]; omega
              · have hkn : k = nE := by omega
                subst hkn
                have HF : Hid (s2 = Drv.ownS r ((Drv.toK kn).rul r) (Drv.wOf n (Drv.toK kn).rul) (n.states.take (j + 1)) 0) := hid (by
                  have h9 := HS2.out
                  rw [← HNE.out, List.take_length, HSM.out] at h9
                  rw [HST.out, if_pos HXR.out]
                  exact h9)
                go_wp2_with fail
                go_roundw
                case rel => exact ⟨j + 1, s2, by omega, rfl, by go_num, hid ⟨HF.out, ⟨ow2, HI2.out⟩, HO2.out⟩⟩
                case measure => simp [intOf]; omega
          · have hd : (xr == (r : Int)) = false := by rw [beq_eq_false_iff_ne]; exact hxr
            have HF : Hid (sm = Drv.ownS r ((Drv.toK kn).rul r) (Drv.wOf n (Drv.toK kn).rul) (n.states.take (j + 1)) 0) := hid (by
              rw [HST.out, if_neg (by rw [HXR.out]; exact hxr)]; exact HSM.out)
            clear hxr
            go_wp2_with fail
            go_roundw
            case rel => exact ⟨j + 1, sm, by omega, rfl, by go_num, hid ⟨HF.out, ⟨ow, HWA.out⟩, HOA.out⟩⟩
            case measure => simp [intOf]; omega
        · have hjn : j = nS := by omega
          subst hjn
          have hsw : sm = Drv.wOf n (Drv.toK kn).rul r := by
            have h9 := HSM.out
            rw [← HN.out, List.take_length] at h9
            rw [h9]
            exact (Drv.wOf_eq HK.out HI.out r).symm
          subst hsw
          have k4 : wr.cell? ⟨b4, 0, none⟩ = some (.slice (some ⟨ob, 0, none⟩) R R) := by rw [Lib.cell_of_heap HWJ.out.c4]; rfl
          obtain ⟨x9, hx9⟩ : ∃ x, ow[r]? = some x := ⟨_, List.getElem?_eq_getElem (by rw [HWJ.out.len]; exact hrl)⟩
          have k0 : wr.cell? ⟨ob, r, none⟩ = some (.int .i64 x9) := by rw [Lib.cell_of_heap HWJ.out.cells, List.getElem?_toArray, List.getElem?_map, hx9]; rfl
          have kz : wr.frozen? ⟨ob, r, none⟩ = false := Lib.frozen_of_heap HWJ.out.cells r
          have HF := hid (HWJ.out.set r)
          have HOF := hid (HO.out.trans (Only.of_set wr ob r (.int .i64 (Drv.wOf n (Drv.toK kn).rul r))) (fun _ _ e => e))
          clear hx9
          go_wp2_with fail
          go_ret
          exact ⟨rfl, _, HF.out, HOF.out⟩
end Go.Proofs.Ytgflanlniejflaa
