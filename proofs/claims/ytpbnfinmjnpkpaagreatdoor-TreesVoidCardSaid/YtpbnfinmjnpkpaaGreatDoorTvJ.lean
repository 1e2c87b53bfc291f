/-
  Joined texts: TtCt, TtLv, TtVd, TtVdProof.
-/
import Derived.Test.YtpbnfinmjnpkpaaGreatDoorTvC
import Derived.Test.YtpbnfinmjnpkpaaGreatDoorTvI
import Derived.Test.YtpbnfinmjnpkpaaGreatDoorTvG
import Derived.Test.YtpbnfinmjnpkpaaGreatDoorTvE
import Derived.Test.YtpbnfinmjnpkpaaGreatDoorRows
import Derived.Lib.LaidU8
import Derived.Lib.LaidTab
import Derived.MakeChecks
import Derived.Test.YtpbnfinmjnpkpaaGreatDoorCards
import Derived.Test.YtpbnfinmjnpkpaaGreatDoorTie
import Derived.ProofKit
import Derived.Carry
import Derived.LaidMore
import Derived.Lay
import Derived.OpenShut
import Derived.Lib.SmallJoins
import Derived.Stop.Joined
import Derived.SevenTiedAt
/-
  How many parts a tree has, as harbingerlaw29 reckons; Great: the walks.
-/
namespace Go.Proofs.YtpbnfinmjnpkpaaGreatDoor
open Go.RowKit
set_option maxRecDepth 100000
namespace Tt
mutual
def cntD (g : Nat) : Rp.Tr → Nat
  | .node _ _ _ _ l => if g = 0 then 100 else cntDL (g - 1) l 1
def cntDL (g : Nat) : List Rp.Tr → Nat → Nat
  | [], k => k
  | x :: l, k => if k < 100 then cntDL g l (k + cntD g x) else k
end
mutual
theorem cntD_le (g : Nat) : ∀ t : Rp.Tr, cntD g t ≤ 100 + 100 * g
  | .node _ _ _ _ l => by
    rw [cntD]
    split
    · omega
    · have := cntDL_le (g - 1) l 1 (by omega)
      omega
theorem cntDL_le (g : Nat) : ∀ (l : List Rp.Tr) (k : Nat), k ≤ 200 + 100 * g → cntDL g l k ≤ 200 + 100 * g
  | [], k, h => by rw [cntDL]; exact h
  | x :: l, k, h => by
    rw [cntDL]
    split
    · have := cntD_le g x
      exact cntDL_le g l _ (by omega)
    · exact h
end
/-- not great: so many parts it has -/
def great (t : Rp.Tr) : Bool := decide (80 < cntD 61 t)
end Tt
section
variable {w0 : World} {B : Nat}
def CountP (t : Rp.Tr) : Prop := ∀ (g deep : Nat) (cs : List Value) (W : World), deep + g = 61 → TrR w0 B t cs → Below B w0 W → B ≤ W.heap.size →
  Calls Tryz.prog 19 #[.agg cs.toArray, .int .i64 (deep : Int)] W fun e W' => e = .returned (.int .i64 (Tt.cntD g t : Nat)) ∧ Below W.heap.size W W'
set_option maxHeartbeats 8000000 in
theorem count_step (r tk k : Int) (er : Bool) (L : List Rp.Tr) (hL : ∀ i (hi : i < L.length), CountP (w0 := w0) (B := B) L[i]) (hLL : L.length ≤ 4398046511104) : CountP (w0 := w0) (B := B) (.node r tk k er L) := by
  intro g deep cs W hg hn hb hB
  unfold TrR at hn
  obtain ⟨A, c, xs, rfl, hr, hv⟩ := hn
  have h1 := heap_alloc_new W (.cells #[.int .i64 r, .int .i64 tk, .int .i64 k, .bool er, .slice A L.length c] 24)
  have hb1 := below_new W (.cells #[.int .i64 r, .int .i64 tk, .int .i64 k, .bool er, .slice A L.length c] 24)
  obtain ⟨W1, hW1⟩ : ∃ W1, Hid (W.alloc (.cells #[.int .i64 r, .int .i64 tk, .int .i64 k, .bool er, .slice A L.length c] 24) = W1) := ⟨_, hid rfl⟩
  rw [hW1.out] at h1 hb1
  obtain ⟨n, hnn⟩ : ∃ n, L.length = n := ⟨_, rfl⟩
  rw [hnn] at h1 hW1 hLL ⊢
  have HN := hid hnn
  have HH1 := hid h1
  have HB1 := hid hb1
  have HB := hid hb
  have HR := hid hr
  have HV := hid hv
  have HLH := hid hL
  have HBW := hid hB
  by_cases hd : 60 < deep
  · have hg0 : g = 0 := by omega
    have HQ := hid (show Tt.cntD g (.node r tk k er L) = 100 by rw [Tt.cntD, if_pos hg0])
    have hdI : (60 : Int) < (deep : Int) := by omega
    rw [HQ.out]
    clear h1 hb1 hb hr hv hL hB hnn hg hg0
    go_enter Tryz.func19, Tryz.ntmps19
    go_upto_region 1 with fail
    rw [hW1.out]
    clear hW1
    go_wp2_with fail
    go_ret
    exact ⟨rfl, HB1.out⟩
  · obtain ⟨g', rfl⟩ : ∃ g', g = g' + 1 := ⟨g - 1, by omega⟩
    have HQ := hid (show Tt.cntD (g' + 1) (.node r tk k er L) = Tt.cntDL g' L 1 by rw [Tt.cntD, if_neg (by omega)]; rfl)
    have hdI : ¬ (60 : Int) < (deep : Int) := by omega
    have hgb : g' ≤ 60 := by omega
    have HG := hid hg
    have hwd : IntKind.i64.wrap ((deep : Int) + 1) = (deep : Int) + 1 := w64 (by omega) (by omega)
    rw [HQ.out]
    clear h1 hb1 hb hr hv hL hB hnn hg hd
    go_enter Tryz.func19, Tryz.ntmps19
    go_upto_region 1 with fail
    rw [hW1.out]
    clear hW1
    go_wp2_with fail
    go_loopw [5, 6] (fun kv iv wr => ∃ (i q : Nat), i ≤ n ∧ iv = .int .i64 (i : Int) ∧ kv = .int .i64 (q : Int) ∧ q ≤ 200 + 100 * g' ∧ Hid (Tt.cntDL g' (L.drop i) q = Tt.cntDL g' L 1) ∧ Hid (Below W1.heap.size W1 wr)) (fun _ iv _ => n - (intOf iv).toNat)
    case atStart => exact ⟨0, 1, Nat.zero_le _, rfl, rfl, by omega, hid (by rw [List.drop_zero]), hid (Below.refl _ _)⟩
    case round =>
      obtain ⟨i, q, hi, rfl, rfl, hq, HC, HBR⟩ := hrel
      have hwi : IntKind.i64.wrap ((i : Int) + 1) = (i : Int) + 1 := w64 (by omega) (by omega)
      have hx := (HBR.out.block _ (heap_lt HH1.out)).trans HH1.out
      have c4 : wr.cell? ⟨W.heap.size, 4, none⟩ = some (.slice A n c) := by rw [Lib.cell_of_heap hx]; rfl
      clear hx
      by_cases hlt : i < n
      · have hil : i < L.length := by have := HN.out; omega
        have hltI : (i : Int) < (n : Int) := by omega
        have hdr : L.drop i = L[i] :: L.drop (i + 1) := List.drop_eq_getElem_cons hil
        by_cases hq1 : q < 100
        · have hq1I : (q : Int) < 100 := by omega
          have hbw : Below B w0 wr := HB.out.trans ((HB1.out.trans (HBR.out.mono HB1.out.size)).mono HBW.out)
          obtain ⟨b, o, u0, u1, u2, u3, u4, hUA, hbB, hnd, e0, e1, e2, e3, e4⟩ := readsTr HR.out HV.out i hil
          have hcall := HLH.out i hil g' (deep + 1) _ wr (by have := HG.out; omega) hnd hbw (Nat.le_trans HBW.out (Nat.le_trans HB1.out.size HBR.out.size))
          rw [show ((deep + 1 : Nat) : Int) = (deep : Int) + 1 by omega] at hcall
          have hle := Tt.cntD_le g' L[i]
          have HSN := hid (show Tt.cntDL g' (L.drop (i + 1)) (q + Tt.cntD g' L[i]) = Tt.cntDL g' L 1 by rw [← HC.out, hdr, Tt.cntDL, if_pos hq1])
          obtain ⟨z, hz⟩ : ∃ z, Tt.cntD g' L[i] = z := ⟨_, rfl⟩
          rw [hz] at hcall hle HSN
          have hwq : IntKind.i64.wrap ((q : Int) + (z : Int)) = (q : Int) + (z : Int) := w64 (by omega) (by omega)
          have HCALL := hid hcall
          have e0 := (hbw.cell (p := ⟨b, o + i * 5, none⟩) hbB).trans e0
          have e1 := (hbw.cell (p := ⟨b, o + i * 5 + 1, none⟩) hbB).trans e1
          have e2 := (hbw.cell (p := ⟨b, o + i * 5 + 2, none⟩) hbB).trans e2
          have e3 := (hbw.cell (p := ⟨b, o + i * 5 + 3, none⟩) hbB).trans e3
          have e4 := (hbw.cell (p := ⟨b, o + i * 5 + 4, none⟩) hbB).trans e4
          have hqz : q + z ≤ 200 + 100 * g' := by omega
          have HQZ := hid hqz
          subst hUA
          clear hcall hz hnd hbw hle hdr hqz
          go_wp2_with fail
          refine HCALL.out.mono ?_
          rintro _ W3 ⟨rfl, hb3⟩
          have HB3 := hid (HBR.out.trans (hb3.mono HBR.out.size))
          clear hb3 e0 e1 e2 e3 e4 c4 HCALL
          go_wp2_with fail
          go_roundw
          case rel => exact ⟨i + 1, q + z, hlt, by go_num, by go_num, HQZ.out, HSN, HB3⟩
          case measure => simp only [intOf]; omega
        · have hq1I : ¬ (q : Int) < 100 := by omega
          have HFIN := hid (show Tt.cntDL g' L 1 = q by rw [← HC.out, hdr, Tt.cntDL, if_neg hq1])
          clear hdr
          go_wp2_with fail
          go_ret
          exact ⟨by rw [HFIN.out]; rfl, HB1.out.trans (HBR.out.mono HB1.out.size)⟩
      · have hie : i = n := by omega
        subst hie
        have HFIN := hid (show Tt.cntDL g' L 1 = q by rw [← HC.out, ← HN.out, List.drop_length, Tt.cntDL])
        clear hlt
        go_wp2_with fail
        go_ret
        exact ⟨by rw [HFIN.out]; rfl, HB1.out.trans (HBR.out.mono HB1.out.size)⟩
mutual
theorem count_any : ∀ t : Rp.Tr, Rp.okT t → CountP (w0 := w0) (B := B) t
  | .node r tk k er L, h => by
    unfold Rp.okT at h
    exact count_step r tk k er L (count_all L h.2.2.2.2) h.2.2.2.1
theorem count_all : ∀ L : List Rp.Tr, Rp.okL L → ∀ i (hi : i < L.length), CountP (w0 := w0) (B := B) L[i]
  | [], _, i, hi => absurd hi (Nat.not_lt_zero _)
  | x :: L, h, i, hi => by
    unfold Rp.okL at h
    cases i with
    | zero => exact count_any x h.1
    | succ i => exact count_all L h.2 i (by simpa using hi)
end
theorem great_any (t : Rp.Tr) (cs : List Value) (W : World) (hok : Rp.okT t) (hn : TrR w0 B t cs) (hb : Below B w0 W) (hB : B ≤ W.heap.size) : Calls Tryz.prog 9 #[.agg cs.toArray] W fun e W' => e = .returned (.bool (Tt.great t)) ∧ Below W.heap.size W W' := by
  obtain ⟨r, tk, k, e, A, n, c, rfl⟩ := hn.form
  have h1 := heap_alloc_new W (.cells #[.int .i64 r, .int .i64 tk, .int .i64 k, .bool e, .slice A n c] 24)
  have hb1 := below_new W (.cells #[.int .i64 r, .int .i64 tk, .int .i64 k, .bool e, .slice A n c] 24)
  obtain ⟨W1, hW1⟩ : ∃ W1, Hid (W.alloc (.cells #[.int .i64 r, .int .i64 tk, .int .i64 k, .bool e, .slice A n c] 24) = W1) := ⟨_, hid rfl⟩
  rw [hW1.out] at h1 hb1
  have HC := hid (count_any t hok 61 0 _ W1 rfl hn (hb.trans (hb1.mono hB)) (Nat.le_trans hB hb1.size))
  have c0 : W1.cell? ⟨W.heap.size, 0, none⟩ = some (.int .i64 r) := by rw [Lib.cell_of_heap h1]; rfl
  have c1 : W1.cell? ⟨W.heap.size, 1, none⟩ = some (.int .i64 tk) := by rw [Lib.cell_of_heap h1]; rfl
  have c2 : W1.cell? ⟨W.heap.size, 2, none⟩ = some (.int .i64 k) := by rw [Lib.cell_of_heap h1]; rfl
  have c3 : W1.cell? ⟨W.heap.size, 3, none⟩ = some (.bool e) := by rw [Lib.cell_of_heap h1]; rfl
  have c4 : W1.cell? ⟨W.heap.size, 4, none⟩ = some (.slice A n c) := by rw [Lib.cell_of_heap h1]; rfl
  have HB1 := hid hb1
  obtain ⟨z, hz⟩ : ∃ z, Tt.cntD 61 t = z := ⟨_, rfl⟩
  have HZ := hid (show Tt.great t = decide (80 < z) by unfold Tt.great; rw [hz])
  rw [hz] at HC
  clear hz h1 hb1 hn hb hB hok
  go_enter Tryz.func9, Tryz.ntmps9
  go_upto_region 1 with fail
  rw [hW1.out]
  clear hW1
  go_wp2_with fail
  refine HC.out.mono ?_
  rintro _ W3 ⟨rfl, hb3⟩
  have HB3 := hid (HB1.out.trans (hb3.mono HB1.out.size))
  clear hb3 c0 c1 c2 c3 c4 HC
  go_wp2_with fail
  go_ret
  refine ⟨?_, HB3.out⟩
  rw [HZ.out, show decide (80 < z) = decide ((80 : Int) < (z : Int)) from decide_eq_decide.2 (by omega)]
  rfl
end
end Go.Proofs.YtpbnfinmjnpkpaaGreatDoor
/-
  The chapter's example of trees (harbingerlaw29.lives): the walk.
-/
namespace Go.Proofs.YtpbnfinmjnpkpaaGreatDoor
open Go.RowKit Go.Maps
set_option maxRecDepth 100000
namespace Tt
def t1 : Rp.Tr := .node (-1) 0 0 false []
def t2 : Rp.Tr := .node (-1) 1 0 false []
def t0 : Rp.Tr := .node 0 0 0 false []
def tS : Rp.Tr := .node 0 0 0 false [t2, t0]
def tT : Rp.Tr := .node 0 0 0 false [t1, tS]
theorem ok_tT : Rp.okT tT := by
  simp [tT, tS, t0, t1, t2, Rp.okT, Rp.okL, Rp.i64]
theorem sz_tT : Rp.szT tT ≤ 1000000000 := by
  simp [tT, tS, t0, t1, t2, Rp.szT, Rp.szL]
theorem bodies_lv : bodiesF Gr.lvRs = [Gr.lvA.body] := by
  unfold bodiesF pars
  rw [show Gr.lvRs.length = 2 from rfl, lv_of0]
  rfl
theorem tok_lv : tokF Gr.lvRs [66] = some 0 := by
  unfold tokF toks
  rw [show Gr.lvRs.length = 2 from rfl, lv_of1]
  rfl
theorem rul_lv : rulF Gr.lvRs [97] = some 0 := by
  unfold rulF pars
  rw [show Gr.lvRs.length = 2 from rfl, lv_of0]
  rfl
theorem starless_lv : ∀ i (hi : i < (bodiesF Gr.lvRs).length), starless (tokF Gr.lvRs) (rulF Gr.lvRs) (bodiesF Gr.lvRs)[i] := by
  rw [bodies_lv]
  intro i hi
  have : i = 0 := by simp at hi; omega
  subst this
  show starless _ _ Gr.lvA.body
  have h1 : (tokF Gr.lvRs [66]).isSome = true := by rw [tok_lv]; rfl
  have h2 : (rulF Gr.lvRs [97]).isSome = true := by rw [rul_lv]; rfl
  simp [Gr.lvA, starless, starlessL, h1, h2, maxLen]
theorem chk2 : checkF (tokF Gr.lvRs) (rulF Gr.lvRs) (bodiesF Gr.lvRs) tT 0 [0, 0] = 0 := by
  rw [bodies_lv]
  have h1 := tok_lv
  have h2 := rul_lv
  generalize tokF Gr.lvRs = f at h1 ⊢
  generalize rulF Gr.lvRs = g at h2 ⊢
  simp [checkF, tT, tS, t0, t1, t2, partsT, partsL, badF, findF, partF, fitsB, ruleT, Gr.lvA, nodeE, seqE, altsE, stepE, withE, fitTok, fitRul, errT, kindT, h1, h2, leftB, leavesT, leafB, tokT]
  intro i hi
  have : i = 0 ∨ i = 1 := by omega
  rcases this with rfl | rfl <;> rfl
theorem chk1 : checkF (tokF Gr.lvRs) (rulF Gr.lvRs) (bodiesF Gr.lvRs) tT 0 [0] = 2 := by
  rw [bodies_lv]
  have h1 := tok_lv
  have h2 := rul_lv
  generalize tokF Gr.lvRs = f at h1 ⊢
  generalize rulF Gr.lvRs = g at h2 ⊢
  simp [checkF, tT, tS, t0, t1, t2, partsT, partsL, badF, findF, partF, fitsB, ruleT, Gr.lvA, nodeE, seqE, altsE, stepE, withE, fitTok, fitRul, errT, kindT, h1, h2]
theorem lv_nd : ∀ i, i < Gr.lvG.rules.length → (Gr.ndT (Gr.ruAt Gr.lvG.rules i).body).length ≤ 10000 := by
  intro i hi
  have h2 : Gr.lvG.rules.length = 2 := rfl
  have : i = 0 ∨ i = 1 := by omega
  rcases this with rfl | rfl <;> decide
theorem lv_sm : ∀ i, i < Gr.lvG.rules.length → Gr.smN (Gr.ruAt Gr.lvG.rules i).body := by
  intro i hi
  have h2 : Gr.lvG.rules.length = 2 := rfl
  have : i = 0 ∨ i = 1 := by omega
  rcases this with rfl | rfl <;> simp [Gr.lvG, Gr.lvRs, Gr.ruAt, Gr.lvA, Gr.lvB, Gr.smN, Gr.smNs]
theorem lv_nl : ∀ i, i < Gr.lvG.rules.length → (Gr.ruAt Gr.lvG.rules i).name.length ≤ maxLen := by
  intro i hi
  have h2 : Gr.lvG.rules.length = 2 := rfl
  have : i = 0 ∨ i = 1 := by omega
  rcases this with rfl | rfl <;> decide
theorem to_lv : toT tT 1 = some [1, 0] := by
  simp [toT, tT, tS, t0, t1, t2, partsT, partsL, leafB, ruleT, errT, tokT]
theorem all_lv : allT tT 0 = [[], [1], [1, 1]] := by
  simp [allT, tT, tS, t0, t1, t2, partsT, partsL, ruleT]
theorem lvs_lv : leavesT tT = [0, 1] := by
  simp [leavesT, tT, tS, t0, t1, t2, partsT, partsL, leafB, ruleT, errT, tokT]
end Tt
theorem up_of {W W' : World} {k : Nat} {o : Obj} (h : W.heap[k]? = some o) (hb : Below W.heap.size W W') : W'.heap[k]? = some o := (hb.block _ (heap_lt h)).trans h
theorem reads_blk {W : World} {b s n : Nat} {T : TypeId} {xs : List Value} (h : W.heap[b]? = some (.cells xs.toArray T (0, 0))) (hl : xs.length = n * s) : Reads W W.heap.size s (some ⟨b, 0, none⟩) n xs :=
  ⟨hl, fun _ => ⟨b, 0, rfl, heap_lt h, fun j u hu => by rw [Nat.zero_add, Lib.cell_of_heap h]; simpa using hu⟩⟩
theorem cell_at {W : World} {b : Nat} {cs : Array Value} {T : TypeId} (h : W.heap[b]? = some (.cells cs T (0, 0))) (j : Nat) (v : Value) (hv : cs[j]? = some v) : W.cell? ⟨b, j, none⟩ = some v := by rw [Lib.cell_of_heap h]; exact hv
theorem lv_mem {W : World} {b1 b3 b4 b8 b9 : Nat} (h1 : W.heap[b1]? = some (.cells #[.int .u8 6, .string ⟨#[66]⟩, .string ⟨#[]⟩, .slice none 0 0, .slice none 0 0, .int .u8 5, .string ⟨#[97]⟩, .string ⟨#[]⟩, .slice none 0 0, .slice none 0 0] 74 (0, 0))) (h3 : W.heap[b3]? = some (.cells #[.int .u8 1, .string ⟨#[]⟩, .string ⟨#[]⟩, .slice none 0 0, .slice (some ⟨b1, 0, none⟩) 2 2, .int .u8 1, .string ⟨#[]⟩, .string ⟨#[]⟩, .slice none 0 0, .slice none 0 0] 74 (0, 0))) (h4 : W.heap[b4]? = some (.cells #[.string ⟨#[97]⟩, .int .u8 0, .int .u8 0, .string ⟨#[]⟩, .string ⟨#[]⟩, .slice none 0 0, .slice (some ⟨b3, 0, none⟩) 2 2, .int .i64 0, .int .i64 0, .int .i64 0, .string ⟨#[66]⟩, .int .u8 1, .int .u8 8, .string ⟨#[]⟩, .string ⟨#[98]⟩, .slice none 0 0, .slice none 0 0, .int .i64 0, .int .i64 0, .int .i64 0] 80 (0, 0))) (h8 : W.heap[b8]? = some (.cells #[.int .i64 (-1), .int .i64 1, .int .i64 0, .bool false, .slice none 0 0, .int .i64 0, .int .i64 0, .int .i64 0, .bool false, .slice none 0 0] 24 (0, 0))) (h9 : W.heap[b9]? = some (.cells #[.int .i64 (-1), .int .i64 0, .int .i64 0, .bool false, .slice none 0 0, .int .i64 0, .int .i64 0, .int .i64 0, .bool false, .slice (some ⟨b8, 0, none⟩) 2 2] 24 (0, 0))) :
    RsAt W W.heap.size (some ⟨b4, 0, none⟩) Gr.lvRs ∧ TrR W W.heap.size Tt.tT [.int .i64 0, .int .i64 0, .int .i64 0, .bool false, .slice (some ⟨b9, 0, none⟩) 2 2] := by
  have e1 := reads_blk (s := 5) (n := 2) h1 rfl
  have e3 := reads_blk (s := 5) (n := 2) h3 rfl
  have e4 := reads_blk (s := 10) (n := 2) h4 rfl
  have e8 := reads_blk (s := 5) (n := 2) h8 rfl
  have e9 := reads_blk (s := 5) (n := 2) h9 rfl
  have rnil : ∀ s, Reads W W.heap.size s none 0 [] := fun s => ⟨by simp, fun e => absurd e (Nat.lt_irrefl _)⟩
  refine ⟨⟨⟨_, e4, rfl, fun i hi => ?_⟩, fun r hr => ?_, by decide⟩, ?_⟩
  · have : i = 0 ∨ i = 1 := by simp [Gr.lvRs] at hi; omega
    rcases this with rfl | rfl
    · refine ⟨[.int .u8 0, .string ⟨#[]⟩, .string ⟨#[]⟩, .slice none 0 0, .slice (some ⟨b3, 0, none⟩) 2 2], 0, 0, 0, rfl, ?_⟩
      show NdR W W.heap.size Gr.lvA.body _
      unfold Gr.lvA
      dsimp only
      simp only [NdR, NdsR]
      refine ⟨none, 0, _, _, _, rfl, rnil 2, e3, ⟨[.int .u8 1, .string ⟨#[]⟩, .string ⟨#[]⟩, .slice none 0 0, .slice (some ⟨b1, 0, none⟩) 2 2], [.int .u8 1, .string ⟨#[]⟩, .string ⟨#[]⟩, .slice none 0 0, .slice none 0 0], rfl, ⟨none, 0, _, _, _, rfl, rnil 2, e1, ⟨[.int .u8 6, .string ⟨#[66]⟩, .string ⟨#[]⟩, .slice none 0 0, .slice none 0 0], [.int .u8 5, .string ⟨#[97]⟩, .string ⟨#[]⟩, .slice none 0 0, .slice none 0 0], rfl, ⟨none, 0, none, 0, [], rfl, rnil 2, rnil 5, rfl, by decide⟩, ⟨_, [], rfl, ⟨none, 0, none, 0, [], rfl, rnil 2, rnil 5, rfl, by decide⟩, rfl⟩⟩, by decide⟩, ⟨_, [], rfl, ⟨none, 0, none, 0, [], rfl, rnil 2, rnil 5, rfl, by decide⟩, rfl⟩⟩, by decide⟩
    · refine ⟨[.int .u8 8, .string ⟨#[]⟩, .string ⟨#[98]⟩, .slice none 0 0, .slice none 0 0], 0, 0, 0, rfl, ?_⟩
      show NdR W W.heap.size Gr.lvB.body _
      unfold Gr.lvB
      dsimp only
      simp only [NdR, NdsR]
      exact ⟨none, 0, none, 0, [], rfl, rnil 2, rnil 5, rfl, by decide⟩
  · have : r = Gr.lvA ∨ r = Gr.lvB := by simpa [Gr.lvRs] using hr
    rcases this with rfl | rfl <;> simp [Gr.okR, Gr.lvA, Gr.lvB, Gr.okN, Gr.okNs, Gr.bytesMax]
  · simp only [Tt.tT, Tt.tS, Tt.t0, Tt.t1, Tt.t2, TrR, TrsR]
    exact ⟨_, _, _, rfl, e9, ⟨[.int .i64 (-1), .int .i64 0, .int .i64 0, .bool false, .slice none 0 0], [.int .i64 0, .int .i64 0, .int .i64 0, .bool false, .slice (some ⟨b8, 0, none⟩) 2 2], rfl, ⟨none, 0, [], rfl, rnil 5, rfl⟩, ⟨_, [], rfl, ⟨_, _, _, rfl, e8, ⟨[.int .i64 (-1), .int .i64 1, .int .i64 0, .bool false, .slice none 0 0], [.int .i64 0, .int .i64 0, .int .i64 0, .bool false, .slice none 0 0], rfl, ⟨none, 0, [], rfl, rnil 5, rfl⟩, ⟨_, [], rfl, ⟨none, 0, [], rfl, rnil 5, rfl⟩, rfl⟩⟩⟩, rfl⟩⟩⟩
set_option maxHeartbeats 32000000 in
theorem livesTt_any (w : World) (hT : UT w.heap.size w) : Calls Tryz.prog 10 #[] w fun e w' => e = .returned (.bool true) ∧ Below w.heap.size w w' := by
  have HT := hid hT
  clear hT
  go_enter Tryz.func10, Tryz.ntmps10
  go_upto_region 2 with fail
  have g0 := heap_alloc_new w (.cells #[.int .u8 6, .string ⟨#[66]⟩, .string ⟨#[]⟩, .slice none 0 0, .slice none 0 0] 74)
  have hb : Below w.heap.size w (w.alloc (.cells #[.int .u8 6, .string ⟨#[66]⟩, .string ⟨#[]⟩, .slice none 0 0, .slice none 0 0] 74)) := below_new w (.cells #[.int .u8 6, .string ⟨#[66]⟩, .string ⟨#[]⟩, .slice none 0 0, .slice none 0 0] 74)
  have w1b := hb
  generalize (w.alloc (.cells #[.int .u8 6, .string ⟨#[66]⟩, .string ⟨#[]⟩, .slice none 0 0, .slice none 0 0] 74)) = w1 at hb w1b g0 ⊢
  clear hb
  have c0 := cell_at g0 0 _ rfl
  have c1 := cell_at g0 1 _ rfl
  have c2 := cell_at g0 2 _ rfl
  have c3 := cell_at g0 3 _ rfl
  have c4 := cell_at g0 4 _ rfl
  go_upto_region 3 with fail
  clear c0 c1 c2 c3 c4
  have g1 := heap_alloc_new w1 (.cells #[.int .u8 6, .string ⟨#[66]⟩, .string ⟨#[]⟩, .slice none 0 0, .slice none 0 0, .int .u8 5, .string ⟨#[97]⟩, .string ⟨#[]⟩, .slice none 0 0, .slice none 0 0] 74)
  have g2 := heap_alloc_new (w1.alloc (.cells #[.int .u8 6, .string ⟨#[66]⟩, .string ⟨#[]⟩, .slice none 0 0, .slice none 0 0, .int .u8 5, .string ⟨#[97]⟩, .string ⟨#[]⟩, .slice none 0 0, .slice none 0 0] 74)) (.cells #[.int .u8 1, .string ⟨#[]⟩, .string ⟨#[]⟩, .slice none 0 0, .slice (some ⟨w1.heap.size, 0, none⟩) 2 2] 74)
  simp only [World.size_alloc] at g1 g2
  have hb : Below w1.heap.size w1 ((w1.alloc (.cells #[.int .u8 6, .string ⟨#[66]⟩, .string ⟨#[]⟩, .slice none 0 0, .slice none 0 0, .int .u8 5, .string ⟨#[97]⟩, .string ⟨#[]⟩, .slice none 0 0, .slice none 0 0] 74)).alloc (.cells #[.int .u8 1, .string ⟨#[]⟩, .string ⟨#[]⟩, .slice none 0 0, .slice (some ⟨w1.heap.size, 0, none⟩) 2 2] 74)) := ((below_new w1 (.cells #[.int .u8 6, .string ⟨#[66]⟩, .string ⟨#[]⟩, .slice none 0 0, .slice none 0 0, .int .u8 5, .string ⟨#[97]⟩, .string ⟨#[]⟩, .slice none 0 0, .slice none 0 0] 74)).trans ((below_new (w1.alloc (.cells #[.int .u8 6, .string ⟨#[66]⟩, .string ⟨#[]⟩, .slice none 0 0, .slice none 0 0, .int .u8 5, .string ⟨#[97]⟩, .string ⟨#[]⟩, .slice none 0 0, .slice none 0 0] 74)) (.cells #[.int .u8 1, .string ⟨#[]⟩, .string ⟨#[]⟩, .slice none 0 0, .slice (some ⟨w1.heap.size, 0, none⟩) 2 2] 74)).mono (by simp only [World.size_alloc]; omega)))
  have g1 := up_of g1 (below_new (w1.alloc (.cells #[.int .u8 6, .string ⟨#[66]⟩, .string ⟨#[]⟩, .slice none 0 0, .slice none 0 0, .int .u8 5, .string ⟨#[97]⟩, .string ⟨#[]⟩, .slice none 0 0, .slice none 0 0] 74)) (.cells #[.int .u8 1, .string ⟨#[]⟩, .string ⟨#[]⟩, .slice none 0 0, .slice (some ⟨w1.heap.size, 0, none⟩) 2 2] 74))
  have g0 := up_of g0 hb
  have w2b := w1b.trans (hb.mono w1b.size)
  generalize ((w1.alloc (.cells #[.int .u8 6, .string ⟨#[66]⟩, .string ⟨#[]⟩, .slice none 0 0, .slice none 0 0, .int .u8 5, .string ⟨#[97]⟩, .string ⟨#[]⟩, .slice none 0 0, .slice none 0 0] 74)).alloc (.cells #[.int .u8 1, .string ⟨#[]⟩, .string ⟨#[]⟩, .slice none 0 0, .slice (some ⟨w1.heap.size, 0, none⟩) 2 2] 74)) = w2 at hb w2b g0 g1 g2 ⊢
  clear hb w1b
  have c0 := cell_at g2 0 _ rfl
  have c1 := cell_at g2 1 _ rfl
  have c2 := cell_at g2 2 _ rfl
  have c3 := cell_at g2 3 _ rfl
  have c4 := cell_at g2 4 _ rfl
  go_upto_region 4 with fail
  clear c0 c1 c2 c3 c4
  have g3 := heap_alloc_new w2 (.cells #[.int .u8 1, .string ⟨#[]⟩, .string ⟨#[]⟩, .slice none 0 0, .slice (some ⟨w1.heap.size, 0, none⟩) 2 2, .int .u8 1, .string ⟨#[]⟩, .string ⟨#[]⟩, .slice none 0 0, .slice none 0 0] 74)
  have g4 := heap_alloc_new (w2.alloc (.cells #[.int .u8 1, .string ⟨#[]⟩, .string ⟨#[]⟩, .slice none 0 0, .slice (some ⟨w1.heap.size, 0, none⟩) 2 2, .int .u8 1, .string ⟨#[]⟩, .string ⟨#[]⟩, .slice none 0 0, .slice none 0 0] 74)) (.cells #[.string ⟨#[97]⟩, .int .u8 0, .int .u8 0, .string ⟨#[]⟩, .string ⟨#[]⟩, .slice none 0 0, .slice (some ⟨w2.heap.size, 0, none⟩) 2 2, .int .i64 0, .int .i64 0, .int .i64 0, .string ⟨#[66]⟩, .int .u8 1, .int .u8 8, .string ⟨#[]⟩, .string ⟨#[98]⟩, .slice none 0 0, .slice none 0 0, .int .i64 0, .int .i64 0, .int .i64 0] 80)
  have g5 := heap_alloc_new ((w2.alloc (.cells #[.int .u8 1, .string ⟨#[]⟩, .string ⟨#[]⟩, .slice none 0 0, .slice (some ⟨w1.heap.size, 0, none⟩) 2 2, .int .u8 1, .string ⟨#[]⟩, .string ⟨#[]⟩, .slice none 0 0, .slice none 0 0] 74)).alloc (.cells #[.string ⟨#[97]⟩, .int .u8 0, .int .u8 0, .string ⟨#[]⟩, .string ⟨#[]⟩, .slice none 0 0, .slice (some ⟨w2.heap.size, 0, none⟩) 2 2, .int .i64 0, .int .i64 0, .int .i64 0, .string ⟨#[66]⟩, .int .u8 1, .int .u8 8, .string ⟨#[]⟩, .string ⟨#[98]⟩, .slice none 0 0, .slice none 0 0, .int .i64 0, .int .i64 0, .int .i64 0] 80)) (.cells #[.string ⟨#[71]⟩, .int .i64 1, .int .i64 9, .slice (some ⟨w2.heap.size + 1, 0, none⟩) 2 2] 56)
  simp only [World.size_alloc] at g3 g4 g5
  have hb : Below w2.heap.size w2 (((w2.alloc (.cells #[.int .u8 1, .string ⟨#[]⟩, .string ⟨#[]⟩, .slice none 0 0, .slice (some ⟨w1.heap.size, 0, none⟩) 2 2, .int .u8 1, .string ⟨#[]⟩, .string ⟨#[]⟩, .slice none 0 0, .slice none 0 0] 74)).alloc (.cells #[.string ⟨#[97]⟩, .int .u8 0, .int .u8 0, .string ⟨#[]⟩, .string ⟨#[]⟩, .slice none 0 0, .slice (some ⟨w2.heap.size, 0, none⟩) 2 2, .int .i64 0, .int .i64 0, .int .i64 0, .string ⟨#[66]⟩, .int .u8 1, .int .u8 8, .string ⟨#[]⟩, .string ⟨#[98]⟩, .slice none 0 0, .slice none 0 0, .int .i64 0, .int .i64 0, .int .i64 0] 80)).alloc (.cells #[.string ⟨#[71]⟩, .int .i64 1, .int .i64 9, .slice (some ⟨w2.heap.size + 1, 0, none⟩) 2 2] 56)) := ((((below_new w2 (.cells #[.int .u8 1, .string ⟨#[]⟩, .string ⟨#[]⟩, .slice none 0 0, .slice (some ⟨w1.heap.size, 0, none⟩) 2 2, .int .u8 1, .string ⟨#[]⟩, .string ⟨#[]⟩, .slice none 0 0, .slice none 0 0] 74)).trans ((below_new (w2.alloc (.cells #[.int .u8 1, .string ⟨#[]⟩, .string ⟨#[]⟩, .slice none 0 0, .slice (some ⟨w1.heap.size, 0, none⟩) 2 2, .int .u8 1, .string ⟨#[]⟩, .string ⟨#[]⟩, .slice none 0 0, .slice none 0 0] 74)) (.cells #[.string ⟨#[97]⟩, .int .u8 0, .int .u8 0, .string ⟨#[]⟩, .string ⟨#[]⟩, .slice none 0 0, .slice (some ⟨w2.heap.size, 0, none⟩) 2 2, .int .i64 0, .int .i64 0, .int .i64 0, .string ⟨#[66]⟩, .int .u8 1, .int .u8 8, .string ⟨#[]⟩, .string ⟨#[98]⟩, .slice none 0 0, .slice none 0 0, .int .i64 0, .int .i64 0, .int .i64 0] 80)).mono (by simp only [World.size_alloc]; omega)))).trans ((below_new ((w2.alloc (.cells #[.int .u8 1, .string ⟨#[]⟩, .string ⟨#[]⟩, .slice none 0 0, .slice (some ⟨w1.heap.size, 0, none⟩) 2 2, .int .u8 1, .string ⟨#[]⟩, .string ⟨#[]⟩, .slice none 0 0, .slice none 0 0] 74)).alloc (.cells #[.string ⟨#[97]⟩, .int .u8 0, .int .u8 0, .string ⟨#[]⟩, .string ⟨#[]⟩, .slice none 0 0, .slice (some ⟨w2.heap.size, 0, none⟩) 2 2, .int .i64 0, .int .i64 0, .int .i64 0, .string ⟨#[66]⟩, .int .u8 1, .int .u8 8, .string ⟨#[]⟩, .string ⟨#[98]⟩, .slice none 0 0, .slice none 0 0, .int .i64 0, .int .i64 0, .int .i64 0] 80)) (.cells #[.string ⟨#[71]⟩, .int .i64 1, .int .i64 9, .slice (some ⟨w2.heap.size + 1, 0, none⟩) 2 2] 56)).mono (by simp only [World.size_alloc]; omega)))
  have g3 := up_of g3 (((below_new (w2.alloc (.cells #[.int .u8 1, .string ⟨#[]⟩, .string ⟨#[]⟩, .slice none 0 0, .slice (some ⟨w1.heap.size, 0, none⟩) 2 2, .int .u8 1, .string ⟨#[]⟩, .string ⟨#[]⟩, .slice none 0 0, .slice none 0 0] 74)) (.cells #[.string ⟨#[97]⟩, .int .u8 0, .int .u8 0, .string ⟨#[]⟩, .string ⟨#[]⟩, .slice none 0 0, .slice (some ⟨w2.heap.size, 0, none⟩) 2 2, .int .i64 0, .int .i64 0, .int .i64 0, .string ⟨#[66]⟩, .int .u8 1, .int .u8 8, .string ⟨#[]⟩, .string ⟨#[98]⟩, .slice none 0 0, .slice none 0 0, .int .i64 0, .int .i64 0, .int .i64 0] 80)).trans ((below_new ((w2.alloc (.cells #[.int .u8 1, .string ⟨#[]⟩, .string ⟨#[]⟩, .slice none 0 0, .slice (some ⟨w1.heap.size, 0, none⟩) 2 2, .int .u8 1, .string ⟨#[]⟩, .string ⟨#[]⟩, .slice none 0 0, .slice none 0 0] 74)).alloc (.cells #[.string ⟨#[97]⟩, .int .u8 0, .int .u8 0, .string ⟨#[]⟩, .string ⟨#[]⟩, .slice none 0 0, .slice (some ⟨w2.heap.size, 0, none⟩) 2 2, .int .i64 0, .int .i64 0, .int .i64 0, .string ⟨#[66]⟩, .int .u8 1, .int .u8 8, .string ⟨#[]⟩, .string ⟨#[98]⟩, .slice none 0 0, .slice none 0 0, .int .i64 0, .int .i64 0, .int .i64 0] 80)) (.cells #[.string ⟨#[71]⟩, .int .i64 1, .int .i64 9, .slice (some ⟨w2.heap.size + 1, 0, none⟩) 2 2] 56)).mono (by simp only [World.size_alloc]; omega))))
  have g4 := up_of g4 (below_new ((w2.alloc (.cells #[.int .u8 1, .string ⟨#[]⟩, .string ⟨#[]⟩, .slice none 0 0, .slice (some ⟨w1.heap.size, 0, none⟩) 2 2, .int .u8 1, .string ⟨#[]⟩, .string ⟨#[]⟩, .slice none 0 0, .slice none 0 0] 74)).alloc (.cells #[.string ⟨#[97]⟩, .int .u8 0, .int .u8 0, .string ⟨#[]⟩, .string ⟨#[]⟩, .slice none 0 0, .slice (some ⟨w2.heap.size, 0, none⟩) 2 2, .int .i64 0, .int .i64 0, .int .i64 0, .string ⟨#[66]⟩, .int .u8 1, .int .u8 8, .string ⟨#[]⟩, .string ⟨#[98]⟩, .slice none 0 0, .slice none 0 0, .int .i64 0, .int .i64 0, .int .i64 0] 80)) (.cells #[.string ⟨#[71]⟩, .int .i64 1, .int .i64 9, .slice (some ⟨w2.heap.size + 1, 0, none⟩) 2 2] 56))
  have g0 := up_of g0 hb
  have g1 := up_of g1 hb
  have g2 := up_of g2 hb
  have w3b := w2b.trans (hb.mono w2b.size)
  generalize (((w2.alloc (.cells #[.int .u8 1, .string ⟨#[]⟩, .string ⟨#[]⟩, .slice none 0 0, .slice (some ⟨w1.heap.size, 0, none⟩) 2 2, .int .u8 1, .string ⟨#[]⟩, .string ⟨#[]⟩, .slice none 0 0, .slice none 0 0] 74)).alloc (.cells #[.string ⟨#[97]⟩, .int .u8 0, .int .u8 0, .string ⟨#[]⟩, .string ⟨#[]⟩, .slice none 0 0, .slice (some ⟨w2.heap.size, 0, none⟩) 2 2, .int .i64 0, .int .i64 0, .int .i64 0, .string ⟨#[66]⟩, .int .u8 1, .int .u8 8, .string ⟨#[]⟩, .string ⟨#[98]⟩, .slice none 0 0, .slice none 0 0, .int .i64 0, .int .i64 0, .int .i64 0] 80)).alloc (.cells #[.string ⟨#[71]⟩, .int .i64 1, .int .i64 9, .slice (some ⟨w2.heap.size + 1, 0, none⟩) 2 2] 56)) = w3 at hb w3b g0 g1 g2 g3 g4 g5 ⊢
  clear hb w2b
  go_upto_region 5 with fail
  have g6 := heap_alloc_new w3 (.cells #[.int .i64 (-1), .int .i64 0, .int .i64 0, .bool false, .slice none 0 0] 24)
  have hb : Below w3.heap.size w3 (w3.alloc (.cells #[.int .i64 (-1), .int .i64 0, .int .i64 0, .bool false, .slice none 0 0] 24)) := below_new w3 (.cells #[.int .i64 (-1), .int .i64 0, .int .i64 0, .bool false, .slice none 0 0] 24)
  have g0 := up_of g0 hb
  have g1 := up_of g1 hb
  have g2 := up_of g2 hb
  have g3 := up_of g3 hb
  have g4 := up_of g4 hb
  have g5 := up_of g5 hb
  have w4b := w3b.trans (hb.mono w3b.size)
  generalize (w3.alloc (.cells #[.int .i64 (-1), .int .i64 0, .int .i64 0, .bool false, .slice none 0 0] 24)) = w4 at hb w4b g0 g1 g2 g3 g4 g5 g6 ⊢
  clear hb w3b
  go_upto_region 6 with fail
  have g7 := heap_alloc_new w4 (.cells #[.int .i64 (-1), .int .i64 1, .int .i64 0, .bool false, .slice none 0 0] 24)
  have hb : Below w4.heap.size w4 (w4.alloc (.cells #[.int .i64 (-1), .int .i64 1, .int .i64 0, .bool false, .slice none 0 0] 24)) := below_new w4 (.cells #[.int .i64 (-1), .int .i64 1, .int .i64 0, .bool false, .slice none 0 0] 24)
  have g0 := up_of g0 hb
  have g1 := up_of g1 hb
  have g2 := up_of g2 hb
  have g3 := up_of g3 hb
  have g4 := up_of g4 hb
  have g5 := up_of g5 hb
  have g6 := up_of g6 hb
  have w5b := w4b.trans (hb.mono w4b.size)
  generalize (w4.alloc (.cells #[.int .i64 (-1), .int .i64 1, .int .i64 0, .bool false, .slice none 0 0] 24)) = w5 at hb w5b g0 g1 g2 g3 g4 g5 g6 g7 ⊢
  clear hb w4b
  have c0 := cell_at g6 0 _ rfl
  have c1 := cell_at g6 1 _ rfl
  have c2 := cell_at g6 2 _ rfl
  have c3 := cell_at g6 3 _ rfl
  have c4 := cell_at g6 4 _ rfl
  have d0 := cell_at g7 0 _ rfl
  have d1 := cell_at g7 1 _ rfl
  have d2 := cell_at g7 2 _ rfl
  have d3 := cell_at g7 3 _ rfl
  have d4 := cell_at g7 4 _ rfl
  go_upto_region 7 with fail
  clear c0 c1 c2 c3 c4
  clear d0 d1 d2 d3 d4
  have g8 := heap_alloc_new w5 (.cells #[.int .i64 (-1), .int .i64 1, .int .i64 0, .bool false, .slice none 0 0, .int .i64 0, .int .i64 0, .int .i64 0, .bool false, .slice none 0 0] 24)
  have g9 := heap_alloc_new (w5.alloc (.cells #[.int .i64 (-1), .int .i64 1, .int .i64 0, .bool false, .slice none 0 0, .int .i64 0, .int .i64 0, .int .i64 0, .bool false, .slice none 0 0] 24)) (.cells #[.int .i64 (-1), .int .i64 0, .int .i64 0, .bool false, .slice none 0 0, .int .i64 0, .int .i64 0, .int .i64 0, .bool false, .slice (some ⟨w5.heap.size, 0, none⟩) 2 2] 24)
  have g10 := heap_alloc_new ((w5.alloc (.cells #[.int .i64 (-1), .int .i64 1, .int .i64 0, .bool false, .slice none 0 0, .int .i64 0, .int .i64 0, .int .i64 0, .bool false, .slice none 0 0] 24)).alloc (.cells #[.int .i64 (-1), .int .i64 0, .int .i64 0, .bool false, .slice none 0 0, .int .i64 0, .int .i64 0, .int .i64 0, .bool false, .slice (some ⟨w5.heap.size, 0, none⟩) 2 2] 24)) (.cells #[.int .i64 0, .int .i64 0, .int .i64 0, .bool false, .slice (some ⟨w5.heap.size + 1, 0, none⟩) 2 2] 24)
  simp only [World.size_alloc] at g8 g9 g10
  have hb : Below w5.heap.size w5 (((w5.alloc (.cells #[.int .i64 (-1), .int .i64 1, .int .i64 0, .bool false, .slice none 0 0, .int .i64 0, .int .i64 0, .int .i64 0, .bool false, .slice none 0 0] 24)).alloc (.cells #[.int .i64 (-1), .int .i64 0, .int .i64 0, .bool false, .slice none 0 0, .int .i64 0, .int .i64 0, .int .i64 0, .bool false, .slice (some ⟨w5.heap.size, 0, none⟩) 2 2] 24)).alloc (.cells #[.int .i64 0, .int .i64 0, .int .i64 0, .bool false, .slice (some ⟨w5.heap.size + 1, 0, none⟩) 2 2] 24)) := ((((below_new w5 (.cells #[.int .i64 (-1), .int .i64 1, .int .i64 0, .bool false, .slice none 0 0, .int .i64 0, .int .i64 0, .int .i64 0, .bool false, .slice none 0 0] 24)).trans ((below_new (w5.alloc (.cells #[.int .i64 (-1), .int .i64 1, .int .i64 0, .bool false, .slice none 0 0, .int .i64 0, .int .i64 0, .int .i64 0, .bool false, .slice none 0 0] 24)) (.cells #[.int .i64 (-1), .int .i64 0, .int .i64 0, .bool false, .slice none 0 0, .int .i64 0, .int .i64 0, .int .i64 0, .bool false, .slice (some ⟨w5.heap.size, 0, none⟩) 2 2] 24)).mono (by simp only [World.size_alloc]; omega)))).trans ((below_new ((w5.alloc (.cells #[.int .i64 (-1), .int .i64 1, .int .i64 0, .bool false, .slice none 0 0, .int .i64 0, .int .i64 0, .int .i64 0, .bool false, .slice none 0 0] 24)).alloc (.cells #[.int .i64 (-1), .int .i64 0, .int .i64 0, .bool false, .slice none 0 0, .int .i64 0, .int .i64 0, .int .i64 0, .bool false, .slice (some ⟨w5.heap.size, 0, none⟩) 2 2] 24)) (.cells #[.int .i64 0, .int .i64 0, .int .i64 0, .bool false, .slice (some ⟨w5.heap.size + 1, 0, none⟩) 2 2] 24)).mono (by simp only [World.size_alloc]; omega)))
  have g8 := up_of g8 (((below_new (w5.alloc (.cells #[.int .i64 (-1), .int .i64 1, .int .i64 0, .bool false, .slice none 0 0, .int .i64 0, .int .i64 0, .int .i64 0, .bool false, .slice none 0 0] 24)) (.cells #[.int .i64 (-1), .int .i64 0, .int .i64 0, .bool false, .slice none 0 0, .int .i64 0, .int .i64 0, .int .i64 0, .bool false, .slice (some ⟨w5.heap.size, 0, none⟩) 2 2] 24)).trans ((below_new ((w5.alloc (.cells #[.int .i64 (-1), .int .i64 1, .int .i64 0, .bool false, .slice none 0 0, .int .i64 0, .int .i64 0, .int .i64 0, .bool false, .slice none 0 0] 24)).alloc (.cells #[.int .i64 (-1), .int .i64 0, .int .i64 0, .bool false, .slice none 0 0, .int .i64 0, .int .i64 0, .int .i64 0, .bool false, .slice (some ⟨w5.heap.size, 0, none⟩) 2 2] 24)) (.cells #[.int .i64 0, .int .i64 0, .int .i64 0, .bool false, .slice (some ⟨w5.heap.size + 1, 0, none⟩) 2 2] 24)).mono (by simp only [World.size_alloc]; omega))))
  have g9 := up_of g9 (below_new ((w5.alloc (.cells #[.int .i64 (-1), .int .i64 1, .int .i64 0, .bool false, .slice none 0 0, .int .i64 0, .int .i64 0, .int .i64 0, .bool false, .slice none 0 0] 24)).alloc (.cells #[.int .i64 (-1), .int .i64 0, .int .i64 0, .bool false, .slice none 0 0, .int .i64 0, .int .i64 0, .int .i64 0, .bool false, .slice (some ⟨w5.heap.size, 0, none⟩) 2 2] 24)) (.cells #[.int .i64 0, .int .i64 0, .int .i64 0, .bool false, .slice (some ⟨w5.heap.size + 1, 0, none⟩) 2 2] 24))
  have g0 := up_of g0 hb
  have g1 := up_of g1 hb
  have g2 := up_of g2 hb
  have g3 := up_of g3 hb
  have g4 := up_of g4 hb
  have g5 := up_of g5 hb
  have g6 := up_of g6 hb
  have g7 := up_of g7 hb
  have w6b := w5b.trans (hb.mono w5b.size)
  generalize (((w5.alloc (.cells #[.int .i64 (-1), .int .i64 1, .int .i64 0, .bool false, .slice none 0 0, .int .i64 0, .int .i64 0, .int .i64 0, .bool false, .slice none 0 0] 24)).alloc (.cells #[.int .i64 (-1), .int .i64 0, .int .i64 0, .bool false, .slice none 0 0, .int .i64 0, .int .i64 0, .int .i64 0, .bool false, .slice (some ⟨w5.heap.size, 0, none⟩) 2 2] 24)).alloc (.cells #[.int .i64 0, .int .i64 0, .int .i64 0, .bool false, .slice (some ⟨w5.heap.size + 1, 0, none⟩) 2 2] 24)) = w6 at hb w6b g0 g1 g2 g3 g4 g5 g6 g7 g8 g9 g10 ⊢
  clear hb w5b
  have hmem := lv_mem g1 g3 g4 g8 g9
  have HTR := hid hmem.2
  have hnew : Calls Tryz.prog 43 #[.agg #[.string ⟨#[71]⟩, .int .i64 1, .int .i64 9, .slice (some ⟨w2.heap.size + 1, 0, none⟩) 2 2]] w6 (NewP Gr.lvRs w6) :=
    newC_any (w0 := w6) (B := w6.heap.size) Gr.lvG (some ⟨w2.heap.size + 1, 0, none⟩) 2 w6 hmem.1 (by decide) (Below.refl _ _) (Nat.le_refl _) (HT.out.next w6b) (by decide) Tt.lv_nd Tt.lv_sm Tt.lv_nl Gr.lv_sound Gr.lv_fine
  have HNEW := hid hnew
  have G10 := hid g10
  have HW6 := hid w6b
  have c0 := cell_at g5 0 _ rfl
  have c1 := cell_at g5 1 _ rfl
  have c2 := cell_at g5 2 _ rfl
  have c3 := cell_at g5 3 _ rfl
  clear hnew hmem g0 g1 g2 g3 g4 g5 g6 g7 g8 g9 g10 w6b
  go_upto_region 8 with (go_at_call 43; refine HNEW.out.mono ?_; rintro _ w7 ⟨cb, br, bt, BA, bc, xb, rfl, hck, hb7⟩; have HCK := hid hck; have HB7 := hid hb7; clear hck hb7 HNEW c0 c1 c2 c3)
  have g7 := up_of G10.out HB7.out
  have c0 := cell_at g7 0 _ rfl
  have c1 := cell_at g7 1 _ rfl
  have c2 := cell_at g7 2 _ rfl
  have c3 := cell_at g7 3 _ rfl
  have c4 := cell_at g7 4 _ rfl
  have hz2 := heap_alloc_new w7 (.cells #[.int .i64 0, .int .i64 0] 3)
  have hbz := below_new w7 (.cells #[.int .i64 0, .int .i64 0] 3)
  have hch := check_any_tree (w0 := w7.alloc (.cells #[.int .i64 0, .int .i64 0] 3)) (HCK.out.next hbz) Tt.starless_lv Tt.tT _ 0 [0, 0] (some ⟨w7.heap.size, 0, none⟩) 2 (w7.alloc (.cells #[.int .i64 0, .int .i64 0] 3)) (TrR.keep (HB7.out.trans (hbz.mono HB7.out.size)) (Nat.le_trans HB7.out.size hbz.size) _ _ HTR.out) Tt.ok_tT Tt.sz_tT (reads_blk (s := 1) (n := 2) (xs := [.int .i64 0, .int .i64 0]) hz2 rfl) (Below.refl _ _)
  rw [Tt.chk2] at hch
  have HCH := hid hch
  have HBZ := hid hbz
  clear hch hbz hz2 g7
  go_upto_region 9 with (go_at_call 11; refine HCH.out.mono ?_; rintro _ w8 ⟨⟨A8, rfl, _⟩, hb8⟩; have HB8 := hid (HB7.out.trans ((HBZ.out.trans (hb8.mono HBZ.out.size)).mono HB7.out.size)); have HK8 := hid ((HCK.out.next HBZ.out).next hb8); clear hb8 HCH HBZ HB7 HCK c0 c1 c2 c3 c4)
  have gK := up_of G10.out HB8.out
  have c0 := cell_at gK 0 _ rfl
  have c1 := cell_at gK 1 _ rfl
  have c2 := cell_at gK 2 _ rfl
  have c3 := cell_at gK 3 _ rfl
  have c4 := cell_at gK 4 _ rfl
  have hz2 := heap_alloc_new w8 (.cells #[.int .i64 0] 3)
  have hbz := below_new w8 (.cells #[.int .i64 0] 3)
  have hch := check_any_tree (w0 := w8.alloc (.cells #[.int .i64 0] 3)) (HK8.out.next hbz) Tt.starless_lv Tt.tT _ 0 [0] (some ⟨w8.heap.size, 0, none⟩) 1 (w8.alloc (.cells #[.int .i64 0] 3)) (TrR.keep (HB8.out.trans (hbz.mono HB8.out.size)) (Nat.le_trans HB8.out.size hbz.size) _ _ HTR.out) Tt.ok_tT Tt.sz_tT (reads_blk (s := 1) (n := 1) (xs := [.int .i64 0]) hz2 rfl) (Below.refl _ _)
  rw [Tt.chk1] at hch
  have HCH := hid hch
  have HBZ := hid hbz
  clear hch hbz hz2 gK
  go_upto_region 10 with (go_at_call 11; refine HCH.out.mono ?_; rintro _ w9 ⟨⟨A9, rfl, _⟩, hb9⟩; have HB9 := hid (HB8.out.trans ((HBZ.out.trans (hb9.mono HBZ.out.size)).mono HB8.out.size)); clear hb9 HCH HBZ HB8 HK8 c0 c1 c2 c3 c4)
  have gK := up_of G10.out HB9.out
  have c0 := cell_at gK 0 _ rfl
  have c1 := cell_at gK 1 _ rfl
  have c2 := cell_at gK 2 _ rfl
  have c3 := cell_at gK 3 _ rfl
  have c4 := cell_at gK 4 _ rfl
  have hto := to_any (w0 := w6) (B := w6.heap.size) Tt.tT _ 1 w9 HTR.out Tt.ok_tT Tt.sz_tT HB9.out HB9.out.size
  unfold ToP at hto
  rw [Tt.to_lv] at hto
  have HTO := hid hto
  clear hto gK
  go_upto_region 11 with (go_at_call 13; refine HTO.out.mono ?_; rintro _ w10 ⟨⟨A10, ok10, rfl, rfl, hr10⟩, hb10⟩; have HR10 := hid hr10.reads; have HB10 := hid hb10; clear hr10 hb10 HTO c0 c1 c2 c3 c4)
  have hb610 := HB9.out.trans (HB10.out.mono HB9.out.size)
  have gK := up_of G10.out hb610
  have c0 := cell_at gK 0 _ rfl
  have c1 := cell_at gK 1 _ rfl
  have c2 := cell_at gK 2 _ rfl
  have c3 := cell_at gK 3 _ rfl
  have c4 := cell_at gK 4 _ rfl
  have hal := all_any (w0 := w6) (B := w6.heap.size) Tt.tT _ 0 w10 HTR.out Tt.ok_tT Tt.sz_tT hb610 hb610.size
  rw [Tt.all_lv] at hal
  have HAL := hid hal
  have H610 := hid hb610
  clear hal gK hb610
  go_upto_region 12 with (go_at_call 15; refine HAL.out.mono ?_; rintro _ w11 ⟨⟨A11, vs11, rfl, hr11, hw11⟩, hb11⟩; have HR11 := hid hr11.reads; have HW11 := hid hw11; have HB11 := hid hb11; clear hr11 hw11 hb11 HAL c0 c1 c2 c3 c4)
  obtain ⟨A0, _, hv0, _⟩ := HW11.out.at 0 (by decide)
  obtain ⟨A2, cA2, hv2, hown2⟩ := HW11.out.at 2 (by decide)
  have hv0 : vs11[0]? = some (.slice A0 0 0) := hv0
  have hv2 : vs11[2]? = some (.slice A2 2 2) := hv2
  have hrd2 : Reads w11 w11.heap.size 1 A2 2 (([1, 1] : List Int).map (Value.int .i64)) := (RO.of_own0 (S := fun _ => False) hown2 (fun _ e => e.elim)).reads
  obtain ⟨b11, o11, hA11, hb11l, hc11⟩ := HR11.out.2 (by decide)
  have a0 := hc11 0 _ hv0
  have a2 := hc11 2 _ hv2
  rw [Nat.add_zero] at a0
  have HRD2 := hid hrd2
  have HA0 := hid (fun (u : World) (hu : Below w11.heap.size w11 u) => (show u.cell? ⟨b11, o11, none⟩ = some (.slice A0 0 0) ∧ u.cell? ⟨b11, o11 + 2, none⟩ = some (.slice A2 2 2) from ⟨(hu.cell (p := ⟨b11, o11, none⟩) hb11l).trans a0, (hu.cell (p := ⟨b11, o11 + 2, none⟩) hb11l).trans a2⟩))
  subst hA11
  clear hv0 hv2 hown2 hrd2 hb11l hc11 a0 a2
  have hz1 := heap_alloc_new w11 (.cells #[.int .i64 1, .int .i64 0] 3)
  have hbz1 := below_new w11 (.cells #[.int .i64 1, .int .i64 0] 3)
  have hsm1 := sameZ_eq A10 (some ⟨w11.heap.size, 0, none⟩) 2 2 [1, 0] (w11.alloc (.cells #[.int .i64 1, .int .i64 0] 3)) (by decide) (reads_next (reads_next HR10.out HB11.out) hbz1) (reads_blk (s := 1) (n := 2) (xs := [.int .i64 1, .int .i64 0]) hz1 rfl)
  have HSM1 := hid hsm1
  have HBZ1 := hid hbz1
  clear hz1 hbz1 hsm1
  go_wp2_with fail
  refine HSM1.out.mono ?_
  rintro _ w12 ⟨rfl, hb12⟩
  have HB12 := hid (HBZ1.out.trans (hb12.mono HBZ1.out.size))
  have e0 := (HA0.out w12 HB12.out).1
  have e2 := (HA0.out w12 HB12.out).2
  have hz2 := heap_alloc_new w12 (.cells #[.int .i64 1, .int .i64 1] 3)
  have hbz2 := below_new w12 (.cells #[.int .i64 1, .int .i64 1] 3)
  have hsm2 := sameZ_eq A2 (some ⟨w12.heap.size, 0, none⟩) 2 2 [1, 1] (w12.alloc (.cells #[.int .i64 1, .int .i64 1] 3)) (by decide) (reads_next (reads_next HRD2.out HB12.out) hbz2) (reads_blk (s := 1) (n := 2) (xs := [.int .i64 1, .int .i64 1]) hz2 rfl)
  have HSM2 := hid hsm2
  have HBZ2 := hid hbz2
  clear hz2 hbz2 hsm2
  have e0' := fun ob => (HA0.out (w12.alloc ob) (HB12.out.trans ((below_new w12 ob).mono HB12.out.size))).1
  have e2' := fun ob => (HA0.out (w12.alloc ob) (HB12.out.trans ((below_new w12 ob).mono HB12.out.size))).2
  clear hb12 HSM1
  go_wp2_with fail
  refine HSM2.out.mono ?_
  rintro _ w13 ⟨rfl, hb13⟩
  have HB13 := hid (HB12.out.trans ((HBZ2.out.trans (hb13.mono HBZ2.out.size)).mono HB12.out.size))
  have hb613 := H610.out.trans ((HB11.out.trans (HB13.out.mono HB11.out.size)).mono H610.out.size)
  have gK := up_of G10.out hb613
  have c0 := cell_at gK 0 _ rfl
  have c1 := cell_at gK 1 _ rfl
  have c2 := cell_at gK 2 _ rfl
  have c3 := cell_at gK 3 _ rfl
  have c4 := cell_at gK 4 _ rfl
  have hlv := leaves_any (w0 := w6) (B := w6.heap.size) Tt.tT _ w13 HTR.out Tt.ok_tT Tt.sz_tT hb613 hb613.size
  rw [Tt.lvs_lv] at hlv
  have HLV := hid hlv
  have HB613 := hid hb613
  clear hlv gK hb613 hb13 HSM2 e0 e2 e0' e2'
  go_wp2_with fail
  refine HLV.out.mono ?_
  rintro _ w14 ⟨A14, rfl, hr14, hb14⟩
  have HR14 := hid hr14.reads
  have HB14 := hid (HB613.out.trans (hb14.mono HB613.out.size))
  clear hr14 hb14 HLV c0 c1 c2 c3 c4
  have hz3 := heap_alloc_new w14 (.cells #[.int .i64 0, .int .i64 1] 3)
  have hbz3 := below_new w14 (.cells #[.int .i64 0, .int .i64 1] 3)
  have hsm3 := sameZ_eq A14 (some ⟨w14.heap.size, 0, none⟩) 2 2 [0, 1] (w14.alloc (.cells #[.int .i64 0, .int .i64 1] 3)) (by decide) (reads_next HR14.out hbz3) (reads_blk (s := 1) (n := 2) (xs := [.int .i64 0, .int .i64 1]) hz3 rfl)
  have HSM3 := hid hsm3
  have HBZ3 := hid hbz3
  clear hz3 hbz3 hsm3
  go_wp2_with fail
  refine HSM3.out.mono ?_
  rintro _ w15 ⟨rfl, hb15⟩
  have HB15 := hid (HB14.out.trans ((HBZ3.out.trans (hb15.mono HBZ3.out.size)).mono HB14.out.size))
  clear hb15 HSM3
  go_wp2_with fail
  go_ret
  exact ⟨rfl, HW6.out.trans (HB15.out.mono HW6.out.size)⟩
end Go.Proofs.YtpbnfinmjnpkpaaGreatDoor
/-
  harbingerlaw29.TreesVoid: the walk. A checker that was never made answers TrKind and no way, for all trees.
-/
namespace Go.Proofs.YtpbnfinmjnpkpaaGreatDoor
open Go.RowKit Go.Maps Go.Sort
set_option maxRecDepth 100000
set_option maxHeartbeats 8000000 in
theorem voidT_any (t : Rp.Tr) (cs : List Value) (A : Option Addr) (n c : Nat) (N : Int) (w : World) (hok : Rp.okT t) (hT : TrR w w.heap.size t cs) (hU : UT w.heap.size w) :
    Calls Tryz.prog 3 #[.agg cs.toArray, .agg #[.slice A n c, .int .i64 N]] w fun e w' => e = .returned (.bool true) ∧ Below w.heap.size w w' := by
  obtain ⟨r, tk, k, e, TA, tn, tc, rfl⟩ := hT.form
  have g0 := heap_alloc_new w (.cells #[.int .i64 r, .int .i64 tk, .int .i64 k, .bool e, .slice TA tn tc] 24)
  have g1 := heap_alloc_new (w.alloc (.cells #[.int .i64 r, .int .i64 tk, .int .i64 k, .bool e, .slice TA tn tc] 24)) (.cells #[.slice A n c, .int .i64 N] 27)
  have b0 := below_new w (.cells #[.int .i64 r, .int .i64 tk, .int .i64 k, .bool e, .slice TA tn tc] 24)
  have b1 := below_new (w.alloc (.cells #[.int .i64 r, .int .i64 tk, .int .i64 k, .bool e, .slice TA tn tc] 24)) (.cells #[.slice A n c, .int .i64 N] 27)
  simp only [World.size_alloc] at g1
  have g0 := up_of g0 b1
  have hb2 := b0.trans (b1.mono b0.size)
  obtain ⟨W2, hW2⟩ : ∃ W2, Hid ((w.alloc (.cells #[.int .i64 r, .int .i64 tk, .int .i64 k, .bool e, .slice TA tn tc] 24)).alloc (.cells #[.slice A n c, .int .i64 N] 27) = W2) := ⟨_, hid rfl⟩
  rw [hW2.out] at g0 g1 hb2
  have HG := hid (great_any t _ W2 hok hT hb2 hb2.size)
  have HU := hid hU
  have c0 := cell_at g0 0 _ rfl
  have c1 := cell_at g0 1 _ rfl
  have c2 := cell_at g0 2 _ rfl
  have c3 := cell_at g0 3 _ rfl
  have c4 := cell_at g0 4 _ rfl
  have HG0 := hid g0
  have HG1 := hid g1
  have HB2 := hid hb2
  obtain ⟨gr, hgr⟩ : ∃ g, Tt.great t = g := ⟨_, rfl⟩
  rw [hgr] at HG
  clear g0 g1 b0 b1 hb2 hU hok hT hgr
  go_enter Tryz.func3, Tryz.ntmps3
  go_upto_region 1 with fail
  rw [hW2.out]
  clear hW2
  go_wp2_with fail
  refine HG.out.mono ?_
  rintro _ W3 ⟨rfl, hb3⟩
  have g0 := up_of HG0.out hb3
  have g1 := up_of HG1.out hb3
  have h3 := HB2.out.trans (hb3.mono HB2.out.size)
  clear HG c0 c1 c2 c3 c4 HG0 HG1 HB2 hb3
  cases gr with
  | true =>
    have HL := hid (livesTt_any W3 (HU.out.next h3))
    have H3 := hid h3
    clear h3 g0 g1
    go_wp2_with fail
    refine HL.out.mono ?_
    rintro _ W4 ⟨rfl, hb4⟩
    have H4 := hid (H3.out.trans (hb4.mono H3.out.size))
    clear hb4
    go_wp2_with fail
    go_ret
    exact ⟨rfl, H4.out⟩
  | false =>
    have g2 := heap_alloc_new W3 (.cells #[.map none, .map none, .slice none 0 0] 33)
    have g3 := heap_alloc_new (W3.alloc (.cells #[.map none, .map none, .slice none 0 0] 33)) (.cells #[.pointer none, .pointer (some ⟨W3.heap.size, 0, none⟩)] 34)
    have b2 := below_new W3 (.cells #[.map none, .map none, .slice none 0 0] 33)
    have b3 := below_new (W3.alloc (.cells #[.map none, .map none, .slice none 0 0] 33)) (.cells #[.pointer none, .pointer (some ⟨W3.heap.size, 0, none⟩)] 34)
    simp only [World.size_alloc] at g3
    have g2 := up_of g2 b3
    have hb5 := b2.trans (b3.mono b2.size)
    obtain ⟨W5, hW5⟩ : ∃ W5, Hid ((W3.alloc (.cells #[.map none, .map none, .slice none 0 0] 33)).alloc (.cells #[.pointer none, .pointer (some ⟨W3.heap.size, 0, none⟩)] 34) = W5) := ⟨_, hid rfl⟩
    rw [hW5.out] at g2 g3 hb5
    have HG0 := hid (up_of g0 hb5)
    have HG1 := hid (up_of g1 hb5)
    have HG2 := hid g2
    have HG3 := hid g3
    have HB5 := hid (h3.trans (hb5.mono h3.size))
    clear g0 g1 g2 g3 b2 b3 h3 hb5
    go_upto_region 5 with fail
    rw [hW5.out]
    clear hW5
    go_wp2_with fail
    go_loopw [7, 8, 9] (fun iv _ _ wr => ∃ (i : Nat), i ≤ 2 ∧ iv = .int .i64 (i : Int) ∧ Hid (Below W5.heap.size W5 wr)) (fun iv _ _ _ => 2 - (intOf iv).toNat)
    case atStart => exact ⟨0, Nat.zero_le _, rfl, hid (Below.refl _ _)⟩
    case round =>
      obtain ⟨i, hi, rfl, HBR⟩ := hrel
      by_cases hlt : i < 2
      · have hltI : (i : Int) < 2 := by omega
        have hwi : IntKind.i64.wrap ((i : Int) + 1) = (i : Int) + 1 := w64 (by omega) (by omega)
        have g0 := up_of HG0.out HBR.out
        have g1 := up_of HG1.out HBR.out
        have g2 := up_of HG2.out HBR.out
        have g3 := up_of HG3.out HBR.out
        obtain ⟨pv, hpv, hcl⟩ : ∃ pv, wr.cell? ⟨W3.heap.size + 1, i, none⟩ = some pv ∧ ∀ d os, Calls Tryz.prog 11 #[pv, .agg #[.int .i64 r, .int .i64 tk, .int .i64 k, .bool e, .slice TA tn tc], .int .i64 N, .slice A n c] (grow (redrawn wr d) os) fun e w'' => e = .returned (.tuple #[.int .u8 1, .slice none 0 0]) ∧ ∃ p : Regrown, w'' = grow (redrawn wr p.d) p.os := by
          rcases (show i = 0 ∨ i = 1 by omega) with rfl | rfl
          · exact ⟨_, cell_at g3 0 _ rfl, fun d os => Calls.regrown_of (checkNil_any _ _ _ _ _ _ _ _ _ _)⟩
          · exact ⟨_, cell_at g3 1 _ rfl, fun d os => Calls.regrown_of (checkNone_any _ _ _ _ _ _ _ _ _ _ _ (up_of g2 (below_regrown wr d os)))⟩
        have HCL := hid hcl
        have q0 := fun d os => cell_regrown (cell_at g0 0 _ rfl) d os
        have q1 := fun d os => cell_regrown (cell_at g0 1 _ rfl) d os
        have q2 := fun d os => cell_regrown (cell_at g0 2 _ rfl) d os
        have q3 := fun d os => cell_regrown (cell_at g0 3 _ rfl) d os
        have q4 := fun d os => cell_regrown (cell_at g0 4 _ rfl) d os
        have p0 := fun d os => cell_regrown (cell_at g1 0 _ rfl) d os
        have p1 := fun d os => cell_regrown (cell_at g1 1 _ rfl) d os
        have s0 := fun d os => cell_regrown hpv d os
        clear g0 g1 g2 g3 hpv hcl HG0 HG1 HG2 HG3
        go_upto_region 8 with fail
        refine wp_region_quiet_below (by kernel_rfl) (by kernel_rfl) ?_
        refine Boxd.out ?_
        repeat (refine wpQuiet_step4 (fun K hK => ?_); go_simp; (first | (refine hK _ ?_; clear hK K) | (apply Exists.intro; refine ⟨fun _ => ?_, hK _ ?_⟩; (with_reducible exact HCL.out _ _); clear hK K)))
        refine ⟨wpQuiet_nil ?_⟩
        rintro _ ⟨⟨dq, osq⟩, rfl⟩
        have hb6 := below_regrown wr dq osq
        clear q0 q1 q2 q3 q4 p0 p1 s0 HCL
        generalize grow (redrawn wr dq) osq = W6 at hb6 ⊢
        have HB6 := hid (HBR.out.trans (hb6.mono HBR.out.size))
        clear hb6
        go_wp2_with fail
        go_roundw
        case rel => exact ⟨i + 1, hlt, by go_num, HB6⟩
        case measure => simp only [intOf]; omega
      · have hie : i = 2 := by omega
        subst hie
        have HB6 := hid (HB5.out.trans (HBR.out.mono HB5.out.size))
        have HL := hid (livesTt_any wr (HU.out.next HB6.out))
        clear HG0 HG1 HG2 HG3
        go_wp2_with fail
        refine HL.out.mono ?_
        rintro _ W7 ⟨rfl, hb7⟩
        have H7 := hid (HB6.out.trans (hb7.mono HB6.out.size))
        clear hb7
        go_wp2_with fail
        go_ret
        exact ⟨rfl, H7.out⟩
end Go.Proofs.YtpbnfinmjnpkpaaGreatDoor
/-
  harbingerlaw29.TreesVoid returns true for all trees and asks, and leaves them as they were. No condition; the tables that its code may read are tied to the program's text (a tied card).
-/
namespace Go.Proofs.YtpbnfinmjnpkpaaGreatDoor
open Go.ChangeShapes Go.WideShapes Go.ChangeAt Go.RowKit Go.Deep
open Go.Lib (VarReads)
set_option maxRecDepth 100000
theorem ut_of {W : World} (h : laidMetH Tryz.prog Rows.treesVoidRow.laid W) : UT W.heap.size W := by
  rw [MakeChecks.laidMetH_plain _ _ _ (by kernel_rfl)] at h
  have r3 : VarReads Tryz.prog W "unicode/utf8.acceptRanges" Lib.acceptData := by
    have e : (Lib.acceptData : DataW Unit) = Rows.laid_unicode_utf8_acceptRanges := by kernel_rfl
    rw [e]; exact Lib.laidMet.reads h (.head _)
  have r5 : VarReads Tryz.prog W "unicode/utf8.first" Lib.firstData := by
    have e : (Lib.firstData : DataW Unit) = Rows.laid_unicode_utf8_first := by kernel_rfl
    rw [e]; exact Lib.laidMet.reads h (.tail _ (.head _))
  have hu := utf8Tabs_of_reads Tryz.lays260 ⟨by kernel_rfl, by kernel_rfl, by kernel_rfl, by kernel_rfl, by kernel_rfl, by kernel_rfl, by kernel_rfl⟩ r5 r3
  exact ⟨hu, World.block_lt_of_cell? W ⟨1, 0, none⟩ (hu.1 0 (by decide)), World.block_lt_of_cell? W ⟨2, 0, none⟩ (hu.2 0 (by decide)).1⟩
theorem open_ask {H : Type} {enc : TypeId × Value → H} {W : World} {spare : Nat → Bool} {held : Bool} {fuel : Nat} {cs : List Value} {x : DataW H × List MemPlace} (hcl : cs.length = 2)
    (ht : DataW.trod enc Tryz.prog W 0 spare held fuel 27 cs = some x) (hfit : Fits x.1 27) : ∃ (A : Option Addr) (n c : Nat) (N : Int), cs = [.slice A n c, .int .i64 N] := by
  obtain ⟨ys, n', hn', hy, hlen, hyl, hf⟩ := DataW.trod_struct Tryz.underlying27 ht
  match cs, hcl with
  | [u0, u1], _ =>
    have hyl4 : ys.length = 2 := hyl
    subst hy
    have h0 := hf 0 _ rfl
    change DataW.trod enc Tryz.prog W 0 spare held n' 25 (([u0, u1].drop 0).take (Tryz.prog.cellsOf 25)) = _ at h0
    rw [show Tryz.prog.cellsOf 25 = 1 by kernel_rfl] at h0
    change DataW.trod enc Tryz.prog W 0 spare held n' 25 [u0] = _ at h0
    have q0 : ys[0]? = some (ys[0]'(by omega)) := List.getElem?_eq_getElem _
    have f0 : Fits (ys[0]'(by omega)).1 25 := Fits.struct Tryz.underlying27 hfit 0 _ _ rfl (by rw [List.getElem?_map, q0]; rfl)
    have h1 := hf 1 _ rfl
    change DataW.trod enc Tryz.prog W 0 spare held n' 3 (([u0, u1].drop 1).take (Tryz.prog.cellsOf 3)) = _ at h1
    rw [show Tryz.prog.cellsOf 3 = 1 by kernel_rfl] at h1
    change DataW.trod enc Tryz.prog W 0 spare held n' 3 [u1] = _ at h1
    have q1 : ys[1]? = some (ys[1]'(by omega)) := List.getElem?_eq_getElem _
    obtain ⟨l, A, cap, e0, _⟩ := open_Z (h0.trans q0) f0
    obtain ⟨N, e1, _⟩ := open_i64 3 Tryz.underlying3 (h1.trans q1)
    injection e0 with e0 _
    injection e1 with e1 _
    subst e0 e1
    exact ⟨_, _, _, _, rfl⟩
theorem ownT : ownKnob Tryz.prog.godebug = none := by kernel_rfl
theorem laidOutT : laidOutB Tryz.prog = true := by kernel_rfl
theorem liftedT (os : Os) (started : os.Started) (H : Type) (enc : TypeId × Value → H) :
    ReturnsInHanded {} Tryz.checked os 3 .any (fun w args => (Rows.treesVoidSpec.pre enc Tryz.prog Tryz.f3 [] false w args ∧ laidMetH Tryz.prog Rows.treesVoidRow.laid w) ∧ sizedMet enc Tryz.prog Tryz.f3 (OpenSpec.ofChange Rows.treesVoidSpec) false w args)
      (Rows.treesVoidSpec.post enc Tryz.prog Tryz.f3 false true false false) := by
  refine returnsInHanded_of_change_and (C := Tryz.checked) (X := fun w _ => laidMetH Tryz.prog Rows.treesVoidRow.laid w) (fun _ _ _ hh h => h.of_heap hh) ownT started (by kernel_rfl) Tryz.func3
    (ChangeSpec.witness_shaped (enc := enc) (C := Tryz.checked) (os := os) (X := fun w _ => laidMetH Tryz.prog Rows.treesVoidRow.laid w) false (World.laidAll Tryz.prog os Rows.treesVoidRow.laid) #[.agg #[.int .i64 0, .int .i64 0, .int .i64 0, .bool false, .slice none 0 0], .agg #[.slice none 0 0, .int .i64 0]] 8 (World.laidAll_os _ _ _) (World.shaped_of_ZipB (by kernel_rfl) (by kernel_rfl)) (by kernel_rfl) (by kernel_rfl) (by kernel_rfl)
      (by rw [MakeChecks.laidMetH_plain _ _ _ (by kernel_rfl)]; exact laidMet_laidAll _ (by kernel_rfl) (by kernel_rfl))) ?_
  intro W base args ds gs before hval0 hW hcnd hsz hL _
  have hval : ∀ (j : Nat) t v, Tryz.f3.params[j]? = some t → args[j]? = some v → Value.okWide Tryz.prog W .any base t v := hval0
  have hsz0 : (DataW.weightsEach Tryz.prog (Tryz.f3.params.toList ++ Rows.treesVoidSpec.plain.varTypes Tryz.prog) (ds ++ gs)).all (· ≤ reachBytes) = true := hsz
  have hW' := hW
  obtain ⟨p, q, hA0, hV, rfl, hfz, hnd⟩ := hW
  have hA : DataW.TrodAll enc Tryz.prog W 0 (fun _ => true) true Tryz.f3.params.toList args.toList ds p := hA0
  rw [Tryz.params3] at hA hval hsz0
  obtain ⟨v0, v1, d0, d1, p0, p1, rfl, rfl, rfl, h0, h1⟩ := trodAll_two hA
  obtain ⟨rfl, rfl⟩ := trodVars_none hV
  have k0 := h0
  have k1 := h1
  have lt0 : ∀ x ∈ p0, x.block < W.heap.size := by obtain ⟨m, hm⟩ := k0; exact DataW.trod_lt m _ _ _ hm
  have lt1 : ∀ x ∈ p1, x.block < W.heap.size := by obtain ⟨m, hm⟩ := k1; exact DataW.trod_lt m _ _ _ hm
  have fit0 : Fits d0 24 := fits_of_each hsz0 (j := 0) rfl rfl
  have fit1 : Fits d1 27 := fits_of_each hsz0 (j := 1) rfl rfl
  obtain ⟨c0, rfl, hc0⟩ := okWide_struct Tryz.underlying24 (hval 0 24 v0 rfl rfl)
  obtain ⟨c1, rfl, hc1⟩ := okWide_struct Tryz.underlying27 (hval 1 27 v1 rfl rfl)
  obtain ⟨n0, g0⟩ := h0
  obtain ⟨n1, g1⟩ := h1
  obtain ⟨T, hok, hT⟩ := open_Tr n0 c0.toList (d0, p0) (by rw [Array.length_toList]; exact hc0.trans (by kernel_rfl)) g0 fit0
  obtain ⟨A, n, c, N, e1⟩ := open_ask (cs := c1.toList) (x := (d1, p1)) (by rw [Array.length_toList]; exact hc1.trans (by kernel_rfl)) g1 fit1
  obtain rfl : c1 = #[.slice A n c, .int .i64 N] := by cases c1; exact congrArg Array.mk e1
  clear hA0 hval0
  have hv := voidT_any T c0.toList A n c N W hok hT (ut_of hL)
  rw [Array.toArray_toList] at hv
  refine hv.mono fun e' W' ⟨he, bel⟩ => ?_
  subst he
  exact ⟨_, rfl, _, _, _, [], _, [], hW', trodAll_mk1 (shut_bool Tryz.underlying4 _), (trodAll_cons_mk (Below.trod laidOutT (by kernel_rfl) (of_decide_eq_true (by kernel_rfl)) k0 bel lt0) (trodAll_cons_mk (Below.trod laidOutT (by kernel_rfl) (of_decide_eq_true (by kernel_rfl)) k1 bel lt1) trodAll_mk0)), rfl, bel.frame _, fun h => by cases h⟩
theorem void_holds : Rows.TreesVoidSaid :=
  OpenClaim.holds_of_wide 3 Tryz.f3 rfl rfl rfl rfl rfl rfl rfl ⟨rfl, rfl, rfl, rfl, rfl⟩ rfl rfl rfl rfl rfl (by kernel_rfl) Tryz.func3 (by kernel_rfl)
    (of_decide_eq_true (by kernel_rfl)) (by unfold Func.isWrapper; first | (rw [if_pos (by decide +kernel)]; kernel_rfl) | (rw [if_neg (by decide +kernel)]; exact ⟨rfl, rfl⟩))
    (fun os started H enc _ => liftedT os started H enc)
/-- the statement -/
theorem void_proved : Rows.TreesVoidCardSaid :=
  Claim7.holds_tied_plain_at .later [] [.data, .pinned] true (true, "08b9a10a077bf5d5fc22049de8d2f9d7632b933475507d487da352ebd49c0ffd") true
    void_holds (fun _ h => by cases h) (by kernel_rfl) (fun _ h => by cases h) treesVoid_row_tie rfl ⟨rfl, rfl⟩ (by kernel_rfl) rfl
    (fun f fn hf hfn => by
      obtain rfl : f = 3 := Option.some.inj ((show Tryz.prog.funcNamed "harbinger/harbingerlaw29.TreesVoid" = some 3 by kernel_rfl).symm.trans hf) |>.symm
      obtain rfl : fn = Tryz.f3 := (Option.some.inj (Tryz.func3.symm.trans hfn)).symm
      exact ⟨by kernel_rfl, fun j t ht => by
        rw [Tryz.params3] at ht
        have hm : t ∈ [24, 27] := by simpa using Array.mem_of_getElem? ht
        have hall : ([24, 27].all fun u => !Tryz.prog.wantsStandIn u) = true := by kernel_rfl
        exact (show Tryz.prog.wantsStandIn t = false by simpa using List.all_eq_true.1 hall t hm)⟩)
    (by kernel_rfl)
end Go.Proofs.YtpbnfinmjnpkpaaGreatDoor
