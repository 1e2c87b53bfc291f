/-
  Configs: is there more than is gone through? a net (harbingerlaw14.Great): the walk. Printed by gen_cfog.py out of Grt2.
-/
import Derived.Deep.CutRange
import Derived.Test.YtnpcjbdolmmaeaaGreatDoorL05
import Derived.Test.YtnpcjbdolmmaeaaGreatDoorL06
import Derived.Test.YtnpcjbdolmmaeaaGreatDoorL17
import Derived.Test.YtnpcjbdolmmaeaaGreatDoorL18
namespace Go.Proofs.YtnpcjbdolmmaeaaGreatDoor
open Go.RowKit
set_option maxRecDepth 100000
namespace Cf
open Drv
def grC : List NSt → Int → Int
  | [], all => all
  | s :: r, all => if all ≤ 700 then grC r (all + s.edges.length + s.ends.length) else all
theorem grC_cons (s : NSt) (r : List NSt) (all : Int) : grC (s :: r) all = if all ≤ 700 then grC r (all + s.edges.length + s.ends.length) else all := rfl
def greatC (n : NNet) : Bool := decide (700 < grC n.states ((n.states.length : Int) + n.starts.length + n.stops.length + n.preds.length + n.decs.length))
theorem grC_ge : ∀ (l : List NSt) (all : Int), all ≤ grC l all
  | [], _ => Int.le_refl _
  | s :: r, all => by
    rw [grC_cons]
    split
    · have := grC_ge r (all + s.edges.length + s.ends.length)
      omega
    · exact Int.le_refl _
theorem grC_small : ∀ (l : List NSt) (all : Int), grC l all ≤ 700 → 0 ≤ all → ∀ s ∈ l, (s.edges.length : Int) ≤ 700 ∧ (s.ends.length : Int) ≤ 700
  | [], _, _, _, _, h => by cases h
  | s :: r, all, hg, h0, x, hx => by
    rw [grC_cons] at hg
    split at hg
    · have h1 := grC_ge r (all + s.edges.length + s.ends.length)
      rcases List.mem_cons.1 hx with rfl | hx
      · omega
      · exact grC_small r _ hg (by omega) x hx
    · omega
theorem greatC_small {n : NNet} (h : greatC n = false) : fewN n := by
  unfold greatC at h
  rw [decide_eq_false_iff_not] at h
  have h1 := grC_ge n.states ((n.states.length : Int) + n.starts.length + n.stops.length + n.preds.length + n.decs.length)
  refine ⟨by omega, by omega, by omega, by omega, by omega, fun s hs => ?_⟩
  have := grC_small n.states ((n.states.length : Int) + n.starts.length + n.stops.length + n.preds.length + n.decs.length) (by omega) (by omega) s hs
  omega
end Cf
def BoolP (b : Bool) (w : World) (e : Ending) (w' : World) : Prop := e = .returned (.bool b) ∧ Below w.heap.size w w'
set_option maxHeartbeats 3200000 in
theorem netGreat_any (w : World) (n : Drv.NNet) (SA TA UA QA DA : Option Addr) (sc tc uc qc dc : Nat) (h : NetR w w.heap.size SA TA UA QA DA n) (hS : n.states.length ≤ 100000000000000) (hT : n.starts.length ≤ 100000000000000) (hU : n.stops.length ≤ 100000000000000) (hQ : n.preds.length ≤ 100000000000000) (hD : n.decs.length ≤ 100000000000000)
    (hs : ∀ s ∈ n.states, s.edges.length ≤ 100000000000000 ∧ s.ends.length ≤ 100000000000000) :
    Calls Tryz.prog 6 #[netAgg SA TA UA QA DA sc tc uc qc dc n] w (BoolP (Cf.greatC n) w) := by
  have hG : Cf.greatC n = decide (700 < Cf.grC n.states ((n.states.length : Int) + n.starts.length + n.stops.length + n.preds.length + n.decs.length)) := rfl
  unfold netAgg
  obtain ⟨nS, hnS⟩ : ∃ m, n.states.length = m := ⟨_, rfl⟩
  obtain ⟨nT, hnT⟩ : ∃ m, n.starts.length = m := ⟨_, rfl⟩
  obtain ⟨nU, hnU⟩ : ∃ m, n.stops.length = m := ⟨_, rfl⟩
  obtain ⟨nQ, hnQ⟩ : ∃ m, n.preds.length = m := ⟨_, rfl⟩
  obtain ⟨nD, hnD⟩ : ∃ m, n.decs.length = m := ⟨_, rfl⟩
  rw [hnS, hnT, hnU, hnQ, hnD]
  rw [hnS, hnT, hnU, hnQ, hnD] at hG
  rw [hnS] at hS
  rw [hnT] at hT
  rw [hnU] at hU
  rw [hnQ] at hQ
  rw [hnD] at hD
  obtain ⟨w1, hw1⟩ : ∃ x, x = w.alloc (.cells #[.slice SA nS sc, .slice TA nT tc, .slice UA nU uc, .slice QA nQ qc, .slice DA nD dc] 25) := ⟨_, rfl⟩
  have b1 : Below w.heap.size w w1 := by rw [hw1]; exact below_new _ _
  have T1 : w1.heap[w.heap.size]? = some (.cells #[.slice SA nS sc, .slice TA nT tc, .slice UA nU uc, .slice QA nQ qc, .slice DA nD dc] 25 (0, 0)) := by rw [hw1]; exact heap_alloc_new _ _
  have c0 : w1.cell? ⟨w.heap.size, 0, none⟩ = some (.slice SA nS sc) := by rw [Lib.cell_of_heap T1]; rfl
  have c1 : w1.cell? ⟨w.heap.size, 1, none⟩ = some (.slice TA nT tc) := by rw [Lib.cell_of_heap T1]; rfl
  have c2 : w1.cell? ⟨w.heap.size, 2, none⟩ = some (.slice UA nU uc) := by rw [Lib.cell_of_heap T1]; rfl
  have c3 : w1.cell? ⟨w.heap.size, 3, none⟩ = some (.slice QA nQ qc) := by rw [Lib.cell_of_heap T1]; rfl
  have c4 : w1.cell? ⟨w.heap.size, 4, none⟩ = some (.slice DA nD dc) := by rw [Lib.cell_of_heap T1]; rfl
  have e0 : IntKind.i64.wrap ((nS : Int) + nT) = (nS : Int) + nT := w64 (by omega) (by omega)
  have e1 : IntKind.i64.wrap ((nS : Int) + nT + nU) = (nS : Int) + nT + nU := w64 (by omega) (by omega)
  have e2 : IntKind.i64.wrap ((nS : Int) + nT + nU + nQ) = (nS : Int) + nT + nU + nQ := w64 (by omega) (by omega)
  have e3 : IntKind.i64.wrap ((nS : Int) + nT + nU + nQ + nD) = (nS : Int) + nT + nU + nQ + nD := w64 (by omega) (by omega)
  have H1 := hid h.sts
  have HS := hid hs
  have HB1 := hid b1
  have HW1 := hid hw1.symm
  have hl1 := heap_lt T1
  have HN := hid hnS
  obtain ⟨a0, ha0⟩ : ∃ a0 : Int, (nS : Int) + nT + nU + nQ + nD = a0 := ⟨_, rfl⟩
  rw [ha0] at e3 hG
  have hb0 : 0 ≤ a0 ∧ a0 ≤ 500000000000000 := by omega
  have HG := hid hG
  have HA0 := hid ha0
  have START : Hid (Cf.grC n.states a0 = Cf.grC (n.states.drop 0) a0 ∧ 0 ≤ a0 ∧ a0 ≤ 900000000000000) := hid ⟨by rw [List.drop_zero], by omega, by omega⟩
  clear h b1 T1 hw1 hs hG hnS hnT hnU hnQ hnD ha0 hb0
  go_enter Tryz.func6, Tryz.ntmps6
  go_upto_region 1 with fail
  rw [HW1.out]
  clear HW1
  go_wp2_with fail
  clear c1 c2 c3 c4 e0 e1 e2 e3
  go_loopw [3, 4] (fun av i wr => ∃ (k : Nat) (all : Int), k ≤ nS ∧ av = .int .i64 all ∧ i = .int .i64 k ∧ Hid (Cf.grC n.states a0 = Cf.grC (n.states.drop k) all ∧ 0 ≤ all ∧ all ≤ 900000000000000) ∧ Hid (Below w1.heap.size w1 wr)) (fun _ i _ => nS - (intOf i).toNat)
  case atStart => exact ⟨0, a0, Nat.zero_le _, by rw [HA0.out], rfl, START, hid (Below.refl _ _)⟩
  case round =>
    clear START
    obtain ⟨k, all, hk, rfl, rfl, HK, HWR⟩ := hrel
    have c0 := (HWR.out.cell (p := ⟨w.heap.size, 0, none⟩) hl1).trans c0
    have HBW := hid (HB1.out.trans (HWR.out.mono HB1.out.size))
    have hE := HK.out.1
    by_cases hlt : k < nS
    · have hltI : (k : Int) < (nS : Int) := by omega
      have hka : k < n.states.length := by rw [HN.out]; exact hlt
      rw [List.drop_eq_getElem_cons hka] at hE
      by_cases hq : all ≤ 700
      · have hd : decide (all ≤ 700) = true := by rw [decide_eq_true_eq]; exact hq
        obtain ⟨b, off, EA, ec, XA, xc, rfl, hb, _, x1, x2, _, _⟩ := (H1.out.below HBW.out).at hka
        obtain ⟨s1, s2⟩ := HS.out _ (List.getElem_mem hka)
        rw [Cf.grC_cons, if_pos hq] at hE
        have h0 := HK.out.2.1
        generalize n.states[k] = s at x1 x2 s1 s2 hE
        obtain ⟨nX, hnX⟩ : ∃ m, s.ends.length = m := ⟨_, rfl⟩
        obtain ⟨nE, hnE⟩ : ∃ m, s.edges.length = m := ⟨_, rfl⟩
        rw [hnX] at x2 s2 hE
        rw [hnE] at x1 s1 hE
        have e1 : IntKind.i64.wrap (all + (nE : Int)) = all + nE := w64 (by omega) (by omega)
        have e2 : IntKind.i64.wrap (all + (nE : Int) + (nX : Int)) = all + nE + nX := w64 (by omega) (by omega)
        have HN2 : Hid (Cf.grC n.states a0 = Cf.grC (n.states.drop (k + 1)) (all + nE + nX) ∧ 0 ≤ all + (nE : Int) + nX ∧ all + (nE : Int) + nX ≤ 900000000000000) := hid ⟨hE, by omega, by omega⟩
        clear hE HK hnX hnE hq
        go_upto_region 5 with fail
        go_quiet (fail)
        have HW9 := hid (below_drewN HWR.out nq)
        clear x1 x2 c0
        generalize wr.drewN nq = w9 at HW9 ⊢
        go_wp2_with fail
        go_roundw
        case rel => exact ⟨k + 1, _, by omega, rfl, by go_num, HN2, HW9⟩
        case measure => simp [intOf]; omega
      · have hd : decide (all ≤ 700) = false := by rw [decide_eq_false_iff_not]; exact hq
        rw [Cf.grC_cons, if_neg hq] at hE
        have hd2 : decide (700 < all) = true := by rw [decide_eq_true_eq]; omega
        have HF : Hid (Cf.greatC n = decide (700 < all)) := hid (by rw [HG.out, hE])
        clear hE HK hq
        go_wp2_with fail
        go_ret
        exact ⟨by rw [HF.out, hd2]; rfl, HBW.out⟩
    · have hkn : nS = k := by omega
      subst hkn
      have hltI : ¬ (nS : Int) < (nS : Int) := by omega
      rw [List.drop_eq_nil_of_le (by rw [HN.out]; exact Nat.le_refl _)] at hE
      have hE : Cf.grC n.states a0 = all := hE
      have HF : Hid (Cf.greatC n = decide (700 < all)) := hid (by rw [HG.out, hE])
      clear hE HK
      go_wp2_with fail
      go_ret
      exact ⟨by rw [HF.out]; rfl, HBW.out⟩
end Go.Proofs.YtnpcjbdolmmaeaaGreatDoor
namespace Go.Proofs.YtnpcjbdolmmaeaaGreatDoor
open Go.RowKit Go.Maps
set_option maxRecDepth 100000
def OnP (w : World) (n : Drv.NNet) (TA UA QA DA : Option Addr) (tc uc qc dc : Nat) (e : Ending) (w' : World) : Prop :=
  ∃ A c, e = .returned (netAgg A TA UA QA DA c tc uc qc dc n) ∧ Below w.heap.size w w' ∧ NetRf w' w'.heap.size A TA UA QA DA n
def nCells (TA UA QA DA : Option Addr) (nT nU nQ nD tc uc qc dc : Nat) (v : Value) : Array Value := #[v, .slice TA nT tc, .slice UA nU uc, .slice QA nQ qc, .slice DA nD dc]
def OnI (w3 : World) (B b2 : Nat) (cs : Value → Array Value) (l : List Drv.NSt) (k : Nat) (wr : World) : Prop :=
  ∃ v vs, RowBox w3 b2 cs 38 97 3 k vs v wr ∧ ∀ i (h : i < l.length), i < k → StVfO wr (fun j => j < w3.heap.size ∨ v.ownBlock = some j) B vs i l[i]
theorem on_push {w3 wr wn : World} {B b2 k gn cn nE nX : Nat} {cs : Value → Array Value} {l : List Drv.NSt} {x : Drv.NSt} {v : Value} {vs : List Value} {XA EA : Option Addr} {xc ec : Nat} (h : RowBox w3 b2 cs 38 97 3 k vs v wr) (htb : b2 < w3.heap.size) (hBB : B ≤ b2)
    (hst : ∀ i (h : i < l.length), i < k → StVfO wr (fun j => j < w3.heap.size ∨ v.ownBlock = some j) B vs i l[i]) (hk : k < l.length) (hx : l[k] = x) (hE : x.edges.length = nE) (hX : x.ends.length = nX)
    (rE : RO wr (fun j => j < w3.heap.size ∨ v.ownBlock = some j) 3 EA nE (flat encEf x.edges)) (rX : Reads wr B 1 XA nX (x.ends.map (Value.int .i64)))
    (hown : wn.ownsRow w3.heap.size 97 3 (.slice (some ⟨gn, 0, none⟩) (k + 1) cn) (k + 1) (vs ++ [.int .i64 x.rule, .slice EA nE ec, .slice XA nX xc]))
    (hg : v.ownBlock = some gn ∨ wr.heap.size < gn) (ho : Only (fun j => v.ownBlock = some j) wr wn) (hc : ∀ v v', (cs v).setIfInBounds 0 v' = cs v') : OnI w3 B b2 cs l (k + 1) (wn.setCell ⟨b2, 0, none⟩ (.slice (some ⟨gn, 0, none⟩) (k + 1) cn)) := by
  have hK := h.keep (o := 0) (m := k + 1) (cn := cn) htb hg ho
  have h3 := h.only.size
  have hB : Below B wr (wn.setCell ⟨b2, 0, none⟩ (.slice (some ⟨gn, 0, none⟩) (k + 1) cn)) :=
    (ho.below' (B := B) (fun j e => by have := (World.ownsRow.lt h.own j e).1; omega) (by omega)).trans ((Only.of_set wn b2 0 _).below' (fun j e => by omega) (by have := ho.size; omega))
  refine ⟨_, _, h.push (o := 0) (by decide) hown ho (hc _ _), fun i hi hik => ?_⟩
  rcases Nat.lt_succ_iff_lt_or_eq.1 hik with h1 | rfl
  · exact (hst i hi h1).only hK.1 hK.2 hB _
  · have hvl : vs.length = i * 3 := h.own.1
    rw [hx]
    refine ⟨EA, ec, XA, xc, ?_, ?_, ?_, ?_, ?_⟩
    · rw [List.getElem?_append_right (by omega), hvl]; simp
    · rw [List.getElem?_append_right (by omega), hvl, hE, show i * 3 + 1 - i * 3 = 1 by omega]; rfl
    · rw [List.getElem?_append_right (by omega), hvl, hX, show i * 3 + 2 - i * 3 = 2 by omega]; rfl
    · rw [hE]; exact rE.only hK.1 hK.2
    · rw [hX]; exact rX.below hB
theorem infoRNS : (Tryz.prog.info? 97).map (fun i => (i.zero, i.size, i.bytes)) = some (some (.agg #[.int .i64 0, .slice none 0 0, .slice none 0 0]), 3, 56) := by kernel_rfl
theorem infoRNE : (Tryz.prog.info? 101).map (fun i => (i.zero, i.size, i.bytes)) = some (some (.agg #[.int .i64 0, .int .i64 0, .int .i64 0]), 3, 24) := by kernel_rfl
theorem infoRNP : (Tryz.prog.info? 38).map (·.size) = some 5 := by kernel_rfl
set_option maxHeartbeats 6400000 in
theorem netOther_any (w : World) (n : Drv.NNet) (SA TA UA QA DA : Option Addr) (sc tc uc qc dc : Nat) (h : NetR w w.heap.size SA TA UA QA DA n) (hs : NetS n) (hkd : ∀ s ∈ n.states, ∀ e ∈ s.edges, e.kind ≤ 255) :
    Calls Tryz.prog 10 #[netAgg SA TA UA QA DA sc tc uc qc dc n] w (OnP w n TA UA QA DA tc uc qc dc) := by
  obtain ⟨nS, hnS⟩ : ∃ m, n.states.length = m := ⟨_, rfl⟩
  obtain ⟨nT, hnT⟩ : ∃ m, n.starts.length = m := ⟨_, rfl⟩
  obtain ⟨nU, hnU⟩ : ∃ m, n.stops.length = m := ⟨_, rfl⟩
  obtain ⟨nQ, hnQ⟩ : ∃ m, n.preds.length = m := ⟨_, rfl⟩
  obtain ⟨nD, hnD⟩ : ∃ m, n.decs.length = m := ⟨_, rfl⟩
  have H := hid h
  have HS := hid hs
  have HKD := hid hkd
  have l1 := hs.states
  unfold netAgg
  rw [hnS, hnT, hnU, hnQ, hnD]
  rw [hnS] at l1
  have HNL := hid (And.intro hnS (And.intro hnT (And.intro hnU (And.intro hnQ hnD))))
  have HN := hid hnS
  clear h hs hkd hnS hnT hnU hnQ hnD
  obtain ⟨w1, hw1⟩ : ∃ w1, w1 = w.alloc (.cells #[.slice SA nS sc, .slice TA nT tc, .slice UA nU uc, .slice QA nQ qc, .slice DA nD dc] 25) := ⟨_, rfl⟩
  obtain ⟨w2, hw2⟩ : ∃ w2, w2 = w1.alloc (.cells #[.slice none 0 0, .slice none 0 0, .slice none 0 0, .slice none 0 0, .slice none 0 0] 38) := ⟨_, rfl⟩
  obtain ⟨w3, hw3⟩ : ∃ w3, w3 = w2.alloc (.cells #[.slice none 0 0, .slice TA nT tc, .slice UA nU uc, .slice QA nQ qc, .slice DA nD dc] 38) := ⟨_, rfl⟩
  have HW2 := hid (show (w.alloc (.cells #[.slice SA nS sc, .slice TA nT tc, .slice UA nU uc, .slice QA nQ qc, .slice DA nD dc] 25)).alloc (.cells #[.slice none 0 0, .slice none 0 0, .slice none 0 0, .slice none 0 0, .slice none 0 0] 38) = w2 by rw [hw2, hw1])
  have HW := hid (show w2.alloc (.cells #[.slice none 0 0, .slice TA nT tc, .slice UA nU uc, .slice QA nQ qc, .slice DA nD dc] 38) = w3 by rw [hw3])
  have z1 : w1.heap.size = w.heap.size + 1 := by rw [hw1]; simp
  have z2 : w2.heap.size = w.heap.size + 1 + 1 := by rw [hw2]; simp [z1]
  have z3 : w3.heap.size = w.heap.size + 1 + 1 + 1 := by rw [hw3]; simp [z2]
  have b1 : Below w.heap.size w w1 := by rw [hw1]; exact below_new _ _
  have b2 : Below w.heap.size w w2 := by rw [hw2]; exact b1.alloc (by omega) _
  have b3 : Below w.heap.size w w3 := by rw [hw3]; exact b2.alloc (by omega) _
  have T1a : w2.heap[w.heap.size]? = some (.cells #[.slice SA nS sc, .slice TA nT tc, .slice UA nU uc, .slice QA nQ qc, .slice DA nD dc] 25 (0, 0)) := by
    rw [hw2, Below.heap_alloc _ _ _ (by omega), hw1]; exact heap_alloc_new _ _
  have T1 : w3.heap[w.heap.size]? = some (.cells #[.slice SA nS sc, .slice TA nT tc, .slice UA nU uc, .slice QA nQ qc, .slice DA nD dc] 25 (0, 0)) := by
    rw [hw3, Below.heap_alloc _ _ _ (by omega)]; exact T1a
  have T2 : w3.heap[w.heap.size + 1]? = some (.cells #[.slice none 0 0, .slice none 0 0, .slice none 0 0, .slice none 0 0, .slice none 0 0] 38 (0, 0)) := by
    rw [hw3, Below.heap_alloc _ _ _ (by omega), hw2, ← z1]; exact heap_alloc_new _ _
  have T3 : w3.heap[w.heap.size + 1 + 1]? = some (.cells (nCells TA UA QA DA nT nU nQ nD tc uc qc dc (.slice none 0 0)) 38 (0, 0)) := by
    rw [hw3, ← z2]; exact heap_alloc_new _ _
  have HI0 : Hid (OnI w3 w.heap.size (w.heap.size + 1 + 1) (nCells TA UA QA DA nT nU nQ nD tc uc qc dc) n.states 0 w3) := hid ⟨_, _, RowBox.start T3, fun _ _ h => absurd h (Nat.not_lt_zero _)⟩
  have HB3 := hid b3
  have HT1 := hid T1
  have HT2 := hid T2
  obtain ⟨⟨m0, m1, m2, m3, m4⟩, mz⟩ := cells5z T1a
  clear hw1 hw2 hw3 b1 b2 b3 T1 T2 T3 z1 T1a
  go_enter Tryz.func10, Tryz.ntmps10
  go_upto_region 1 with fail
  rw [HW2.out]
  clear HW2
  go_upto_region 2 with fail
  try rw [z2]
  rw [HW.out]
  clear HW m0 m1 m2 m3 m4 mz z2
  go_wp2_with fail
  go_loopw [4] (fun i wr => ∃ k : Nat, k ≤ nS ∧ i = .int .i64 k ∧ Hid (OnI w3 w.heap.size (w.heap.size + 1 + 1) (nCells TA UA QA DA nT nU nQ nD tc uc qc dc) n.states k wr)) (fun i _ => nS - (intOf i).toNat)
  case atStart => exact ⟨0, by omega, by simp, HI0⟩
  case round =>
    clear HI0
    obtain ⟨k, hk, rfl, hH⟩ := hrel
    obtain ⟨v, vs, hR, hst⟩ := hH.out
    generalize hb2 : w.heap.size + 1 + 1 = b2 at hR hH ⊢
    have hb2l : b2 < w3.heap.size := by omega
    have c1 : wr.cell? ⟨w.heap.size, 0, none⟩ = some (.slice SA nS sc) := (hR.only.cell (b := w.heap.size) (o := 0) (by omega) (by omega)).trans (by rw [Lib.cell_of_heap HT1.out]; rfl)
    have hB : Below w.heap.size w wr := hR.only.below (fun j e => by omega) HB3.out (by omega)
    by_cases hlt : k < nS
    · have hkl : k < n.states.length := by rw [HN.out]; exact hlt
      have hAr := H.out.sts.below hB
      obtain ⟨b, off, EA, ec, XA, xc, rfl, hbl, e0, e1, e2, r0, r1⟩ := hAr.at hkl
      have hsz := HS.out.st _ (List.getElem_mem hkl)
      have hkd := HKD.out _ (List.getElem_mem hkl)
      generalize hxk : n.states[k] = x at e0 e1 e2 r0 r1 hsz hkd
      obtain ⟨nX, hnX⟩ : ∃ m, x.ends.length = m := ⟨_, rfl⟩
      obtain ⟨nE, hnE⟩ : ∃ m, x.edges.length = m := ⟨_, rfl⟩
      rw [hnX] at e2 r1
      rw [hnE] at e1 r0
      rw [hnX, hnE] at hsz
      obtain ⟨q1, q2, q3⟩ := hsz
      have HKE := hid (fun e he => And.intro (q3 e he) (hkd e he))
      have R0 := hid r0
      have R1 := hid r1
      have HX := hid hxk
      have HNX := hid hnX
      have HNE := hid hnE
      have HB := hid hB
      have HR := hid hR
      have HST := hid hst
      have hwz := hR.only.size
      clear hAr r0 r1 hxk hnX hnE hB hR hst hkd hH q3
      go_upto_region 5 with fail
      have hablt : w.heap.size < wr.heap.size := by omega
      have hblt : b < wr.heap.size := by omega
      have ST := hid (fun (u : World) (hb : Below wr.heap.size wr u) => (show u.cell? ⟨w.heap.size, 0, none⟩ = some (.slice (some ⟨b, off, none⟩) nS sc) ∧ u.cell? ⟨b, off + k * 3, none⟩ = some (.int .i64 x.rule) ∧ u.cell? ⟨b, off + k * 3 + 1, none⟩ = some (.slice EA nE ec) ∧ u.cell? ⟨b, off + k * 3 + 2, none⟩ = some (.slice XA nX xc) from
        ⟨(hb.cell (p := ⟨w.heap.size, 0, none⟩) hablt).trans c1, (hb.cell (p := ⟨b, off + k * 3, none⟩) hblt).trans e0, (hb.cell (p := ⟨b, off + k * 3 + 1, none⟩) hblt).trans e1, (hb.cell (p := ⟨b, off + k * 3 + 2, none⟩) hblt).trans e2⟩))
      go_cut [5] from 17 to 75 (fun v wx => ∃ (sb : Nat), v = .pointer (some ⟨sb, 0, none⟩) ∧ Hid (Below wr.heap.size wr wx ∧ wr.heap.size ≤ sb ∧ wx.heap[sb]? = some (.cells #[.int .i64 x.rule, .slice none 0 0, .slice XA nX xc] 97 (0, 0))))
      case first =>
        refine wp_region_late (l := 15) (S := (fun w' => w'.cell? ⟨w.heap.size, 0, none⟩ = some (.slice (some ⟨b, off, none⟩) nS sc) ∧ w'.cell? ⟨b, off + k * 3, none⟩ = some (.int .i64 x.rule) ∧ w'.cell? ⟨b, off + k * 3 + 1, none⟩ = some (.slice EA nE ec) ∧ w'.cell? ⟨b, off + k * 3 + 2, none⟩ = some (.slice XA nX xc))) (by kernel_rfl) ⟨c1, e0, e1, e2⟩ (fun hHeld => ?_)
        have HLwd : Below wr.heap.size wr wr.drew := ⟨rfl, rfl, rfl, Nat.le_refl _, fun _ _ => rfl⟩
        generalize wr.drew = wd at hHeld HLwd ⊢
        clear c1 e0 e1 e2
        refine wpAnyF_take (i := 0) (.pointer (some ⟨w.heap.size, 0, none⟩)) rfl (by kernel_rfl) (by kernel_rfl) (by kernel_rfl) (by kernel_rfl) (fun _ _ _ h => h) hHeld (by rfl) (fun w' hSw => ?_) ?_
        · obtain ⟨c1, e0, e1, e2⟩ := hSw; go_simp
        try simp only [Act.put, List.getElem_toArray, List.getElem_cons_zero, List.setIfInBounds_toArray, List.set_cons_zero, List.set_cons_succ]
        refine wpAnyF_take (i := 1) (.slice (some ⟨b, off, none⟩) nS sc) rfl (by kernel_rfl) (by kernel_rfl) (by kernel_rfl) (by kernel_rfl) (fun _ _ _ h => h) hHeld (by rfl) (fun w' hSw => ?_) ?_
        · obtain ⟨c1, e0, e1, e2⟩ := hSw; go_simp
        try simp only [Act.put, List.getElem_toArray, List.getElem_cons_zero, List.getElem_cons_succ, List.setIfInBounds_toArray, List.set_cons_zero, List.set_cons_succ]
        refine wpAnyF_take (i := 2) (.int .i64 k) rfl (by kernel_rfl) (by kernel_rfl) (by kernel_rfl) (by kernel_rfl) (fun _ _ _ h => h) hHeld (by rfl) (fun w' hSw => ?_) ?_
        · obtain ⟨c1, e0, e1, e2⟩ := hSw; go_simp
        try simp only [Act.put, List.getElem_toArray, List.getElem_cons_zero, List.getElem_cons_succ, List.setIfInBounds_toArray, List.set_cons_zero, List.set_cons_succ]
        refine wpAnyF_take (i := 3) (.pointer (some ⟨b, off + k * 3, none⟩)) rfl (by kernel_rfl) (by kernel_rfl) (by kernel_rfl) (by kernel_rfl) (fun _ _ _ h => h) hHeld (by rfl) (fun w' hSw => ?_) ?_
        · obtain ⟨c1, e0, e1, e2⟩ := hSw; go_simp
        try simp only [Act.put, List.getElem_toArray, List.getElem_cons_zero, List.getElem_cons_succ, List.setIfInBounds_toArray, List.set_cons_zero, List.set_cons_succ]
        refine wpAnyF_take (i := 4) (.pointer (some ⟨b, off + k * 3, none⟩)) rfl (by kernel_rfl) (by kernel_rfl) (by kernel_rfl) (by kernel_rfl) (fun _ _ _ h => h) hHeld (by rfl) (fun w' hSw => ?_) ?_
        · obtain ⟨c1, e0, e1, e2⟩ := hSw; go_simp
        try simp only [Act.put, List.getElem_toArray, List.getElem_cons_zero, List.getElem_cons_succ, List.setIfInBounds_toArray, List.set_cons_zero, List.set_cons_succ]
        refine wpAnyF_take (i := 5) (.int .i64 x.rule) rfl (by kernel_rfl) (by kernel_rfl) (by kernel_rfl) (by kernel_rfl) (fun _ _ _ h => h) hHeld (by rfl) (fun w' hSw => ?_) ?_
        · obtain ⟨c1, e0, e1, e2⟩ := hSw; go_simp
        try simp only [Act.put, List.getElem_toArray, List.getElem_cons_zero, List.getElem_cons_succ, List.setIfInBounds_toArray, List.set_cons_zero, List.set_cons_succ]
        refine wpAnyF_take (i := 6) (.pointer (some ⟨w.heap.size, 0, none⟩)) rfl (by kernel_rfl) (by kernel_rfl) (by kernel_rfl) (by kernel_rfl) (fun _ _ _ h => h) hHeld (by rfl) (fun w' hSw => ?_) ?_
        · obtain ⟨c1, e0, e1, e2⟩ := hSw; go_simp
        try simp only [Act.put, List.getElem_toArray, List.getElem_cons_zero, List.getElem_cons_succ, List.setIfInBounds_toArray, List.set_cons_zero, List.set_cons_succ]
        refine wpAnyF_take (i := 7) (.slice (some ⟨b, off, none⟩) nS sc) rfl (by kernel_rfl) (by kernel_rfl) (by kernel_rfl) (by kernel_rfl) (fun _ _ _ h => h) hHeld (by rfl) (fun w' hSw => ?_) ?_
        · obtain ⟨c1, e0, e1, e2⟩ := hSw; go_simp
        try simp only [Act.put, List.getElem_toArray, List.getElem_cons_zero, List.getElem_cons_succ, List.setIfInBounds_toArray, List.set_cons_zero, List.set_cons_succ]
        refine wpAnyF_take (i := 8) (.int .i64 k) rfl (by kernel_rfl) (by kernel_rfl) (by kernel_rfl) (by kernel_rfl) (fun _ _ _ h => h) hHeld (by rfl) (fun w' hSw => ?_) ?_
        · obtain ⟨c1, e0, e1, e2⟩ := hSw; go_simp
        try simp only [Act.put, List.getElem_toArray, List.getElem_cons_zero, List.getElem_cons_succ, List.setIfInBounds_toArray, List.set_cons_zero, List.set_cons_succ]
        refine wpAnyF_take (i := 9) (.pointer (some ⟨b, off + k * 3, none⟩)) rfl (by kernel_rfl) (by kernel_rfl) (by kernel_rfl) (by kernel_rfl) (fun _ _ _ h => h) hHeld (by rfl) (fun w' hSw => ?_) ?_
        · obtain ⟨c1, e0, e1, e2⟩ := hSw; go_simp
        try simp only [Act.put, List.getElem_toArray, List.getElem_cons_zero, List.getElem_cons_succ, List.setIfInBounds_toArray, List.set_cons_zero, List.set_cons_succ]
        refine wpAnyF_take (i := 10) (.pointer (some ⟨b, off + k * 3 + 2, none⟩)) rfl (by kernel_rfl) (by kernel_rfl) (by kernel_rfl) (by kernel_rfl) (fun _ _ _ h => h) hHeld (by rfl) (fun w' hSw => ?_) ?_
        · obtain ⟨c1, e0, e1, e2⟩ := hSw; go_simp
        try simp only [Act.put, List.getElem_toArray, List.getElem_cons_zero, List.getElem_cons_succ, List.setIfInBounds_toArray, List.set_cons_zero, List.set_cons_succ]
        refine wpAnyF_take (i := 11) (.slice XA nX xc) rfl (by kernel_rfl) (by kernel_rfl) (by kernel_rfl) (by kernel_rfl) (fun _ _ _ h => h) hHeld (by rfl) (fun w' hSw => ?_) ?_
        · obtain ⟨c1, e0, e1, e2⟩ := hSw; go_simp
        try simp only [Act.put, List.getElem_toArray, List.getElem_cons_zero, List.getElem_cons_succ, List.setIfInBounds_toArray, List.set_cons_zero, List.set_cons_succ]
        refine wpAnyF_take (i := 12) (.agg #[.int .i64 x.rule, .slice none 0 0, .slice XA nX xc]) rfl (by kernel_rfl) (by kernel_rfl) (by kernel_rfl) (by kernel_rfl) (fun _ _ _ h => h) hHeld (by rfl) (fun w' hSw => ?_) ?_
        · obtain ⟨c1, e0, e1, e2⟩ := hSw; go_simp
        try simp only [Act.put, List.getElem_toArray, List.getElem_cons_zero, List.getElem_cons_succ, List.setIfInBounds_toArray, List.set_cons_zero, List.set_cons_succ]
        refine wpAnyF_step 13 (by kernel_rfl) rfl (fun K hK => ?_)
        go_simp
        have hb1 : Below wd.heap.size wd (wd.alloc (.cells #[.int .i64 0, .slice none 0 0, .slice none 0 0] 97)) := below_new _ _
        have TB := heap_alloc_new wd (.cells #[.int .i64 0, .slice none 0 0, .slice none 0 0] 97)
        have HL1 := HLwd.trans (hb1.mono HLwd.size)
        refine hK _ _ (ST.out _ HL1) (fun hHeld => ?_)
        clear hK
        clear K
        generalize wd.alloc (.cells #[.int .i64 0, .slice none 0 0, .slice none 0 0] 97) = w1 at hb1 TB HL1 hHeld ⊢
        try simp only [Act.put, List.getElem_toArray, List.getElem_cons_zero, List.getElem_cons_succ, List.setIfInBounds_toArray, List.set_cons_zero, List.set_cons_succ]
        obtain ⟨hT, hO⟩ := set3x (x := .int .i64 x.rule) (y := .slice none 0 0) (z := .slice XA nX xc) TB
        have hzd := HLwd.size
        have HL2 : Below wr.heap.size wr (((w1.setCell ⟨wd.heap.size, 0, none⟩ (.int .i64 x.rule)).setCell ⟨wd.heap.size, 1, none⟩ (.slice none 0 0)).setCell ⟨wd.heap.size, 2, none⟩ (.slice XA nX xc)) := HL1.trans (hO.below' (fun j e => by omega) HL1.size)
        have HF := hid (And.intro HL2 (And.intro hzd hT))
        refine wpAnyF_step 14 (by kernel_rfl) rfl (fun K hK => ?_)
        obtain ⟨y0, y1, y2⟩ := cells3 TB
        have yz := fun i => Lib.frozen_of_heap TB i
        go_simp
        refine hK _ _ (ST.out _ HL2) (fun hHeld => ?_)
        clear hK
        clear K
        try simp only [Act.put, List.getElem_toArray, List.getElem_cons_zero, List.getElem_cons_succ, List.setIfInBounds_toArray, List.set_cons_zero, List.set_cons_succ]
        refine ⟨by kernel_rfl, ?_⟩
        clear y0 y1 y2 yz hHeld hT hO
        go_wp2_with fail
        go_meet
        exact ⟨_, rfl, HF⟩
      case rest =>
        rename World => wx
        obtain ⟨sb, rfl, hK5⟩ := hcut
        obtain ⟨hb5, hsb, T5⟩ := hK5.out
        have hsb5 := heap_lt T5
        have HB5 := hid hb5
        have HT5 := hid T5
        have HR5 := hid (RowBox.start (w0 := wx) (cs := fun v => #[.int .i64 x.rule, v, .slice XA nX xc]) (e := 101) (size := 3) T5)
        have s5 := hb5.size
        clear c1 e0 e1 e2 hb5 T5 hK5
        go_wp2_with fail
        go_loopw [6] (fun i wq => ∃ j : Nat, j ≤ nE ∧ i = .int .i64 j ∧ Hid (∃ ve, RowBox wx sb (fun v => #[.int .i64 x.rule, v, .slice XA nX xc]) 97 101 3 j (flat encEf (x.edges.take j)) ve wq)) (fun i _ => nE - (intOf i).toNat)
        case atStart => exact ⟨0, by omega, by simp, hid ⟨_, HR5.out⟩⟩
        case round =>
          rename World => wq
          obtain ⟨j, hj, rfl, hJ⟩ := hrel
          obtain ⟨ve, hRj⟩ := hJ.out
          have hoq := hRj.only
          have sq := hoq.size
          have hBq : Below wr.heap.size wr wq := hoq.below (fun i e => by omega) HB5.out (by omega)
          obtain ⟨c1, e0, e1, e2⟩ := ST.out wq hBq
          obtain ⟨VE, cE, rfl⟩ := row_form hRj.own
          have HRJ := hid hRj
          have HBQ := hid hBq
          have R0q := R0.out.below (hBq.mono HB.out.size)
          by_cases hlt2 : j < nE
          · have hjl : j < x.edges.length := by rw [HNE.out]; exact hlt2
            obtain ⟨eb, eo, rfl, hebl, x0, x1, x2⟩ := (show Reads wq w.heap.size 3 EA x.edges.length (flat encEd x.edges) by rw [HNE.out]; exact R0q).getE hjl
            have HTK := hid (show flat encEf (x.edges.take (j + 1)) = flat encEf (x.edges.take j) ++ [.int .i64 x.edges[j].kind, .int .i64 x.edges[j].what, .int .i64 x.edges[j].to] by rw [List.take_succ_eq_append_getElem hjl, flat_snoc]; rfl)
            obtain ⟨kd0, kd1⟩ := HKE.out _ (List.getElem_mem hjl)
            generalize x.edges[j] = ed at x0 x1 x2 HTK kd0 kd1
            obtain ⟨ek, ew, et⟩ := ed
            dsimp only at x0 x1 x2 HTK kd0 kd1
            have hkw : IntKind.i64.wrap ek = ek := w64 (by omega) (by omega)
            have hebq : eb < wq.heap.size := by omega
            clear hRj hBq hoq hJ R0q kd0 kd1
            go_upto_region 10 with fail
            have hbN : Below wq.heap.size wq (wq.alloc (.cells #[.int .u8 ek, .int .i64 ew, .int .i64 et] 86)) := below_new _ _
            have TN := heap_alloc_new wq (.cells #[.int .u8 ek, .int .i64 ew, .int .i64 et] 86)
            generalize wq.alloc (.cells #[.int .u8 ek, .int .i64 ew, .int .i64 et] 86) = w7 at hbN TN ⊢
            have RJ := HRJ.out.next hbN
            obtain ⟨n0, n1, n2⟩ := cells3 TN
            have y2 : w7.cell? ⟨sb, 1, none⟩ = some (.slice VE j cE) := by rw [Lib.cell_of_heap RJ.blk]; rfl
            obtain ⟨ie, hie, hze, hse, hye⟩ := info_of infoRNE
            have HRJ7 := hid RJ
            have hx7 := RJ.only.size
            have hsb7 := heap_lt RJ.blk
            have hne7 := RJ.ne (by decide)
            clear c1 e0 e1 e2 x0 x1 x2 TN RJ
            go_wp2_with (at_builtin; go_must (refine wpList_push4 w7 rfl _ _ 95 rfl wx.heap.size 101 ie _ 3 24 Tryz.underlying95 hie hze hse hye rfl (by omega) (.slice VE j cE) j _ rfl HRJ7.out.own [.int .i64 ek, .int .i64 ew, .int .i64 et] 1 _ rfl rfl rfl (by simp [Value.oneCell']) Nat.zero_lt_one (by simp only [maxLen]; omega) (by omega) hx7 ?_); intro g9 c9 w9 hown9 hg9 ho9; have b9 := (ho9.block sb hsb7 hne7).trans HRJ7.out.blk; have hc9 : w9.cell? ⟨sb, 1, none⟩ = some (.slice VE j cE) := (by rw [Lib.cell_of_heap b9]; rfl); have hf9 : w9.frozen? ⟨sb, 1, none⟩ = false := Lib.frozen_of_heap b9 1)
            have HFIN : Hid (∃ ve, RowBox wx sb (fun v => #[.int .i64 x.rule, v, .slice XA nX xc]) 97 101 3 (j + 1) (flat encEf (x.edges.take (j + 1))) ve (w9.setCell ⟨sb, 1, none⟩ (.slice (some ⟨g9, 0, none⟩) (j + 1) c9))) := hid ⟨_, by rw [HTK.out]; exact HRJ7.out.push (o := 1) (by decide) hown9 ho9 rfl⟩
            go_roundw
            case rel => exact ⟨j + 1, by omega, by go_num, HFIN⟩
            case measure => simp [intOf]; omega
          · have hjn : j = nE := by omega
            subst hjn
            obtain ⟨y0, y1, y2⟩ := cells3 hRj.blk
            have hRq := HR.out.next hBq
            obtain ⟨VV, vc, rfl⟩ := row_form hRq.own
            have v0 : wq.cell? ⟨b2, 0, none⟩ = some (.slice VV k vc) := by rw [Lib.cell_of_heap hRq.blk]; rfl
            have rX : Reads wq w.heap.size 1 XA nX (x.ends.map (Value.int .i64)) := R1.out.below (HBQ.out.mono HB.out.size)
            have rE : RO wq (fun i => i < w3.heap.size ∨ (Value.slice VV k vc).ownBlock = some i) 3 VE j (flat encEf x.edges) := by
              have o6 := hRj.own
              have e6 : x.edges.take j = x.edges := List.take_of_length_le (by rw [HNE.out]; exact Nat.le_refl _)
              rw [e6] at o6
              exact row_RO o6 fun i hi => HR.out.fresh (by have := (World.ownsRow.lt o6 i hi).1; omega)
            have hst6 : ∀ i (h : i < n.states.length), i < k → StVfO wq (fun j => j < w3.heap.size ∨ (Value.slice VV k vc).ownBlock = some j) w.heap.size vs i n.states[i] := fun i hi hik => by have := (HST.out i hi hik).only (S' := fun j => j < w3.heap.size ∨ (Value.slice VV k vc).ownBlock = some j) (Only.of_below hBq) (fun _ _ e => e) (HBQ.out.mono HB.out.size) []; rwa [List.append_nil] at this
            have HPU := hid (fun (gn cn : Nat) (wn : World) (h1 : wn.ownsRow w3.heap.size 97 3 (.slice (some ⟨gn, 0, none⟩) (k + 1) cn) (k + 1) (vs ++ [.int .i64 x.rule, .slice VE j cE, .slice XA nX xc])) (h2 : (Value.slice VV k vc).ownBlock = some gn ∨ wq.heap.size < gn) (h3 : Only (fun j => (Value.slice VV k vc).ownBlock = some j) wq wn) => on_push hRq hb2l (by omega) hst6 hkl HX.out HNE.out HNX.out rE rX h1 h2 h3 (fun _ _ => rfl))
            have HRQ := hid hRq
            have hwq := hRq.only.size
            obtain ⟨il, hil, hzl, hsl, hyl⟩ := info_of infoRNS
            clear hst6 rX rE hRq hRj hBq hoq hJ R0q
            go_upto_region 11 with fail
            go_wp2_with (at_builtin; go_must (refine wpList_push4 wq rfl _ _ 36 rfl w3.heap.size 97 il _ 3 56 Tryz.underlying36 hil hzl hsl hyl rfl (by omega) (.slice VV k vc) k vs rfl HRQ.out.own [.int .i64 x.rule, .slice VE j cE, .slice XA nX xc] 1 _ rfl rfl rfl (by simp [Value.oneCell']) Nat.zero_lt_one (by simp only [maxLen]; omega) (by omega) hwq ?_); intro g9 c9 w9 hown9 hg9 ho9; have b9 := (ho9.block b2 (heap_lt HRQ.out.blk) (HRQ.out.ne (by decide))).trans HRQ.out.blk; have hc9 : w9.cell? ⟨b2, 0, none⟩ = some (.slice VV k vc) := (by rw [Lib.cell_of_heap b9]; rfl); have hf9 : w9.frozen? ⟨b2, 0, none⟩ = false := Lib.frozen_of_heap b9 0)
            have HFIN := hid (HPU.out g9 c9 w9 hown9 hg9 ho9)
            go_roundw
            case rel => exact ⟨k + 1, by omega, by go_num, HFIN⟩
            case measure => simp [intOf]; omega
    · have hkn : k = nS := by omega
      subst hkn
      obtain ⟨VV, vc, rfl⟩ := row_form hR.own
      obtain ⟨⟨v0, v1, v2, v3, v4⟩, vz⟩ := cells5z (show wr.heap[b2]? = some (.cells #[.slice VV k vc, .slice TA nT tc, .slice UA nU uc, .slice QA nQ qc, .slice DA nD dc] 38 (0, 0)) from hR.blk)
      have T2 := (hR.only.block (w.heap.size + 1) (by omega) (by omega)).trans HT2.out
      obtain ⟨⟨u0, u1, u2, u3, u4⟩, uz⟩ := cells5z T2
      obtain ⟨hT4, hO⟩ := setB5 (x := .slice VV k vc) (y := .slice TA nT tc) (z := .slice UA nU uc) (u := .slice QA nQ qc) (v := .slice DA nD dc) T2
      generalize hwF : (((((wr.setCell ⟨w.heap.size + 1, 0, none⟩ (.slice VV k vc)).setCell ⟨w.heap.size + 1, 1, none⟩ (.slice TA nT tc)).setCell ⟨w.heap.size + 1, 2, none⟩ (.slice UA nU uc)).setCell ⟨w.heap.size + 1, 3, none⟩ (.slice QA nQ qc)).setCell ⟨w.heap.size + 1, 4, none⟩ (.slice DA nD dc)) = wF at hT4 hO
      have HT4 := hid hT4
      have HWF := hid hwF
      obtain ⟨g1, g2, g3, g4, g5⟩ := HNL.out
      have hBF := hB.trans (hO.below' (B := w.heap.size) (fun j e => by omega) hB.size)
      have hNF := (H.out.below hBF)
      have hzF := hBF.size
      have HFIN : Hid (OnP w n TA UA QA DA tc uc qc dc (.returned (.agg #[.slice VV k vc, .slice TA nT tc, .slice UA nU uc, .slice QA nQ qc, .slice DA nD dc])) wF) := hid ⟨VV, vc, by unfold netAgg; rw [g1, g2, g3, g4, g5], hBF, ⟨vs, by rw [g1]; exact ((row_RO hR.own (S := fun j => j < w3.heap.size) fun j hj e => by have := (World.ownsRow.lt hR.own j hj).1; omega).only (S' := fun j => j < w.heap.size) (hO.more fun j _ e => by omega) (fun j hj e => by omega)).reads, fun i hi => by
        obtain ⟨EA, ec, XA, xc, q0, q1, q2, rr0, rr1⟩ := (hst i hi (by rw [← g1]; exact hi)).only (w' := wF) (S' := fun j => j < w.heap.size) (hO.more fun j _ e => .inl (by omega)) (fun j _ e => .inl (by omega)) (hO.below' (B := w.heap.size) (fun j e => by omega) hB.size) []
        rw [List.append_nil] at q0 q1 q2
        exact ⟨EA, ec, XA, xc, q0, q1, q2, rr0.reads, rr1.more hzF⟩⟩, hNF.starts.more hzF, hNF.stops.more hzF, hNF.preds.more hzF, hNF.decs.more hzF⟩
      clear hst hR hB T2 hO hH hT4 hwF hBF hNF
      go_wp2_with fail
      rw [HWF.out]
      refine bodyPost_ret (results_cell_row rfl _ _ (w.heap.size + 1) 38 _ _ _ rfl HT4.out Tryz.underlying38 rfl infoRNP) rfl ?_
      exact HFIN.out
end Go.Proofs.YtnpcjbdolmmaeaaGreatDoor
