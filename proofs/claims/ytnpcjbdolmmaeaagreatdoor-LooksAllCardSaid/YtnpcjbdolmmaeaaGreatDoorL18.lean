/-
  A view is made (configs.New): plain, and the walk.
-/
import Derived.Test.YtnpcjbdolmmaeaaGreatDoorL15
import Derived.Test.YtnpcjbdolmmaeaaGreatDoorL17
namespace Go.Proofs.YtnpcjbdolmmaeaaGreatDoor
namespace Cf
open Drv
structure MayF (n : NNet) : Prop where
  starts : ∀ q ∈ n.starts, 0 ≤ q ∧ q < (n.states.length : Int)
  stops : ∀ q ∈ n.stops, 0 ≤ q ∧ q < (n.states.length : Int)
  st : ∀ s ∈ n.states, stMay n s = true
  decs : decsOf n.states = n.decs
theorem stateB_iff {n : NNet} {i : Int} : stateB n i = true ↔ 0 ≤ i ∧ i < (n.states.length : Int) := by
  unfold stateB
  simp only [Bool.and_eq_true, decide_eq_true_eq]
theorem mayF {n : NNet} (h : mayNet n = true) : MayF n := by
  unfold mayNet at h
  simp only [Bool.and_eq_true, List.all_eq_true, beq_iff_eq] at h
  obtain ⟨⟨⟨⟨⟨_, h1⟩, h2⟩, _⟩, h3⟩, h4⟩ := h
  exact ⟨fun q hq => stateB_iff.1 (h1 q hq), fun q hq => stateB_iff.1 (h2 q hq), fun s hs => (h3 s hs).1.1, h4⟩
theorem edge_of {n : NNet} {s : NSt} (h : stMay n s = true) {e : Ed} (he : e ∈ s.edges) : edgeB n e = true := by
  unfold stMay at h
  simp only [Bool.and_eq_true, List.all_eq_true] at h
  exact h.1 e he
theorem edge_to {n : NNet} {e : Ed} (h : edgeB n e = true) : 0 ≤ e.to ∧ e.to < (n.states.length : Int) := by
  unfold edgeB at h
  simp only [Bool.and_eq_true] at h
  exact stateB_iff.1 h.2
theorem edge_what {n : NNet} {e : Ed} (h : edgeB n e = true) (k : e.kind = 2) : 0 ≤ e.what ∧ e.what < (n.starts.length : Int) := by
  unfold edgeB at h
  simp only [Bool.and_eq_true, Bool.or_eq_true, decide_eq_true_eq, beq_iff_eq] at h
  obtain ⟨⟨⟨_, h1⟩, h2⟩, _⟩ := h
  refine ⟨h1, ?_⟩
  rcases h2 with h2 | h2
  · omega
  · rw [if_pos k] at h2; exact h2
theorem mem_decsOf {l : List NSt} {i : Int} (h : i ∈ decsOf l) : ∃ k : Nat, i = (k : Int) ∧ ∃ hk : k < l.length, l[k].ends.length ≠ 0 := by
  unfold decsOf at h
  obtain ⟨⟨s, k⟩, hp, rfl⟩ := List.mem_map.1 h
  obtain ⟨h1, h2⟩ := List.mem_filter.1 hp
  have h3 := List.mem_zipIdx h1
  have h4 : k < l.length := by have := h3.2.1; omega
  refine ⟨k, rfl, h4, ?_⟩
  have h5 : s = l[k] := by simpa using h3.2.2
  rw [← h5]
  simpa using h2
def fewN (n : NNet) : Prop := n.states.length ≤ 700 ∧ n.starts.length ≤ 700 ∧ n.stops.length ≤ 700 ∧ n.preds.length ≤ 700 ∧ n.decs.length ≤ 700 ∧ ∀ s ∈ n.states, s.edges.length ≤ 700 ∧ s.ends.length ≤ 700
def newV (n : NNet) (d b : Int) : Option Vw :=
  if mayNet n = true ∧ 0 ≤ d ∧ d < (n.decs.length : Int) ∧ 1 ≤ b ∧ b ≤ 8 then some ⟨n, n.states.getD (n.decs.getD d.toNat 0).toNat ⟨0, [], []⟩, b⟩ else none
theorem dec_at {n : NNet} (h : MayF n) {d : Nat} (hd : d < n.decs.length) : ∃ (k : Nat) (hk : k < n.states.length), n.decs.getD d 0 = (k : Int) ∧ n.states[k].ends.length ≠ 0 ∧ n.states.getD (n.decs.getD d 0).toNat ⟨0, [], []⟩ = n.states[k] := by
  have h1 : n.decs.getD d 0 = n.decs[d] := by rw [List.getD_eq_getElem?_getD, List.getElem?_eq_getElem hd]; rfl
  obtain ⟨k, e, hk, hne⟩ := mem_decsOf (l := n.states) (by rw [h.decs]; exact List.getElem_mem hd)
  refine ⟨k, hk, by rw [h1, e], hne, ?_⟩
  rw [h1, e, Int.toNat_natCast, List.getD_eq_getElem?_getD, List.getElem?_eq_getElem hk]; rfl
theorem newV_ok {n : NNet} {d b : Int} {v : Vw} (h : newV n d b = some v) (hf : fewN n) : OkW v ∧ v.d ∈ v.n.states ∧ v.n = n ∧ v.d.edges.length = v.d.ends.length := by
  unfold newV at h
  split at h
  · next hc =>
    injection h with h
    subst h
    obtain ⟨h1, h2, h3, h4, h5⟩ := hc
    have hm := mayF h1
    obtain ⟨k, hk, e1, e2, e3⟩ := dec_at hm (d := d.toNat) (by omega)
    have hd : n.states.getD (n.decs.getD d.toNat 0).toNat ⟨0, [], []⟩ ∈ n.states := by rw [e3]; exact List.getElem_mem hk
    refine ⟨⟨hf.1, fun s hs => (hf.2.2.2.2.2 s hs).1, ⟨h4, h5⟩, fun s hs e he => edge_to (edge_of (hm.st s hs) he), fun s hs e he k => edge_what (edge_of (hm.st s hs) he) k, hm.starts⟩, hd, rfl, ?_⟩
    have h6 := hm.st _ hd
    have h7 : (n.states.getD (n.decs.getD d.toNat 0).toNat ⟨0, [], []⟩).ends.length ≠ 0 := by rw [e3]; exact e2
    unfold stMay at h6
    simp only [Bool.and_eq_true, Bool.or_eq_true, beq_iff_eq] at h6
    rcases h6.2 with h6 | h6
    · exact absurd h6 h7
    · exact h6.1.1.1.symm
  · cases h
theorem start_has {v : Vw} (w : OkW v) (hd : v.d ∈ v.n.states) (he : v.d.edges.length = v.d.ends.length) : ∀ x ∈ startL v, has v x = true := by
  intro x hx
  unfold startL at hx
  obtain ⟨⟨e, i⟩, hp, rfl⟩ := List.mem_map.1 hx
  have h2 := List.mem_zipIdx hp
  have h3 : e ∈ v.d.edges := by rw [h2.2.2]; exact List.getElem_mem _
  have h4 := w.to _ hd e h3
  have h5 := h2.2.1
  unfold has
  simp only [Bool.and_eq_true, decide_eq_true_eq]
  refine ⟨⟨⟨by omega, ?_⟩, h4.1⟩, h4.2⟩
  show (i : Int) < (v.d.ends.length : Int)
  omega
theorem move_has {v : Vw} (w : OkW v) {s : St} (hs : SetB v s) (tok : Int) : ∀ x ∈ moveL v s tok, has v x = true := by
  intro x hx
  unfold moveL at hx
  obtain ⟨y, hy, hx⟩ := List.mem_flatMap.1 hx
  obtain ⟨hb, hh⟩ := hs.ok y hy
  rw [if_neg (by rw [hh]; decide)] at hx
  split at hx
  · rw [List.mem_singleton.1 hx]; exact hh
  · obtain ⟨e, he, hx⟩ := List.mem_filterMap.1 hx
    split at hx
    · injection hx with hx
      subst hx
      have h1 := has_state hh
      have h2 := w.to _ (stOf_mem h1.2.2) e he
      unfold has atC
      simp only [Bool.and_eq_true, decide_eq_true_eq]
      exact ⟨⟨⟨h1.1, h1.2.1⟩, h2.1⟩, h2.2⟩
    · cases hx
end Cf
open Go.RowKit Go.Maps
set_option maxRecDepth 100000
theorem infoB : (Tryz.prog.info? 4).map (fun i => (i.zero, i.size, i.bytes)) = some (some (.bool false), 1, 1) := by kernel_rfl
theorem made_boolZ (n : Nat) : madeCells #[Value.bool false] n = (List.replicate n (Value.bool false)).toArray := by
  apply Array.ext
  · simp [madeCells]
  · intro i h1 h2
    simp [madeCells, Nat.mod_one]
theorem mkBools (n : Nat) (hn : n ≤ 1000000) (u : World) : (Instr.makeSlice 91 (.int .i64 (n : Int)) (.int .i64 (n : Int))).run Tryz.prog u =
      .ok (.slice (some ⟨u.heap.size, 0, none⟩) n n) (u.alloc (.cells (Array.replicate n (Value.bool false)) 4)) := by
  obtain ⟨i2, hi2, hz2, hs2, hy2⟩ := info_of infoB
  have h := run_make (P := Tryz.prog) u 91 4 i2 (.bool false) Tryz.underlying91 hi2 hz2 .i64 .i64 (n : Int) (n : Int) (by omega) (Int.le_refl _) (by rw [hy2]; omega) (by omega)
  have e : (n : Int).toNat = n := by omega
  rw [e] at h
  rw [show Array.replicate n (Value.bool false) = madeCells #[Value.bool false] n by rw [made_boolZ]; simp]
  simpa [hs2, Value.cells] using h
theorem StsR.more {w : World} {B B' : Nat} {A : Option Addr} {l : List Drv.NSt} (h : StsR w B A l) (hB : B ≤ B') : StsR w B' A l := by
  obtain ⟨vs, h1, h2⟩ := h
  refine ⟨vs, h1.more hB, fun i hi => ?_⟩
  obtain ⟨EA, ec, XA, xc, e0, e1, e2, r0, r1⟩ := h2 i hi
  exact ⟨EA, ec, XA, xc, e0, e1, e2, r0.more hB, r1.more hB⟩
def stopB (nS : Nat) (l : List Int) : List Bool := (List.range nS).map fun i : Nat => l.contains (i : Int)
theorem stopB_nil (nS : Nat) : ((stopB nS []).map Value.bool).toArray = Array.replicate nS (Value.bool false) := by
  unfold stopB
  apply Array.ext
  · simp
  · intro i h1 h2
    simp
theorem stopB_set (nS : Nat) (l : List Int) (k : Nat) : ((stopB nS l).map Value.bool).toArray.setIfInBounds k (.bool true) = ((stopB nS (l ++ [(k : Int)])).map Value.bool).toArray := by
  unfold stopB
  apply Array.ext
  · simp
  · intro i h1 h2
    have hi : i < nS := by simpa using h1
    by_cases e : k = i
    · subst e
      simp
    · have e2 : ¬ (i : Int) = (k : Int) := by omega
      simp [e, e2]
def NwP (n : Drv.NNet) (d b : Int) (w : World) (e : Ending) (w' : World) : Prop :=
  (Cf.newV n d b = none ∧ e = .returned (.tuple #[.pointer none, .int .i64 1]) ∧ Below w.heap.size w w') ∨
  ∃ v V a, Cf.newV n d b = some v ∧ e = .returned (.tuple #[.pointer (some ⟨V, 0, none⟩), .int .i64 0]) ∧ VwAt w' w'.heap.size V a v ∧ w.heap.size ≤ V ∧ Below w.heap.size w w'
set_option maxHeartbeats 8000000 in
theorem new_any (n : Drv.NNet) (d b : Int) (SA TA UA QA DA : Option Addr) (sc tc uc qc dc : Nat) (w : World) (h : NetR w w.heap.size SA TA UA QA DA n) (hs : NetS n) (hf : Cf.fewN n) :
    Calls Tryz.prog 8 #[netAgg SA TA UA QA DA sc tc uc qc dc n, .int .i64 d, .int .i64 b] w (NwP n d b w) := by
  obtain ⟨w1, hw1⟩ : ∃ w1, Hid (w.alloc (.cells #[.slice SA n.states.length sc, .slice TA n.starts.length tc, .slice UA n.stops.length uc, .slice QA n.preds.length qc, .slice DA n.decs.length dc] 25) = w1) := ⟨_, hid rfl⟩
  have hb1 : Below w.heap.size w w1 := by rw [← hw1.out]; exact below_new _ _
  have h1 : w1.heap[w.heap.size]? = some (.cells #[.slice SA n.states.length sc, .slice TA n.starts.length tc, .slice UA n.stops.length uc, .slice QA n.preds.length qc, .slice DA n.decs.length dc] 25 (0, 0)) := by rw [← hw1.out]; exact heap_alloc_new _ _
  have hmay := netMay_any w1 n SA TA UA QA DA sc tc uc qc dc ⟨(h.below hb1).sts.more hb1.size, (h.below hb1).starts.more hb1.size, (h.below hb1).stops.more hb1.size, (h.below hb1).preds.more hb1.size, (h.below hb1).decs.more hb1.size⟩ hs
  unfold netAgg at hmay ⊢
  have n0 : w1.cell? ⟨w.heap.size, 0, none⟩ = some (.slice SA n.states.length sc) := by rw [Lib.cell_of_heap h1]; rfl
  have n1 : w1.cell? ⟨w.heap.size, 1, none⟩ = some (.slice TA n.starts.length tc) := by rw [Lib.cell_of_heap h1]; rfl
  have n2 : w1.cell? ⟨w.heap.size, 2, none⟩ = some (.slice UA n.stops.length uc) := by rw [Lib.cell_of_heap h1]; rfl
  have n3 : w1.cell? ⟨w.heap.size, 3, none⟩ = some (.slice QA n.preds.length qc) := by rw [Lib.cell_of_heap h1]; rfl
  have n4 : w1.cell? ⟨w.heap.size, 4, none⟩ = some (.slice DA n.decs.length dc) := by rw [Lib.cell_of_heap h1]; rfl
  have HN := hid h
  have HM := hid hmay
  have HF := hid hf
  have HB1 := hid hb1
  have HH1 := hid h1
  obtain ⟨q, hq⟩ : ∃ q, Drv.mayNet n = q := ⟨_, rfl⟩
  rw [hq] at HM
  have HQ := hid hq
  clear h hmay hf hb1 h1 hq
  have hno : (q = false ∨ d < 0 ∨ (n.decs.length : Int) ≤ d ∨ b < 1 ∨ 8 < b) → Cf.newV n d b = none := fun hc => by
    unfold Cf.newV
    rw [if_neg]
    rintro ⟨a1, a2, a3, a4, a5⟩
    rw [HQ.out] at a1
    rcases hc with hc | hc | hc | hc | hc
    · rw [hc] at a1; cases a1
    · omega
    · omega
    · omega
    · omega
  have HNO := hid hno
  clear hno
  cases q with
  | false =>
    go_enter Tryz.func8, Tryz.ntmps8
    go_wp2_with fail
    rw [hw1.out]
    go_wp2_with fail
    go_at_call 28
    refine HM.out.mono ?_
    rintro _ w2 ⟨rfl, hb2⟩
    go_wp2
    go_ret2
    exact .inl ⟨HNO.out (.inl trivial), rfl, HB1.out.trans (hb2.mono HB1.out.size)⟩
  | true =>
    by_cases g1 : d < 0
    · have f1 : decide (d < 0) = true := decide_eq_true g1
      have G1 := hid g1
      clear g1
      go_enter Tryz.func8, Tryz.ntmps8
      go_wp2_with fail
      rw [hw1.out]
      go_wp2_with fail
      go_at_call 28
      refine HM.out.mono ?_
      rintro _ w2 ⟨rfl, hb2⟩
      have n4 := (hb2.cell (p := ⟨w.heap.size, 4, none⟩) (heap_lt HH1.out)).trans n4
      go_wp2
      go_ret2
      exact .inl ⟨HNO.out (.inr (.inl G1.out)), rfl, HB1.out.trans (hb2.mono HB1.out.size)⟩
    · have f1 : decide (d < 0) = false := decide_eq_false g1
      obtain ⟨dn, rfl⟩ : ∃ dn : Nat, d = (dn : Int) := ⟨d.toNat, by omega⟩
      clear g1
      by_cases g2 : (n.decs.length : Int) ≤ (dn : Int)
      · have f2 : decide ((n.decs.length : Int) ≤ (dn : Int)) = true := decide_eq_true g2
        have f2n : decide (n.decs.length ≤ dn) = true := decide_eq_true (by omega)
        have G2 := hid g2
        clear g2
        go_enter Tryz.func8, Tryz.ntmps8
        go_wp2_with fail
        rw [hw1.out]
        go_wp2_with fail
        go_at_call 28
        refine HM.out.mono ?_
        rintro _ w2 ⟨rfl, hb2⟩
        have n4 := (hb2.cell (p := ⟨w.heap.size, 4, none⟩) (heap_lt HH1.out)).trans n4
        go_wp2
        go_ret2
        exact .inl ⟨HNO.out (.inr (.inr (.inl G2.out))), rfl, HB1.out.trans (hb2.mono HB1.out.size)⟩
      · have f2 : decide ((n.decs.length : Int) ≤ (dn : Int)) = false := decide_eq_false g2
        have f2n : decide (n.decs.length ≤ dn) = false := decide_eq_false (by omega)
        have hdl : dn < n.decs.length := by omega
        clear g2
        by_cases g3 : b < 1
        · have f3 : decide (b < 1) = true := decide_eq_true g3
          have G3 := hid g3
          clear g3
          go_enter Tryz.func8, Tryz.ntmps8
          go_wp2_with fail
          rw [hw1.out]
          go_wp2_with fail
          go_at_call 28
          refine HM.out.mono ?_
          rintro _ w2 ⟨rfl, hb2⟩
          have n4 := (hb2.cell (p := ⟨w.heap.size, 4, none⟩) (heap_lt HH1.out)).trans n4
          go_wp2
          go_ret2
          exact .inl ⟨HNO.out (.inr (.inr (.inr (.inl G3.out)))), rfl, HB1.out.trans (hb2.mono HB1.out.size)⟩
        · have f3 : decide (b < 1) = false := decide_eq_false g3
          have hb1' : 1 ≤ b := by omega
          clear g3
          by_cases g4 : 8 < b
          · have f4 : decide (8 < b) = true := decide_eq_true g4
            have G4 := hid g4
            clear g4
            go_enter Tryz.func8, Tryz.ntmps8
            go_wp2_with fail
            rw [hw1.out]
            go_wp2_with fail
            go_at_call 28
            refine HM.out.mono ?_
            rintro _ w2 ⟨rfl, hb2⟩
            have n4 := (hb2.cell (p := ⟨w.heap.size, 4, none⟩) (heap_lt HH1.out)).trans n4
            go_wp2
            go_ret2
            exact .inl ⟨HNO.out (.inr (.inr (.inr (.inr G4.out)))), rfl, HB1.out.trans (hb2.mono HB1.out.size)⟩
          · have f4 : decide (8 < b) = false := decide_eq_false g4
            have hb8 : b ≤ 8 := by omega
            clear g4
            have hmf := Cf.mayF HQ.out
            obtain ⟨k, hk, e1, e2, e3⟩ := Cf.dec_at hmf hdl
            have hnv : Cf.newV n (dn : Int) b = some ⟨n, n.states[k], b⟩ := by
              unfold Cf.newV
              rw [if_pos ⟨HQ.out, by omega, by omega, hb1', hb8⟩, Int.toNat_natCast, e3]
            obtain ⟨s, hsk⟩ : ∃ s, n.states[k] = s := ⟨_, rfl⟩
            rw [hsk] at hnv
            have hde : n.decs[dn]? = some (k : Int) := by
              rw [← e1, List.getD_eq_getElem?_getD, List.getElem?_eq_getElem hdl]; rfl
            go_enter Tryz.func8, Tryz.ntmps8
            go_wp2_with fail
            rw [hw1.out]
            go_wp2_with fail
            go_at_call 28
            refine HM.out.mono ?_
            rintro _ w2 ⟨rfl, hb2⟩
            have hb02 := HB1.out.trans (hb2.mono HB1.out.size)
            have hn2 := HN.out.below hb02
            have hh2 := (hb2.block w.heap.size (heap_lt HH1.out)).trans HH1.out
            obtain ⟨sb, so, EA, ec, XA, xc, hSA, hsl, m0, m1, m2, rE, rX⟩ := hn2.sts.at hk
            rw [hsk] at m0 m1 m2 rE rX
            obtain ⟨db, dof, hDA, hdb, hdc⟩ := hn2.decs.2 (by omega)
            have md := hdc dn (.int .i64 (k : Int)) (by rw [List.getElem?_map, hde]; rfl)
            have n0 : w2.cell? ⟨w.heap.size, 0, none⟩ = some (.slice SA n.states.length sc) := by rw [Lib.cell_of_heap hh2]; rfl
            have n1 : w2.cell? ⟨w.heap.size, 1, none⟩ = some (.slice TA n.starts.length tc) := by rw [Lib.cell_of_heap hh2]; rfl
            have n2 : w2.cell? ⟨w.heap.size, 2, none⟩ = some (.slice UA n.stops.length uc) := by rw [Lib.cell_of_heap hh2]; rfl
            have n3 : w2.cell? ⟨w.heap.size, 3, none⟩ = some (.slice QA n.preds.length qc) := by rw [Lib.cell_of_heap hh2]; rfl
            have n4 : w2.cell? ⟨w.heap.size, 4, none⟩ = some (.slice DA n.decs.length dc) := by rw [Lib.cell_of_heap hh2]; rfl
            have hw2 : w.heap.size < w2.heap.size := heap_lt hh2
            have hmk := mkBools n.states.length (by have := HF.out.1; omega)
            rw [hSA] at n0
            rw [hDA] at n4
            go_upto_region 3 with fail
            have hS3 : ∀ o : Obj, (w2.alloc o).drew.cell? ⟨w.heap.size, 0, none⟩ = some (.slice (some ⟨sb, so, none⟩) n.states.length sc) ∧ (w2.alloc o).drew.cell? ⟨w.heap.size, 1, none⟩ = some (.slice TA n.starts.length tc) ∧ (w2.alloc o).drew.cell? ⟨w.heap.size, 2, none⟩ = some (.slice UA n.stops.length uc) ∧ (w2.alloc o).drew.cell? ⟨w.heap.size, 3, none⟩ = some (.slice QA n.preds.length qc) ∧ (w2.alloc o).drew.cell? ⟨w.heap.size, 4, none⟩ = some (.slice (some ⟨db, dof, none⟩) n.decs.length dc) ∧ (w2.alloc o).drew.cell? ⟨db, dof + dn, none⟩ = some (.int .i64 (k : Int)) ∧ (w2.alloc o).drew.cell? ⟨sb, so + k * 3, none⟩ = some (.int .i64 s.rule) ∧ (w2.alloc o).drew.cell? ⟨sb, so + k * 3 + 1, none⟩ = some (.slice EA s.edges.length ec) ∧ (w2.alloc o).drew.cell? ⟨sb, so + k * 3 + 2, none⟩ = some (.slice XA s.ends.length xc) := fun o => by
              have hn : ∀ (b i : Nat), b < w2.heap.size → (w2.alloc o).drew.cell? ⟨b, i, none⟩ = w2.cell? ⟨b, i, none⟩ := fun b i hb => (below_new w2 o).drew.cell (p := ⟨b, i, none⟩) hb
              have := hb02.size
              exact ⟨(hn _ _ (by omega)).trans n0, (hn _ _ (by omega)).trans n1, (hn _ _ (by omega)).trans n2, (hn _ _ (by omega)).trans n3, (hn _ _ (by omega)).trans n4, (hn _ _ (by omega)).trans md, (hn _ _ (by omega)).trans m0, (hn _ _ (by omega)).trans m1, (hn _ _ (by omega)).trans m2⟩
            have hS4 : ∀ o o' : Obj, ((w2.alloc o).alloc o').drew.cell? ⟨w.heap.size, 0, none⟩ = some (.slice (some ⟨sb, so, none⟩) n.states.length sc) ∧ ((w2.alloc o).alloc o').drew.cell? ⟨w.heap.size, 1, none⟩ = some (.slice TA n.starts.length tc) ∧ ((w2.alloc o).alloc o').drew.cell? ⟨w.heap.size, 2, none⟩ = some (.slice UA n.stops.length uc) ∧ ((w2.alloc o).alloc o').drew.cell? ⟨w.heap.size, 3, none⟩ = some (.slice QA n.preds.length qc) ∧ ((w2.alloc o).alloc o').drew.cell? ⟨w.heap.size, 4, none⟩ = some (.slice (some ⟨db, dof, none⟩) n.decs.length dc) ∧ ((w2.alloc o).alloc o').drew.cell? ⟨db, dof + dn, none⟩ = some (.int .i64 (k : Int)) ∧ ((w2.alloc o).alloc o').drew.cell? ⟨sb, so + k * 3, none⟩ = some (.int .i64 s.rule) ∧ ((w2.alloc o).alloc o').drew.cell? ⟨sb, so + k * 3 + 1, none⟩ = some (.slice EA s.edges.length ec) ∧ ((w2.alloc o).alloc o').drew.cell? ⟨sb, so + k * 3 + 2, none⟩ = some (.slice XA s.ends.length xc) := fun o o' => by
              have hn : ∀ (b i : Nat), b < w2.heap.size → ((w2.alloc o).alloc o').drew.cell? ⟨b, i, none⟩ = w2.cell? ⟨b, i, none⟩ := fun b i hb => ((below_new w2 o).alloc (by simp) o').drew.cell (p := ⟨b, i, none⟩) hb
              have := hb02.size
              exact ⟨(hn _ _ (by omega)).trans n0, (hn _ _ (by omega)).trans n1, (hn _ _ (by omega)).trans n2, (hn _ _ (by omega)).trans n3, (hn _ _ (by omega)).trans n4, (hn _ _ (by omega)).trans md, (hn _ _ (by omega)).trans m0, (hn _ _ (by omega)).trans m1, (hn _ _ (by omega)).trans m2⟩
            have HB02 := hid hb02
            have HN2 := hid hn2
            have HSA := hid hSA
            have HDA := hid hDA
            have HRE := hid rE
            have HRX := hid rX
            have HNV := hid hnv
            have HMF := hid hmf
            have HSK := hid hsk
            clear hb02 hn2 hSA hDA rE rX hnv hmf hsk hde e1 e2 e3 hdc hh2 hb2
            go_region_held3 (fun w' => w'.cell? ⟨w.heap.size, 0, none⟩ = some (.slice (some ⟨sb, so, none⟩) n.states.length sc) ∧ w'.cell? ⟨w.heap.size, 1, none⟩ = some (.slice TA n.starts.length tc) ∧ w'.cell? ⟨w.heap.size, 2, none⟩ = some (.slice UA n.stops.length uc) ∧ w'.cell? ⟨w.heap.size, 3, none⟩ = some (.slice QA n.preds.length qc) ∧ w'.cell? ⟨w.heap.size, 4, none⟩ = some (.slice (some ⟨db, dof, none⟩) n.decs.length dc) ∧ w'.cell? ⟨db, dof + dn, none⟩ = some (.int .i64 (k : Int)) ∧ w'.cell? ⟨sb, so + k * 3, none⟩ = some (.int .i64 s.rule) ∧ w'.cell? ⟨sb, so + k * 3 + 1, none⟩ = some (.slice EA s.edges.length ec) ∧ w'.cell? ⟨sb, so + k * 3 + 2, none⟩ = some (.slice XA s.ends.length xc)) (first | assumption | exact ⟨n0, n1, n2, n3, n4, md, m0, m1, m2⟩ | exact hS3 _ | exact hS4 _ _) (fail)
            obtain ⟨w3, hw3⟩ : ∃ w3, ((w2.alloc (.cells (Array.replicate n.states.length (Value.bool false)) 4)).alloc (.cells #[.slice (some ⟨sb, so, none⟩) n.states.length sc, .slice TA n.starts.length tc, .slice UA n.stops.length uc, .slice QA n.preds.length qc, .slice (some ⟨db, dof, none⟩) n.decs.length dc, .int .i64 s.rule, .slice EA s.edges.length ec, .slice XA s.ends.length xc, .int .i64 b, .slice (some ⟨w2.heap.size, 0, none⟩) n.states.length n.states.length] 93)).drew = w3 := ⟨_, rfl⟩
            have hz2 : (w2.alloc (.cells (Array.replicate n.states.length (Value.bool false)) 4)).heap.size = w2.heap.size + 1 := by simp
            have hp3 : w3.heap[w2.heap.size]? = some (.cells ((stopB n.states.length []).map Value.bool).toArray 4 (0, 0)) := by
              rw [stopB_nil, ← hw3]
              show ((w2.alloc _).alloc _).heap[w2.heap.size]? = _
              rw [Below.heap_alloc _ _ _ (by omega)]; exact heap_alloc_new _ _
            have hv3 : w3.heap[w2.heap.size + 1]? = some (.cells #[.slice (some ⟨sb, so, none⟩) n.states.length sc, .slice TA n.starts.length tc, .slice UA n.stops.length uc, .slice QA n.preds.length qc, .slice (some ⟨db, dof, none⟩) n.decs.length dc, .int .i64 s.rule, .slice EA s.edges.length ec, .slice XA s.ends.length xc, .int .i64 b, .slice (some ⟨w2.heap.size, 0, none⟩) n.states.length n.states.length] 93 (0, 0)) := by
              rw [← hw3, ← hz2]; exact heap_alloc_new _ _
            have hb3 : Below w2.heap.size w2 w3 := by rw [← hw3]; exact ((below_new w2 _).alloc (by simp) _).drew
            rw [hw3]
            clear hw3 hz2 hS3 hS4 md m0 m1 m2 hmk
            have n2 := (hb3.cell (p := ⟨w.heap.size, 2, none⟩) hw2).trans n2
            have hz3 : w2.heap.size + 1 < w3.heap.size := heap_lt hv3
            have HB3 := hid hb3
            have HV3 := hid hv3
            have HP3 := hid hp3
            clear hb3 hv3 hp3 n0 n1 n3 n4
            go_wp2_with fail
            go_loopw [10, 53] (fun _ i wr => ∃ j : Nat, j ≤ n.stops.length ∧ i = .int .i64 (j : Int) ∧ Hid (wr.heap[w2.heap.size]? = some (.cells ((stopB n.states.length (n.stops.take j)).map Value.bool).toArray 4 (0, 0)) ∧ Only (fun k => k = w2.heap.size) w3 wr)) (fun _ i _ => n.stops.length - (intOf i).toNat)
            case atStart => exact ⟨0, Nat.zero_le _, rfl, hid ⟨HP3.out, Only.refl _ _⟩⟩
            case round =>
              obtain ⟨j, hj, rfl, HI⟩ := hrel
              have hvr := (HI.out.2.block (w2.heap.size + 1) hz3 (by show ¬ (w2.heap.size + 1 = w2.heap.size); omega)).trans HV3.out
              have hb2r : Below w2.heap.size w2 wr := HI.out.2.below (fun b e => by rw [e]; omega) HB3.out (by omega)
              by_cases hlt : j < n.stops.length
              · have hns := (HN2.out.stops.below (hb2r.mono HB02.out.size))
                obtain ⟨ub, uo, hUA, hul, huc⟩ := hns.2 (by omega)
                have hsm := HMF.out.stops _ (List.getElem_mem hlt)
                have hu := huc j (.int .i64 n.stops[j]) (by rw [List.getElem?_map, List.getElem?_eq_getElem hlt]; rfl)
                have HTK := hid (show n.stops.take (j + 1) = n.stops.take j ++ [n.stops[j]] from List.take_succ_eq_append_getElem hlt)
                obtain ⟨p, hp⟩ : ∃ p : Nat, n.stops[j] = (p : Int) := ⟨n.stops[j].toNat, by omega⟩
                rw [hp] at hu HTK hsm
                have hpl : p < n.states.length := by omega
                have hstl := HF.out.2.2.1
                have v9 : wr.cell? ⟨w2.heap.size + 1, 9, none⟩ = some (.slice (some ⟨w2.heap.size, 0, none⟩) n.states.length n.states.length) := by rw [Lib.cell_of_heap hvr]; rfl
                have zb : wr.frozen? ⟨w2.heap.size, p, none⟩ = false := Lib.frozen_of_heap HI.out.1 p
                have cb : wr.cell? ⟨w2.heap.size, p, none⟩ = some (.bool ((stopB n.states.length (n.stops.take j))[p]'(by unfold stopB; simpa using hpl))) := by
                  rw [Lib.cell_of_heap HI.out.1]
                  simp [stopB, hpl]
                generalize (stopB n.states.length (n.stops.take j))[p]'(by unfold stopB; simpa using hpl) = old at cb
                have hset := heap_setCell_same wr w2.heap.size p _ _ (.bool true) HI.out.1
                rw [stopB_set, ← HTK.out] at hset
                have HSET := hid hset
                have HUA := hid hUA
                rw [hUA]
                clear hUA hns hp hset hvr hb2r hsm huc
                go_wp2
                go_roundw
                case rel => exact ⟨j + 1, hlt, by go_num, hid ⟨HSET.out, HI.out.2.trans (Only.of_set wr w2.heap.size p (.bool true)) (fun _ _ e => e)⟩⟩
                case measure => simp [intOf]; omega
              · have hje : j = n.stops.length := by omega
                subst hje
                have hh := HI.out.1
                rw [List.take_length] at hh
                have hbr : Below w.heap.size w wr := HB02.out.trans (hb2r.mono HB02.out.size)
                have hnr := HN.out.below hbr
                have hwr : w2.heap.size + 1 < wr.heap.size := Nat.lt_of_lt_of_le hz3 HI.out.2.size
                have hs2 := HB02.out.size
                have hE2 := HRE.out.below (hb2r.mono HB02.out.size)
                have hX2 := HRX.out.below (hb2r.mono HB02.out.size)
                have hpr : Reads wr wr.heap.size 1 (some ⟨w2.heap.size, 0, none⟩) n.states.length ((List.range n.states.length).map fun i : Nat => Value.bool (n.stops.contains (i : Int))) := by
                  refine ⟨by simp, fun _ => ⟨_, _, rfl, by omega, fun i u hu => ?_⟩⟩
                  rw [Lib.cell_of_heap hh, Nat.zero_add]
                  unfold stopB
                  rw [List.map_map]
                  simpa using hu
                have hVA : VwAt wr wr.heap.size (w2.heap.size + 1) ⟨SA, TA, UA, QA, DA, EA, XA, some ⟨w2.heap.size, 0, none⟩, sc, tc, uc, qc, dc, ec, xc, n.states.length⟩ ⟨n, s, b⟩ :=
                  ⟨by rw [hvr, HSA.out, HDA.out]; rfl, by omega, ⟨hnr.sts.more (by omega), hnr.starts.more (by omega), hnr.stops.more (by omega), hnr.preds.more (by omega), hnr.decs.more (by omega)⟩, hE2.more (by omega), hX2.more (by omega), hpr⟩
                have HVA := hid hVA
                have HBR := hid hbr
                clear hVA hbr hh hnr hE2 hX2 hpr hvr hb2r
                go_wp2
                go_ret2
                exact .inr ⟨_, _, _, HNV.out, rfl, HVA.out, by omega, HBR.out⟩
end Go.Proofs.YtnpcjbdolmmaeaaGreatDoor
