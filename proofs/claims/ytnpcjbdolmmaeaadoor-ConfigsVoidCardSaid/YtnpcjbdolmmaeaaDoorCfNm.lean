/-
  Drivers: may a net be: the closures, a state: the walk.
-/
import Derived.Test.YtnpcjbdolmmaeaaDoorCfIx
import Derived.Test.YtnpcjbdolmmaeaaDoorNetM
import Derived.Deep.CutRange
import Derived.Laws.EntriesVeiled
namespace Go.Proofs.YtnpcjbdolmmaeaaDoor
open Go.RowKit
set_option maxRecDepth 100000
theorem Reads.getZ {w : World} {B : Nat} {A : Option Addr} {l : List Int} (h : Reads w B 1 A l.length (l.map (Value.int .i64))) {i : Nat} (hi : i < l.length) : ∃ b off, A = some ⟨b, off, none⟩ ∧ b < B ∧ w.cell? ⟨b, off + i, none⟩ = some (.int .i64 l[i]) := by
  obtain ⟨b, off, hA, hb, hc⟩ := h.2 (by omega)
  exact ⟨b, off, hA, hb, hc i _ (by simp [List.getElem?_eq_getElem hi])⟩
theorem flat_get3 (l : List Drv.Ed) {i : Nat} (hi : i < l.length) : (flat encEd l)[i * 3]? = some (.int .u8 l[i].kind) ∧ (flat encEd l)[i * 3 + 1]? = some (.int .i64 l[i].what) ∧ (flat encEd l)[i * 3 + 2]? = some (.int .i64 l[i].to) := by
  have h := flat_get encEd 3 (fun _ => rfl) l i hi
  exact ⟨(h 0 (by omega)).trans rfl, (h 1 (by omega)).trans rfl, (h 2 (by omega)).trans rfl⟩
theorem Reads.getE {w : World} {B : Nat} {A : Option Addr} {l : List Drv.Ed} (h : Reads w B 3 A l.length (flat encEd l)) {i : Nat} (hi : i < l.length) : ∃ b off, A = some ⟨b, off, none⟩ ∧ b < B ∧ w.cell? ⟨b, off + i * 3, none⟩ = some (.int .u8 l[i].kind) ∧ w.cell? ⟨b, off + i * 3 + 1, none⟩ = some (.int .i64 l[i].what) ∧ w.cell? ⟨b, off + i * 3 + 2, none⟩ = some (.int .i64 l[i].to) := by
  obtain ⟨b, off, hA, hb, hc⟩ := h.2 (by omega)
  obtain ⟨e0, e1, e2⟩ := flat_get3 l hi
  refine ⟨b, off, hA, hb, hc _ _ e0, ?_, ?_⟩
  · have := hc _ _ e1; rwa [← Nat.add_assoc] at this
  · have := hc _ _ e2; rwa [← Nat.add_assoc] at this
theorem inB (i : Int) (n : Nat) : (decide (0 ≤ i) && decide (i < (n : Int))) = (decide (0 ≤ i) && decide (i < n)) := rfl
set_option maxHeartbeats 400000 in
theorem state40_any (w : World) (i : Int) (b n c : Nat) (A : Option Addr) (h : w.cell? ⟨b, 0, none⟩ = some (.slice A n c)) :
    Calls Tryd.prog 41 #[.int .i64 i, .pointer (some ⟨b, 0, none⟩)] w fun e w' => e = .returned (.bool (decide (0 ≤ i) && decide (i < n))) ∧ w' = w := by
  by_cases h0 : 0 ≤ i
  · have g : decide (0 ≤ i) = true := by simpa using h0
    clear h0
    go_enter Tryd.func41, Tryd.ntmps41
    go_wp2_with fail
    go_ret
    refine ⟨?_, rfl⟩
    rw [g]; rfl
  · have g : decide (0 ≤ i) = false := by simpa using h0
    clear h0
    go_enter Tryd.func41, Tryd.ntmps41
    go_wp2_with fail
    go_ret
    refine ⟨?_, rfl⟩
    rw [g]; rfl
set_option maxHeartbeats 400000 in
theorem state67_any (w : World) (i : Int) (b n c : Nat) (A : Option Addr) (h : w.cell? ⟨b, 0, none⟩ = some (.slice A n c)) :
    Calls Tryd.prog 63 #[.int .i64 i, .pointer (some ⟨b, 0, none⟩)] w fun e w' => e = .returned (.bool (decide (0 ≤ i) && decide (i < n))) ∧ w' = w := by
  by_cases h0 : 0 ≤ i
  · have g : decide (0 ≤ i) = true := by simpa using h0
    clear h0
    go_enter Tryd.func63, Tryd.ntmps63
    go_wp2_with fail
    go_ret
    refine ⟨?_, rfl⟩
    rw [g]; rfl
  · have g : decide (0 ≤ i) = false := by simpa using h0
    clear h0
    go_enter Tryd.func63, Tryd.ntmps63
    go_wp2_with fail
    go_ret
    refine ⟨?_, rfl⟩
    rw [g]; rfl
set_option maxHeartbeats 400000 in
theorem pred44_any (w : World) (i : Int) (b n c : Nat) (A : Option Addr) (hn : n ≤ 1000000000) (h : w.cell? ⟨b, 0, none⟩ = some (.slice A n c)) :
    Calls Tryd.prog 45 #[.int .i64 i, .pointer (some ⟨b, 0, none⟩)] w fun e w' => e = .returned (.bool (decide (i < 0) || decide ((n : Int) - 1 ≤ i))) ∧ w' = w := by
  have e1 : IntKind.i64.wrap ((n : Int) - 1) = (n : Int) - 1 := w64 (by omega) (by omega)
  by_cases h0 : i < 0
  · have g : decide (i < 0) = true := by simpa using h0
    clear h0
    go_enter Tryd.func45, Tryd.ntmps45
    go_wp2_with fail
    go_ret
    refine ⟨?_, rfl⟩
    rw [g]; rfl
  · have g : decide (i < 0) = false := by simpa using h0
    clear h0
    go_enter Tryd.func45, Tryd.ntmps45
    go_wp2_with fail
    go_ret
    refine ⟨?_, rfl⟩
    rw [g]; rfl
set_option maxHeartbeats 400000 in
theorem strange41_any (w : World) (i : Int) (p b n c : Nat) (A : Option Addr) (hp : w.cell? ⟨p, 0, none⟩ = some (.func (.func 41) #[] #[.pointer (some ⟨b, 0, none⟩)])) (h : w.cell? ⟨b, 0, none⟩ = some (.slice A n c)) :
    Calls Tryd.prog 42 #[.int .i64 i, .pointer (some ⟨p, 0, none⟩)] w fun e w' => e = .returned (.bool (!(decide (0 ≤ i) && decide (i < n)))) ∧ w' = w := by
  have hcf : ∀ (l : Array Value) (u : World), (callFunc 41 l).run Tryd.prog u = .ok (.enter 41 l) u := fun _ _ => rfl
  have hS := state40_any w i b n c A h
  generalize (decide (0 ≤ i) && decide (i < n)) = v at hS ⊢
  go_enter Tryd.func42, Tryd.ntmps42
  go_wp2_with fail
  refine hS.mono ?_
  rintro e w' ⟨rfl, rfl⟩
  dsimp only
  go_wp2
  go_ret
  exact ⟨rfl, rfl⟩
set_option maxHeartbeats 400000 in
theorem strange71_any (w : World) (i : Int) (p b n c : Nat) (A : Option Addr) (hp : w.cell? ⟨p, 0, none⟩ = some (.func (.func 63) #[] #[.pointer (some ⟨b, 0, none⟩)])) (h : w.cell? ⟨b, 0, none⟩ = some (.slice A n c)) :
    Calls Tryd.prog 67 #[.int .i64 i, .pointer (some ⟨p, 0, none⟩)] w fun e w' => e = .returned (.bool (!(decide (0 ≤ i) && decide (i < n)))) ∧ w' = w := by
  have hcf : ∀ (l : Array Value) (u : World), (callFunc 63 l).run Tryd.prog u = .ok (.enter 63 l) u := fun _ _ => rfl
  have hS := state67_any w i b n c A h
  generalize (decide (0 ≤ i) && decide (i < n)) = v at hS ⊢
  go_enter Tryd.func67, Tryd.ntmps67
  go_wp2_with fail
  refine hS.mono ?_
  rintro e w' ⟨rfl, rfl⟩
  dsimp only
  go_wp2
  go_ret
  exact ⟨rfl, rfl⟩
set_option maxHeartbeats 400000 in
theorem empty68_any (w : World) (k a t : Int) :
    Calls Tryd.prog 64 #[.agg #[.int .u8 k, .int .i64 a, .int .i64 t]] w fun e w' => e = .returned (.bool (k == 0)) ∧ Below w.heap.size w w' := by
  go_enter Tryd.func64, Tryd.ntmps64
  go_wp2_with fail
  go_ret
  exact ⟨rfl, below_new _ _⟩
set_option maxHeartbeats 400000 in
theorem full70_any (w : World) (k a t : Int) (p : Nat) (hpl : p < w.heap.size) (hp : w.cell? ⟨p, 0, none⟩ = some (.func (.func 64) #[] #[])) :
    Calls Tryd.prog 66 #[.agg #[.int .u8 k, .int .i64 a, .int .i64 t], .pointer (some ⟨p, 0, none⟩)] w fun e w' => e = .returned (.bool (!(k == 0))) ∧ Below w.heap.size w w' := by
  have hcf : ∀ (l : Array Value) (u : World), (callFunc 64 l).run Tryd.prog u = .ok (.enter 64 l) u := fun _ _ => rfl
  have hp1 : (w.alloc (.cells #[.int .u8 k, .int .i64 a, .int .i64 t] 45)).cell? ⟨p, 0, none⟩ = some (.func (.func 64) #[] #[]) := ((below_new w _).cell (p := ⟨p, 0, none⟩) hpl).trans hp
  go_enter Tryd.func66, Tryd.ntmps66
  go_wp2_with fail
  refine (empty68_any _ k a t).mono ?_
  rintro e w' ⟨rfl, hb⟩
  dsimp only
  go_wp2
  go_ret
  exact ⟨rfl, (below_new w _).trans (hb.mono (by simp))⟩
theorem ret_bool {a b : Bool} (h : a = b) : Ending.returned (.bool a) = .returned (.bool b) := by rw [h]
theorem stMay_bad {n : Drv.NNet} {s : Drv.NSt} {k : Nat} (hk : k < s.edges.length) (h : Drv.edgeB n s.edges[k] = false) : Drv.stMay n s = false := by
  unfold Drv.stMay
  rw [show s.edges.all (Drv.edgeB n) = false from List.all_eq_false.2 ⟨_, List.getElem_mem hk, by rw [h]; simp⟩, Bool.false_and]
theorem edgeB_big {n : Drv.NNet} {ek ew et : Int} (h : 3 < ek) : Drv.edgeB n ⟨ek, ew, et⟩ = false := by
  unfold Drv.edgeB
  rw [show decide (ek ≤ 3) = false by rw [decide_eq_false_iff_not]; omega]
  simp
theorem edgeB_neg {n : Drv.NNet} {ek ew et : Int} (h : ew < 0) : Drv.edgeB n ⟨ek, ew, et⟩ = false := by
  unfold Drv.edgeB
  rw [show decide (0 ≤ ew) = false by rw [decide_eq_false_iff_not]; omega]
  simp
set_option maxHeartbeats 3200000 in
theorem stMay_any (w : World) (n : Drv.NNet) (s : Drv.NSt) (SA TA UA QA DA EA XA : Option Addr) (sc tc uc qc dc ec xc : Nat) (hE : Reads w w.heap.size 3 EA s.edges.length (flat encEd s.edges)) (hX : Reads w w.heap.size 1 XA s.ends.length (s.ends.map (Value.int .i64)))
    (hk : ∀ e ∈ s.edges, 0 ≤ e.kind) (h1 : s.edges.length ≤ 1000000000) (h2 : s.ends.length ≤ 1000000000) :
    Calls Tryd.prog 46 #[.agg #[.int .i64 s.rule, .slice EA s.edges.length ec, .slice XA s.ends.length xc], netAgg SA TA UA QA DA sc tc uc qc dc n] w fun e w' => e = .returned (.bool (Drv.stMay n s)) ∧ Below w.heap.size w w' := by
  have hcf : ∀ (l : Array Value) (u : World), (callFunc 63 l).run Tryd.prog u = .ok (.enter 63 l) u := fun _ _ => rfl
  obtain ⟨nE, hnE⟩ : ∃ m, s.edges.length = m := ⟨_, rfl⟩
  obtain ⟨nX, hnX⟩ : ∃ m, s.ends.length = m := ⟨_, rfl⟩
  obtain ⟨nS, hnS⟩ : ∃ m, n.states.length = m := ⟨_, rfl⟩
  obtain ⟨nT, hnT⟩ : ∃ m, n.starts.length = m := ⟨_, rfl⟩
  obtain ⟨nQ, hnQ⟩ : ∃ m, n.preds.length = m := ⟨_, rfl⟩
  have HE := hid hE
  have HX := hid hX
  have HK := hid hk
  unfold netAgg
  rw [hnE, hnX, hnS, hnT, hnQ]
  rw [hnE] at h1
  rw [hnX] at h2
  have HNE := hid hnE
  have HNX := hid hnX
  have HNS := hid hnS
  have HNT := hid hnT
  have HNQ := hid hnQ
  clear hE hX hk hnE hnX hnS hnT hnQ
  go_enter Tryd.func46, Tryd.ntmps46
  go_upto_region 1 with fail
  obtain ⟨w1, hw1⟩ : ∃ w1, w1 = w.alloc (.cells #[.int .i64 s.rule, .slice EA nE ec, .slice XA nX xc] 28) := ⟨_, rfl⟩
  obtain ⟨w2, hw2⟩ : ∃ w2, w2 = w1.alloc (.cells #[.slice SA nS sc, .slice TA nT tc, .slice UA n.stops.length uc, .slice QA nQ qc, .slice DA n.decs.length dc] 25) := ⟨_, rfl⟩
  rw [← hw1, ← hw2]
  have z1 : w1.heap.size = w.heap.size + 1 := by rw [hw1]; simp
  have z2 : w2.heap.size = w.heap.size + 1 + 1 := by rw [hw2]; simp [z1]
  have hb2 : Below w.heap.size w w2 := by
    have b1 : Below w.heap.size w w1 := by rw [hw1]; exact below_new _ _
    rw [hw2]; exact b1.alloc (by omega) _
  have T1 : w2.heap[w.heap.size]? = some (.cells #[.int .i64 s.rule, .slice EA nE ec, .slice XA nX xc] 28 (0, 0)) := by
    rw [hw2, Below.heap_alloc _ _ _ (by omega), hw1]; exact heap_alloc_new _ _
  have T2 : w2.heap[w.heap.size + 1]? = some (.cells #[.slice SA nS sc, .slice TA nT tc, .slice UA n.stops.length uc, .slice QA nQ qc, .slice DA n.decs.length dc] 25 (0, 0)) := by
    rw [hw2, ← z1]; exact heap_alloc_new _ _
  have T3 : (w2.alloc (.cells #[Value.nilFunc] 42)).heap[w.heap.size + 1 + 1]? = some (.cells #[Value.nilFunc] 42 (0, 0)) := by rw [← z2]; exact heap_alloc_new _ _
  have ho3 : Only (fun _ => False) w2 (w2.alloc (.cells #[Value.nilFunc] 42)) := Only.of_below (below_new _ _)
  have c3 : (w2.alloc (.cells #[Value.nilFunc] 42)).cell? ⟨w.heap.size + 1 + 1, 0, none⟩ = some Value.nilFunc := by rw [Lib.cell_of_heap T3]; rfl
  have f3 : (w2.alloc (.cells #[Value.nilFunc] 42)).frozen? ⟨w.heap.size + 1 + 1, 0, none⟩ = false := Lib.frozen_of_heap T3 0
  clear hw1 hw2
  go_upto_region 2 with fail
  clear c3 f3 T3 ho3
  have ho4 : Only (fun _ => False) w2 (w2.alloc (.cells #[.func (.func 63) #[] #[.pointer (some ⟨w.heap.size + 1, 0, none⟩)]] 42)) := Only.of_below (below_new _ _)
  have T3 : (w2.alloc (.cells #[.func (.func 63) #[] #[.pointer (some ⟨w.heap.size + 1, 0, none⟩)]] 42)).heap[w.heap.size + 1 + 1]? = some (.cells #[.func (.func 63) #[] #[.pointer (some ⟨w.heap.size + 1, 0, none⟩)]] 42 (0, 0)) := by rw [← z2]; exact heap_alloc_new _ _
  have z4 : (w2.alloc (.cells #[.func (.func 63) #[] #[.pointer (some ⟨w.heap.size + 1, 0, none⟩)]] 42)).heap.size = w2.heap.size + 1 := size_alloc _ _
  generalize w2.alloc (.cells #[.func (.func 63) #[] #[.pointer (some ⟨w.heap.size + 1, 0, none⟩)]] 42) = w4 at ho4 T3 z4 ⊢
  have HB4 := hid (ho4.below (B := w.heap.size) (fun _ e => e.elim) hb2 hb2.size)
  have T1 := (ho4.block _ (heap_lt T1) (fun e => e)).trans T1
  have T2 := (ho4.block _ (heap_lt T2) (fun e => e)).trans T2
  have hbs0 : w.heap.size < w4.heap.size := heap_lt T1
  have hbn0 : w.heap.size + 1 < w4.heap.size := heap_lt T2
  have hbf0 : w.heap.size + 1 + 1 < w4.heap.size := heap_lt T3
  have cs1 : w4.cell? ⟨w.heap.size, 1, none⟩ = some (.slice EA nE ec) := by rw [Lib.cell_of_heap T1]; rfl
  have cs2 : w4.cell? ⟨w.heap.size, 2, none⟩ = some (.slice XA nX xc) := by rw [Lib.cell_of_heap T1]; rfl
  have cn0 : w4.cell? ⟨w.heap.size + 1, 0, none⟩ = some (.slice SA nS sc) := by rw [Lib.cell_of_heap T2]; rfl
  have cn1 : w4.cell? ⟨w.heap.size + 1, 1, none⟩ = some (.slice TA nT tc) := by rw [Lib.cell_of_heap T2]; rfl
  have cn3 : w4.cell? ⟨w.heap.size + 1, 3, none⟩ = some (.slice QA nQ qc) := by rw [Lib.cell_of_heap T2]; rfl
  have cf0 : w4.cell? ⟨w.heap.size + 1 + 1, 0, none⟩ = some (.func (.func 63) #[] #[.pointer (some ⟨w.heap.size + 1, 0, none⟩)]) := by rw [Lib.cell_of_heap T3]; rfl
  clear T1 T2 T3 ho4 z1 z2 z4 hb2
  generalize hbf : w.heap.size + 1 + 1 = bf at hbf0 cf0 ⊢
  generalize hbn : w.heap.size + 1 = bn at hbn0 cn0 cn1 cn3 cf0 ⊢
  generalize hbs : w.heap.size = bs at hbs0 cs1 cs2 ⊢
  have cs1' := fun (wr : World) (hb : Below w4.heap.size w4 wr) => (hb.cell (p := ⟨bs, 1, none⟩) hbs0).trans cs1
  have cs2' := fun (wr : World) (hb : Below w4.heap.size w4 wr) => (hb.cell (p := ⟨bs, 2, none⟩) hbs0).trans cs2
  have CN0 := hid (fun (wr : World) (hb : Below w4.heap.size w4 wr) => (hb.cell (p := ⟨bn, 0, none⟩) hbn0).trans cn0)
  have cn1' := fun (wr : World) (hb : Below w4.heap.size w4 wr) => (hb.cell (p := ⟨bn, 1, none⟩) hbn0).trans cn1
  have cn3' := fun (wr : World) (hb : Below w4.heap.size w4 wr) => (hb.cell (p := ⟨bn, 3, none⟩) hbn0).trans cn3
  have cf0' := fun (wr : World) (hb : Below w4.heap.size w4 wr) => (hb.cell (p := ⟨bf, 0, none⟩) hbf0).trans cf0
  have CS1 := hid cs1'
  have CS2 := hid cs2'
  have CN1 := hid cn1'
  have CN3 := hid cn3'
  have CF0 := hid cf0'
  have hE4 := hid (HE.out.below HB4.out)
  clear cs1' cs2' cn1' cn3' cf0' cs2 cn0 cn1 cn3 cf0 hbs hbf HE
  go_wp2_with fail
  go_loopw [15] (fun i wr => ∃ k : Nat, k ≤ nE ∧ i = .int .i64 k ∧ Hid (Below w4.heap.size w4 wr ∧ ∀ j (hj : j < s.edges.length), j < k → Drv.edgeB n s.edges[j] = true)) (fun i _ => nE - (intOf i).toNat)
  case atStart => exact ⟨0, by omega, by simp, hid ⟨Below.refl _ _, fun _ _ h => absurd h (Nat.not_lt_zero _)⟩⟩
  case round =>
   obtain ⟨k, hk, rfl, hH⟩ := hrel
   have HBR := hid hH.out.1
   have HALL := hid hH.out.2
   clear hH
   by_cases hlt : k < nE
   · have hkl : k < s.edges.length := by rw [HNE.out]; exact hlt
     obtain ⟨eb, eoff, hEA, heb, e0, e1, e2⟩ := (hE4.out.below (Below.mono HBR.out (by have := HB4.out.size; omega))).getE hkl
     subst hEA
     have hk0 := HK.out _ (List.getElem_mem hkl)
     generalize hxe : s.edges[k] = ex at e0 e1 e2 hk0
     obtain ⟨ek, ew, et⟩ := ex
     simp only at e0 e1 e2 hk0
     have HXE := hid hxe
     clear hxe
     have cn1 := fun o => CN1.out (wr.alloc o) (HBR.out.alloc HBR.out.size _)
     have cn3 := fun o => CN3.out (wr.alloc o) (HBR.out.alloc HBR.out.size _)
     have cf0 := fun o => CF0.out (wr.alloc o) (HBR.out.alloc HBR.out.size _)
    -- LOOP
     by_cases h3k : 3 < ek
     · have g1 : decide (3 < ek) = true := by simpa using h3k
       have g2 : (ek == 2) = false := by rw [beq_eq_false_iff_ne]; omega
       have g3 : (ek == 3) = false := by rw [beq_eq_false_iff_ne]; omega
       go_wp2_with fail
       go_ret
       exact ⟨ret_bool (stMay_bad hkl (by rw [HXE.out]; exact edgeB_big h3k)).symm, HB4.out.trans ((HBR.out.alloc HBR.out.size _).mono HB4.out.size)⟩
     · obtain rfl | rfl | rfl | rfl : ek = 0 ∨ ek = 1 ∨ ek = 2 ∨ ek = 3 := by omega
       · clear h3k hk0
         by_cases h5 : ew < 0
         · have g5 : decide (ew < 0) = true := by simpa using h5
           go_wp2_with fail
           go_ret
           exact ⟨ret_bool (stMay_bad hkl (by rw [HXE.out]; exact edgeB_neg h5)).symm, HB4.out.trans ((HBR.out.alloc HBR.out.size _).mono HB4.out.size)⟩
         · have g5 : decide (ew < 0) = false := by simpa using h5
           by_cases h6 : (1 : Int) ≤ ew
           · have g6 : decide ((1 : Int) ≤ ew) = true := by simpa using h6
             go_wp2_with fail
             go_ret
             exact ⟨ret_bool (stMay_bad hkl (by rw [HXE.out]; unfold Drv.edgeB; rw [HNT.out, HNQ.out]; simp; omega)).symm, HB4.out.trans ((HBR.out.alloc HBR.out.size _).mono HB4.out.size)⟩
           · have g6 : decide ((1 : Int) ≤ ew) = false := by simpa using h6
             have hS := state67_any (wr.alloc (.cells #[.int .u8 0, .int .i64 ew, .int .i64 et] 45)) et bn nS sc SA (CN0.out _ (HBR.out.alloc HBR.out.size _))
             generalize hv : (decide (0 ≤ et) && decide (et < (nS : Int))) = v at hS
             have hed : Drv.edgeB n s.edges[k] = v := by
               rw [HXE.out, ← hv]
               unfold Drv.edgeB Drv.stateB
               rw [HNS.out, HNT.out, HNQ.out]
               simp; omega
             have HED := hid hed
             clear hv hed
             go_wp2_with fail
             refine hS.mono ?_
             rintro e w' ⟨rfl, rfl⟩
             dsimp only
             cases v with
             | false =>
               go_wp2_with fail
               go_ret
               exact ⟨ret_bool (stMay_bad hkl HED.out).symm, HB4.out.trans ((HBR.out.alloc HBR.out.size _).mono HB4.out.size)⟩
             | true =>
               go_wp2_with fail
               go_roundw
               case rel => exact ⟨k + 1, by omega, by go_num, hid ⟨HBR.out.alloc HBR.out.size _, fun j hj hjk => by rcases Nat.lt_succ_iff_lt_or_eq.1 hjk with h | rfl; exact HALL.out j hj h; exact HED.out⟩⟩
               case measure => simp [intOf]; omega
       · clear h3k hk0
         by_cases h5 : ew < 0
         · have g5 : decide (ew < 0) = true := by simpa using h5
           go_wp2_with fail
           go_ret
           exact ⟨ret_bool (stMay_bad hkl (by rw [HXE.out]; exact edgeB_neg h5)).symm, HB4.out.trans ((HBR.out.alloc HBR.out.size _).mono HB4.out.size)⟩
         · have g5 : decide (ew < 0) = false := by simpa using h5
           have hS := state67_any (wr.alloc (.cells #[.int .u8 1, .int .i64 ew, .int .i64 et] 45)) et bn nS sc SA (CN0.out _ (HBR.out.alloc HBR.out.size _))
           generalize hv : (decide (0 ≤ et) && decide (et < (nS : Int))) = v at hS
           have hed : Drv.edgeB n s.edges[k] = v := by
             rw [HXE.out, ← hv]
             unfold Drv.edgeB Drv.stateB
             rw [HNS.out, HNT.out, HNQ.out]
             simp; omega
           have HED := hid hed
           clear hv hed
           go_wp2_with fail
           refine hS.mono ?_
           rintro e w' ⟨rfl, rfl⟩
           dsimp only
           cases v with
           | false =>
             go_wp2_with fail
             go_ret
             exact ⟨ret_bool (stMay_bad hkl HED.out).symm, HB4.out.trans ((HBR.out.alloc HBR.out.size _).mono HB4.out.size)⟩
           | true =>
             go_wp2_with fail
             go_roundw
             case rel => exact ⟨k + 1, by omega, by go_num, hid ⟨HBR.out.alloc HBR.out.size _, fun j hj hjk => by rcases Nat.lt_succ_iff_lt_or_eq.1 hjk with h | rfl; exact HALL.out j hj h; exact HED.out⟩⟩
             case measure => simp [intOf]; omega
       · clear h3k hk0
         by_cases h5 : ew < 0
         · have g5 : decide (ew < 0) = true := by simpa using h5
           go_wp2_with fail
           go_ret
           exact ⟨ret_bool (stMay_bad hkl (by rw [HXE.out]; exact edgeB_neg h5)).symm, HB4.out.trans ((HBR.out.alloc HBR.out.size _).mono HB4.out.size)⟩
         · have g5 : decide (ew < 0) = false := by simpa using h5
           by_cases h6 : (nT : Int) ≤ ew
           · have g6 : decide ((nT : Int) ≤ ew) = true := by simpa using h6
             go_wp2_with fail
             go_ret
             exact ⟨ret_bool (stMay_bad hkl (by rw [HXE.out]; unfold Drv.edgeB; rw [HNT.out, HNQ.out]; simp; omega)).symm, HB4.out.trans ((HBR.out.alloc HBR.out.size _).mono HB4.out.size)⟩
           · have g6 : decide ((nT : Int) ≤ ew) = false := by simpa using h6
             have hS := state67_any (wr.alloc (.cells #[.int .u8 2, .int .i64 ew, .int .i64 et] 45)) et bn nS sc SA (CN0.out _ (HBR.out.alloc HBR.out.size _))
             generalize hv : (decide (0 ≤ et) && decide (et < (nS : Int))) = v at hS
             have hed : Drv.edgeB n s.edges[k] = v := by
               rw [HXE.out, ← hv]
               unfold Drv.edgeB Drv.stateB
               rw [HNS.out, HNT.out, HNQ.out]
               simp; omega
             have HED := hid hed
             clear hv hed
             go_wp2_with fail
             refine hS.mono ?_
             rintro e w' ⟨rfl, rfl⟩
             dsimp only
             cases v with
             | false =>
               go_wp2_with fail
               go_ret
               exact ⟨ret_bool (stMay_bad hkl HED.out).symm, HB4.out.trans ((HBR.out.alloc HBR.out.size _).mono HB4.out.size)⟩
             | true =>
               go_wp2_with fail
               go_roundw
               case rel => exact ⟨k + 1, by omega, by go_num, hid ⟨HBR.out.alloc HBR.out.size _, fun j hj hjk => by rcases Nat.lt_succ_iff_lt_or_eq.1 hjk with h | rfl; exact HALL.out j hj h; exact HED.out⟩⟩
               case measure => simp [intOf]; omega
       · clear h3k hk0
         by_cases h5 : ew < 0
         · have g5 : decide (ew < 0) = true := by simpa using h5
           go_wp2_with fail
           go_ret
           exact ⟨ret_bool (stMay_bad hkl (by rw [HXE.out]; exact edgeB_neg h5)).symm, HB4.out.trans ((HBR.out.alloc HBR.out.size _).mono HB4.out.size)⟩
         · have g5 : decide (ew < 0) = false := by simpa using h5
           by_cases h6 : (nQ : Int) ≤ ew
           · have g6 : decide ((nQ : Int) ≤ ew) = true := by simpa using h6
             go_wp2_with fail
             go_ret
             exact ⟨ret_bool (stMay_bad hkl (by rw [HXE.out]; unfold Drv.edgeB; rw [HNT.out, HNQ.out]; simp; omega)).symm, HB4.out.trans ((HBR.out.alloc HBR.out.size _).mono HB4.out.size)⟩
           · have g6 : decide ((nQ : Int) ≤ ew) = false := by simpa using h6
             have hS := state67_any (wr.alloc (.cells #[.int .u8 3, .int .i64 ew, .int .i64 et] 45)) et bn nS sc SA (CN0.out _ (HBR.out.alloc HBR.out.size _))
             generalize hv : (decide (0 ≤ et) && decide (et < (nS : Int))) = v at hS
             have hed : Drv.edgeB n s.edges[k] = v := by
               rw [HXE.out, ← hv]
               unfold Drv.edgeB Drv.stateB
               rw [HNS.out, HNT.out, HNQ.out]
               simp; omega
             have HED := hid hed
             clear hv hed
             go_wp2_with fail
             refine hS.mono ?_
             rintro e w' ⟨rfl, rfl⟩
             dsimp only
             cases v with
             | false =>
               go_wp2_with fail
               go_ret
               exact ⟨ret_bool (stMay_bad hkl HED.out).symm, HB4.out.trans ((HBR.out.alloc HBR.out.size _).mono HB4.out.size)⟩
             | true =>
               go_wp2_with fail
               go_roundw
               case rel => exact ⟨k + 1, by omega, by go_num, hid ⟨HBR.out.alloc HBR.out.size _, fun j hj hjk => by rcases Nat.lt_succ_iff_lt_or_eq.1 hjk with h | rfl; exact HALL.out j hj h; exact HED.out⟩⟩
               case measure => simp [intOf]; omega
    -- POOL
   · have hall : s.edges.all (Drv.edgeB n) = true := List.all_eq_true.2 fun e he => by
       obtain ⟨j, hj, rfl⟩ := List.mem_iff_getElem.1 he
       exact HALL.out j hj (by have := HNE.out; omega)
     have HA := hid hall
     clear hall HALL
     have hstE : Drv.stMay n s = (s.ends.length == 0 || (s.ends.length == s.edges.length && decide (2 ≤ s.ends.length) && s.edges.all (fun e => e.kind == 0) && s.ends.all (Drv.stateB n))) := by
       unfold Drv.stMay
       rw [HA.out, Bool.true_and]
     rw [HNE.out, HNX.out] at hstE
     have HST := hid hstE
     clear hstE
     have c9 : (wr.alloc (.cells #[Value.nilFunc] 99)).cell? ⟨wr.heap.size, 0, none⟩ = some Value.nilFunc := by rw [Lib.cell_of_heap (heap_alloc_new _ _)]; rfl
     have f9 : (wr.alloc (.cells #[Value.nilFunc] 99)).frozen? ⟨wr.heap.size, 0, none⟩ = false := Lib.frozen_of_heap (heap_alloc_new _ _) 0
     go_upto_region 15 with fail
     clear c9 f9
     have hb5 : Below w4.heap.size w4 (wr.alloc (.cells #[.func (.func 64) #[] #[]] 99)) := HBR.out.alloc HBR.out.size _
     have T9 : (wr.alloc (.cells #[.func (.func 64) #[] #[]] 99)).heap[wr.heap.size]? = some (.cells #[.func (.func 64) #[] #[]] 99 (0, 0)) := heap_alloc_new _ _
     generalize wr.alloc (.cells #[.func (.func 64) #[] #[]] 99) = w5 at hb5 T9 ⊢
     generalize wr.heap.size = b9 at T9 ⊢
     have h9 := heap_lt T9
     have hs5 := hb5.size
     have c9 : w5.cell? ⟨b9, 0, none⟩ = some (.func (.func 64) #[] #[]) := by rw [Lib.cell_of_heap T9]; rfl
     have cs1 := CS1.out w5 hb5
     have cs2 := CS2.out w5 hb5
     have cf0 := CF0.out w5 hb5
     have cn0 := CN0.out w5 hb5
     have HB5 := hid (HB4.out.trans (hb5.mono HB4.out.size))
     have hE5 := hid (hE4.out.below (hb5.mono HB4.out.size))
     have hX5 := hid (HX.out.below HB5.out)
     clear T9 hb5 HBR CS1 CS2 CF0 CN0 CN1 CN3 hE4 HX hk hlt
     by_cases hx0 : nX = 0
     · subst hx0
       have HS2 : Hid (Drv.stMay n s = true) := hid (by rw [HST.out]; rfl)
       by_cases he0 : nE = 0
       · subst he0
         go_wp2_with fail
         go_ret
         exact ⟨ret_bool HS2.out.symm, HB5.out⟩
       · have g1 : ((0 : Int) == (nE : Int)) = false := by rw [beq_eq_false_iff_ne]; omega
         clear he0
         go_wp2_with fail
         go_ret
         exact ⟨ret_bool HS2.out.symm, HB5.out⟩
     · have g0 : ((nX : Int) == 0) = false := by rw [beq_eq_false_iff_ne]; omega
       have n0 : (nX == 0) = false := by rw [beq_eq_false_iff_ne]; exact hx0
       by_cases hxe : nX = nE
       · subst hxe
         by_cases h2x : 2 ≤ nX
         · have g2 : decide (2 ≤ nX) = true := by simpa using h2x
           have g3 : decide ((2 : Int) ≤ (nX : Int)) = true := by rw [decide_eq_true_eq]; omega
           have hC := containsAE_any 66 #[.pointer (some ⟨b9, 0, none⟩)] (fun e : Drv.Ed => !(e.kind == 0)) (fun _ _ => by kernel_rfl) EA ec w5.heap.size s.edges (flat encEd s.edges) w5 (by rw [HNE.out]; exact h1) (Nat.le_refl _)
             (hE5.out.more HB5.out.size) (fun wr i x0 x1 x2 hi q0 q1 q2 hb => by
               obtain ⟨e0, e1, e2⟩ := flat_get3 s.edges hi
               rw [e0] at q0; rw [e1] at q1; rw [e2] at q2
               injection q0 with q0; injection q1 with q1; injection q2 with q2
               subst q0 q1 q2
               exact full70_any wr _ _ _ b9 (Nat.lt_of_lt_of_le h9 hb.size) ((hb.cell (p := ⟨b9, 0, none⟩) h9).trans c9))
           rw [HNE.out] at hC
           generalize hv : (s.edges.any fun e => !(e.kind == 0)) = v at hC
           have hall : (s.edges.all fun e => e.kind == 0) = !v := by rw [← hv, List.not_any_eq_all_not]; simp
           have HC := hid hC
           clear hC hv h2x hx0
           go_wp2_with fail
           refine HC.out.mono ?_
           rintro e w6 ⟨rfl, hb6⟩
           dsimp only
           have cs2 := (hb6.cell (p := ⟨bs, 2, none⟩) (Nat.lt_of_lt_of_le hbs0 hs5)).trans cs2
           have cf0 := (hb6.cell (p := ⟨bf, 0, none⟩) (Nat.lt_of_lt_of_le hbf0 hs5)).trans cf0
           have cn0 := (hb6.cell (p := ⟨bn, 0, none⟩) (Nat.lt_of_lt_of_le hbn0 hs5)).trans cn0
           have HB6 := hid (HB5.out.trans (hb6.mono HB5.out.size))
           have hX6 := hid (hX5.out.below (hb6.mono HB5.out.size))
           have hs6 := hb6.size
           cases v with
           | true =>
             have HS2 : Hid (Drv.stMay n s = false) := hid (by rw [HST.out, hall, n0]; simp)
             clear hall hb6
             go_wp2_with fail
             go_ret
             exact ⟨ret_bool HS2.out.symm, HB6.out⟩
           | false =>
             have hD := containsZ_any 67 #[.pointer (some ⟨bf, 0, none⟩)] (fun i : Int => !(Drv.stateB n i)) (fun _ _ => by kernel_rfl) XA xc w6.heap.size s.ends (s.ends.map (Value.int .i64)) w6 (by rw [HNX.out]; exact h2) (Nat.le_refl _)
               (hX6.out.more HB6.out.size) (fun wr i x0 hi q0 hb => by
                 rw [List.getElem?_map, List.getElem?_eq_getElem hi] at q0
                 injection q0 with q0
                 subst q0
                 have h7 := strange71_any wr s.ends[i] bf bn nS sc SA ((hb.cell (p := ⟨bf, 0, none⟩) (Nat.lt_of_lt_of_le hbf0 (by omega))).trans cf0) ((hb.cell (p := ⟨bn, 0, none⟩) (Nat.lt_of_lt_of_le hbn0 (by omega))).trans cn0)
                 refine h7.mono ?_
                 rintro e w' ⟨rfl, rfl⟩
                 refine ⟨?_, Below.refl _ _⟩
                 unfold Drv.stateB
                 rw [HNS.out])
             rw [HNX.out] at hD
             generalize hu : (s.ends.any fun i => !(Drv.stateB n i)) = u at hD
             have hal2 : s.ends.all (Drv.stateB n) = !u := by rw [← hu, List.not_any_eq_all_not]; simp
             have HD := hid hD
             have HS2 : Hid (Drv.stMay n s = !u) := hid (by rw [HST.out, hall, hal2, n0, g2, beq_self_eq_true, Bool.false_or, Bool.true_and, Bool.not_false, Bool.true_and, Bool.true_and])
             clear hD hu hall hal2 hb6
             go_wp2_with fail
             refine HD.out.mono ?_
             rintro e w7 ⟨rfl, hb7⟩
             have HB7 := hid (HB6.out.trans (hb7.mono HB6.out.size))
             clear hb7
             dsimp only
             cases u with
             | true =>
               go_wp2_with fail
               go_ret
               exact ⟨ret_bool HS2.out.symm, HB7.out⟩
             | false =>
               go_wp2_with fail
               go_ret
               exact ⟨ret_bool HS2.out.symm, HB7.out⟩
         · have g2 : decide (2 ≤ nX) = false := by simpa using h2x
           have g3 : decide ((2 : Int) ≤ (nX : Int)) = false := by rw [decide_eq_false_iff_not]; omega
           have HS2 : Hid (Drv.stMay n s = false) := hid (by rw [HST.out, n0, g2]; simp)
           clear h2x hx0
           go_wp2_with fail
           go_ret
           exact ⟨ret_bool HS2.out.symm, HB5.out⟩
       · have g1 : ((nX : Int) == (nE : Int)) = false := by rw [beq_eq_false_iff_ne]; omega
         have n1 : (nX == nE) = false := by rw [beq_eq_false_iff_ne]; exact hxe
         have HS2 : Hid (Drv.stMay n s = false) := hid (by rw [HST.out, n0, n1]; simp)
         clear hxe hx0
         go_wp2_with fail
         go_ret
         exact ⟨ret_bool HS2.out.symm, HB5.out⟩
end Go.Proofs.YtnpcjbdolmmaeaaDoor
