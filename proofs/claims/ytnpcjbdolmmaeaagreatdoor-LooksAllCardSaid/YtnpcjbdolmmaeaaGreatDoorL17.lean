/-
  Drivers: may a net be: the closures, a state: the walk.
-/
import Derived.Deep.CutRange
import Derived.Laws.EntriesVeiled
import Derived.Test.YtnpcjbdolmmaeaaGreatDoorL05
import Derived.Test.YtnpcjbdolmmaeaaGreatDoorL13
import Derived.Test.YtnpcjbdolmmaeaaGreatDoorL16
namespace Go.Proofs.YtnpcjbdolmmaeaaGreatDoor
open Go.RowKit
set_option maxRecDepth 100000
theorem flat_get3 (l : List Drv.Ed) {i : Nat} (hi : i < l.length) : (flat encEd l)[i * 3]? = some (.int .u8 l[i].kind) ∧ (flat encEd l)[i * 3 + 1]? = some (.int .i64 l[i].what) ∧ (flat encEd l)[i * 3 + 2]? = some (.int .i64 l[i].to) := by
  have h := flat_get encEd 3 (fun _ => rfl) l i hi
  exact ⟨(h 0 (by omega)).trans rfl, (h 1 (by omega)).trans rfl, (h 2 (by omega)).trans rfl⟩
theorem Reads.getE {w : World} {B : Nat} {A : Option Addr} {l : List Drv.Ed} (h : Reads w B 3 A l.length (flat encEd l)) {i : Nat} (hi : i < l.length) : ∃ b off, A = some ⟨b, off, none⟩ ∧ b < B ∧ w.cell? ⟨b, off + i * 3, none⟩ = some (.int .u8 l[i].kind) ∧ w.cell? ⟨b, off + i * 3 + 1, none⟩ = some (.int .i64 l[i].what) ∧ w.cell? ⟨b, off + i * 3 + 2, none⟩ = some (.int .i64 l[i].to) := by
  obtain ⟨b, off, hA, hb, hc⟩ := h.2 (by omega)
  obtain ⟨e0, e1, e2⟩ := flat_get3 l hi
  refine ⟨b, off, hA, hb, hc _ _ e0, ?_, ?_⟩
  · have := hc _ _ e1; rwa [← Nat.add_assoc] at this
  · have := hc _ _ e2; rwa [← Nat.add_assoc] at this
set_option maxHeartbeats 400000 in
theorem state40_any (w : World) (i : Int) (b n c : Nat) (A : Option Addr) (h : w.cell? ⟨b, 0, none⟩ = some (.slice A n c)) :
    Calls Tryz.prog 44 #[.int .i64 i, .pointer (some ⟨b, 0, none⟩)] w fun e w' => e = .returned (.bool (decide (0 ≤ i) && decide (i < n))) ∧ w' = w := by
  by_cases h0 : 0 ≤ i
  · have g : decide (0 ≤ i) = true := by simpa using h0
    clear h0
    go_enter Tryz.func44, Tryz.ntmps44
    go_wp2_with fail
    go_ret
    refine ⟨?_, rfl⟩
    rw [g]; rfl
  · have g : decide (0 ≤ i) = false := by simpa using h0
    clear h0
    go_enter Tryz.func44, Tryz.ntmps44
    go_wp2_with fail
    go_ret
    refine ⟨?_, rfl⟩
    rw [g]; rfl
set_option maxHeartbeats 400000 in
theorem state67_any (w : World) (i : Int) (b n c : Nat) (A : Option Addr) (h : w.cell? ⟨b, 0, none⟩ = some (.slice A n c)) :
    Calls Tryz.prog 73 #[.int .i64 i, .pointer (some ⟨b, 0, none⟩)] w fun e w' => e = .returned (.bool (decide (0 ≤ i) && decide (i < n))) ∧ w' = w := by
  by_cases h0 : 0 ≤ i
  · have g : decide (0 ≤ i) = true := by simpa using h0
    clear h0
    go_enter Tryz.func73, Tryz.ntmps73
    go_wp2_with fail
    go_ret
    refine ⟨?_, rfl⟩
    rw [g]; rfl
  · have g : decide (0 ≤ i) = false := by simpa using h0
    clear h0
    go_enter Tryz.func73, Tryz.ntmps73
    go_wp2_with fail
    go_ret
    refine ⟨?_, rfl⟩
    rw [g]; rfl
set_option maxHeartbeats 400000 in
theorem pred44_any (w : World) (i : Int) (b n c : Nat) (A : Option Addr) (hn : n ≤ 1000000000) (h : w.cell? ⟨b, 0, none⟩ = some (.slice A n c)) :
    Calls Tryz.prog 48 #[.int .i64 i, .pointer (some ⟨b, 0, none⟩)] w fun e w' => e = .returned (.bool (decide (i < 0) || decide ((n : Int) - 1 ≤ i))) ∧ w' = w := by
  have e1 : IntKind.i64.wrap ((n : Int) - 1) = (n : Int) - 1 := w64 (by omega) (by omega)
  by_cases h0 : i < 0
  · have g : decide (i < 0) = true := by simpa using h0
    clear h0
    go_enter Tryz.func48, Tryz.ntmps48
    go_wp2_with fail
    go_ret
    refine ⟨?_, rfl⟩
    rw [g]; rfl
  · have g : decide (i < 0) = false := by simpa using h0
    clear h0
    go_enter Tryz.func48, Tryz.ntmps48
    go_wp2_with fail
    go_ret
    refine ⟨?_, rfl⟩
    rw [g]; rfl
set_option maxHeartbeats 400000 in
theorem strange41_any (w : World) (i : Int) (p b n c : Nat) (A : Option Addr) (hp : w.cell? ⟨p, 0, none⟩ = some (.func (.func 44) #[] #[.pointer (some ⟨b, 0, none⟩)])) (h : w.cell? ⟨b, 0, none⟩ = some (.slice A n c)) :
    Calls Tryz.prog 45 #[.int .i64 i, .pointer (some ⟨p, 0, none⟩)] w fun e w' => e = .returned (.bool (!(decide (0 ≤ i) && decide (i < n)))) ∧ w' = w := by
  have hcf : ∀ (l : Array Value) (u : World), (callFunc 44 l).run Tryz.prog u = .ok (.enter 44 l) u := fun _ _ => rfl
  have hS := state40_any w i b n c A h
  generalize (decide (0 ≤ i) && decide (i < n)) = v at hS ⊢
  go_enter Tryz.func45, Tryz.ntmps45
  go_wp2_with fail
  refine hS.mono ?_
  rintro e w' ⟨rfl, rfl⟩
  dsimp only
  go_wp2
  go_ret
  exact ⟨rfl, rfl⟩
set_option maxHeartbeats 400000 in
theorem strange71_any (w : World) (i : Int) (p b n c : Nat) (A : Option Addr) (hp : w.cell? ⟨p, 0, none⟩ = some (.func (.func 73) #[] #[.pointer (some ⟨b, 0, none⟩)])) (h : w.cell? ⟨b, 0, none⟩ = some (.slice A n c)) :
    Calls Tryz.prog 77 #[.int .i64 i, .pointer (some ⟨p, 0, none⟩)] w fun e w' => e = .returned (.bool (!(decide (0 ≤ i) && decide (i < n)))) ∧ w' = w := by
  have hcf : ∀ (l : Array Value) (u : World), (callFunc 73 l).run Tryz.prog u = .ok (.enter 73 l) u := fun _ _ => rfl
  have hS := state67_any w i b n c A h
  generalize (decide (0 ≤ i) && decide (i < n)) = v at hS ⊢
  go_enter Tryz.func77, Tryz.ntmps77
  go_wp2_with fail
  refine hS.mono ?_
  rintro e w' ⟨rfl, rfl⟩
  dsimp only
  go_wp2
  go_ret
  exact ⟨rfl, rfl⟩
set_option maxHeartbeats 400000 in
theorem empty68_any (w : World) (k a t : Int) :
    Calls Tryz.prog 74 #[.agg #[.int .u8 k, .int .i64 a, .int .i64 t]] w fun e w' => e = .returned (.bool (k == 0)) ∧ Below w.heap.size w w' := by
  go_enter Tryz.func74, Tryz.ntmps74
  go_wp2_with fail
  go_ret
  exact ⟨rfl, below_new _ _⟩
set_option maxHeartbeats 400000 in
theorem full70_any (w : World) (k a t : Int) (p : Nat) (hpl : p < w.heap.size) (hp : w.cell? ⟨p, 0, none⟩ = some (.func (.func 74) #[] #[])) :
    Calls Tryz.prog 76 #[.agg #[.int .u8 k, .int .i64 a, .int .i64 t], .pointer (some ⟨p, 0, none⟩)] w fun e w' => e = .returned (.bool (!(k == 0))) ∧ Below w.heap.size w w' := by
  have hcf : ∀ (l : Array Value) (u : World), (callFunc 74 l).run Tryz.prog u = .ok (.enter 74 l) u := fun _ _ => rfl
  have hp1 : (w.alloc (.cells #[.int .u8 k, .int .i64 a, .int .i64 t] 86)).cell? ⟨p, 0, none⟩ = some (.func (.func 74) #[] #[]) := ((below_new w _).cell (p := ⟨p, 0, none⟩) hpl).trans hp
  go_enter Tryz.func76, Tryz.ntmps76
  go_wp2_with fail
  refine (empty68_any _ k a t).mono ?_
  rintro e w' ⟨rfl, hb⟩
  dsimp only
  go_wp2
  go_ret
  exact ⟨rfl, (below_new w _).trans (hb.mono (by simp))⟩
theorem ret_bool {a b : Bool} (h : a = b) : Ending.returned (.bool a) = .returned (.bool b) := by rw [h]
theorem stMay_bad {n : Drv.NNet} {s : Drv.NSt} {k : Nat} (hk : k < s.edges.length) (h : Drv.edgeB n s.edges[k] = false) : Drv.stMay n s = false := by
  unfold Drv.stMay
  rw [show s.edges.all (Drv.edgeB n) = false from List.all_eq_false.2 ⟨_, List.getElem_mem hk, by rw [h]; simp⟩, Bool.false_and]
theorem edgeB_big {n : Drv.NNet} {ek ew et : Int} (h : 3 < ek) : Drv.edgeB n ⟨ek, ew, et⟩ = false := by
  unfold Drv.edgeB
  rw [show decide (ek ≤ 3) = false by rw [decide_eq_false_iff_not]; omega]
  simp
theorem edgeB_neg {n : Drv.NNet} {ek ew et : Int} (h : ew < 0) : Drv.edgeB n ⟨ek, ew, et⟩ = false := by
  unfold Drv.edgeB
  rw [show decide (0 ≤ ew) = false by rw [decide_eq_false_iff_not]; omega]
  simp
set_option maxHeartbeats 3200000 in
theorem stMay_any (w : World) (n : Drv.NNet) (s : Drv.NSt) (SA TA UA QA DA EA XA : Option Addr) (sc tc uc qc dc ec xc : Nat) (hE : Reads w w.heap.size 3 EA s.edges.length (flat encEd s.edges)) (hX : Reads w w.heap.size 1 XA s.ends.length (s.ends.map (Value.int .i64)))
    (hk : ∀ e ∈ s.edges, 0 ≤ e.kind) (h1 : s.edges.length ≤ 1000000000) (h2 : s.ends.length ≤ 1000000000) :
    Calls Tryz.prog 49 #[.agg #[.int .i64 s.rule, .slice EA s.edges.length ec, .slice XA s.ends.length xc], netAgg SA TA UA QA DA sc tc uc qc dc n] w fun e w' => e = .returned (.bool (Drv.stMay n s)) ∧ Below w.heap.size w w' := by
  have hcf : ∀ (l : Array Value) (u : World), (callFunc 73 l).run Tryz.prog u = .ok (.enter 73 l) u := fun _ _ => rfl
  obtain ⟨nE, hnE⟩ : ∃ m, s.edges.length = m := ⟨_, rfl⟩
  obtain ⟨nX, hnX⟩ : ∃ m, s.ends.length = m := ⟨_, rfl⟩
  obtain ⟨nS, hnS⟩ : ∃ m, n.states.length = m := ⟨_, rfl⟩
  obtain ⟨nT, hnT⟩ : ∃ m, n.starts.length = m := ⟨_, rfl⟩
  obtain ⟨nQ, hnQ⟩ : ∃ m, n.preds.length = m := ⟨_, rfl⟩
  have HE := hid hE
  have HX := hid hX
  have HK := hid hk
  unfold netAgg
  rw [hnE, hnX, hnS, hnT, hnQ]
  rw [hnE] at h1
  rw [hnX] at h2
  have HNE := hid hnE
  have HNX := hid hnX
  have HNS := hid hnS
  have HNT := hid hnT
  have HNQ := hid hnQ
  clear hE hX hk hnE hnX hnS hnT hnQ
  go_enter Tryz.func49, Tryz.ntmps49
  go_upto_region 1 with fail
  obtain ⟨w1, hw1⟩ : ∃ w1, w1 = w.alloc (.cells #[.int .i64 s.rule, .slice EA nE ec, .slice XA nX xc] 83) := ⟨_, rfl⟩
  obtain ⟨w2, hw2⟩ : ∃ w2, w2 = w1.alloc (.cells #[.slice SA nS sc, .slice TA nT tc, .slice UA n.stops.length uc, .slice QA nQ qc, .slice DA n.decs.length dc] 25) := ⟨_, rfl⟩
  rw [← hw1, ← hw2]
  have z1 : w1.heap.size = w.heap.size + 1 := by rw [hw1]; simp
  have z2 : w2.heap.size = w.heap.size + 1 + 1 := by rw [hw2]; simp [z1]
  have hb2 : Below w.heap.size w w2 := by
    have b1 : Below w.heap.size w w1 := by rw [hw1]; exact below_new _ _
    rw [hw2]; exact b1.alloc (by omega) _
  have T1 : w2.heap[w.heap.size]? = some (.cells #[.int .i64 s.rule, .slice EA nE ec, .slice XA nX xc] 83 (0, 0)) := by
    rw [hw2, Below.heap_alloc _ _ _ (by omega), hw1]; exact heap_alloc_new _ _
  have T2 : w2.heap[w.heap.size + 1]? = some (.cells #[.slice SA nS sc, .slice TA nT tc, .slice UA n.stops.length uc, .slice QA nQ qc, .slice DA n.decs.length dc] 25 (0, 0)) := by
    rw [hw2, ← z1]; exact heap_alloc_new _ _
  have T3 : (w2.alloc (.cells #[Value.nilFunc] 122)).heap[w.heap.size + 1 + 1]? = some (.cells #[Value.nilFunc] 122 (0, 0)) := by rw [← z2]; exact heap_alloc_new _ _
  have ho3 : Only (fun _ => False) w2 (w2.alloc (.cells #[Value.nilFunc] 122)) := Only.of_below (below_new _ _)
  have c3 : (w2.alloc (.cells #[Value.nilFunc] 122)).cell? ⟨w.heap.size + 1 + 1, 0, none⟩ = some Value.nilFunc := by rw [Lib.cell_of_heap T3]; rfl
  have f3 : (w2.alloc (.cells #[Value.nilFunc] 122)).frozen? ⟨w.heap.size + 1 + 1, 0, none⟩ = false := Lib.frozen_of_heap T3 0
  clear hw1 hw2
  go_upto_region 2 with fail
  clear c3 f3 T3 ho3
  have ho4 : Only (fun _ => False) w2 (w2.alloc (.cells #[.func (.func 73) #[] #[.pointer (some ⟨w.heap.size + 1, 0, none⟩)]] 122)) := Only.of_below (below_new _ _)
  have T3 : (w2.alloc (.cells #[.func (.func 73) #[] #[.pointer (some ⟨w.heap.size + 1, 0, none⟩)]] 122)).heap[w.heap.size + 1 + 1]? = some (.cells #[.func (.func 73) #[] #[.pointer (some ⟨w.heap.size + 1, 0, none⟩)]] 122 (0, 0)) := by rw [← z2]; exact heap_alloc_new _ _
  have z4 : (w2.alloc (.cells #[.func (.func 73) #[] #[.pointer (some ⟨w.heap.size + 1, 0, none⟩)]] 122)).heap.size = w2.heap.size + 1 := size_alloc _ _
  generalize w2.alloc (.cells #[.func (.func 73) #[] #[.pointer (some ⟨w.heap.size + 1, 0, none⟩)]] 122) = w4 at ho4 T3 z4 ⊢
  have HB4 := hid (ho4.below (B := w.heap.size) (fun _ e => e.elim) hb2 hb2.size)
  have T1 := (ho4.block _ (heap_lt T1) (fun e => e)).trans T1
  have T2 := (ho4.block _ (heap_lt T2) (fun e => e)).trans T2
  have hbs0 : w.heap.size < w4.heap.size := heap_lt T1
  have hbn0 : w.heap.size + 1 < w4.heap.size := heap_lt T2
  have hbf0 : w.heap.size + 1 + 1 < w4.heap.size := heap_lt T3
  have cs1 : w4.cell? ⟨w.heap.size, 1, none⟩ = some (.slice EA nE ec) := by rw [Lib.cell_of_heap T1]; rfl
  have cs2 : w4.cell? ⟨w.heap.size, 2, none⟩ = some (.slice XA nX xc) := by rw [Lib.cell_of_heap T1]; rfl
  have cn0 : w4.cell? ⟨w.heap.size + 1, 0, none⟩ = some (.slice SA nS sc) := by rw [Lib.cell_of_heap T2]; rfl
  have cn1 : w4.cell? ⟨w.heap.size + 1, 1, none⟩ = some (.slice TA nT tc) := by rw [Lib.cell_of_heap T2]; rfl
  have cn3 : w4.cell? ⟨w.heap.size + 1, 3, none⟩ = some (.slice QA nQ qc) := by rw [Lib.cell_of_heap T2]; rfl
  have cf0 : w4.cell? ⟨w.heap.size + 1 + 1, 0, none⟩ = some (.func (.func 73) #[] #[.pointer (some ⟨w.heap.size + 1, 0, none⟩)]) := by rw [Lib.cell_of_heap T3]; rfl
  clear T1 T2 T3 ho4 z1 z2 z4 hb2
  generalize hbf : w.heap.size + 1 + 1 = bf at hbf0 cf0 ⊢
  generalize hbn : w.heap.size + 1 = bn at hbn0 cn0 cn1 cn3 cf0 ⊢
  generalize hbs : w.heap.size = bs at hbs0 cs1 cs2 ⊢
  have cs1' := fun (wr : World) (hb : Below w4.heap.size w4 wr) => (hb.cell (p := ⟨bs, 1, none⟩) hbs0).trans cs1
  have cs2' := fun (wr : World) (hb : Below w4.heap.size w4 wr) => (hb.cell (p := ⟨bs, 2, none⟩) hbs0).trans cs2
  have CN0 := hid (fun (wr : World) (hb : Below w4.heap.size w4 wr) => (hb.cell (p := ⟨bn, 0, none⟩) hbn0).trans cn0)
  have cn1' := fun (wr : World) (hb : Below w4.heap.size w4 wr) => (hb.cell (p := ⟨bn, 1, none⟩) hbn0).trans cn1
  have cn3' := fun (wr : World) (hb : Below w4.heap.size w4 wr) => (hb.cell (p := ⟨bn, 3, none⟩) hbn0).trans cn3
  have cf0' := fun (wr : World) (hb : Below w4.heap.size w4 wr) => (hb.cell (p := ⟨bf, 0, none⟩) hbf0).trans cf0
  have CS1 := hid cs1'
  have CS2 := hid cs2'
  have CN1 := hid cn1'
  have CN3 := hid cn3'
  have CF0 := hid cf0'
  have hE4 := hid (HE.out.below HB4.out)
  clear cs1' cs2' cn1' cn3' cf0' cs2 cn0 cn1 cn3 cf0 hbs hbf HE
  go_wp2_with fail
  go_loopw [15] (fun i wr => ∃ k : Nat, k ≤ nE ∧ i = .int .i64 k ∧ Hid (Below w4.heap.size w4 wr ∧ ∀ j (hj : j < s.edges.length), j < k → Drv.edgeB n s.edges[j] = true)) (fun i _ => nE - (intOf i).toNat)
  case atStart => exact ⟨0, by omega, by simp, hid ⟨Below.refl _ _, fun _ _ h => absurd h (Nat.not_lt_zero _)⟩⟩
  case round =>
   obtain ⟨k, hk, rfl, hH⟩ := hrel
   have HBR := hid hH.out.1
   have HALL := hid hH.out.2
   clear hH
   by_cases hlt : k < nE
   · have hkl : k < s.edges.length := by rw [HNE.out]; exact hlt
     obtain ⟨eb, eoff, hEA, heb, e0, e1, e2⟩ := (hE4.out.below (Below.mono HBR.out (by have := HB4.out.size; omega))).getE hkl
     subst hEA
     have hk0 := HK.out _ (List.getElem_mem hkl)
     generalize hxe : s.edges[k] = ex at e0 e1 e2 hk0
     obtain ⟨ek, ew, et⟩ := ex
     simp only at e0 e1 e2 hk0
     have HXE := hid hxe
     clear hxe
     have cn1 := fun o => CN1.out (wr.alloc o) (HBR.out.alloc HBR.out.size _)
     have cn3 := fun o => CN3.out (wr.alloc o) (HBR.out.alloc HBR.out.size _)
     have cf0 := fun o => CF0.out (wr.alloc o) (HBR.out.alloc HBR.out.size _)
     by_cases h3k : 3 < ek
     · have g1 : decide (3 < ek) = true := by simpa using h3k
       have g2 : (ek == 2) = false := by rw [beq_eq_false_iff_ne]; omega
       have g3 : (ek == 3) = false := by rw [beq_eq_false_iff_ne]; omega
       go_wp2_with fail
       go_ret
       exact ⟨ret_bool (stMay_bad hkl (by rw [HXE.out]; exact edgeB_big h3k)).symm, HB4.out.trans ((HBR.out.alloc HBR.out.size _).mono HB4.out.size)⟩
     · obtain rfl | rfl | rfl | rfl : ek = 0 ∨ ek = 1 ∨ ek = 2 ∨ ek = 3 := by omega
       · clear h3k hk0
         by_cases h5 : ew < 0
         · have g5 : decide (ew < 0) = true := by simpa using h5
           go_wp2_with fail
           go_ret
           exact ⟨ret_bool (stMay_bad hkl (by rw [HXE.out]; exact edgeB_neg h5)).symm, HB4.out.trans ((HBR.out.alloc HBR.out.size _).mono HB4.out.size)⟩
         · have g5 : decide (ew < 0) = false := by simpa using h5
           by_cases h6 : (1 : Int) ≤ ew
           · have g6 : decide ((1 : Int) ≤ ew) = true := by simpa using h6
             go_wp2_with fail
             go_ret
             exact ⟨ret_bool (stMay_bad hkl (by rw [HXE.out]; unfold Drv.edgeB; rw [HNT.out, HNQ.out]; simp; omega)).symm, HB4.out.trans ((HBR.out.alloc HBR.out.size _).mono HB4.out.size)⟩
           · have g6 : decide ((1 : Int) ≤ ew) = false := by simpa using h6
             have hS := state67_any (wr.alloc (.cells #[.int .u8 0, .int .i64 ew, .int .i64 et] 86)) et bn nS sc SA (CN0.out _ (HBR.out.alloc HBR.out.size _))
             generalize hv : (decide (0 ≤ et) && decide (et < (nS : Int))) = v at hS
             have hed : Drv.edgeB n s.edges[k] = v := by
               rw [HXE.out, ← hv]
               unfold Drv.edgeB Drv.stateB
               rw [HNS.out, HNT.out, HNQ.out]
               simp; omega
             have HED := hid hed
             clear hv hed
             go_wp2_with fail
             refine hS.mono ?_
             rintro e w' ⟨rfl, rfl⟩
             dsimp only
             cases v with
             | false =>
               go_wp2_with fail
               go_ret
               exact ⟨ret_bool (stMay_bad hkl HED.out).symm, HB4.out.trans ((HBR.out.alloc HBR.out.size _).mono HB4.out.size)⟩
             | true =>
               go_wp2_with fail
               go_roundw
               case rel => exact ⟨k + 1, by omega, by go_num, hid ⟨HBR.out.alloc HBR.out.size _, fun j hj hjk => by rcases Nat.lt_succ_iff_lt_or_eq.1 hjk with h | rfl; exact HALL.out j hj h; exact HED.out⟩⟩
               case measure => simp [intOf]; omega
       · clear h3k hk0
         by_cases h5 : ew < 0
         · have g5 : decide (ew < 0) = true := by simpa using h5
           go_wp2_with fail
           go_ret
           exact ⟨ret_bool (stMay_bad hkl (by rw [HXE.out]; exact edgeB_neg h5)).symm, HB4.out.trans ((HBR.out.alloc HBR.out.size _).mono HB4.out.size)⟩
         · have g5 : decide (ew < 0) = false := by simpa using h5
           have hS := state67_any (wr.alloc (.cells #[.int .u8 1, .int .i64 ew, .int .i64 et] 86)) et bn nS sc SA (CN0.out _ (HBR.out.alloc HBR.out.size _))
           generalize hv : (decide (0 ≤ et) && decide (et < (nS : Int))) = v at hS
           have hed : Drv.edgeB n s.edges[k] = v := by
             rw [HXE.out, ← hv]
             unfold Drv.edgeB Drv.stateB
             rw [HNS.out, HNT.out, HNQ.out]
             simp; omega
           have HED := hid hed
           clear hv hed
           go_wp2_with fail
           refine hS.mono ?_
           rintro e w' ⟨rfl, rfl⟩
           dsimp only
           cases v with
           | false =>
             go_wp2_with fail
             go_ret
             exact ⟨ret_bool (stMay_bad hkl HED.out).symm, HB4.out.trans ((HBR.out.alloc HBR.out.size _).mono HB4.out.size)⟩
           | true =>
             go_wp2_with fail
             go_roundw
             case rel => exact ⟨k + 1, by omega, by go_num, hid ⟨HBR.out.alloc HBR.out.size _, fun j hj hjk => by rcases Nat.lt_succ_iff_lt_or_eq.1 hjk with h | rfl; exact HALL.out j hj h; exact HED.out⟩⟩
             case measure => simp [intOf]; omega
       · clear h3k hk0
         by_cases h5 : ew < 0
         · have g5 : decide (ew < 0) = true := by simpa using h5
           go_wp2_with fail
           go_ret
           exact ⟨ret_bool (stMay_bad hkl (by rw [HXE.out]; exact edgeB_neg h5)).symm, HB4.out.trans ((HBR.out.alloc HBR.out.size _).mono HB4.out.size)⟩
         · have g5 : decide (ew < 0) = false := by simpa using h5
           by_cases h6 : (nT : Int) ≤ ew
           · have g6 : decide ((nT : Int) ≤ ew) = true := by simpa using h6
             go_wp2_with fail
             go_ret
             exact ⟨ret_bool (stMay_bad hkl (by rw [HXE.out]; unfold Drv.edgeB; rw [HNT.out, HNQ.out]; simp; omega)).symm, HB4.out.trans ((HBR.out.alloc HBR.out.size _).mono HB4.out.size)⟩
           · have g6 : decide ((nT : Int) ≤ ew) = false := by simpa using h6
             have hS := state67_any (wr.alloc (.cells #[.int .u8 2, .int .i64 ew, .int .i64 et] 86)) et bn nS sc SA (CN0.out _ (HBR.out.alloc HBR.out.size _))
             generalize hv : (decide (0 ≤ et) && decide (et < (nS : Int))) = v at hS
             have hed : Drv.edgeB n s.edges[k] = v := by
               rw [HXE.out, ← hv]
               unfold Drv.edgeB Drv.stateB
               rw [HNS.out, HNT.out, HNQ.out]
               simp; omega
             have HED := hid hed
             clear hv hed
             go_wp2_with fail
             refine hS.mono ?_
             rintro e w' ⟨rfl, rfl⟩
             dsimp only
             cases v with
             | false =>
               go_wp2_with fail
               go_ret
               exact ⟨ret_bool (stMay_bad hkl HED.out).symm, HB4.out.trans ((HBR.out.alloc HBR.out.size _).mono HB4.out.size)⟩
             | true =>
               go_wp2_with fail
               go_roundw
               case rel => exact ⟨k + 1, by omega, by go_num, hid ⟨HBR.out.alloc HBR.out.size _, fun j hj hjk => by rcases Nat.lt_succ_iff_lt_or_eq.1 hjk with h | rfl; exact HALL.out j hj h; exact HED.out⟩⟩
               case measure => simp [intOf]; omega
       · clear h3k hk0
         by_cases h5 : ew < 0
         · have g5 : decide (ew < 0) = true := by simpa using h5
           go_wp2_with fail
           go_ret
           exact ⟨ret_bool (stMay_bad hkl (by rw [HXE.out]; exact edgeB_neg h5)).symm, HB4.out.trans ((HBR.out.alloc HBR.out.size _).mono HB4.out.size)⟩
         · have g5 : decide (ew < 0) = false := by simpa using h5
           by_cases h6 : (nQ : Int) ≤ ew
           · have g6 : decide ((nQ : Int) ≤ ew) = true := by simpa using h6
             go_wp2_with fail
             go_ret
             exact ⟨ret_bool (stMay_bad hkl (by rw [HXE.out]; unfold Drv.edgeB; rw [HNT.out, HNQ.out]; simp; omega)).symm, HB4.out.trans ((HBR.out.alloc HBR.out.size _).mono HB4.out.size)⟩
           · have g6 : decide ((nQ : Int) ≤ ew) = false := by simpa using h6
             have hS := state67_any (wr.alloc (.cells #[.int .u8 3, .int .i64 ew, .int .i64 et] 86)) et bn nS sc SA (CN0.out _ (HBR.out.alloc HBR.out.size _))
             generalize hv : (decide (0 ≤ et) && decide (et < (nS : Int))) = v at hS
             have hed : Drv.edgeB n s.edges[k] = v := by
               rw [HXE.out, ← hv]
               unfold Drv.edgeB Drv.stateB
               rw [HNS.out, HNT.out, HNQ.out]
               simp; omega
             have HED := hid hed
             clear hv hed
             go_wp2_with fail
             refine hS.mono ?_
             rintro e w' ⟨rfl, rfl⟩
             dsimp only
             cases v with
             | false =>
               go_wp2_with fail
               go_ret
               exact ⟨ret_bool (stMay_bad hkl HED.out).symm, HB4.out.trans ((HBR.out.alloc HBR.out.size _).mono HB4.out.size)⟩
             | true =>
               go_wp2_with fail
               go_roundw
               case rel => exact ⟨k + 1, by omega, by go_num, hid ⟨HBR.out.alloc HBR.out.size _, fun j hj hjk => by rcases Nat.lt_succ_iff_lt_or_eq.1 hjk with h | rfl; exact HALL.out j hj h; exact HED.out⟩⟩
               case measure => simp [intOf]; omega
   · have hall : s.edges.all (Drv.edgeB n) = true := List.all_eq_true.2 fun e he => by
       obtain ⟨j, hj, rfl⟩ := List.mem_iff_getElem.1 he
       exact HALL.out j hj (by have := HNE.out; omega)
     have HA := hid hall
     clear hall HALL
     have hstE : Drv.stMay n s = (s.ends.length == 0 || (s.ends.length == s.edges.length && decide (2 ≤ s.ends.length) && s.edges.all (fun e => e.kind == 0) && s.ends.all (Drv.stateB n))) := by
       unfold Drv.stMay
       rw [HA.out, Bool.true_and]
     rw [HNE.out, HNX.out] at hstE
     have HST := hid hstE
     clear hstE
     have c9 : (wr.alloc (.cells #[Value.nilFunc] 151)).cell? ⟨wr.heap.size, 0, none⟩ = some Value.nilFunc := by rw [Lib.cell_of_heap (heap_alloc_new _ _)]; rfl
     have f9 : (wr.alloc (.cells #[Value.nilFunc] 151)).frozen? ⟨wr.heap.size, 0, none⟩ = false := Lib.frozen_of_heap (heap_alloc_new _ _) 0
     go_upto_region 15 with fail
     clear c9 f9
     have hb5 : Below w4.heap.size w4 (wr.alloc (.cells #[.func (.func 74) #[] #[]] 151)) := HBR.out.alloc HBR.out.size _
     have T9 : (wr.alloc (.cells #[.func (.func 74) #[] #[]] 151)).heap[wr.heap.size]? = some (.cells #[.func (.func 74) #[] #[]] 151 (0, 0)) := heap_alloc_new _ _
     generalize wr.alloc (.cells #[.func (.func 74) #[] #[]] 151) = w5 at hb5 T9 ⊢
     generalize wr.heap.size = b9 at T9 ⊢
     have h9 := heap_lt T9
     have hs5 := hb5.size
     have c9 : w5.cell? ⟨b9, 0, none⟩ = some (.func (.func 74) #[] #[]) := by rw [Lib.cell_of_heap T9]; rfl
     have cs1 := CS1.out w5 hb5
     have cs2 := CS2.out w5 hb5
     have cf0 := CF0.out w5 hb5
     have cn0 := CN0.out w5 hb5
     have HB5 := hid (HB4.out.trans (hb5.mono HB4.out.size))
     have hE5 := hid (hE4.out.below (hb5.mono HB4.out.size))
     have hX5 := hid (HX.out.below HB5.out)
     clear T9 hb5 HBR CS1 CS2 CF0 CN0 CN1 CN3 hE4 HX hk hlt
     by_cases hx0 : nX = 0
     · subst hx0
       have HS2 : Hid (Drv.stMay n s = true) := hid (by rw [HST.out]; rfl)
       by_cases he0 : nE = 0
       · subst he0
         go_wp2_with fail
         go_ret
         exact ⟨ret_bool HS2.out.symm, HB5.out⟩
       · have g1 : ((0 : Int) == (nE : Int)) = false := by rw [beq_eq_false_iff_ne]; omega
         clear he0
         go_wp2_with fail
         go_ret
         exact ⟨ret_bool HS2.out.symm, HB5.out⟩
     · have g0 : ((nX : Int) == 0) = false := by rw [beq_eq_false_iff_ne]; omega
       have n0 : (nX == 0) = false := by rw [beq_eq_false_iff_ne]; exact hx0
       by_cases hxe : nX = nE
       · subst hxe
         by_cases h2x : 2 ≤ nX
         · have g2 : decide (2 ≤ nX) = true := by simpa using h2x
           have g3 : decide ((2 : Int) ≤ (nX : Int)) = true := by rw [decide_eq_true_eq]; omega
           have hC := containsAE_any 76 #[.pointer (some ⟨b9, 0, none⟩)] (fun e : Drv.Ed => !(e.kind == 0)) (fun _ _ => by kernel_rfl) EA ec w5.heap.size s.edges (flat encEd s.edges) w5 (by rw [HNE.out]; exact h1) (Nat.le_refl _)
             (hE5.out.more HB5.out.size) (fun wr i x0 x1 x2 hi q0 q1 q2 hb => by
               obtain ⟨e0, e1, e2⟩ := flat_get3 s.edges hi
               rw [e0] at q0; rw [e1] at q1; rw [e2] at q2
               injection q0 with q0; injection q1 with q1; injection q2 with q2
               subst q0 q1 q2
               exact full70_any wr _ _ _ b9 (Nat.lt_of_lt_of_le h9 hb.size) ((hb.cell (p := ⟨b9, 0, none⟩) h9).trans c9))
           rw [HNE.out] at hC
           generalize hv : (s.edges.any fun e => !(e.kind == 0)) = v at hC
           have hall : (s.edges.all fun e => e.kind == 0) = !v := by rw [← hv, List.not_any_eq_all_not]; simp
           have HC := hid hC
           clear hC hv h2x hx0
           go_wp2_with fail
           refine HC.out.mono ?_
           rintro e w6 ⟨rfl, hb6⟩
           dsimp only
           have cs2 := (hb6.cell (p := ⟨bs, 2, none⟩) (Nat.lt_of_lt_of_le hbs0 hs5)).trans cs2
           have cf0 := (hb6.cell (p := ⟨bf, 0, none⟩) (Nat.lt_of_lt_of_le hbf0 hs5)).trans cf0
           have cn0 := (hb6.cell (p := ⟨bn, 0, none⟩) (Nat.lt_of_lt_of_le hbn0 hs5)).trans cn0
           have HB6 := hid (HB5.out.trans (hb6.mono HB5.out.size))
           have hX6 := hid (hX5.out.below (hb6.mono HB5.out.size))
           have hs6 := hb6.size
           cases v with
           | true =>
             have HS2 : Hid (Drv.stMay n s = false) := hid (by rw [HST.out, hall, n0]; simp)
             clear hall hb6
             go_wp2_with fail
             go_ret
             exact ⟨ret_bool HS2.out.symm, HB6.out⟩
           | false =>
             have hD := containsZ_any 77 #[.pointer (some ⟨bf, 0, none⟩)] (fun i : Int => !(Drv.stateB n i)) (fun _ _ => by kernel_rfl) XA xc w6.heap.size s.ends (s.ends.map (Value.int .i64)) w6 (by rw [HNX.out]; exact h2) (Nat.le_refl _)
               (hX6.out.more HB6.out.size) (fun wr i x0 hi q0 hb => by
                 rw [List.getElem?_map, List.getElem?_eq_getElem hi] at q0
                 injection q0 with q0
                 subst q0
                 have h7 := strange71_any wr s.ends[i] bf bn nS sc SA ((hb.cell (p := ⟨bf, 0, none⟩) (Nat.lt_of_lt_of_le hbf0 (by omega))).trans cf0) ((hb.cell (p := ⟨bn, 0, none⟩) (Nat.lt_of_lt_of_le hbn0 (by omega))).trans cn0)
                 refine h7.mono ?_
                 rintro e w' ⟨rfl, rfl⟩
                 refine ⟨?_, Below.refl _ _⟩
                 unfold Drv.stateB
                 rw [HNS.out])
             rw [HNX.out] at hD
             generalize hu : (s.ends.any fun i => !(Drv.stateB n i)) = u at hD
             have hal2 : s.ends.all (Drv.stateB n) = !u := by rw [← hu, List.not_any_eq_all_not]; simp
             have HD := hid hD
             have HS2 : Hid (Drv.stMay n s = !u) := hid (by rw [HST.out, hall, hal2, n0, g2, beq_self_eq_true, Bool.false_or, Bool.true_and, Bool.not_false, Bool.true_and, Bool.true_and])
             clear hD hu hall hal2 hb6
             go_wp2_with fail
             refine HD.out.mono ?_
             rintro e w7 ⟨rfl, hb7⟩
             have HB7 := hid (HB6.out.trans (hb7.mono HB6.out.size))
             clear hb7
             dsimp only
             cases u with
             | true =>
               go_wp2_with fail
               go_ret
               exact ⟨ret_bool HS2.out.symm, HB7.out⟩
             | false =>
               go_wp2_with fail
               go_ret
               exact ⟨ret_bool HS2.out.symm, HB7.out⟩
         · have g2 : decide (2 ≤ nX) = false := by simpa using h2x
           have g3 : decide ((2 : Int) ≤ (nX : Int)) = false := by rw [decide_eq_false_iff_not]; omega
           have HS2 : Hid (Drv.stMay n s = false) := hid (by rw [HST.out, n0, g2]; simp)
           clear h2x hx0
           go_wp2_with fail
           go_ret
           exact ⟨ret_bool HS2.out.symm, HB5.out⟩
       · have g1 : ((nX : Int) == (nE : Int)) = false := by rw [beq_eq_false_iff_ne]; omega
         have n1 : (nX == nE) = false := by rw [beq_eq_false_iff_ne]; exact hxe
         have HS2 : Hid (Drv.stMay n s = false) := hid (by rw [HST.out, n0, n1]; simp)
         clear hxe hx0
         go_wp2_with fail
         go_ret
         exact ⟨ret_bool HS2.out.symm, HB5.out⟩
end Go.Proofs.YtnpcjbdolmmaeaaGreatDoor
namespace Go.Proofs.YtnpcjbdolmmaeaaGreatDoor
open Go.RowKit
set_option maxRecDepth 100000
theorem below_eq {a b : Nat} {w w' : World} (h : a = b) (hb : Below a w w') : Below b w w' := h ▸ hb
namespace Drv
theorem decsOf_snoc (l : List NSt) (s : NSt) : decsOf (l ++ [s]) = decsOf l ++ (if s.ends.length = 0 then [] else [(l.length : Int)]) := by
  unfold decsOf
  rw [List.zipIdx_append, List.filter_append, List.map_append]
  congr 1
  by_cases h : s.ends.length = 0
  · rw [if_pos h]
    simp [h]
  · rw [if_neg h]
    simp [h]
theorem decsOf_take (l : List NSt) (k : Nat) (hk : k < l.length) : decsOf (l.take (k + 1)) = decsOf (l.take k) ++ (if l[k].ends.length = 0 then [] else [(k : Int)]) := by
  rw [List.take_succ_eq_append_getElem hk, decsOf_snoc, List.length_take, Nat.min_eq_left (by omega)]
theorem decsOf_len (l : List NSt) : (decsOf l).length ≤ l.length := by
  unfold decsOf
  rw [List.length_map]
  exact Nat.le_trans (List.length_filter_le _ _) (by simp)
end Drv
set_option maxHeartbeats 6400000 in
theorem netMay_any (w : World) (n : Drv.NNet) (SA TA UA QA DA : Option Addr) (sc tc uc qc dc : Nat) (h : NetR w w.heap.size SA TA UA QA DA n) (hs : NetS n) :
    Calls Tryz.prog 28 #[netAgg SA TA UA QA DA sc tc uc qc dc n] w fun e w' => e = .returned (.bool (Drv.mayNet n)) ∧ Below w.heap.size w w' := by
  have hcf : ∀ (l : Array Value) (u : World), (callFunc 44 l).run Tryz.prog u = .ok (.enter 44 l) u := fun _ _ => rfl
  obtain ⟨nS, hnS⟩ : ∃ m, n.states.length = m := ⟨_, rfl⟩
  obtain ⟨nT, hnT⟩ : ∃ m, n.starts.length = m := ⟨_, rfl⟩
  obtain ⟨nU, hnU⟩ : ∃ m, n.stops.length = m := ⟨_, rfl⟩
  obtain ⟨nQ, hnQ⟩ : ∃ m, n.preds.length = m := ⟨_, rfl⟩
  obtain ⟨nD, hnD⟩ : ∃ m, n.decs.length = m := ⟨_, rfl⟩
  have H := hid h
  have HS := hid hs
  have lS := hs.states
  have lT := hs.starts
  have lU := hs.stops
  have lQ := hs.preds
  unfold netAgg
  rw [hnS, hnT, hnU, hnQ, hnD]
  rw [hnS] at lS
  rw [hnT] at lT
  rw [hnU] at lU
  rw [hnQ] at lQ
  have HNS := hid hnS
  have HNT := hid hnT
  have HNU := hid hnU
  have HNQ := hid hnQ
  have HND := hid hnD
  clear h hs hnS hnT hnU hnQ hnD
  go_enter Tryz.func28, Tryz.ntmps28
  go_upto_region 1 with fail
  obtain ⟨w2, hw2⟩ : ∃ w2, w2 = w.alloc (.cells #[.slice SA nS sc, .slice TA nT tc, .slice UA nU uc, .slice QA nQ qc, .slice DA nD dc] 25) := ⟨_, rfl⟩
  rw [← hw2]
  have z2 : w2.heap.size = w.heap.size + 1 := by rw [hw2]; simp
  have hb2 : Below w.heap.size w w2 := by rw [hw2]; exact below_new _ _
  have T2 : w2.heap[w.heap.size]? = some (.cells #[.slice SA nS sc, .slice TA nT tc, .slice UA nU uc, .slice QA nQ qc, .slice DA nD dc] 25 (0, 0)) := by rw [hw2]; exact heap_alloc_new _ _
  have T3 : (w2.alloc (.cells #[Value.nilFunc] 122)).heap[w.heap.size + 1]? = some (.cells #[Value.nilFunc] 122 (0, 0)) := by rw [← z2]; exact heap_alloc_new _ _
  have c3 : (w2.alloc (.cells #[Value.nilFunc] 122)).cell? ⟨w.heap.size + 1, 0, none⟩ = some Value.nilFunc := by rw [Lib.cell_of_heap T3]; rfl
  have f3 : (w2.alloc (.cells #[Value.nilFunc] 122)).frozen? ⟨w.heap.size + 1, 0, none⟩ = false := Lib.frozen_of_heap T3 0
  clear hw2
  go_upto_region 2 with fail
  clear c3 f3 T3
  have ho4 : Only (fun _ => False) w2 (w2.alloc (.cells #[.func (.func 44) #[] #[.pointer (some ⟨w.heap.size, 0, none⟩)]] 122)) := Only.of_below (below_new _ _)
  have T3 : (w2.alloc (.cells #[.func (.func 44) #[] #[.pointer (some ⟨w.heap.size, 0, none⟩)]] 122)).heap[w.heap.size + 1]? = some (.cells #[.func (.func 44) #[] #[.pointer (some ⟨w.heap.size, 0, none⟩)]] 122 (0, 0)) := by rw [← z2]; exact heap_alloc_new _ _
  generalize w2.alloc (.cells #[.func (.func 44) #[] #[.pointer (some ⟨w.heap.size, 0, none⟩)]] 122) = w4 at ho4 T3 ⊢
  have HB4 := hid (ho4.below (B := w.heap.size) (fun _ e => e.elim) hb2 hb2.size)
  have T2 := (ho4.block _ (heap_lt T2) (fun e => e)).trans T2
  have hbn0 : w.heap.size < w4.heap.size := heap_lt T2
  have hbf0 : w.heap.size + 1 < w4.heap.size := heap_lt T3
  have cn0 : w4.cell? ⟨w.heap.size, 0, none⟩ = some (.slice SA nS sc) := by rw [Lib.cell_of_heap T2]; rfl
  have cn1 : w4.cell? ⟨w.heap.size, 1, none⟩ = some (.slice TA nT tc) := by rw [Lib.cell_of_heap T2]; rfl
  have cn2 : w4.cell? ⟨w.heap.size, 2, none⟩ = some (.slice UA nU uc) := by rw [Lib.cell_of_heap T2]; rfl
  have cn3 : w4.cell? ⟨w.heap.size, 3, none⟩ = some (.slice QA nQ qc) := by rw [Lib.cell_of_heap T2]; rfl
  have cn4 : w4.cell? ⟨w.heap.size, 4, none⟩ = some (.slice DA nD dc) := by rw [Lib.cell_of_heap T2]; rfl
  have cf0 : w4.cell? ⟨w.heap.size + 1, 0, none⟩ = some (.func (.func 44) #[] #[.pointer (some ⟨w.heap.size, 0, none⟩)]) := by rw [Lib.cell_of_heap T3]; rfl
  have H4 := hid (H.out.below HB4.out)
  clear T2 T3 ho4 z2 hb2 H
  generalize hbf : w.heap.size + 1 = bf at hbf0 cf0 ⊢
  generalize hbn : w.heap.size = bn at hbn0 cn0 cn1 cn2 cn3 cn4 cf0 ⊢
  have HBN := hid hbn
  have CN := hid (fun (u : World) (hb : Below w4.heap.size w4 u) => (show u.cell? ⟨bn, 0, none⟩ = some (.slice SA nS sc) ∧ u.cell? ⟨bn, 1, none⟩ = some (.slice TA nT tc) ∧ u.cell? ⟨bn, 2, none⟩ = some (.slice UA nU uc) ∧ u.cell? ⟨bn, 3, none⟩ = some (.slice QA nQ qc) ∧ u.cell? ⟨bn, 4, none⟩ = some (.slice DA nD dc) ∧ u.cell? ⟨bf, 0, none⟩ = some (.func (.func 44) #[] #[.pointer (some ⟨bn, 0, none⟩)]) from
    ⟨(hb.cell (p := ⟨bn, 0, none⟩) hbn0).trans cn0, (hb.cell (p := ⟨bn, 1, none⟩) hbn0).trans cn1, (hb.cell (p := ⟨bn, 2, none⟩) hbn0).trans cn2, (hb.cell (p := ⟨bn, 3, none⟩) hbn0).trans cn3, (hb.cell (p := ⟨bn, 4, none⟩) hbn0).trans cn4, (hb.cell (p := ⟨bf, 0, none⟩) hbf0).trans cf0⟩))
  by_cases hTU : nT = nU
  · subst hTU
    go_upto_region 3 with fail
    go_wp2_with fail
    have T5 : (w4.alloc (.cells #[.slice TA nT tc, .slice UA nT uc] 23)).heap[w4.heap.size]? = some (.cells #[.slice TA nT tc, .slice UA nT uc] 23 (0, 0)) := heap_alloc_new _ _
    have hb5 : Below w4.heap.size w4 (w4.alloc (.cells #[.slice TA nT tc, .slice UA nT uc] 23)) := below_new _ _
    generalize w4.alloc (.cells #[.slice TA nT tc, .slice UA nT uc] 23) = w5 at T5 hb5 ⊢
    generalize hg5 : w4.heap.size = g5 at T5 ⊢
    have hg5l := heap_lt T5
    have HB5 := hid (HB4.out.trans (hb5.mono HB4.out.size))
    have H5 := H4.out.below (hb5.mono HB4.out.size)
    have hRR : RRO (Value.int .i64) w5 (fun _ => False) (some ⟨g5, 0, none⟩) [n.starts, n.stops] := by
      refine ⟨[.slice TA nT tc, .slice UA nT uc], ⟨rfl, fun _ => ⟨g5, 0, rfl, hg5l, fun e => e, fun j u hu => ?_⟩⟩, fun i hi => ?_⟩
      · rw [Nat.zero_add, Lib.cell_of_heap T5]
        simpa using hu
      · match i, hi with
        | 0, _ => exact ⟨TA, tc, by simp [HNT.out], RO.of_reads H5.starts HB5.out.size fun _ e => e.elim⟩
        | 1, _ => exact ⟨UA, uc, by simp [HNU.out], RO.of_reads H5.stops HB5.out.size fun _ e => e.elim⟩
    refine (concatZ_any (some ⟨g5, 0, none⟩) 2 [n.starts, n.stops] w5 (by simp) (by simp [HNT.out, HNU.out]; omega) hRR).mono ?_
    rintro e w6 ⟨v6, rfl, hown6, hb6⟩
    obtain ⟨A6, c6, rfl, hr6⟩ : ∃ A6 c6, v6 = .slice A6 [n.starts, n.stops].flatten.length c6 ∧ Reads w6 w6.heap.size 1 A6 [n.starts, n.stops].flatten.length ([n.starts, n.stops].flatten.map (Value.int .i64)) := by
      obtain ⟨A6, c6, e, hr, _⟩ := Reads.own hown6
      exact ⟨A6, c6, e, hr⟩
    have HB6 := hid (HB5.out.trans (hb6.mono HB5.out.size))
    have hb46 := hid (hb5.trans (hb6.mono hb5.size))
    generalize hfl : [n.starts, n.stops].flatten = fl at hr6 ⊢
    have hfle : fl = n.starts ++ n.stops := by rw [← hfl]; simp
    have hflen : fl.length ≤ 1000000000 := by rw [hfle, List.length_append, HNT.out, HNU.out]; omega
    obtain ⟨_, _, _, _, _, cf6⟩ := CN.out w6 hb46.out
    obtain ⟨cn06, _⟩ := CN.out w6 hb46.out
    have hC := containsZ_any 45 #[.pointer (some ⟨bf, 0, none⟩)] (fun i : Int => !(Drv.stateB n i)) (fun _ _ => by kernel_rfl) A6 c6 w6.heap.size fl (fl.map (Value.int .i64)) w6 hflen (Nat.le_refl _) hr6 (fun wr i x0 hi q0 hb => by
      rw [List.getElem?_map, List.getElem?_eq_getElem hi] at q0
      injection q0 with q0
      subst q0
      have hs6 := hb46.out.size
      have h7 := strange41_any wr fl[i] bf bn nS sc SA ((hb.cell (p := ⟨bf, 0, none⟩) (show bf < w6.heap.size by omega)).trans cf6) ((hb.cell (p := ⟨bn, 0, none⟩) (show bn < w6.heap.size by omega)).trans cn06)
      refine h7.mono ?_
      rintro e w' ⟨rfl, rfl⟩
      refine ⟨?_, Below.refl _ _⟩
      unfold Drv.stateB
      rw [HNS.out])
    generalize hv : (fl.any fun i => !(Drv.stateB n i)) = v at hC
    have hal : (n.starts.all (Drv.stateB n) && n.stops.all (Drv.stateB n)) = !v := by rw [← List.all_append, ← hfle, ← hv, List.not_any_eq_all_not]; simp
    have HC := hid hC
    have HAL := hid hal
    generalize hfn : fl.length = fn at HC ⊢
    clear hC hal hv hfle hfl hfn hr6 hown6 hb6 hRR H5 T5 hb5 hflen
    dsimp only
    go_wp2_with fail
    refine HC.out.mono ?_
    rintro e w7 ⟨rfl, hb7⟩
    have HB7 := hid (HB6.out.trans (hb7.mono HB6.out.size))
    have hb47 := hid (hb46.out.trans (hb7.mono hb46.out.size))
    clear hb7 HC cf6 cn06
    dsimp only
    cases v with
    | true =>
      have HF : Hid (Drv.mayNet n = false) := hid (by
        unfold Drv.mayNet
        have h1 := HAL.out
        simp only [Bool.not_true] at h1
        rw [Bool.and_assoc (n.starts.length == n.stops.length), h1]
        simp)
      go_wp2_with fail
      go_ret
      exact ⟨ret_bool HF.out.symm, HB7.out⟩
    | false =>
      obtain ⟨cn0, cn1, cn2, cn3, cn4, cf0⟩ := CN.out w7 hb47.out
      have hP := containsZ_any 48 #[.pointer (some ⟨bn, 0, none⟩)] (fun i : Int => decide (i < 0) || decide ((nS : Int) - 1 ≤ i)) (fun _ _ => by kernel_rfl) QA qc w7.heap.size n.preds (n.preds.map (Value.int .i64)) w7 (by rw [HNQ.out]; omega) (Nat.le_refl _)
        ((H4.out.preds.below (hb47.out.mono HB4.out.size)).more HB7.out.size) (fun wr i x0 hi q0 hb => by
          rw [List.getElem?_map, List.getElem?_eq_getElem hi] at q0
          injection q0 with q0
          subst q0
          have hs7 := hb47.out.size
          have h7 := pred44_any wr n.preds[i] bn nS sc SA (by omega) ((hb.cell (p := ⟨bn, 0, none⟩) (show bn < w7.heap.size by omega)).trans cn0)
          refine h7.mono ?_
          rintro e w' ⟨rfl, rfl⟩
          exact ⟨rfl, Below.refl _ _⟩)
      rw [HNQ.out] at hP
      generalize hu : (n.preds.any fun i : Int => decide (i < 0) || decide ((nS : Int) - 1 ≤ i)) = u at hP
      have hpal : n.preds.all (fun i => decide (0 ≤ i) && decide (i < (n.states.length : Int) - 1)) = !u := by
        rw [← hu, List.not_any_eq_all_not, HNS.out]
        congr 1
        funext i
        rw [Bool.eq_iff_iff]
        simp
      have HP := hid hP
      have HPAL := hid hpal
      clear hP hu hpal cn0 cn1 cn2 cn3 cn4 cf0
      obtain ⟨cn0, cn1, cn2, cn3, cn4, cf0⟩ := CN.out w7 hb47.out
      go_wp2_with fail
      refine HP.out.mono ?_
      rintro e w8 ⟨rfl, hb8⟩
      have HB8 := hid (HB7.out.trans (hb8.mono HB7.out.size))
      have hb48 := hid (hb47.out.trans (hb8.mono hb47.out.size))
      clear hb8 HP cn0 cn1 cn2 cn3 cn4 cf0
      dsimp only
      cases u with
      | true =>
        have HF : Hid (Drv.mayNet n = false) := hid (by
          unfold Drv.mayNet
          rw [HPAL.out]
          simp)
        go_wp2_with fail
        go_ret
        exact ⟨ret_bool HF.out.symm, HB8.out⟩
      | false =>
        have HMAY : Hid (Drv.mayNet n = (n.states.all (fun s => Drv.stMay n s && decide (0 ≤ s.rule) && decide (s.rule < n.starts.length)) && Drv.decsOf n.states == n.decs)) := hid (by
          unfold Drv.mayNet
          rw [HPAL.out, Bool.and_assoc (n.starts.length == n.stops.length), HAL.out, HNT.out, HNU.out]
          simp)
        clear HAL HPAL
        obtain ⟨cn0, cn1, cn2, cn3, cn4, cf0⟩ := CN.out w8 hb48.out
        have H8 := hid (H4.out.below (hb48.out.mono HB4.out.size))
        go_wp2_with fail
        go_loopw [5, 36] (fun v i wr => ∃ k : Nat, k ≤ nS ∧ i = .int .i64 k ∧ Hid (Below w8.heap.size w8 wr ∧ wr.ownsRow w8.heap.size 3 1 v (Drv.decsOf (n.states.take k)).length ((Drv.decsOf (n.states.take k)).map (Value.int .i64)) ∧ ∀ j (hj : j < n.states.length), j < k → (Drv.stMay n n.states[j] && decide (0 ≤ n.states[j].rule) && decide (n.states[j].rule < n.starts.length)) = true)) (fun _ i _ => nS - (intOf i).toNat)
        case atStart => exact ⟨0, by omega, by simp, hid ⟨Below.refl _ _, World.ownsRow_nil _ _ _ _, fun _ _ h => absurd h (Nat.not_lt_zero _)⟩⟩
        case round =>
          obtain ⟨k, hk, rfl, hH⟩ := hrel
          have HBR := hid hH.out.1
          have HOWN := hid hH.out.2.1
          have HALL := hid hH.out.2.2
          clear hH
          clear cn0 cn1 cn2 cn3 cn4 cf0
          by_cases hlt : k < nS
          · have hkl : k < n.states.length := by rw [HNS.out]; exact hlt
            obtain ⟨b, off, EA, ec, XA, xc, rfl, hbl, e0, e1, e2, r0, r1⟩ := (H8.out.below (HBR.out.mono HB8.out.size)).sts.at hkl
            have HE := hid (r0.more (Nat.le_trans HB8.out.size HBR.out.size))
            have HX := hid (r1.more (Nat.le_trans HB8.out.size HBR.out.size))
            have hsz := HS.out.st _ (List.getElem_mem hkl)
            have HALLk := hid (fun (hbad : (Drv.stMay n n.states[k] && decide (0 ≤ n.states[k].rule) && decide (n.states[k].rule < n.starts.length)) = false) => (show Drv.mayNet n = false by
              rw [HMAY.out, show (n.states.all fun s => Drv.stMay n s && decide (0 ≤ s.rule) && decide (s.rule < n.starts.length)) = false from List.all_eq_false.2 ⟨_, List.getElem_mem hkl, by rw [hbad]; simp⟩]
              rfl))
            have HALLn := hid (fun (hok : (Drv.stMay n n.states[k] && decide (0 ≤ n.states[k].rule) && decide (n.states[k].rule < n.starts.length)) = true) => (show ∀ j (hj : j < n.states.length), j < k + 1 → (Drv.stMay n n.states[j] && decide (0 ≤ n.states[j].rule) && decide (n.states[j].rule < n.starts.length)) = true from fun j hj hjk => by
              rcases Nat.lt_succ_iff_lt_or_eq.1 hjk with h | rfl
              · exact HALL.out j hj h
              · exact hok))
            have hdt := Drv.decsOf_take n.states k hkl
            have HDT := hid hdt
            generalize hx : n.states[k] = x at e0 e1 e2 HE HX hsz HALLk HALLn HDT
            clear hx hdt r0 r1 HALL
            obtain ⟨nE, hnE⟩ : ∃ m, x.edges.length = m := ⟨_, rfl⟩
            obtain ⟨nX, hnX⟩ : ∃ m, x.ends.length = m := ⟨_, rfl⟩
            rw [hnE] at e1
            rw [hnX] at e2
            obtain ⟨q1, q2, q3⟩ := hsz
            have hdl : (Drv.decsOf (n.states.take k)).length ≤ 1000000 := Nat.le_trans (Drv.decsOf_len _) (by rw [List.length_take, HNS.out]; omega)
            have HOA := hid (fun o => (HOWN.out.alloc o))
            generalize hdv : Drv.decsOf (n.states.take k) = dv at hdl HDT HOWN HOA
            have HNE := hid hnE
            have HNX := hid hnX
            have HQ3 := hid q3
            rw [hnE] at q1
            rw [hnX] at q2
            clear hnE hnX hdv q3
            go_upto_region 9 with fail
            have hb9 : Below w8.heap.size w8 (wr.alloc (.cells #[.int .i64 x.rule, .slice EA nE ec, .slice XA nX xc] 83)) := HBR.out.alloc HBR.out.size _
            have hb9w : Below wr.heap.size wr (wr.alloc (.cells #[.int .i64 x.rule, .slice EA nE ec, .slice XA nX xc] 83)) := below_new _ _
            have T9 : (wr.alloc (.cells #[.int .i64 x.rule, .slice EA nE ec, .slice XA nX xc] 83)).heap[wr.heap.size]? = some (.cells #[.int .i64 x.rule, .slice EA nE ec, .slice XA nX xc] 83 (0, 0)) := heap_alloc_new _ _
            have hO9 := HOA.out (.cells #[.int .i64 x.rule, .slice EA nE ec, .slice XA nX xc] 83)
            have HE9 := (HE.out.below hb9w).more hb9w.size
            have HX9 := (HX.out.below hb9w).more hb9w.size
            generalize wr.alloc (.cells #[.int .i64 x.rule, .slice EA nE ec, .slice XA nX xc] 83) = w9 at hb9 hb9w T9 hO9 HE9 HX9 ⊢
            generalize hg9 : wr.heap.size = g9 at T9 ⊢
            obtain ⟨cn0, cn1, cn2, cn3, cn4, cf0⟩ := CN.out w9 (hb48.out.trans (hb9.mono hb48.out.size))
            have s0 : w9.cell? ⟨g9, 0, none⟩ = some (.int .i64 x.rule) := by rw [Lib.cell_of_heap T9]; rfl
            have s1 : w9.cell? ⟨g9, 1, none⟩ = some (.slice EA nE ec) := by rw [Lib.cell_of_heap T9]; rfl
            have s2 : w9.cell? ⟨g9, 2, none⟩ = some (.slice XA nX xc) := by rw [Lib.cell_of_heap T9]; rfl
            have hM := stMay_any w9 n x (some ⟨b, off, none⟩) TA UA QA DA EA XA sc tc uc qc dc ec xc (HE9.more (Nat.le_refl _)) (HX9.more (Nat.le_refl _)) HQ3.out (by rw [HNE.out]; omega) (by rw [HNX.out]; omega)
            unfold netAgg at hM
            rw [HNE.out, HNX.out, HNS.out, HNT.out, HNU.out, HNQ.out, HND.out] at hM
            have HM := hid hM
            have HB9 := hid hb9
            have HO9 := hid hO9
            have HT9 := hid T9
            generalize hmv : Drv.stMay n x = mv at HM HALLk HALLn
            clear hM HE9 HX9 hmv hO9 T9 hb9 HE HX e0 e1 e2
            go_wp2_with fail
            refine HM.out.mono ?_
            rintro e w10 ⟨rfl, hb10⟩
            have HB10 := hid (HB9.out.trans (hb10.mono HB9.out.size))
            have HO10 := hid (ownsRow_below HO9.out hb10 (Nat.le_refl _))
            have hT10 := (hb10.block g9 (heap_lt HT9.out)).trans HT9.out
            obtain ⟨cn0, cn1, cn2, cn3, cn4, cf0⟩ := CN.out w10 (hb48.out.trans (HB10.out.mono hb48.out.size))
            have s0 : w10.cell? ⟨g9, 0, none⟩ = some (.int .i64 x.rule) := by rw [Lib.cell_of_heap hT10]; rfl
            have s2 : w10.cell? ⟨g9, 2, none⟩ = some (.slice XA nX xc) := by rw [Lib.cell_of_heap hT10]; rfl
            clear hb10 hT10 HM HT9 HO9 HB9
            dsimp only
            cases mv with
            | false =>
              go_wp2_with fail
              go_ret
              refine ⟨ret_bool (HALLk.out (by rfl)).symm, ?_⟩
              first | exact HB8.out.trans (HB10.out.mono HB8.out.size) | exact below_eq HBN.out (HB8.out.trans (HB10.out.mono HB8.out.size))
            | true =>
              by_cases hr0 : x.rule < 0
              · have g1 : decide (x.rule < 0) = true := by simpa using hr0
                go_wp2_with fail
                go_ret
                refine ⟨ret_bool (HALLk.out (by rw [show decide (0 ≤ x.rule) = false by rw [decide_eq_false_iff_not]; omega]; rfl)).symm, ?_⟩
                first | exact HB8.out.trans (HB10.out.mono HB8.out.size) | exact below_eq HBN.out (HB8.out.trans (HB10.out.mono HB8.out.size))
              · have g1 : decide (x.rule < 0) = false := by simpa using hr0
                by_cases hr1 : (nT : Int) ≤ x.rule
                · have g2 : decide ((nT : Int) ≤ x.rule) = true := by simpa using hr1
                  go_wp2_with fail
                  go_ret
                  refine ⟨ret_bool (HALLk.out (by rw [HNT.out, show decide (x.rule < (nT : Int)) = false by rw [decide_eq_false_iff_not]; omega]; simp)).symm, ?_⟩
                  first | exact HB8.out.trans (HB10.out.mono HB8.out.size) | exact below_eq HBN.out (HB8.out.trans (HB10.out.mono HB8.out.size))
                · have g2 : decide ((nT : Int) ≤ x.rule) = false := by simpa using hr1
                  have HN := hid (HALLn.out (by rw [HNT.out, show decide (x.rule < (nT : Int)) = true by rw [decide_eq_true_eq]; omega, show decide (0 ≤ x.rule) = true by rw [decide_eq_true_eq]; omega]; rfl))
                  clear hr0 hr1 HALLk HALLn
                  by_cases hx0 : nX = 0
                  · subst hx0
                    have HDT2 := HDT.out
                    rw [if_pos HNX.out, List.append_nil] at HDT2
                    have HFIN := hid (show Below w8.heap.size w8 w10 ∧ w10.ownsRow w8.heap.size 3 1 u5 (Drv.decsOf (n.states.take (k + 1))).length ((Drv.decsOf (n.states.take (k + 1))).map (Value.int .i64)) from ⟨HB10.out, by rw [HDT2]; exact HO10.out⟩)
                    clear HDT2 HDT HO10
                    go_wp2_with fail
                    go_roundw
                    case rel => exact ⟨k + 1, by omega, by go_num, hid ⟨HFIN.out.1, HFIN.out.2, HN.out⟩⟩
                    case measure => simp [intOf]; omega
                  · have g3 : decide (0 < nX) = true := by rw [decide_eq_true_eq]; omega
                    have g4 : decide ((0 : Int) < (nX : Int)) = true := by rw [decide_eq_true_eq]; omega
                    have HDT2 := HDT.out
                    rw [if_neg (by rw [HNX.out]; exact hx0)] at HDT2
                    have HDT3 := hid HDT2
                    obtain ⟨i0, hi, hz0, hz1, hz2⟩ := info_of infoZ
                    obtain ⟨dn, hdn⟩ : ∃ m, dv.length = m := ⟨_, rfl⟩
                    have HO11 := HO10.out
                    rw [hdn] at HO11 hdl
                    have HDN := hid hdn
                    clear HDT2 HDT HO10 hx0 hdn
                    have hbase : w8.heap.size ≤ w10.heap.size := HB10.out.size
                    go_wp2_with (at_builtin; go_must (refine wpList_push _ rfl _ _ 23 rfl w8.heap.size 3 i0 _ 1 8 Tryz.underlying23 hi hz0 hz1 hz2 rfl (by omega) _ dn _ rfl HO11 [.int .i64 k] 1 _ rfl (by simp) rfl (by simp [Value.oneCell']) (by simp only [maxLen]; omega) (by omega) hbase ?_); intro v' w' hown' hsz' hB')
                    go_roundw
                    case rel => exact ⟨k + 1, by omega, by go_num, hid ⟨hB' _ HB10.out, by rw [HDT3.out, List.length_append, List.map_append, HDN.out]; exact hown', HN.out⟩⟩
                    case measure => simp [intOf]; omega
          · have hkl : k = nS := by omega
            subst hkl
            have htk : n.states.take k = n.states := by rw [← HNS.out, List.take_length]
            have HOW := HOWN.out
            rw [htk] at HOW
            have HALL2 : Hid (Drv.mayNet n = (Drv.decsOf n.states == n.decs)) := hid (by
              rw [HMAY.out, show (n.states.all fun s => Drv.stMay n s && decide (0 ≤ s.rule) && decide (s.rule < n.starts.length)) = true from List.all_eq_true.2 fun x hx => by
                obtain ⟨j, hj, rfl⟩ := List.mem_iff_getElem.1 hx
                exact HALL.out j hj (by rw [← HNS.out]; exact hj), Bool.true_and])
            obtain ⟨A9, c9, rfl, hr9, _⟩ := Reads.own HOW
            have hdl : (Drv.decsOf n.states).length ≤ 1000000 := Nat.le_trans (Drv.decsOf_len _) (by rw [HNS.out]; omega)
            have hE := equalZ_any A9 DA c9 dc wr.heap.size w.heap.size (Drv.decsOf n.states) n.decs wr (by omega) hr9 ((H8.out.below (HBR.out.mono HB8.out.size)).decs) (Nat.le_refl _) (Nat.le_trans HB8.out.size HBR.out.size)
            obtain ⟨cn0, cn1, cn2, cn3, cn4, cf0⟩ := CN.out wr (hb48.out.trans (HBR.out.mono hb48.out.size))
            rw [HND.out] at hE
            have HE := hid hE
            generalize hdn : (Drv.decsOf n.states).length = dn at HE hdl ⊢
            clear hE hr9 HOW HOWN htk HALL hdn
            go_wp2_with fail
            refine HE.out.mono ?_
            rintro e w10 ⟨rfl, hb10⟩
            dsimp only
            have HB10 := hid (HB8.out.trans ((HBR.out.trans (hb10.mono HBR.out.size)).mono HB8.out.size))
            clear hb10
            go_wp2_with fail
            go_ret
            exact ⟨ret_bool HALL2.out.symm, HB10.out⟩
  · have g0 : ((nT : Int) != (nU : Int)) = true := by rw [bne_iff_ne]; omega
    have HF : Hid (Drv.mayNet n = false) := hid (by
      unfold Drv.mayNet
      rw [HNT.out, HNU.out, show (nT == nU) = false by rw [beq_eq_false_iff_ne]; exact hTU]
      simp)
    clear hTU
    go_upto_region 3 with fail
    go_wp2_with fail
    go_ret
    exact ⟨ret_bool HF.out.symm, HB4.out⟩
end Go.Proofs.YtnpcjbdolmmaeaaGreatDoor
