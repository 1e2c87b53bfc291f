/-
  The book of lists: a page of ranges is written over, what stands behind it too, and it stands: the walks of row's three methods.
-/
import Derived.Test.YtoclbcfgfaialaaGreatDoorLL
import Derived.Laws.StructEq
namespace Go.Proofs.YtoclbcfgfaialaaGreatDoor
open Go.RowKit
set_option maxRecDepth 100000
/-- the cells of ranges lo, .., hi - 1 have a mark -/
def mkA (cur : Array Value) (lo hi : Nat) (m : Rg) : Array Value := cur.mapIdx fun j v => if lo * 2 ≤ j ∧ j < hi * 2 then (if j % 2 = 0 then .int .i32 m.1 else .int .i32 m.2) else v
theorem mkA_size (cur : Array Value) (lo hi : Nat) (m : Rg) : (mkA cur lo hi m).size = cur.size := by simp [mkA]
theorem mkA_none (cur : Array Value) (lo : Nat) (m : Rg) : mkA cur lo lo m = cur := by
  apply Array.ext (by simp [mkA])
  intro j h1 h2
  simp only [mkA, Array.getElem_mapIdx]
  rw [if_neg (by omega)]
theorem mkA_step (cur : Array Value) (lo i : Nat) (m : Rg) (h : lo ≤ i) : ((mkA cur lo i m).setIfInBounds (i * 2) (.int .i32 m.1)).setIfInBounds (i * 2 + 1) (.int .i32 m.2) = mkA cur lo (i + 1) m := by
  apply Array.ext_getElem?
  intro j
  simp only [Array.getElem?_setIfInBounds, mkA, Array.getElem?_mapIdx, Array.size_setIfInBounds, Array.size_mapIdx]
  by_cases hj : j < cur.size
  · rw [Array.getElem?_eq_getElem hj]
    simp only [Option.map_some]
    by_cases e1 : i * 2 + 1 = j
    · rw [if_pos e1, if_pos (by omega), if_pos (by omega), if_neg (by omega)]
    · rw [if_neg e1]
      by_cases e2 : i * 2 = j
      · rw [if_pos e2, if_pos (by omega), if_pos (by omega), if_pos (by omega)]
      · rw [if_neg e2]
        by_cases e3 : lo * 2 ≤ j ∧ j < i * 2
        · rw [if_pos e3, if_pos (show lo * 2 ≤ j ∧ j < (i + 1) * 2 by omega)]
        · rw [if_neg e3, if_neg (by omega)]
  · rw [Array.getElem?_eq_none (by omega)]
    simp only [Option.map_none]
    by_cases e1 : i * 2 + 1 = j
    · rw [if_pos e1, if_neg (by omega)]
    · rw [if_neg e1]
      by_cases e2 : i * 2 = j
      · rw [if_pos e2, if_neg (by omega)]
      · rw [if_neg e2]
theorem mkA_in (cur : Array Value) (lo hi : Nat) (m : Rg) (i : Nat) (h1 : lo ≤ i) (h2 : i < hi) (h3 : hi * 2 ≤ cur.size) : (mkA cur lo hi m)[i*2]? = some (.int .i32 m.1) ∧ (mkA cur lo hi m)[i*2+1]? = some (.int .i32 m.2) := by
  constructor
  · rw [Array.getElem?_eq_getElem (by simp [mkA]; omega)]
    simp only [mkA, Array.getElem_mapIdx]
    rw [if_pos (by omega), if_pos (by omega)]
  · rw [Array.getElem?_eq_getElem (by simp [mkA]; omega)]
    simp only [mkA, Array.getElem_mapIdx]
    rw [if_pos (by omega), if_neg (by omega)]
theorem mkA_out (cur : Array Value) (lo hi : Nat) (m : Rg) (j : Nat) (h : ¬ (lo * 2 ≤ j ∧ j < hi * 2)) : (mkA cur lo hi m)[j]? = cur[j]? := by
  simp only [mkA, Array.getElem?_mapIdx]
  cases cur[j]? with
  | none => rfl
  | some v => simp only [Option.map_some]; rw [if_neg h]
/-- nothing but block g has turned -/
structure OnlyB (g : Nat) (w w' : World) : Prop where
  os : w'.os = w.os
  tape : w'.tape = w.tape
  output : w'.output = w.output
  size : w.heap.size ≤ w'.heap.size
  block : ∀ k, k < w.heap.size → k ≠ g → w'.heap[k]? = w.heap[k]?
theorem OnlyB.refl (g : Nat) (w : World) : OnlyB g w w := ⟨rfl, rfl, rfl, Nat.le_refl _, fun _ _ _ => rfl⟩
theorem OnlyB.trans {g : Nat} {w w1 w2 : World} (h : OnlyB g w w1) (k : OnlyB g w1 w2) : OnlyB g w w2 :=
  ⟨k.os.trans h.os, k.tape.trans h.tape, k.output.trans h.output, Nat.le_trans h.size k.size, fun i hi hne => (k.block i (Nat.lt_of_lt_of_le hi h.size) hne).trans (h.block i hi hne)⟩
theorem OnlyB.of_below {g : Nat} {w w' : World} (h : Below w.heap.size w w') : OnlyB g w w' := ⟨h.os, h.tape, h.output, h.size, fun k hk _ => h.block k hk⟩
theorem OnlyB.set {g : Nat} {w w' : World} (h : OnlyB g w w') (o : Nat) (v : Value) : OnlyB g w (w'.setCell ⟨g, o, none⟩ v) :=
  ⟨h.os, h.tape, h.output, by simpa [World.setCell] using h.size, fun k hk hne => by
    rw [Below.heap_setCell _ _ _ _ (fun e => hne e)]; exact h.block k hk hne⟩
theorem OnlyB.below {g B : Nat} {W w w' : World} (h : OnlyB g w w') (hg : B ≤ g) (hW : Below B W w) (hB : B ≤ w.heap.size) : Below B W w' :=
  ⟨h.os.trans hW.os, h.tape.trans hW.tape, h.output.trans hW.output, Nat.le_trans hW.size h.size, fun k hk => (h.block k (by omega) (by omega)).trans (hW.block k hk)⟩
theorem OnlyB.cell {g : Nat} {w w' : World} (h : OnlyB g w w') {b o : Nat} (hb : b < w.heap.size) (hne : b ≠ g) : w'.cell? ⟨b, o, none⟩ = w.cell? ⟨b, o, none⟩ := by
  simp only [World.cell?, h.block b hb hne]
theorem OnlyB.frozen {g : Nat} {w w' : World} (h : OnlyB g w w') {b o : Nat} (hb : b < w.heap.size) (hne : b ≠ g) : w'.frozen? ⟨b, o, none⟩ = w.frozen? ⟨b, o, none⟩ := by
  simp only [World.frozen?, h.block b hb hne]
theorem heap_ltB {w : World} {g : Nat} {o : Obj} (h : w.heap[g]? = some o) : g < w.heap.size := by
  rcases Nat.lt_or_ge g w.heap.size with h1 | h1
  · exact h1
  · rw [Array.getElem?_eq_none h1] at h; cases h
theorem cell_of {w : World} {g : Nat} {cur : Array Value} {e : TypeId} (h : w.heap[g]? = some (.cells cur e (0, 0))) (j : Nat) : w.cell? ⟨g, j, none⟩ = cur[j]? := by
  simp only [World.cell?, h]; rfl
theorem frozen_of {w : World} {g : Nat} {cur : Array Value} {e : TypeId} (h : w.heap[g]? = some (.cells cur e (0, 0))) (j : Nat) : w.frozen? ⟨g, j, none⟩ = false := by
  simp only [World.frozen?, h]
  simp
theorem heap_set2 {w : World} {g : Nat} {cur : Array Value} {e : TypeId} (h : w.heap[g]? = some (.cells cur e (0, 0))) (i j : Nat) (a b : Value) :
    ((w.setCell ⟨g, i, none⟩ a).setCell ⟨g, j, none⟩ b).heap[g]? = some (.cells ((cur.setIfInBounds i a).setIfInBounds j b) e (0, 0)) := by
  simp [World.setCell, Array.getElem?_modify, h]
/-- a page of ranges, as a value -/
def pageV (A : Option Addr) (n c : Nat) (m b : Rg) : Array Value := #[.slice A n c, .int .i32 m.1, .int .i32 m.2, .int .i32 b.1, .int .i32 b.2]
set_option maxHeartbeats 1600000 in
theorem write_any (g n c : Nat) (m b : Rg) (cur : Array Value) (w : World) (hh : w.heap[g]? = some (.cells cur 66 (0, 0))) (hn : n ≤ c) (hc : c * 2 ≤ cur.size) (hm : c ≤ 9223372036854775807) :
    Calls Tryz.prog 170 #[.agg (pageV (some ⟨g, 0, none⟩) n c m b)] w fun e w' => e = .returned (.tuple #[]) ∧ w'.heap[g]? = some (.cells (mkA cur 0 n m) 66 (0, 0)) ∧ OnlyB g w w' := by
  have hg := heap_ltB hh
  unfold pageV
  have hx0 : ∀ o, (w.alloc o).heap[g]? = w.heap[g]? := fun o => Below.heap_alloc w o _ hg
  go_enter Tryz.func170, Tryz.ntmps170
  go_wp2
  go_loopw [2] (fun i wr => ∃ k : Nat, k ≤ n ∧ i = .int .i64 k ∧ wr.heap[g]? = some (.cells (mkA cur 0 k m) 66 (0, 0)) ∧ Hid (OnlyB g (w.alloc (.cells #[.slice (some ⟨g, 0, none⟩) n c, .int .i32 m.1, .int .i32 m.2, .int .i32 b.1, .int .i32 b.2] 104)) wr)) (fun i _ => n - (intOf i).toNat)
  case atStart => exact ⟨0, Nat.zero_le _, rfl, by rw [mkA_none, hx0]; exact hh, OnlyB.refl _ _⟩
  case round =>
    obtain ⟨k, hk, rfl, hcur, HO⟩ := hrel
    have c0 : wr.cell? ⟨w.heap.size, 0, none⟩ = some (.slice (some ⟨g, 0, none⟩) n c) := (HO.out.cell (by simp) (by omega)).trans (by rw [cell_new]; rfl)
    have c1 : wr.cell? ⟨w.heap.size, 1, none⟩ = some (.int .i32 m.1) := (HO.out.cell (by simp) (by omega)).trans (by rw [cell_new]; rfl)
    have c2 : wr.cell? ⟨w.heap.size, 2, none⟩ = some (.int .i32 m.2) := (HO.out.cell (by simp) (by omega)).trans (by rw [cell_new]; rfl)
    have HC := hid hcur
    by_cases hlt : k < n
    · obtain ⟨x0, d0⟩ : ∃ x, wr.cell? ⟨g, k*2, none⟩ = some x := ⟨_, (cell_of hcur _).trans (Array.getElem?_eq_getElem (by rw [mkA_size]; omega))⟩
      obtain ⟨x1, d1⟩ : ∃ x, wr.cell? ⟨g, k*2+1, none⟩ = some x := ⟨_, (cell_of hcur _).trans (Array.getElem?_eq_getElem (by rw [mkA_size]; omega))⟩
      have f0 := frozen_of hcur (k*2)
      have f1 := frozen_of hcur (k*2+1)
      clear hcur hx0
      go_wp2
      go_roundw
      case rel => exact ⟨k + 1, by omega, by go_num, by rw [heap_set2 HC.out, mkA_step _ _ _ _ (Nat.zero_le _)], (HO.out.set _ _).set _ _⟩
      case measure => simp [intOf]; omega
    · have hkn : k = n := by omega
      subst hkn
      clear hcur
      go_wp2
      go_end0
      exact ⟨rfl, HC.out, (OnlyB.of_below (below_new _ _)).trans HO.out⟩
set_option maxHeartbeats 1600000 in
theorem behind_any (g n c : Nat) (m b : Rg) (cur : Array Value) (w : World) (hh : w.heap[g]? = some (.cells cur 66 (0, 0))) (hn : n ≤ c) (hc : c * 2 ≤ cur.size) (hm : c ≤ 9223372036854775807) :
    Calls Tryz.prog 171 #[.agg (pageV (some ⟨g, 0, none⟩) n c m b)] w fun e w' => e = .returned (.tuple #[]) ∧ w'.heap[g]? = some (.cells (mkA cur n c b) 66 (0, 0)) ∧ OnlyB g w w' := by
  have hg := heap_ltB hh
  unfold pageV
  have hx0 : ∀ o, (w.alloc o).heap[g]? = w.heap[g]? := fun o => Below.heap_alloc w o _ hg
  have hnc : (n : Int) ≤ (c : Int) := by omega
  go_enter Tryz.func171, Tryz.ntmps171
  go_wp2
  go_loopw [3] (fun i wr => ∃ k : Nat, n ≤ k ∧ k ≤ c ∧ i = .int .i64 k ∧ wr.heap[g]? = some (.cells (mkA cur n k b) 66 (0, 0)) ∧ Hid (OnlyB g (w.alloc (.cells #[.slice (some ⟨g, 0, none⟩) n c, .int .i32 m.1, .int .i32 m.2, .int .i32 b.1, .int .i32 b.2] 104)) wr)) (fun i _ => c - (intOf i).toNat)
  case atStart => exact ⟨n, Nat.le_refl _, hn, rfl, by rw [mkA_none, hx0]; exact hh, OnlyB.refl _ _⟩
  case round =>
    obtain ⟨k, hk0, hk, rfl, hcur, HO⟩ := hrel
    have c0 : wr.cell? ⟨w.heap.size, 0, none⟩ = some (.slice (some ⟨g, 0, none⟩) n c) := (HO.out.cell (by simp) (by omega)).trans (by rw [cell_new]; rfl)
    have c1 : wr.cell? ⟨w.heap.size, 3, none⟩ = some (.int .i32 b.1) := (HO.out.cell (by simp) (by omega)).trans (by rw [cell_new]; rfl)
    have c2 : wr.cell? ⟨w.heap.size, 4, none⟩ = some (.int .i32 b.2) := (HO.out.cell (by simp) (by omega)).trans (by rw [cell_new]; rfl)
    have HC := hid hcur
    by_cases hlt : k < c
    · obtain ⟨x0, d0⟩ : ∃ x, wr.cell? ⟨g, k*2, none⟩ = some x := ⟨_, (cell_of hcur _).trans (Array.getElem?_eq_getElem (by rw [mkA_size]; omega))⟩
      obtain ⟨x1, d1⟩ : ∃ x, wr.cell? ⟨g, k*2+1, none⟩ = some x := ⟨_, (cell_of hcur _).trans (Array.getElem?_eq_getElem (by rw [mkA_size]; omega))⟩
      have f0 := frozen_of hcur (k*2)
      have f1 := frozen_of hcur (k*2+1)
      clear hcur hx0
      go_wp2
      go_roundw
      case rel => exact ⟨k + 1, by omega, by omega, by go_num, by rw [heap_set2 HC.out, mkA_step _ _ _ _ hk0], (HO.out.set _ _).set _ _⟩
      case measure => simp [intOf]; omega
    · have hkn : k = c := by omega
      subst hkn
      clear hcur
      go_wp2
      go_end0
      exact ⟨rfl, HC.out, (OnlyB.of_below (below_new _ _)).trans HO.out⟩
set_option maxHeartbeats 3200000 in
theorem stands_any (g n c : Nat) (m b : Rg) (cur : Array Value) (w : World) (hh : w.heap[g]? = some (.cells cur 66 (0, 0))) (hn : n ≤ c) (hm : c ≤ 9223372036854775807)
    (h1 : Hid (∀ i, i < n → cur[i*2]? = some (.int .i32 m.1) ∧ cur[i*2+1]? = some (.int .i32 m.2))) (h2 : Hid (∀ i, n ≤ i → i < c → cur[i*2]? = some (.int .i32 b.1) ∧ cur[i*2+1]? = some (.int .i32 b.2))) :
    Calls Tryz.prog 169 #[.agg (pageV (some ⟨g, 0, none⟩) n c m b)] w fun e w' => e = .returned (.bool true) ∧ Below w.heap.size w w' := by
  have hg := heap_ltB hh
  unfold pageV
  have hx0 : Hid (∀ wr, Below (w.heap.size + 1) (w.alloc (.cells #[.slice (some ⟨g, 0, none⟩) n c, .int .i32 m.1, .int .i32 m.2, .int .i32 b.1, .int .i32 b.2] 104)) wr → wr.heap[g]? = some (.cells cur 66 (0, 0))) := fun wr hb => by
    rw [hb.block g (by omega), Below.heap_alloc w _ _ hg]; exact hh
  have hnc : (n : Int) ≤ (c : Int) := by omega
  clear hh
  go_enter Tryz.func169, Tryz.ntmps169
  go_wp2
  go_loopw [4] (fun i wr => ∃ k : Nat, k ≤ c ∧ i = .int .i64 k ∧ Hid (Below (w.heap.size + 1) (w.alloc (.cells #[.slice (some ⟨g, 0, none⟩) n c, .int .i32 m.1, .int .i32 m.2, .int .i32 b.1, .int .i32 b.2] 104)) wr)) (fun i _ => c - (intOf i).toNat)
  case atStart => exact ⟨0, Nat.zero_le _, rfl, Below.refl _ _⟩
  case round =>
    obtain ⟨k, hk, rfl, HO⟩ := hrel
    have c0 : wr.cell? ⟨w.heap.size, 0, none⟩ = some (.slice (some ⟨g, 0, none⟩) n c) := (HO.out.cell (p := ⟨w.heap.size, 0, none⟩) (by simp)).trans (by rw [cell_new]; rfl)
    have c1 : wr.cell? ⟨w.heap.size, 1, none⟩ = some (.int .i32 m.1) := (HO.out.cell (p := ⟨w.heap.size, 1, none⟩) (by simp)).trans (by rw [cell_new]; rfl)
    have c2 : wr.cell? ⟨w.heap.size, 2, none⟩ = some (.int .i32 m.2) := (HO.out.cell (p := ⟨w.heap.size, 2, none⟩) (by simp)).trans (by rw [cell_new]; rfl)
    have c3 : wr.cell? ⟨w.heap.size, 3, none⟩ = some (.int .i32 b.1) := (HO.out.cell (p := ⟨w.heap.size, 3, none⟩) (by simp)).trans (by rw [cell_new]; rfl)
    have c4 : wr.cell? ⟨w.heap.size, 4, none⟩ = some (.int .i32 b.2) := (HO.out.cell (p := ⟨w.heap.size, 4, none⟩) (by simp)).trans (by rw [cell_new]; rfl)
    have hcur := hx0.out wr HO.out
    have e6 : (0 : Int) ≤ (k : Int) := by omega
    have e7 : (k : Int).toNat = k := by omega
    by_cases hlt : k < c
    · have e8 : (k : Int) < (c : Int) := by omega
      by_cases hkn : k < n
      · have d0 := (cell_of hcur (k*2)).trans (h1.out k hkn).1
        have d1 := (cell_of hcur (k*2+1)).trans (h1.out k hkn).2
        have e9 : (k : Int) < (n : Int) := by omega
        have e10 : decide (n ≤ k) = false := decide_eq_false (by omega)
        clear hcur
        go_wp2_with fail
        go_quiet (fail)
        clear e6 e7 e8 e9 e10
        go_wp2
        go_roundw
        case rel => exact ⟨k + 1, by omega, by go_num, below_drewN HO.out _⟩
        case measure => simp [intOf]; omega
      · have d0 := (cell_of hcur (k*2)).trans (h2.out k (by omega) hlt).1
        have d1 := (cell_of hcur (k*2+1)).trans (h2.out k (by omega) hlt).2
        have e9 : (n : Int) ≤ (k : Int) := by omega
        have e10 : decide (k < n) = false := decide_eq_false (by omega)
        clear hcur
        go_wp2_with fail
        go_quiet (fail)
        clear e6 e7 e8 e9 e10
        go_wp2
        go_roundw
        case rel => exact ⟨k + 1, by omega, by go_num, below_drewN HO.out _⟩
        case measure => simp [intOf]; omega
    · clear hcur e6 e7
      go_wp2
      go_ret
      exact ⟨rfl, (below_new _ _).trans (HO.out.mono (by omega))⟩
end Go.Proofs.YtoclbcfgfaialaaGreatDoor
