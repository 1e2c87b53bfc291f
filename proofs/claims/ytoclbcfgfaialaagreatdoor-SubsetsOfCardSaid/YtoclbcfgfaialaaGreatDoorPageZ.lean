/-
  The book of lists: pages of numbers: the walks of row's three methods; (*Book).Nums adds one.
-/
import Derived.Test.YtoclbcfgfaialaaGreatDoorPage
namespace Go.Proofs.YtoclbcfgfaialaaGreatDoor
open Go.RowKit
set_option maxRecDepth 100000
/-- the cells lo, .., hi - 1 have a mark -/
def mkZ (cur : Array Value) (lo hi : Nat) (m : Int) : Array Value := cur.mapIdx fun j v => if lo ≤ j ∧ j < hi then .int .i64 m else v
theorem mkZ_size (cur : Array Value) (lo hi : Nat) (m : Int) : (mkZ cur lo hi m).size = cur.size := by simp [mkZ]
theorem mkZ_none (cur : Array Value) (lo : Nat) (m : Int) : mkZ cur lo lo m = cur := by
  apply Array.ext (by simp [mkZ])
  intro j h1 h2
  simp only [mkZ, Array.getElem_mapIdx]
  rw [if_neg (by omega)]
theorem mkZ_step (cur : Array Value) (lo i : Nat) (m : Int) (h : lo ≤ i) : (mkZ cur lo i m).setIfInBounds i (.int .i64 m) = mkZ cur lo (i + 1) m := by
  apply Array.ext_getElem?
  intro j
  simp only [Array.getElem?_setIfInBounds, mkZ, Array.getElem?_mapIdx, Array.size_mapIdx]
  by_cases hj : j < cur.size
  · rw [Array.getElem?_eq_getElem hj]
    simp only [Option.map_some]
    by_cases e2 : i = j
    · rw [if_pos e2, if_pos (by omega), if_pos (by omega)]
    · rw [if_neg e2]
      by_cases e3 : lo ≤ j ∧ j < i
      · rw [if_pos e3, if_pos (show lo ≤ j ∧ j < i + 1 by omega)]
      · rw [if_neg e3, if_neg (by omega)]
  · rw [Array.getElem?_eq_none (by omega)]
    simp only [Option.map_none]
    by_cases e2 : i = j
    · rw [if_pos e2, if_neg (by omega)]
    · rw [if_neg e2]
theorem mkZ_in (cur : Array Value) (lo hi : Nat) (m : Int) (i : Nat) (h1 : lo ≤ i) (h2 : i < hi) (h3 : hi ≤ cur.size) : (mkZ cur lo hi m)[i]? = some (.int .i64 m) := by
  rw [Array.getElem?_eq_getElem (by simp [mkZ]; omega)]
  simp only [mkZ, Array.getElem_mapIdx]
  rw [if_pos (by omega)]
theorem mkZ_out (cur : Array Value) (lo hi : Nat) (m : Int) (j : Nat) (h : ¬ (lo ≤ j ∧ j < hi)) : (mkZ cur lo hi m)[j]? = cur[j]? := by
  simp only [mkZ, Array.getElem?_mapIdx]
  cases cur[j]? with
  | none => rfl
  | some v => simp only [Option.map_some]; rw [if_neg h]
theorem heap_set1 {w : World} {g : Nat} {cur : Array Value} {e : TypeId} (h : w.heap[g]? = some (.cells cur e (0, 0))) (i : Nat) (a : Value) :
    (w.setCell ⟨g, i, none⟩ a).heap[g]? = some (.cells (cur.setIfInBounds i a) e (0, 0)) := by
  simp [World.setCell, Array.getElem?_modify, h]
/-- a page of numbers, as a value -/
def pageZ (A : Option Addr) (n c : Nat) (m b : Int) : Array Value := #[.slice A n c, .int .i64 m, .int .i64 b]
set_option maxHeartbeats 1600000 in
theorem writeZ_any (g n c : Nat) (m b : Int) (cur : Array Value) (w : World) (hh : w.heap[g]? = some (.cells cur 3 (0, 0))) (hn : n ≤ c) (hc : c ≤ cur.size) (hm : c ≤ 9223372036854775807) :
    Calls Tryz.prog 167 #[.agg (pageZ (some ⟨g, 0, none⟩) n c m b)] w fun e w' => e = .returned (.tuple #[]) ∧ w'.heap[g]? = some (.cells (mkZ cur 0 n m) 3 (0, 0)) ∧ OnlyB g w w' := by
  have hg := heap_ltB hh
  unfold pageZ
  have hx0 : ∀ o, (w.alloc o).heap[g]? = w.heap[g]? := fun o => Below.heap_alloc w o _ hg
  go_enter Tryz.func167, Tryz.ntmps167
  go_wp2
  go_loopw [2] (fun i wr => ∃ k : Nat, k ≤ n ∧ i = .int .i64 k ∧ wr.heap[g]? = some (.cells (mkZ cur 0 k m) 3 (0, 0)) ∧ Hid (OnlyB g (w.alloc (.cells #[.slice (some ⟨g, 0, none⟩) n c, .int .i64 m, .int .i64 b] 83)) wr)) (fun i _ => n - (intOf i).toNat)
  case atStart => exact ⟨0, Nat.zero_le _, rfl, by rw [mkZ_none, hx0]; exact hh, OnlyB.refl _ _⟩
  case round =>
    obtain ⟨k, hk, rfl, hcur, HO⟩ := hrel
    have c0 : wr.cell? ⟨w.heap.size, 0, none⟩ = some (.slice (some ⟨g, 0, none⟩) n c) := (HO.out.cell (by simp) (by omega)).trans (by rw [cell_new]; rfl)
    have c1 : wr.cell? ⟨w.heap.size, 1, none⟩ = some (.int .i64 m) := (HO.out.cell (by simp) (by omega)).trans (by rw [cell_new]; rfl)
    have HC := hid hcur
    by_cases hlt : k < n
    · obtain ⟨x0, d0⟩ : ∃ x, wr.cell? ⟨g, k, none⟩ = some x := ⟨_, (cell_of hcur _).trans (Array.getElem?_eq_getElem (by rw [mkZ_size]; omega))⟩
      have f0 := frozen_of hcur k
      clear hcur hx0
      go_wp2
      go_roundw
      case rel => exact ⟨k + 1, by omega, by go_num, by rw [heap_set1 HC.out, mkZ_step _ _ _ _ (Nat.zero_le _)], HO.out.set _ _⟩
      case measure => simp [intOf]; omega
    · have hkn : k = n := by omega
      subst hkn
      clear hcur
      go_wp2
      go_end0
      exact ⟨rfl, HC.out, (OnlyB.of_below (below_new _ _)).trans HO.out⟩
set_option maxHeartbeats 1600000 in
theorem behindZ_any (g n c : Nat) (m b : Int) (cur : Array Value) (w : World) (hh : w.heap[g]? = some (.cells cur 3 (0, 0))) (hn : n ≤ c) (hc : c ≤ cur.size) (hm : c ≤ 9223372036854775807) :
    Calls Tryz.prog 168 #[.agg (pageZ (some ⟨g, 0, none⟩) n c m b)] w fun e w' => e = .returned (.tuple #[]) ∧ w'.heap[g]? = some (.cells (mkZ cur n c b) 3 (0, 0)) ∧ OnlyB g w w' := by
  have hg := heap_ltB hh
  unfold pageZ
  have hx0 : ∀ o, (w.alloc o).heap[g]? = w.heap[g]? := fun o => Below.heap_alloc w o _ hg
  have hnc : (n : Int) ≤ (c : Int) := by omega
  go_enter Tryz.func168, Tryz.ntmps168
  go_wp2
  go_loopw [3] (fun i wr => ∃ k : Nat, n ≤ k ∧ k ≤ c ∧ i = .int .i64 k ∧ wr.heap[g]? = some (.cells (mkZ cur n k b) 3 (0, 0)) ∧ Hid (OnlyB g (w.alloc (.cells #[.slice (some ⟨g, 0, none⟩) n c, .int .i64 m, .int .i64 b] 83)) wr)) (fun i _ => c - (intOf i).toNat)
  case atStart => exact ⟨n, Nat.le_refl _, hn, rfl, by rw [mkZ_none, hx0]; exact hh, OnlyB.refl _ _⟩
  case round =>
    obtain ⟨k, hk0, hk, rfl, hcur, HO⟩ := hrel
    have c0 : wr.cell? ⟨w.heap.size, 0, none⟩ = some (.slice (some ⟨g, 0, none⟩) n c) := (HO.out.cell (by simp) (by omega)).trans (by rw [cell_new]; rfl)
    have c1 : wr.cell? ⟨w.heap.size, 2, none⟩ = some (.int .i64 b) := (HO.out.cell (by simp) (by omega)).trans (by rw [cell_new]; rfl)
    have HC := hid hcur
    by_cases hlt : k < c
    · obtain ⟨x0, d0⟩ : ∃ x, wr.cell? ⟨g, k, none⟩ = some x := ⟨_, (cell_of hcur _).trans (Array.getElem?_eq_getElem (by rw [mkZ_size]; omega))⟩
      have f0 := frozen_of hcur k
      clear hcur hx0
      go_wp2
      go_roundw
      case rel => exact ⟨k + 1, by omega, by omega, by go_num, by rw [heap_set1 HC.out, mkZ_step _ _ _ _ hk0], HO.out.set _ _⟩
      case measure => simp [intOf]; omega
    · have hkn : k = c := by omega
      subst hkn
      clear hcur
      go_wp2
      go_end0
      exact ⟨rfl, HC.out, (OnlyB.of_below (below_new _ _)).trans HO.out⟩
set_option maxHeartbeats 3200000 in
theorem standsZ_any (g n c : Nat) (m b : Int) (cur : Array Value) (w : World) (hh : w.heap[g]? = some (.cells cur 3 (0, 0))) (hn : n ≤ c) (hm : c ≤ 9223372036854775807)
    (h1 : Hid (∀ i, i < n → cur[i]? = some (.int .i64 m))) (h2 : Hid (∀ i, n ≤ i → i < c → cur[i]? = some (.int .i64 b))) :
    Calls Tryz.prog 166 #[.agg (pageZ (some ⟨g, 0, none⟩) n c m b)] w fun e w' => e = .returned (.bool true) ∧ Below w.heap.size w w' := by
  have hg := heap_ltB hh
  unfold pageZ
  have hx0 : Hid (∀ wr, Below (w.heap.size + 1) (w.alloc (.cells #[.slice (some ⟨g, 0, none⟩) n c, .int .i64 m, .int .i64 b] 83)) wr → wr.heap[g]? = some (.cells cur 3 (0, 0))) := fun wr hb => by
    rw [hb.block g (by omega), Below.heap_alloc w _ _ hg]; exact hh
  have hnc : (n : Int) ≤ (c : Int) := by omega
  clear hh
  go_enter Tryz.func166, Tryz.ntmps166
  go_wp2
  go_loopw [4] (fun i wr => ∃ k : Nat, k ≤ c ∧ i = .int .i64 k ∧ Hid (Below (w.heap.size + 1) (w.alloc (.cells #[.slice (some ⟨g, 0, none⟩) n c, .int .i64 m, .int .i64 b] 83)) wr)) (fun i _ => c - (intOf i).toNat)
  case atStart => exact ⟨0, Nat.zero_le _, rfl, Below.refl _ _⟩
  case round =>
    obtain ⟨k, hk, rfl, HO⟩ := hrel
    have c0 : wr.cell? ⟨w.heap.size, 0, none⟩ = some (.slice (some ⟨g, 0, none⟩) n c) := (HO.out.cell (p := ⟨w.heap.size, 0, none⟩) (by simp)).trans (by rw [cell_new]; rfl)
    have c1 : wr.cell? ⟨w.heap.size, 1, none⟩ = some (.int .i64 m) := (HO.out.cell (p := ⟨w.heap.size, 1, none⟩) (by simp)).trans (by rw [cell_new]; rfl)
    have c2 : wr.cell? ⟨w.heap.size, 2, none⟩ = some (.int .i64 b) := (HO.out.cell (p := ⟨w.heap.size, 2, none⟩) (by simp)).trans (by rw [cell_new]; rfl)
    have hcur := hx0.out wr HO.out
    have e6 : (0 : Int) ≤ (k : Int) := by omega
    have e7 : (k : Int).toNat = k := by omega
    by_cases hlt : k < c
    · have e8 : (k : Int) < (c : Int) := by omega
      by_cases hkn : k < n
      · have d0 := (cell_of hcur k).trans (h1.out k hkn)
        have e9 : (k : Int) < (n : Int) := by omega
        have e10 : decide (n ≤ k) = false := decide_eq_false (by omega)
        have hx : (m != m) = false := by simp
        clear hcur
        go_wp2_with fail
        go_quiet (fail)
        clear e6 e7 e8 e9 e10
        go_wp2
        go_roundw
        case rel => exact ⟨k + 1, by omega, by go_num, below_drewN HO.out _⟩
        case measure => simp [intOf]; omega
      · have d0 := (cell_of hcur k).trans (h2.out k (by omega) hlt)
        have e9 : (n : Int) ≤ (k : Int) := by omega
        have e10 : decide (k < n) = false := decide_eq_false (by omega)
        have hx : (b != b) = false := by simp
        clear hcur
        go_wp2_with fail
        go_quiet (fail)
        clear e6 e7 e8 e9 e10
        go_wp2
        go_roundw
        case rel => exact ⟨k + 1, by omega, by go_num, below_drewN HO.out _⟩
        case measure => simp [intOf]; omega
    · clear hcur e6 e7
      go_wp2
      go_ret
      exact ⟨rfl, (below_new _ _).trans (HO.out.mono (by omega))⟩
set_option maxHeartbeats 400000 in
theorem writeZ_nil (m b : Int) (w : World) : Calls Tryz.prog 167 #[.agg (pageZ none 0 0 m b)] w fun e w' => e = .returned (.tuple #[]) ∧ Below w.heap.size w w' := by
  unfold pageZ
  go_enter Tryz.func167, Tryz.ntmps167
  go_wp2
  go_loop [2] (fun i => i = .int .i64 0) (fun _ => 0)
  case atStart => rfl
  case round =>
    subst hrel
    go_wp2
    go_end0
    exact ⟨rfl, below_new _ _⟩
set_option maxHeartbeats 400000 in
theorem behindZ_nil (m b : Int) (w : World) : Calls Tryz.prog 168 #[.agg (pageZ none 0 0 m b)] w fun e w' => e = .returned (.tuple #[]) ∧ Below w.heap.size w w' := by
  unfold pageZ
  go_enter Tryz.func168, Tryz.ntmps168
  go_wp2
  go_loop [3] (fun i => i = .int .i64 0) (fun _ => 0)
  case atStart => rfl
  case round =>
    subst hrel
    go_wp2
    go_end0
    exact ⟨rfl, below_new _ _⟩
set_option maxHeartbeats 400000 in
theorem standsZ_nil (m b : Int) (w : World) : Calls Tryz.prog 166 #[.agg (pageZ none 0 0 m b)] w fun e w' => e = .returned (.bool true) ∧ Below w.heap.size w w' := by
  unfold pageZ
  go_enter Tryz.func166, Tryz.ntmps166
  go_wp2
  go_loop [4] (fun i => i = .int .i64 0) (fun _ => 0)
  case atStart => rfl
  case round =>
    subst hrel
    go_wp2
    go_ret
    exact ⟨rfl, below_new _ _⟩
def stageZ (cur : Array Value) (n c k : Nat) : Nat → Array Value
  | 0 => cur
  | 1 => mkZ cur 0 n (k : Int)
  | _ => mkZ (mkZ cur 0 n (k : Int)) n c (-(k : Int))
/-- a page of numbers: its block, if it has one -/
def zPg (g : Option Nat) (n c k : Nat) (cur : Array Value) : Pg where
  T := 83
  v := .agg (pageZ (g.map fun b => ⟨b, 0, none⟩) n c (k : Int) (-(k : Int)))
  blk := g
  fW := 167
  fB := 168
  fS := 166
  st := fun i w => ∀ b, g = some b → w.heap[b]? = some (.cells (stageZ cur n c k i) 3 (0, 0))
def PageInZ (g : Option Nat) (n c : Nat) (cur : Array Value) : Prop := (g = none → n = 0 ∧ c = 0) ∧ (∀ b, g = some b → n ≤ c ∧ c ≤ cur.size ∧ c ≤ 9223372036854775807)
theorem methodZ_w (v : Array Value) : ∀ n w, (method (n + 1) 83 (.agg v) "harbinger/harbingerlaw01.write").run Tryz.prog w = .ok (167, .agg v) w := fun _ _ => by kernel_rfl
theorem methodZ_b (v : Array Value) : ∀ n w, (method (n + 1) 83 (.agg v) "harbinger/harbingerlaw01.writeBehind").run Tryz.prog w = .ok (168, .agg v) w := fun _ _ => by kernel_rfl
theorem methodZ_s (v : Array Value) : ∀ n w, (method (n + 1) 83 (.agg v) "harbinger/harbingerlaw01.stands").run Tryz.prog w = .ok (166, .agg v) w := fun _ _ => by kernel_rfl
theorem rowZ_eW : ∀ l w, (callFunc 167 l).run Tryz.prog w = .ok (.enter 167 l) w := fun _ _ => by kernel_rfl
theorem rowZ_eB : ∀ l w, (callFunc 168 l).run Tryz.prog w = .ok (.enter 168 l) w := fun _ _ => by kernel_rfl
theorem rowZ_eS : ∀ l w, (callFunc 166 l).run Tryz.prog w = .ok (.enter 166 l) w := fun _ _ => by kernel_rfl
theorem zPg_ok {g : Option Nat} {n c k : Nat} {cur : Array Value} (h : PageInZ g n c cur) : PgOk (zPg g n c k cur) where
  frame := by
    intro i w w' b hst ho hne x hx
    have hw := hst x hx
    rw [ho.block x (heap_ltB hw) (fun e => ?_)]
    · exact hw
    · rcases hne with h1 | h1
      · have h1 : g = none := h1
        rw [hx] at h1; cases h1
      · have h1 : g ≠ b := h1
        exact h1 (by rw [hx, e])
  w := by
    intro w hst
    cases g with
    | none =>
      obtain ⟨rfl, rfl⟩ := h.1 rfl
      exact (writeZ_nil _ _ w).mono fun e w' ⟨he, hb⟩ => ⟨he, fun x hx => (by cases hx), OnlyO.of_below hb⟩
    | some b =>
      obtain ⟨h1, h2, h3⟩ := h.2 b rfl
      exact (writeZ_any b n c _ _ cur w (hst b rfl) h1 h2 h3).mono fun e w' ⟨he, hc, ho⟩ => ⟨he, fun x hx => by cases hx; exact hc, OnlyO.of_b ho⟩
  b := by
    intro w hst
    cases g with
    | none =>
      obtain ⟨rfl, rfl⟩ := h.1 rfl
      exact (behindZ_nil _ _ w).mono fun e w' ⟨he, hb⟩ => ⟨he, fun x hx => (by cases hx), OnlyO.of_below hb⟩
    | some b =>
      obtain ⟨h1, h2, h3⟩ := h.2 b rfl
      exact (behindZ_any b n c _ _ (mkZ cur 0 n (k : Int)) w (hst b rfl) h1 (by rw [mkZ_size]; exact h2) h3).mono fun e w' ⟨he, hc, ho⟩ => ⟨he, fun x hx => by cases hx; exact hc, OnlyO.of_b ho⟩
  s := by
    intro w hst
    cases g with
    | none =>
      obtain ⟨rfl, rfl⟩ := h.1 rfl
      exact standsZ_nil _ _ w
    | some b =>
      obtain ⟨h1, h2, h3⟩ := h.2 b rfl
      refine standsZ_any b n c _ _ (mkZ (mkZ cur 0 n (k : Int)) n c (-(k : Int))) w (hst b rfl) h1 h3 (fun i hi => ?_) (fun i hi hic => mkZ_in _ _ _ _ i hi hic (by rw [mkZ_size]; exact h2))
      exact (mkZ_out _ _ _ _ _ (by omega)).trans (mkZ_in cur 0 n (k : Int) i (Nat.zero_le _) hi (by omega))
  mW := methodZ_w _
  mB := methodZ_b _
  mS := methodZ_s _
  eW := rowZ_eW
  eB := rowZ_eB
  eS := rowZ_eS
/-- a row of the call's own as a page -/
theorem pageZ_of_own {w : World} {base n c : Nat} (k : Nat) {A : Option Addr} {xs : List Value} (h : OwnC w base 3 1 (.slice A n c) n xs) (hm : c ≤ 9223372036854775807) :
    ∃ g cur, A = g.map (fun b => (⟨b, 0, none⟩ : Addr)) ∧ PageInZ g n c cur ∧ (zPg g n c k cur).st 0 w ∧ ∀ b, g = some b → base ≤ b ∧ b < w.heap.size := by
  rcases h.2 with ⟨h1, h2⟩ | ⟨g, cap, cur, hv, hg, hh, h3, h4, h5, h6⟩
  · injection h1 with h1 _ h3
    exact ⟨none, #[], h1, ⟨fun _ => ⟨h2, h3⟩, fun b hb => (by cases hb)⟩, fun b hb => (by cases hb), fun b hb => (by cases hb)⟩
  · injection hv with hv _ hc
    subst hc
    refine ⟨some g, cur, hv, ⟨fun hb => (by cases hb), fun b _ => ⟨h3, by simpa using h5, hm⟩⟩, fun b hb => ?_, fun b hb => ?_⟩
    · cases hb; exact hh
    · cases hb; exact ⟨hg, heap_ltB hh⟩
set_option maxHeartbeats 1600000 in
theorem bookZ_any (bb n c : Nat) (A : Option Addr) (xs : List Value) (w : World) (hx : xs.length ≤ 1000) (h : BookSt w bb xs) :
    Calls Tryz.prog 15 #[.pointer (some ⟨bb, 0, none⟩), .slice A n c] w fun e w' => e = .returned (.tuple #[]) ∧ BookSt w' bb (xs ++ [.iface 83 (.agg (pageZ A n c ((xs.length + 1 : Nat) : Int) (-((xs.length + 1 : Nat) : Int))))]) ∧ Below bb w w' := by
  obtain ⟨i0, hi, hz0, hz1, hz2⟩ := info_parts infoPage
  obtain ⟨hbb, Ap, cp, hc, hf, hown⟩ := h
  have hk : ((xs.length + 1 : Nat) : Int) = (xs.length : Int) + 1 := by omega
  unfold pageZ
  rw [hk]
  clear hk
  have hng : IntKind.i64.wrap (-((xs.length : Int) + 1)) = -((xs.length : Int) + 1) := w64 (by omega) (by omega)
  go_enter Tryz.func15, Tryz.ntmps15
  go_wp2_with fail
  refine (number_any bb xs.length cp Ap w hc hx).mono ?_
  rintro e w1 ⟨rfl, rfl⟩
  go_wp2_with (at_builtin; go_must (refine wpList_push _ rfl _ _ 49 rfl (bb + 1) 86 i0 _ 1 16 Tryz.underlying49 hi hz0 hz1 hz2 rfl (by omega) _ _ _ rfl hown [.iface 83 (.agg #[.slice A n c, .int .i64 ((xs.length : Int) + 1), .int .i64 (-((xs.length : Int) + 1))])] 1 _ rfl (by simp) rfl (by simp [Value.oneCell']) (by simp only [maxLen]; omega) (by omega) (by omega) ?_); intro v' w' hown' hsz' hB'; obtain ⟨A9, c9, rfl, _, _⟩ := Reads.own hown'; have hc9 := ((hB' _ (Below.refl _ _)).cell (p := ⟨bb, 0, none⟩) (Nat.lt_succ_self bb)).trans hc; have hf9 := ((hB' _ (Below.refl _ _)).frozen (p := ⟨bb, 0, none⟩) (Nat.lt_succ_self bb)).trans hf)
  go_end0
  have hlen : ∀ v : Value, (xs ++ [v]).length = xs.length + 1 := fun v => by simp
  refine ⟨rfl, ⟨by simp [World.setCell]; omega, A9, c9, by rw [hlen]; exact cell_set_self hc9, by rw [World.frozen?_setCell]; exact hf9, by rw [hlen]; exact ownsRow_set_below hown' (Nat.lt_succ_self bb) _⟩, Below.setCell ((hB' _ (Below.refl _ _)).mono (by omega)) (Nat.le_refl bb) _⟩
end Go.Proofs.YtoclbcfgfaialaaGreatDoor
