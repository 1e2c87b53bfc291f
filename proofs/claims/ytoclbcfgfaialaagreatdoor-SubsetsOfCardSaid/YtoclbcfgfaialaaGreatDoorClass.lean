/-
  ranges.some, Class, Has, and slices.IndexFunc at api.Range: the walks.
-/
import Derived.Test.YtoclbcfgfaialaaGreatDoorKept
namespace Go.Proofs.YtoclbcfgfaialaaGreatDoor
open Go.RowKit
set_option maxRecDepth 100000
theorem ret_bool {a b : Bool} (h : a = b) : Ending.returned (.bool a) = .returned (.bool b) := by rw [h]
theorem ret_int {k : IntKind} {a b : Int} (h : a = b) : Ending.returned (.int k a) = .returned (.int k b) := by rw [h]
set_option maxHeartbeats 400000 in
theorem some_any (r : Rg) (w : World) : Calls Tryz.prog 74 #[.agg #[.int .i32 r.1, .int .i32 r.2]] w fun e w' => e = .returned (.bool (someB r)) ∧ Below w.heap.size w w' := by
  go_enter Tryz.func74, Tryz.ntmps74
  go_wp2
  go_ret
  exact ⟨rfl, (Below.refl _ _).alloc (Nat.le_refl _) _⟩
theorem some_pred (w : World) : PredW 74 #[] someB w := fun wr r _ => some_any r wr
theorem some_enters : ∀ args w, (callFunc 74 args).run Tryz.prog w = .ok (.enter 74 args) w := fun _ _ => by kernel_rfl
set_option maxHeartbeats 400000 in
theorem class1_any (r : Rg) (x : Int) (rb : Nat) (w : World) (hc : w.cell? ⟨rb, 0, none⟩ = some (.int .i32 x)) (hrb : rb < w.heap.size) :
    Calls Tryz.prog 71 #[.agg #[.int .i32 r.1, .int .i32 r.2], .pointer (some ⟨rb, 0, none⟩)] w fun e w' => e = .returned (.bool (inB x r)) ∧ Below w.heap.size w w' := by
  have hc1 : ∀ o, (w.alloc o).cell? ⟨rb, 0, none⟩ = some (.int .i32 x) := fun o => (World.cell?_alloc_lt w o _ hrb).trans hc
  unfold inB
  by_cases h1 : r.1 ≤ x
  · by_cases h2 : x ≤ r.2
    · go_enter Tryz.func71, Tryz.ntmps71
      go_wp2
      go_ret
      exact ⟨by simp [h1, h2], (Below.refl _ _).alloc (Nat.le_refl _) _⟩
    · go_enter Tryz.func71, Tryz.ntmps71
      go_wp2
      go_ret
      exact ⟨by simp [h2], (Below.refl _ _).alloc (Nat.le_refl _) _⟩
  · go_enter Tryz.func71, Tryz.ntmps71
    go_wp2
    go_ret
    exact ⟨ret_bool (by rw [show decide (r.1 ≤ x) = false from decide_eq_false (by omega)]; rfl), (Below.refl _ _).alloc (Nat.le_refl _) _⟩
theorem class1_pred (x : Int) (rb : Nat) (w : World) (hc : w.cell? ⟨rb, 0, none⟩ = some (.int .i32 x)) (hrb : rb < w.heap.size) : PredW 71 #[.pointer (some ⟨rb, 0, none⟩)] (inB x) w :=
  fun wr r hb => class1_any r x rb wr ((hb.cell (p := ⟨rb, 0, none⟩) hrb).trans hc) (by have := hb.size; omega)
theorem class1_enters : ∀ args w, (callFunc 71 args).run Tryz.prog w = .ok (.enter 71 args) w := fun _ _ => by kernel_rfl
/-- the first place that is so, or -1 -/
def idxI {α : Type} (p : α → Bool) (l : List α) : Int := match l.findIdx? p with | some i => i | none => -1
theorem idxI_hit {α : Type} (p : α → Bool) (l : List α) (k : Nat) (hk : k < l.length) (h : p l[k] = true) (hn : ∀ j (hj : j < k), p (l[j]'(by omega)) = false) : idxI p l = k := by
  unfold idxI
  have : l.findIdx? p = some k := by
    rw [List.findIdx?_eq_some_iff_getElem]
    exact ⟨hk, h, fun j hj => by simp [hn j hj]⟩
  rw [this]
theorem idxI_miss {α : Type} (p : α → Bool) (l : List α) (hn : ∀ j (hj : j < l.length), p l[j] = false) : idxI p l = -1 := by
  unfold idxI
  have : l.findIdx? p = none := by
    rw [List.findIdx?_eq_none_iff]
    intro x hx
    obtain ⟨j, hj, rfl⟩ := List.getElem_of_mem hx
    exact hn j hj
  rw [this]
set_option maxHeartbeats 800000 in
theorem indexR_any (g : Nat) (cb : Array Value) (p : Rg → Bool) (eg : ∀ args w, (callFunc g args).run Tryz.prog w = .ok (.enter g args) w)
   (A : Option Addr) (c : Nat) (l : List Rg) (w : World) (hm : l.length ≤ 10000000) (hr : Reads w w.heap.size 2 A l.length (flat encR l)) (hp : PredW g cb p w) :
   Calls Tryz.prog 70 #[.slice A l.length c, .func (.func g) #[] cb] w fun e w' => e = .returned (.int .i64 (idxI p l)) ∧ Below w.heap.size w w' := by
  go_enter Tryz.func70, Tryz.ntmps70
  go_wp2
  go_loopw [5, 8] (fun _ i wr => ∃ k : Nat, k ≤ l.length ∧ i = .int .i64 k ∧ (∀ j (hj : j < l.length), j < k → p l[j] = false) ∧ Below w.heap.size w wr) (fun _ i _ => l.length - (intOf i).toNat)
  case atStart => exact ⟨0, Nat.zero_le _, rfl, fun j _ hj => absurd hj (by omega), Below.refl _ _⟩
  case round =>
    obtain ⟨k, hk, rfl, hno, hb⟩ := hrel
    have HN := hid hno
    clear hno
    by_cases hlt : k < l.length
    · obtain ⟨b, off, rfl, hbl, c0, c1⟩ := readsR hr hb k hlt
      generalize hq : l[k] = q at c0 c1
      have HQ := hid hq
      clear hq
      go_wp2_with fail
      refine (hp _ q hb).mono ?_
      rintro e w1 ⟨rfl, hb1⟩
      have hbw : Below w.heap.size w w1 := hb.trans (hb1.mono hb.size)
      cases hpq : p q with
      | false =>
        go_wp2
        go_roundw
        case rel =>
          refine ⟨k + 1, by omega, by go_num, ?_, hbw⟩
          intro j hj hjk
          by_cases e : j = k
          · subst e; rw [HQ.out]; exact hpq
          · exact HN.out j hj (by omega)
        case measure => simp [intOf]; omega
      | true =>
        have hfin : idxI p l = k := idxI_hit p l k hlt (by rw [HQ.out]; exact hpq) (fun j hj => HN.out j (by omega) hj)
        have HF := hid hfin
        clear hfin
        go_wp2
        go_ret
        exact ⟨ret_int HF.out.symm, hbw⟩
    · go_wp2
      go_ret
      exact ⟨ret_int (idxI_miss p l fun j hj => HN.out j hj (by omega)).symm, hb⟩
theorem indexR_enters : ∀ args w, (callFunc 70 args).run Tryz.prog w = .ok (.enter 70 args) w := fun _ _ => by kernel_rfl
set_option maxHeartbeats 400000 in
theorem class_any (A : Option Addr) (c : Nat) (l : List Rg) (x : Int) (w : World) (hm : l.length ≤ 10000000) (hr : Reads w w.heap.size 2 A l.length (flat encR l)) :
   Calls Tryz.prog 48 #[.slice A l.length c, .int .i32 x] w fun e w' => e = .returned (.int .i64 (idxI (inB x) l)) ∧ Below w.heap.size w w' := by
  go_enter Tryz.func48, Tryz.ntmps48
  have hb0 : Below w.heap.size w (w.alloc (.cells #[.int .i32 x] 21)) := (Below.refl _ _).alloc (Nat.le_refl _) _
  go_wp2_with (go_at_call 70; refine (indexR_any 71 _ (inB x) class1_enters A c l _ hm (hr.next hb0) (class1_pred x w.heap.size _ (by simp) (by simp))).mono ?_; rintro e w' ⟨rfl, hb1⟩)
  go_ret
  exact ⟨rfl, hb0.trans (hb1.mono (by simp))⟩
def hasB (l : List Rg) (x : Int) : Bool := decide (0 ≤ idxI (inB x) l)
theorem hasB_iff (l : List Rg) (x : Int) : hasB l x = l.any (inB x) := by
  unfold hasB idxI
  cases h : l.findIdx? (inB x) with
  | none =>
    rw [List.findIdx?_eq_none_iff] at h
    symm
    simpa using h
  | some i =>
    rw [List.findIdx?_eq_some_iff_getElem] at h
    obtain ⟨h1, h2, _⟩ := h
    simp only [Int.natCast_nonneg, decide_true]
    exact (List.any_eq_true.2 ⟨_, List.getElem_mem h1, h2⟩).symm
set_option maxHeartbeats 400000 in
theorem has_any (A : Option Addr) (c : Nat) (l : List Rg) (x : Int) (w : World) (hm : l.length ≤ 10000000) (hr : Reads w w.heap.size 2 A l.length (flat encR l)) :
   Calls Tryz.prog 31 #[.slice A l.length c, .int .i32 x] w fun e w' => e = .returned (.bool (hasB l x)) ∧ Below w.heap.size w w' := by
  unfold hasB
  go_enter Tryz.func31, Tryz.ntmps31
  go_wp2_with (go_at_call 48; refine (class_any A c l x _ hm hr).mono ?_; rintro e w' ⟨rfl, hb1⟩)
  go_ret
  exact ⟨rfl, hb1⟩
end Go.Proofs.YtoclbcfgfaialaaGreatDoor
