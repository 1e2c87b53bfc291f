/-
  slices.Index, Contains, IndexFunc, ContainsFunc at int and at []int: the walks.
-/
import Derived.Test.YtoclbcfgfaialaaGreatDoorLL
namespace Go.Proofs.YtoclbcfgfaialaaGreatDoor
open Go.RowKit
set_option maxRecDepth 100000
theorem readsZ {w w' : World} {B : Nat} {A : Option Addr} {l : List Int} (hr : Reads w B 1 A l.length (l.map (Value.int .i64))) (hb : Below B w w') (k : Nat) (hk : k < l.length) :
    ∃ b off, A = some ⟨b, off, none⟩ ∧ b < B ∧ w'.cell? ⟨b, off + k, none⟩ = some (.int .i64 l[k]) := by
  obtain ⟨b, off, rfl, hbl, hcell⟩ := hr.2 (by omega)
  exact ⟨b, off, rfl, hbl, (hb.cell (p := ⟨b, off + k, none⟩) hbl).trans (hcell k _ (by simp [List.getElem?_eq_getElem hk]))⟩
theorem idxI_any' {α : Type} (p : α → Bool) (l : List α) : decide (0 ≤ idxI p l) = l.any p := by
  unfold idxI
  cases h : l.findIdx? p with
  | none =>
    have := List.findIdx?_eq_none_iff.1 h
    have : l.any p = false := by simpa using this
    rw [this]; decide
  | some i =>
    obtain ⟨h1, h2, _⟩ := List.findIdx?_eq_some_iff_getElem.1 h
    have : l.any p = true := List.any_eq_true.2 ⟨_, List.getElem_mem h1, h2⟩
    rw [this]; simp
set_option maxHeartbeats 800000 in
theorem idxZ_any (A : Option Addr) (c : Nat) (l : List Int) (x : Int) (w : World) (hm : l.length ≤ 1000000000000) (hr : Reads w w.heap.size 1 A l.length (l.map (Value.int .i64))) :
    Calls Tryz.prog 67 #[.slice A l.length c, .int .i64 x] w fun e w' => e = .returned (.int .i64 (idxI (x == ·) l)) ∧ w = w' := by
  go_enter Tryz.func67, Tryz.ntmps67
  go_wp2
  go_loop [5, 8] (fun _ i => ∃ k : Nat, k ≤ l.length ∧ i = .int .i64 k ∧ Hid (∀ j (hj : j < l.length), j < k → (x == l[j]) = false)) (fun _ i => l.length - (intOf i).toNat)
  case atStart => exact ⟨0, Nat.zero_le _, rfl, fun j _ hj => absurd hj (by omega)⟩
  case round =>
    obtain ⟨k, hk, rfl, HN⟩ := hrel
    by_cases hlt : k < l.length
    · obtain ⟨b, off, rfl, hbl, c0⟩ := readsZ hr (Below.refl _ _) k hlt
      have HQ : Hid (∀ v, (x == l[k]) = v → (x == (l[k]'hlt)) = v) := fun v h => h
      generalize hy : l[k] = y at c0
      have HX := hid hy
      clear hy HQ
      by_cases e : x = y
      · have e1 : (x == y) = true := by simp [e]
        have hfin : idxI (x == ·) l = k := idxI_hit _ l k hlt (by rw [HX.out]; exact e1) (fun j hj => HN.out j (by omega) hj)
        have HF := hid hfin
        clear hfin e
        go_wp2
        go_ret
        exact ⟨ret_int HF.out.symm, rfl⟩
      · have e1 : (x == y) = false := by simp [e]
        have E1 := hid e1
        go_wp2
        go_round
        case rel =>
          refine ⟨k + 1, by omega, by go_num, ?_⟩
          intro j hj hjk
          by_cases e : j = k
          · subst e; rw [HX.out]; exact E1.out
          · exact HN.out j hj (by omega)
        case measure => simp [intOf]; omega
    · go_wp2
      go_ret
      exact ⟨ret_int (idxI_miss _ l fun j hj => HN.out j hj (by omega)).symm, rfl⟩
theorem containsZ_any (A : Option Addr) (c : Nat) (l : List Int) (x : Int) (w : World) (hm : l.length ≤ 1000000000000) (hr : Reads w w.heap.size 1 A l.length (l.map (Value.int .i64))) :
    Calls Tryz.prog 42 #[.slice A l.length c, .int .i64 x] w fun e w' => e = .returned (.bool (l.any (x == ·))) ∧ w = w' := by
  rw [← idxI_any']
  go_enter Tryz.func42, Tryz.ntmps42
  go_wp2_with (go_at_call 67; refine (idxZ_any A c l x _ hm hr).mono ?_; rintro e w' ⟨rfl, rfl⟩)
  go_ret
  exact ⟨rfl, rfl⟩
/-- what is asked of a predicate on numbers -/
def PredZ (g : Nat) (cb : Array Value) (q : Int → Bool) (l : List Int) (w : World) : Prop :=
  ∀ (wr : World) (x : Int), x ∈ l → Below w.heap.size w wr → Calls Tryz.prog g (#[.int .i64 x] ++ cb) wr fun e w' => e = .returned (.bool (q x)) ∧ Below wr.heap.size wr w'
set_option maxHeartbeats 800000 in
theorem indexZ_any (g : Nat) (cb : Array Value) (q : Int → Bool) (eg : ∀ args w, (callFunc g args).run Tryz.prog w = .ok (.enter g args) w)
   (A : Option Addr) (c : Nat) (l : List Int) (w : World) (hm : l.length ≤ 1000000000) (hr : Reads w w.heap.size 1 A l.length (l.map (Value.int .i64))) (hp : PredZ g cb q l w) :
   Calls Tryz.prog 68 #[.slice A l.length c, .func (.func g) #[] cb] w fun e w' => e = .returned (.int .i64 (idxI q l)) ∧ Below w.heap.size w w' := by
  go_enter Tryz.func68, Tryz.ntmps68
  go_wp2
  go_loopw [5, 8] (fun _ i wr => ∃ k : Nat, k ≤ l.length ∧ i = .int .i64 k ∧ Hid (∀ j (hj : j < l.length), j < k → q l[j] = false) ∧ Below w.heap.size w wr) (fun _ i _ => l.length - (intOf i).toNat)
  case atStart => exact ⟨0, Nat.zero_le _, rfl, fun j _ hj => absurd hj (by omega), Below.refl _ _⟩
  case round =>
    obtain ⟨k, hk, rfl, HN, hb⟩ := hrel
    by_cases hlt : k < l.length
    · obtain ⟨b, off, rfl, hbl, c0⟩ := readsZ hr hb k hlt
      have hmem := List.getElem_mem hlt
      generalize hx : l[k] = x at c0 hmem
      have HX := hid hx
      clear hx
      go_wp2_with fail
      refine (hp _ x hmem hb).mono ?_
      rintro e w1 ⟨rfl, hb1⟩
      have hbw : Below w.heap.size w w1 := hb.trans (hb1.mono hb.size)
      cases hpq : q x with
      | false =>
        go_wp2
        go_roundw
        case rel =>
          refine ⟨k + 1, by omega, by go_num, ?_, hbw⟩
          intro j hj hjk
          by_cases e : j = k
          · subst e; rw [HX.out]; exact hpq
          · exact HN.out j hj (by omega)
        case measure => simp [intOf]; omega
      | true =>
        have hfin : idxI q l = k := idxI_hit q l k hlt (by rw [HX.out]; exact hpq) (fun j hj => HN.out j (by omega) hj)
        have HF := hid hfin
        clear hfin
        go_wp2
        go_ret
        exact ⟨ret_int HF.out.symm, hbw⟩
    · go_wp2
      go_ret
      exact ⟨ret_int (idxI_miss q l fun j hj => HN.out j hj (by omega)).symm, hb⟩
theorem containsZF_any (g : Nat) (cb : Array Value) (q : Int → Bool) (eg : ∀ args w, (callFunc g args).run Tryz.prog w = .ok (.enter g args) w)
   (A : Option Addr) (c : Nat) (l : List Int) (w : World) (hm : l.length ≤ 1000000000) (hr : Reads w w.heap.size 1 A l.length (l.map (Value.int .i64))) (hp : PredZ g cb q l w) :
   Calls Tryz.prog 43 #[.slice A l.length c, .func (.func g) #[] cb] w fun e w' => e = .returned (.bool (l.any q)) ∧ Below w.heap.size w w' := by
  rw [← idxI_any']
  go_enter Tryz.func43, Tryz.ntmps43
  go_wp2_with (go_at_call 68; refine (indexZ_any g cb q eg A c l _ hm hr hp).mono ?_; rintro e w' ⟨rfl, hb1⟩)
  go_ret
  exact ⟨rfl, hb1⟩
/-- a slice of slices of numbers, readable, below block B -/
def RR (w : World) (B : Nat) (A : Option Addr) (ls : List (List Int)) : Prop :=
  ∃ vs : List Value, Reads w B 1 A ls.length vs ∧ ∀ i (h : i < ls.length), ∃ Ai ci, vs[i]? = some (.slice Ai ls[i].length ci) ∧ Reads w B 1 Ai ls[i].length (ls[i].map (Value.int .i64))
theorem RR.below {w w' : World} {B : Nat} {A : Option Addr} {ls : List (List Int)} (h : RR w B A ls) (hb : Below B w w') : RR w' B A ls := by
  obtain ⟨vs, h1, h2⟩ := h
  refine ⟨vs, h1.below hb, fun i hi => ?_⟩
  obtain ⟨Ai, ci, e, r⟩ := h2 i hi
  exact ⟨Ai, ci, e, r.below hb⟩
theorem RR.more {w : World} {B B' : Nat} {A : Option Addr} {ls : List (List Int)} (h : RR w B A ls) (hB : B ≤ B') : RR w B' A ls := by
  obtain ⟨vs, h1, h2⟩ := h
  refine ⟨vs, h1.more hB, fun i hi => ?_⟩
  obtain ⟨Ai, ci, e, r⟩ := h2 i hi
  exact ⟨Ai, ci, e, r.more hB⟩
theorem RR.next {w w' : World} {A : Option Addr} {ls : List (List Int)} (h : RR w w.heap.size A ls) (hb : Below w.heap.size w w') : RR w' w'.heap.size A ls := (h.below hb).more hb.size
theorem RR.at {w : World} {B : Nat} {A : Option Addr} {ls : List (List Int)} (h : RR w B A ls) (i : Nat) (hi : i < ls.length) :
    ∃ b off Ai ci, A = some ⟨b, off, none⟩ ∧ b < B ∧ w.cell? ⟨b, off + i, none⟩ = some (.slice Ai ls[i].length ci) ∧ Reads w B 1 Ai ls[i].length (ls[i].map (Value.int .i64)) := by
  obtain ⟨vs, h1, h2⟩ := h
  obtain ⟨Ai, ci, e, r⟩ := h2 i hi
  obtain ⟨b, off, hA, hb, hc⟩ := h1.2 (by omega)
  exact ⟨b, off, Ai, ci, hA, hb, hc i _ e, r⟩
/-- what is asked of a predicate on rows -/
def PredRow (g : Nat) (cb : Array Value) (q : List Int → Bool) (ls : List (List Int)) (w : World) : Prop :=
  ∀ (wr : World) (x : List Int) (A : Option Addr) (c : Nat), x ∈ ls → Below w.heap.size w wr → Reads wr wr.heap.size 1 A x.length (x.map (Value.int .i64)) → Calls Tryz.prog g (#[.slice A x.length c] ++ cb) wr fun e w' => e = .returned (.bool (q x)) ∧ Below wr.heap.size wr w'
set_option maxHeartbeats 800000 in
theorem indexRow_any (g : Nat) (cb : Array Value) (q : List Int → Bool) (eg : ∀ args w, (callFunc g args).run Tryz.prog w = .ok (.enter g args) w)
   (A : Option Addr) (c : Nat) (l : List (List Int)) (w : World) (hm : l.length ≤ 1000000000) (hr : RR w w.heap.size A l) (hp : PredRow g cb q l w) :
   Calls Tryz.prog 69 #[.slice A l.length c, .func (.func g) #[] cb] w fun e w' => e = .returned (.int .i64 (idxI q l)) ∧ Below w.heap.size w w' := by
  go_enter Tryz.func69, Tryz.ntmps69
  go_wp2
  go_loopw [5, 8] (fun _ i wr => ∃ k : Nat, k ≤ l.length ∧ i = .int .i64 k ∧ Hid (∀ j (hj : j < l.length), j < k → q l[j] = false) ∧ Below w.heap.size w wr) (fun _ i _ => l.length - (intOf i).toNat)
  case atStart => exact ⟨0, Nat.zero_le _, rfl, fun j _ hj => absurd hj (by omega), Below.refl _ _⟩
  case round =>
    obtain ⟨k, hk, rfl, HN, hb⟩ := hrel
    by_cases hlt : k < l.length
    · obtain ⟨b, off, Ai, ci, rfl, hbl, c0, rA⟩ := (hr.below hb).at k hlt
      have rA := rA.more hb.size
      have hmem := List.getElem_mem hlt
      generalize hx : l[k] = x at c0 hmem rA
      have HX := hid hx
      clear hx
      go_wp2_with fail
      refine (hp _ x Ai ci hmem hb rA).mono ?_
      rintro e w1 ⟨rfl, hb1⟩
      have hbw : Below w.heap.size w w1 := hb.trans (hb1.mono hb.size)
      cases hpq : q x with
      | false =>
        go_wp2
        go_roundw
        case rel =>
          refine ⟨k + 1, by omega, by go_num, ?_, hbw⟩
          intro j hj hjk
          by_cases e : j = k
          · subst e; rw [HX.out]; exact hpq
          · exact HN.out j hj (by omega)
        case measure => simp [intOf]; omega
      | true =>
        have hfin : idxI q l = k := idxI_hit q l k hlt (by rw [HX.out]; exact hpq) (fun j hj => HN.out j (by omega) hj)
        have HF := hid hfin
        clear hfin
        go_wp2
        go_ret
        exact ⟨ret_int HF.out.symm, hbw⟩
    · go_wp2
      go_ret
      exact ⟨ret_int (idxI_miss q l fun j hj => HN.out j hj (by omega)).symm, hb⟩
theorem containsRow_any (g : Nat) (cb : Array Value) (q : List Int → Bool) (eg : ∀ args w, (callFunc g args).run Tryz.prog w = .ok (.enter g args) w)
   (A : Option Addr) (c : Nat) (l : List (List Int)) (w : World) (hm : l.length ≤ 1000000000) (hr : RR w w.heap.size A l) (hp : PredRow g cb q l w) :
   Calls Tryz.prog 45 #[.slice A l.length c, .func (.func g) #[] cb] w fun e w' => e = .returned (.bool (l.any q)) ∧ Below w.heap.size w w' := by
  rw [← idxI_any']
  go_enter Tryz.func45, Tryz.ntmps45
  go_wp2_with (go_at_call 69; refine (indexRow_any g cb q eg A c l _ hm hr hp).mono ?_; rintro e w' ⟨rfl, hb1⟩)
  go_ret
  exact ⟨rfl, hb1⟩
end Go.Proofs.YtoclbcfgfaialaaGreatDoor
