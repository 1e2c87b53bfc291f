/-
  slices.Index, Contains, IndexFunc, ContainsFunc at int and at []int: the walks.
-/
import Derived.Test.YtoclbcfgfaialaaGreatDoorLL
import Derived.OneCell
namespace Go.Proofs.YtoclbcfgfaialaaGreatDoor
open Go.RowKit
set_option maxRecDepth 100000
theorem readsZ {w w' : World} {B : Nat} {A : Option Addr} {l : List Int} (hr : Reads w B 1 A l.length (l.map (Value.int .i64))) (hb : Below B w w') (k : Nat) (hk : k < l.length) :
    ∃ b off, A = some ⟨b, off, none⟩ ∧ b < B ∧ w'.cell? ⟨b, off + k, none⟩ = some (.int .i64 l[k]) := by
  obtain ⟨b, off, rfl, hbl, hcell⟩ := hr.2 (by omega)
  exact ⟨b, off, rfl, hbl, (hb.cell (p := ⟨b, off + k, none⟩) hbl).trans (hcell k _ (by simp [List.getElem?_eq_getElem hk]))⟩
theorem idxI_any' {α : Type} (p : α → Bool) (l : List α) : decide (0 ≤ idxI p l) = l.any p := by
  unfold idxI
  cases h : l.findIdx? p with
  | none =>
    have := List.findIdx?_eq_none_iff.1 h
    have : l.any p = false := by simpa using this
    rw [this]; decide
  | some i =>
    obtain ⟨h1, h2, _⟩ := List.findIdx?_eq_some_iff_getElem.1 h
    have : l.any p = true := List.any_eq_true.2 ⟨_, List.getElem_mem h1, h2⟩
    rw [this]; simp
set_option maxHeartbeats 800000 in
theorem idxZ_any (A : Option Addr) (c : Nat) (l : List Int) (x : Int) (w : World) (hm : l.length ≤ 1000000000000) (hr : Reads w w.heap.size 1 A l.length (l.map (Value.int .i64))) :
    Calls Tryz.prog 67 #[.slice A l.length c, .int .i64 x] w fun e w' => e = .returned (.int .i64 (idxI (x == ·) l)) ∧ w = w' := by
  go_enter Tryz.func67, Tryz.ntmps67
  go_wp2
  go_loop [5, 8] (fun _ i => ∃ k : Nat, k ≤ l.length ∧ i = .int .i64 k ∧ Hid (∀ j (hj : j < l.length), j < k → (x == l[j]) = false)) (fun _ i => l.length - (intOf i).toNat)
  case atStart => exact ⟨0, Nat.zero_le _, rfl, fun j _ hj => absurd hj (by omega)⟩
  case round =>
    obtain ⟨k, hk, rfl, HN⟩ := hrel
    by_cases hlt : k < l.length
    · obtain ⟨b, off, rfl, hbl, c0⟩ := readsZ hr (Below.refl _ _) k hlt
      have HQ : Hid (∀ v, (x == l[k]) = v → (x == (l[k]'hlt)) = v) := fun v h => h
      generalize hy : l[k] = y at c0
      have HX := hid hy
      clear hy HQ
      by_cases e : x = y
      · have e1 : (x == y) = true := by simp [e]
        have hfin : idxI (x == ·) l = k := idxI_hit _ l k hlt (by rw [HX.out]; exact e1) (fun j hj => HN.out j (by omega) hj)
        have HF := hid hfin
        clear hfin e
        go_wp2
        go_ret
        exact ⟨ret_int HF.out.symm, rfl⟩
      · have e1 : (x == y) = false := by simp [e]
        have E1 := hid e1
        go_wp2
        go_round
        case rel =>
          refine ⟨k + 1, by omega, by go_num, ?_⟩
          intro j hj hjk
          by_cases e : j = k
          · subst e; rw [HX.out]; exact E1.out
          · exact HN.out j hj (by omega)
        case measure => simp [intOf]; omega
    · go_wp2
      go_ret
      exact ⟨ret_int (idxI_miss _ l fun j hj => HN.out j hj (by omega)).symm, rfl⟩
theorem containsZ_any (A : Option Addr) (c : Nat) (l : List Int) (x : Int) (w : World) (hm : l.length ≤ 1000000000000) (hr : Reads w w.heap.size 1 A l.length (l.map (Value.int .i64))) :
    Calls Tryz.prog 42 #[.slice A l.length c, .int .i64 x] w fun e w' => e = .returned (.bool (l.any (x == ·))) ∧ w = w' := by
  rw [← idxI_any']
  go_enter Tryz.func42, Tryz.ntmps42
  go_wp2_with (go_at_call 67; refine (idxZ_any A c l x _ hm hr).mono ?_; rintro e w' ⟨rfl, rfl⟩)
  go_ret
  exact ⟨rfl, rfl⟩
/-- what is asked of a predicate on numbers -/
def PredZ (g : Nat) (cb : Array Value) (q : Int → Bool) (l : List Int) (w : World) : Prop :=
  ∀ (wr : World) (x : Int), x ∈ l → Below w.heap.size w wr → Calls Tryz.prog g (#[.int .i64 x] ++ cb) wr fun e w' => e = .returned (.bool (q x)) ∧ Below wr.heap.size wr w'
set_option maxHeartbeats 800000 in
theorem indexZ_any (g : Nat) (cb : Array Value) (q : Int → Bool) (eg : ∀ args w, (callFunc g args).run Tryz.prog w = .ok (.enter g args) w)
   (A : Option Addr) (c : Nat) (l : List Int) (w : World) (hm : l.length ≤ 1000000000) (hr : Reads w w.heap.size 1 A l.length (l.map (Value.int .i64))) (hp : PredZ g cb q l w) :
   Calls Tryz.prog 68 #[.slice A l.length c, .func (.func g) #[] cb] w fun e w' => e = .returned (.int .i64 (idxI q l)) ∧ Below w.heap.size w w' := by
  go_enter Tryz.func68, Tryz.ntmps68
  go_wp2
  go_loopw [5, 8] (fun _ i wr => ∃ k : Nat, k ≤ l.length ∧ i = .int .i64 k ∧ Hid (∀ j (hj : j < l.length), j < k → q l[j] = false) ∧ Below w.heap.size w wr) (fun _ i _ => l.length - (intOf i).toNat)
  case atStart => exact ⟨0, Nat.zero_le _, rfl, fun j _ hj => absurd hj (by omega), Below.refl _ _⟩
  case round =>
    obtain ⟨k, hk, rfl, HN, hb⟩ := hrel
    by_cases hlt : k < l.length
    · obtain ⟨b, off, rfl, hbl, c0⟩ := readsZ hr hb k hlt
      have hmem := List.getElem_mem hlt
      generalize hx : l[k] = x at c0 hmem
      have HX := hid hx
      clear hx
      go_wp2_with fail
      refine (hp _ x hmem hb).mono ?_
      rintro e w1 ⟨rfl, hb1⟩
      have hbw : Below w.heap.size w w1 := hb.trans (hb1.mono hb.size)
      cases hpq : q x with
      | false =>
        go_wp2
        go_roundw
        case rel =>
          refine ⟨k + 1, by omega, by go_num, ?_, hbw⟩
          intro j hj hjk
          by_cases e : j = k
          · subst e; rw [HX.out]; exact hpq
          · exact HN.out j hj (by omega)
        case measure => simp [intOf]; omega
      | true =>
        have hfin : idxI q l = k := idxI_hit q l k hlt (by rw [HX.out]; exact hpq) (fun j hj => HN.out j (by omega) hj)
        have HF := hid hfin
        clear hfin
        go_wp2
        go_ret
        exact ⟨ret_int HF.out.symm, hbw⟩
    · go_wp2
      go_ret
      exact ⟨ret_int (idxI_miss q l fun j hj => HN.out j hj (by omega)).symm, hb⟩
theorem containsZF_any (g : Nat) (cb : Array Value) (q : Int → Bool) (eg : ∀ args w, (callFunc g args).run Tryz.prog w = .ok (.enter g args) w)
   (A : Option Addr) (c : Nat) (l : List Int) (w : World) (hm : l.length ≤ 1000000000) (hr : Reads w w.heap.size 1 A l.length (l.map (Value.int .i64))) (hp : PredZ g cb q l w) :
   Calls Tryz.prog 43 #[.slice A l.length c, .func (.func g) #[] cb] w fun e w' => e = .returned (.bool (l.any q)) ∧ Below w.heap.size w w' := by
  rw [← idxI_any']
  go_enter Tryz.func43, Tryz.ntmps43
  go_wp2_with (go_at_call 68; refine (indexZ_any g cb q eg A c l _ hm hr hp).mono ?_; rintro e w' ⟨rfl, hb1⟩)
  go_ret
  exact ⟨rfl, hb1⟩
/-- a slice of slices of numbers, readable, below block B -/
def RR (w : World) (B : Nat) (A : Option Addr) (ls : List (List Int)) : Prop :=
  ∃ vs : List Value, Reads w B 1 A ls.length vs ∧ ∀ i (h : i < ls.length), ∃ Ai ci, vs[i]? = some (.slice Ai ls[i].length ci) ∧ Reads w B 1 Ai ls[i].length (ls[i].map (Value.int .i64))
theorem RR.below {w w' : World} {B : Nat} {A : Option Addr} {ls : List (List Int)} (h : RR w B A ls) (hb : Below B w w') : RR w' B A ls := by
  obtain ⟨vs, h1, h2⟩ := h
  refine ⟨vs, h1.below hb, fun i hi => ?_⟩
  obtain ⟨Ai, ci, e, r⟩ := h2 i hi
  exact ⟨Ai, ci, e, r.below hb⟩
theorem RR.more {w : World} {B B' : Nat} {A : Option Addr} {ls : List (List Int)} (h : RR w B A ls) (hB : B ≤ B') : RR w B' A ls := by
  obtain ⟨vs, h1, h2⟩ := h
  refine ⟨vs, h1.more hB, fun i hi => ?_⟩
  obtain ⟨Ai, ci, e, r⟩ := h2 i hi
  exact ⟨Ai, ci, e, r.more hB⟩
theorem RR.next {w w' : World} {A : Option Addr} {ls : List (List Int)} (h : RR w w.heap.size A ls) (hb : Below w.heap.size w w') : RR w' w'.heap.size A ls := (h.below hb).more hb.size
theorem RR.at {w : World} {B : Nat} {A : Option Addr} {ls : List (List Int)} (h : RR w B A ls) (i : Nat) (hi : i < ls.length) :
    ∃ b off Ai ci, A = some ⟨b, off, none⟩ ∧ b < B ∧ w.cell? ⟨b, off + i, none⟩ = some (.slice Ai ls[i].length ci) ∧ Reads w B 1 Ai ls[i].length (ls[i].map (Value.int .i64)) := by
  obtain ⟨vs, h1, h2⟩ := h
  obtain ⟨Ai, ci, e, r⟩ := h2 i hi
  obtain ⟨b, off, hA, hb, hc⟩ := h1.2 (by omega)
  exact ⟨b, off, Ai, ci, hA, hb, hc i _ e, r⟩
/-- what is asked of a predicate on rows -/
def PredRow (g : Nat) (cb : Array Value) (q : List Int → Bool) (ls : List (List Int)) (w : World) : Prop :=
  ∀ (wr : World) (x : List Int) (A : Option Addr) (c : Nat), x ∈ ls → Below w.heap.size w wr → Reads wr wr.heap.size 1 A x.length (x.map (Value.int .i64)) → Calls Tryz.prog g (#[.slice A x.length c] ++ cb) wr fun e w' => e = .returned (.bool (q x)) ∧ Below wr.heap.size wr w'
set_option maxHeartbeats 800000 in
theorem indexRow_any (g : Nat) (cb : Array Value) (q : List Int → Bool) (eg : ∀ args w, (callFunc g args).run Tryz.prog w = .ok (.enter g args) w)
   (A : Option Addr) (c : Nat) (l : List (List Int)) (w : World) (hm : l.length ≤ 1000000000) (hr : RR w w.heap.size A l) (hp : PredRow g cb q l w) :
   Calls Tryz.prog 69 #[.slice A l.length c, .func (.func g) #[] cb] w fun e w' => e = .returned (.int .i64 (idxI q l)) ∧ Below w.heap.size w w' := by
  go_enter Tryz.func69, Tryz.ntmps69
  go_wp2
  go_loopw [5, 8] (fun _ i wr => ∃ k : Nat, k ≤ l.length ∧ i = .int .i64 k ∧ Hid (∀ j (hj : j < l.length), j < k → q l[j] = false) ∧ Below w.heap.size w wr) (fun _ i _ => l.length - (intOf i).toNat)
  case atStart => exact ⟨0, Nat.zero_le _, rfl, fun j _ hj => absurd hj (by omega), Below.refl _ _⟩
  case round =>
    obtain ⟨k, hk, rfl, HN, hb⟩ := hrel
    by_cases hlt : k < l.length
    · obtain ⟨b, off, Ai, ci, rfl, hbl, c0, rA⟩ := (hr.below hb).at k hlt
      have rA := rA.more hb.size
      have hmem := List.getElem_mem hlt
      generalize hx : l[k] = x at c0 hmem rA
      have HX := hid hx
      clear hx
      go_wp2_with fail
      refine (hp _ x Ai ci hmem hb rA).mono ?_
      rintro e w1 ⟨rfl, hb1⟩
      have hbw : Below w.heap.size w w1 := hb.trans (hb1.mono hb.size)
      cases hpq : q x with
      | false =>
        go_wp2
        go_roundw
        case rel =>
          refine ⟨k + 1, by omega, by go_num, ?_, hbw⟩
          intro j hj hjk
          by_cases e : j = k
          · subst e; rw [HX.out]; exact hpq
          · exact HN.out j hj (by omega)
        case measure => simp [intOf]; omega
      | true =>
        have hfin : idxI q l = k := idxI_hit q l k hlt (by rw [HX.out]; exact hpq) (fun j hj => HN.out j (by omega) hj)
        have HF := hid hfin
        clear hfin
        go_wp2
        go_ret
        exact ⟨ret_int HF.out.symm, hbw⟩
    · go_wp2
      go_ret
      exact ⟨ret_int (idxI_miss q l fun j hj => HN.out j hj (by omega)).symm, hb⟩
theorem containsRow_any (g : Nat) (cb : Array Value) (q : List Int → Bool) (eg : ∀ args w, (callFunc g args).run Tryz.prog w = .ok (.enter g args) w)
   (A : Option Addr) (c : Nat) (l : List (List Int)) (w : World) (hm : l.length ≤ 1000000000) (hr : RR w w.heap.size A l) (hp : PredRow g cb q l w) :
   Calls Tryz.prog 45 #[.slice A l.length c, .func (.func g) #[] cb] w fun e w' => e = .returned (.bool (l.any q)) ∧ Below w.heap.size w w' := by
  rw [← idxI_any']
  go_enter Tryz.func45, Tryz.ntmps45
  go_wp2_with (go_at_call 69; refine (indexRow_any g cb q eg A c l _ hm hr hp).mono ?_; rintro e w' ⟨rfl, hb1⟩)
  go_ret
  exact ⟨rfl, hb1⟩
end Go.Proofs.YtoclbcfgfaialaaGreatDoor

/-
  Subsets: apart, and May, at tables that may be: the walks.
-/
namespace Go.Proofs.YtoclbcfgfaialaaGreatDoor
open Go.RowKit
set_option maxRecDepth 100000
/-- ranges that hold something each, and rise apart -/
def ApartL (l : List Rg) : Prop := (∀ r ∈ l, r.1 ≤ r.2) ∧ ∀ j (h : j + 1 < l.length), (l[j]'(by omega)).2 < (l[j + 1]).1
set_option maxHeartbeats 1600000 in
theorem apart_good (A : Option Addr) (c : Nat) (l : List Rg) (w : World) (hm : l.length ≤ 10000000) (ha : Hid (ApartL l)) (hr : Reads w w.heap.size 2 A l.length (flat encR l)) :
    Calls Tryz.prog 41 #[.slice A l.length c] w fun e w' => e = .returned (.bool true) ∧ Below w.heap.size w w' := by
  go_enter Tryz.func41, Tryz.ntmps41
  go_wp2_with fail
  go_loopw [7] (fun i wr => ∃ k : Nat, k ≤ l.length ∧ i = .int .i64 k ∧ Below w.heap.size w wr) (fun i _ => l.length - (intOf i).toNat)
  case atStart => exact ⟨0, Nat.zero_le _, rfl, Below.refl _ _⟩
  case round =>
    obtain ⟨k, hk, rfl, hb⟩ := hrel
    have HB := hid hb
    by_cases hlt : k < l.length
    · cases k with
      | zero =>
        obtain ⟨b, off, rfl, hbl, c0, c1⟩ := readsR hr hb 0 hlt
        have h0 := ha.out.1 _ (List.getElem_mem hlt)
        rw [Nat.zero_mul, Nat.add_zero] at c0 c1
        generalize l[0] = q at c0 c1 h0
        obtain ⟨q1, q2⟩ := q
        simp only at c0 c1 h0
        have h0' : decide (q2 < q1) = false := decide_eq_false (by omega)
        go_wp2_with fail
        go_quiet (fail)
        go_wp2
        go_roundw
        case rel => exact ⟨1, by omega, by simp, HB.out.trans (below_drewN ((below_new _ _).mono HB.out.size) _)⟩
        case measure => simp [intOf]; omega
      | succ j =>
        obtain ⟨b, off, rfl, hbl, c0, c1⟩ := readsR hr hb (j + 1) hlt
        obtain ⟨b', off', hA', _, d0, d1⟩ := readsR hr hb j (by omega)
        injection hA' with hA'
        injection hA' with hA1 hA2 _
        subst hA1 hA2
        have h0 := ha.out.1 _ (List.getElem_mem hlt)
        have h1 := ha.out.2 j hlt
        generalize l[j + 1] = q at c0 c1 h0 h1
        generalize l[j]'(by omega) = p at d0 d1 h1
        obtain ⟨q1, q2⟩ := q
        obtain ⟨p1, p2⟩ := p
        simp only at c0 c1 d0 d1 h0 h1
        have h0' : decide (q2 < q1) = false := decide_eq_false (by omega)
        have h1' : decide (q1 ≤ p2) = false := decide_eq_false (by omega)
        obtain ⟨k, hk1⟩ : ∃ k, Hid (k = j + 1) := ⟨_, rfl⟩
        rw [← hk1.out] at c0 c1 hlt hk ⊢
        have e0 : off + j * 2 + 1 = off + (k - 1) * 2 + 1 := by rw [hk1.out]; rfl
        rw [e0] at d1
        clear e0 d0
        have hbl' : b < wr.heap.size := Nat.lt_of_lt_of_le hbl hb.size
        have d1' : ∀ o, (wr.alloc o).cell? ⟨b, off + (k - 1) * 2 + 1, none⟩ = some (.int .i32 p2) := fun o => (World.cell?_alloc_lt wr o _ hbl').trans d1
        clear d1 hbl'
        have hk0 : 0 < k := by have := hk1.out; omega
        clear hk1
        have e1 : IntKind.i64.wrap ((k : Int) - 1) = (k : Int) - 1 := w64 (by omega) (by omega)
        have e2 : ((k : Int) - 1).toNat = k - 1 := by omega
        have e3 : (k : Int) - 1 < (l.length : Int) := by omega
        have e4 : (1 : Int) ≤ (k : Int) := by omega
        have e5 : decide (0 < k) = true := decide_eq_true hk0
        go_wp2_with fail
        go_quiet (fail)
        go_wp2
        go_roundw
        case rel => exact ⟨k + 1, by omega, by go_num, HB.out.trans (below_drewN ((below_new _ _).mono HB.out.size) _)⟩
        case measure => simp [intOf]; omega
    · go_wp2
      go_ret
      exact ⟨rfl, HB.out⟩
theorem may_1 (x : Int) (w : World) (hx : -1 ≤ x) : Calls Tryz.prog 44 #[.int .i64 x] w fun e w' => e = .returned (.bool false) ∧ w = w' := by
  have h : decide (x < -1) = false := decide_eq_false (by omega)
  go_enter Tryz.func44, Tryz.ntmps44
  go_wp2
  go_ret
  exact ⟨rfl, rfl⟩
theorem may_21 (x : Int) (tb m nc : Nat) (NA : Option Addr) (w : World) (hx : -1 ≤ x) (hm : x < m) (hc : w.cell? ⟨tb, 2, none⟩ = some (.slice NA m nc)) :
    Calls Tryz.prog 47 #[.int .i64 x, .pointer (some ⟨tb, 0, none⟩)] w fun e w' => e = .returned (.bool false) ∧ w = w' := by
  have h1 : ¬ x < -1 := by omega
  have h2 : ¬ (m : Int) ≤ x := by omega
  go_enter Tryz.func47, Tryz.ntmps47
  go_wp2
  go_ret
  exact ⟨rfl, rfl⟩
theorem may_enters1 : ∀ args w, (callFunc 44 args).run Tryz.prog w = .ok (.enter 44 args) w := fun _ _ => by kernel_rfl
theorem may_enters2 : ∀ args w, (callFunc 46 args).run Tryz.prog w = .ok (.enter 46 args) w := fun _ _ => by kernel_rfl
theorem may_enters21 : ∀ args w, (callFunc 47 args).run Tryz.prog w = .ok (.enter 47 args) w := fun _ _ => by kernel_rfl
theorem may_2 (row : List Int) (A NA : Option Addr) (c n tb nb m nc : Nat) (w : World) (hn : Hid (row.length = n)) (hnn : n ≤ 1000000000) (hx : Hid (∀ x ∈ row, -1 ≤ x ∧ x < (m : Int))) (hr : Reads w w.heap.size 1 A row.length (row.map (Value.int .i64)))
    (hc : w.cell? ⟨tb, 2, none⟩ = some (.slice NA m nc)) (hcol : w.cell? ⟨nb, 0, none⟩ = some (.int .i64 n)) (htb : tb < w.heap.size) :
    Calls Tryz.prog 46 #[.slice A row.length c, .pointer (some ⟨nb, 0, none⟩), .pointer (some ⟨tb, 0, none⟩)] w fun e w' => e = .returned (.bool false) ∧ Below w.heap.size w w' := by
  have hp : PredZ 47 #[.pointer (some ⟨tb, 0, none⟩)] (fun _ => false) row w := fun wr x hm' hb =>
    (may_21 x tb m nc NA wr (hx.out x hm').1 (hx.out x hm').2 ((hb.cell (p := ⟨tb, 2, none⟩) htb).trans hc)).mono fun e w' ⟨h1, h2⟩ => ⟨h1, by rw [← h2]; exact Below.refl _ _⟩
  have HP := hid hp
  clear hp
  have hr' := hr
  have hl := hn.out
  have hany : row.any (fun _ => false) = false := by simp
  have HA := hid hany
  clear hany hr
  rw [hl]
  rw [hl] at hr'
  clear hl
  have H := fun w0 h0 => containsZF_any 47 #[.pointer (some ⟨tb, 0, none⟩)] (fun _ => false) may_enters21 A c row w0 (by rw [hn.out]; exact hnn) h0
  rw [HA.out] at H
  rw [hn.out] at H
  have HH := hid H
  clear H
  go_enter Tryz.func46, Tryz.ntmps46
  go_wp2_with fail
  refine (HH.out _ hr' HP.out).mono ?_
  rintro e w1 ⟨rfl, hb1⟩
  go_wp2
  go_ret
  exact ⟨rfl, hb1⟩
def iotaI (n : Nat) : List Int := (List.range n).map fun i : Nat => (i : Int)
theorem iotaI_len (n : Nat) : (iotaI n).length = n := by simp [iotaI]
theorem iotaI_get (n k : Nat) (h : k < (iotaI n).length) : (iotaI n)[k] = k := by simp [iotaI]
theorem iotaI_has (n k : Nat) (h : k < n) : (iotaI n).any ((k : Int) == ·) = true := by
  rw [List.any_eq_true]
  exact ⟨k, List.mem_map.2 ⟨k, List.mem_range.2 h, rfl⟩, by simp⟩
/-- a table, readable below block B; each range is its own class -/
structure TabR (w : World) (B : Nat) (RA CA NA EA : Option Addr) (rs : List Rg) (rows : List (List Int)) (ends : List Int) : Prop where
  rng : Reads w B 2 RA rs.length (flat encR rs)
  cls : Reads w B 1 CA rs.length ((iotaI rs.length).map (Value.int .i64))
  nxt : RR w B NA rows
  ends : Reads w B 1 EA ends.length (ends.map (Value.int .i64))
theorem TabR.below {w w' : World} {B : Nat} {RA CA NA EA : Option Addr} {rs : List Rg} {rows : List (List Int)} {ends : List Int} (h : TabR w B RA CA NA EA rs rows ends) (hb : Below B w w') : TabR w' B RA CA NA EA rs rows ends :=
  ⟨h.rng.below hb, h.cls.below hb, h.nxt.below hb, h.ends.below hb⟩
theorem TabR.more {w : World} {B B' : Nat} {RA CA NA EA : Option Addr} {rs : List Rg} {rows : List (List Int)} {ends : List Int} (h : TabR w B RA CA NA EA rs rows ends) (hB : B ≤ B') : TabR w B' RA CA NA EA rs rows ends :=
  ⟨h.rng.more hB, h.cls.more hB, h.nxt.more hB, h.ends.more hB⟩
theorem TabR.next {w w' : World} {RA CA NA EA : Option Addr} {rs : List Rg} {rows : List (List Int)} {ends : List Int} (h : TabR w w.heap.size RA CA NA EA rs rows ends) (hb : Below w.heap.size w w') : TabR w' w'.heap.size RA CA NA EA rs rows ends := (h.below hb).more hb.size
/-- a table that may be -/
structure GoodT (rs : List Rg) (rows : List (List Int)) (ends : List Int) : Prop where
  few : rs.length ≤ 10000000
  apart : ApartL rs
  one : 1 ≤ rows.length
  few2 : rows.length ≤ 1000000
  el : ends.length = rows.length
  ends : ∀ x ∈ ends, -1 ≤ x
  row : ∀ r ∈ rows, r.length = rs.length
  cell : ∀ r ∈ rows, ∀ x ∈ r, -1 ≤ x ∧ x < (rows.length : Int)
theorem readsC {w w' : World} {B n : Nat} {A : Option Addr} (hr : Reads w B 1 A n ((iotaI n).map (Value.int .i64))) (hb : Below B w w') (k : Nat) (hk : k < n) :
    ∃ b off, A = some ⟨b, off, none⟩ ∧ b < B ∧ w'.cell? ⟨b, off + k, none⟩ = some (.int .i64 k) := by
  have hl := iotaI_len n
  obtain ⟨b, off, e, hb', c⟩ := readsZ (l := iotaI n) (by rw [hl]; exact hr) hb k (by rw [hl]; exact hk)
  exact ⟨b, off, e, hb', by rw [c, iotaI_get]⟩
set_option maxHeartbeats 3200000 in
theorem may_good (RA CA NA EA : Option Addr) (rc cc nc ec n m : Nat) (rs : List Rg) (rows : List (List Int)) (ends : List Int) (w : World) (hn : Hid (rs.length = n)) (hm : Hid (rows.length = m)) (g : Hid (GoodT rs rows ends)) (h : TabR w w.heap.size RA CA NA EA rs rows ends) :
    Calls Tryz.prog 18 #[.agg #[.slice RA n rc, .slice CA n cc, .slice NA m nc, .slice EA m ec]] w fun e w' => e = .returned (.bool true) ∧ Below w.heap.size w w' := by
  have hn1 : n ≤ 10000000 := by rw [← hn.out]; exact g.out.few
  have hm1 : 1 ≤ m := by rw [← hm.out]; exact g.out.one
  have hm2 : m ≤ 1000000 := by rw [← hm.out]; exact g.out.few2
  obtain ⟨wx, hwx⟩ : ∃ wx, Hid (w.alloc (.cells #[.slice RA n rc, .slice CA n cc, .slice NA m nc, .slice EA m ec] 43) = wx) := ⟨_, rfl⟩
  have hb : Below w.heap.size w wx := by rw [← hwx.out]; exact below_new _ _
  have hs : w.heap.size < wx.heap.size := by rw [← hwx.out]; simp
  have c0 : wx.cell? ⟨w.heap.size, 0, none⟩ = some (.slice RA n rc) := by rw [← hwx.out, cell_new]; rfl
  have c1 : wx.cell? ⟨w.heap.size, 1, none⟩ = some (.slice CA n cc) := by rw [← hwx.out, cell_new]; rfl
  have c2 : wx.cell? ⟨w.heap.size, 2, none⟩ = some (.slice NA m nc) := by rw [← hwx.out, cell_new]; rfl
  have c3 : wx.cell? ⟨w.heap.size, 3, none⟩ = some (.slice EA m ec) := by rw [← hwx.out, cell_new]; rfl
  have h := h.next hb
  have hAp := fun w0 (h0 : Reads w0 w0.heap.size 2 RA rs.length (flat encR rs)) => apart_good RA rc rs w0 g.out.few g.out.apart h0
  rw [hn.out] at hAp
  have HAp := hid hAp
  clear hAp
  have hrng := h.rng
  rw [hn.out] at hrng
  have ⟨_, hcls, hnxt, hends⟩ := h
  rw [hn.out] at hcls
  rw [g.out.el, hm.out] at hends
  go_enter Tryz.func18, Tryz.ntmps18
  go_wp2_with fail
  rw [hwx.out]
  clear hwx
  refine (HAp.out _ hrng).mono ?_
  rintro e w1 ⟨rfl, hb1⟩
  clear HAp hrng h
  have hs1 := Nat.lt_of_lt_of_le hs hb1.size
  have hbw : Below w.heap.size w w1 := hb.trans (hb1.mono hb.size)
  have d0 := (hb1.cell (p := ⟨w.heap.size, 0, none⟩) hs).trans c0
  have d1 := (hb1.cell (p := ⟨w.heap.size, 1, none⟩) hs).trans c1
  have d2 := (hb1.cell (p := ⟨w.heap.size, 2, none⟩) hs).trans c2
  have d3 := (hb1.cell (p := ⟨w.heap.size, 3, none⟩) hs).trans c3
  have hcls := hcls.next hb1
  have hnxt := hnxt.next hb1
  have hends := hends.next hb1
  clear c0 c1 c2 c3 hb hb1 hs
  obtain ⟨w2, hw2⟩ : ∃ w2, Hid (w1.alloc (.cells #[.int .i64 0] 3) = w2) := ⟨_, rfl⟩
  have q0 : w2.heap[w1.heap.size]? = some (.cells #[.int .i64 0] 3 (0, 0)) := by rw [← hw2.out]; exact heap_alloc_new _ _
  have hb2 : Below w1.heap.size w1 w2 := by rw [← hw2.out]; exact below_new _ _
  have h0n : ((0 : Nat) : Int) = 0 := rfl
  have hnb1 : ¬ (m : Int) < 1 := by omega
  go_wp2_with fail
  rw [hw2.out]
  clear hw2
  have hs2 : w1.heap.size < w2.heap.size := lt_of_block q0
  generalize hnb : w1.heap.size = nb at q0 hs2 hb2 hs1 ⊢
  have HNB := hid hnb
  clear hnb
  go_loopw [5, 38] (fun _ i wr => ∃ k : Nat, k ≤ n ∧ i = .int .i64 k ∧ wr.heap[nb]? = some (.cells #[.int .i64 k] 3 (0, 0)) ∧ Below nb w1 wr) (fun _ i _ => n - (intOf i).toNat)
  case atStart => exact ⟨0, Nat.zero_le _, rfl, q0, hb2⟩
  case round =>
    obtain ⟨k, hk, rfl, hq, hb⟩ := hrel
    have hcol := cell_of_one hq
    have hfr := free_of_one hq
    have hB := HNB.out
    have e1 : wr.cell? ⟨w.heap.size, 1, none⟩ = some (.slice CA n cc) := (hb.cell (p := ⟨w.heap.size, 1, none⟩) hs1).trans d1
    by_cases hlt : k < n
    · obtain ⟨b, off, rfl, hbl, z0⟩ := readsC (w' := wr) hcls (hB ▸ hb) k hlt
      clear hB
      have hng : ¬ (n : Int) ≤ (k : Int) := by omega
      go_wp2
      go_roundw
      case rel => exact ⟨k + 1, by omega, by go_num, one_setCell hq, hb.setCell (Nat.le_refl _) _⟩
      case measure => simp [intOf]; omega
    · obtain rfl : k = n := by omega
      have hbw2 : Below w.heap.size w wr := hbw.trans (hb.mono (by omega))
      have hbr : Below w1.heap.size w1 wr := by rw [hB]; exact hb
      have f2 : wr.cell? ⟨w.heap.size, 2, none⟩ = some (.slice NA m nc) := (hb.cell (p := ⟨w.heap.size, 2, none⟩) hs1).trans d2
      have f3 : wr.cell? ⟨w.heap.size, 3, none⟩ = some (.slice EA m ec) := (hb.cell (p := ⟨w.heap.size, 3, none⟩) hs1).trans d3
      have gcls := hcls.next hbr
      have gnxt := hnxt.next hbr
      have gends := hends.next hbr
      have hsw : w.heap.size < wr.heap.size := Nat.lt_of_lt_of_le hs1 (Nat.le_trans (by omega) hb.size)
      have hnbw := lt_of_block hq
      clear hB hcls hnxt hends d0 d1 d2 d3 hb hbr q0 hb2 hfr
      go_wp2
      go_loop [6, 57] (fun _ i => ∃ j : Nat, j ≤ k ∧ i = .int .i64 j) (fun _ i => k - (intOf i).toNat)
      case atStart => exact ⟨0, Nat.zero_le _, rfl⟩
      case round =>
        obtain ⟨j, hj, rfl⟩ := hrel
        by_cases hjl : j < k
        · have HH : Hid ((iotaI k).any ((j : Int) == ·) = true) := hid (iotaI_has k j hjl)
          have hl := iotaI_len k
          have HC := fun h0 => containsZ_any CA cc (iotaI k) j wr (by rw [hl]; omega) h0
          rw [hl, HH.out] at HC
          have HCC := hid HC
          clear HC hl
          go_wp2_with fail
          refine (HCC.out gcls).mono ?_
          rintro e w5 ⟨rfl, rfl⟩
          go_wp2
          go_round
          case rel => exact ⟨j + 1, by omega, by go_num⟩
          case measure => simp [intOf]; omega
        · have hanyE : ends.any (fun _ => false) = false := by simp
          have hanyR : rows.any (fun _ => false) = false := by simp
          have hpE : PredZ 44 #[] (fun _ => false) ends wr := fun w0 x hx _ => (may_1 x w0 (g.out.ends x hx)).mono fun e w' ⟨h1, h2⟩ => ⟨h1, by rw [← h2]; exact Below.refl _ _⟩
          have hle : ends.length = m := by rw [g.out.el, hm.out]
          have HE := fun h0 => containsZF_any 44 #[] (fun _ => false) may_enters1 EA ec ends wr (by rw [hle]; omega) h0 hpE
          rw [hle, hanyE] at HE
          have HEE := hid HE
          clear HE hanyE hpE hle
          have HR := fun w0 h0 h1 => containsRow_any 46 #[.pointer (some ⟨nb, 0, none⟩), .pointer (some ⟨w.heap.size, 0, none⟩)] (fun _ => false) may_enters2 NA nc rows w0 (by rw [hm.out]; omega) h0 h1
          rw [hm.out, hanyR] at HR
          have HRR := hid HR
          clear HR hanyR
          have hpR : Hid (∀ w0 : World, Below wr.heap.size wr w0 → PredRow 46 #[.pointer (some ⟨nb, 0, none⟩), .pointer (some ⟨w.heap.size, 0, none⟩)] (fun _ => false) rows w0) := hid fun w0 hb0 wz x A c hx hbz hr => by
            have hbb : Below wr.heap.size wr wz := hb0.trans (hbz.mono hb0.size)
            have hlx : x.length = k := by rw [g.out.row x hx, hn.out]
            have hzx : ∀ y ∈ x, -1 ≤ y ∧ y < (m : Int) := by rw [← hm.out]; exact g.out.cell x hx
            refine may_2 x A NA c k w.heap.size nb m nc wz hlx (by omega) hzx hr ?_ ?_ (Nat.lt_of_lt_of_le hsw hbb.size)
            · exact (hbb.cell (p := ⟨w.heap.size, 2, none⟩) hsw).trans f2
            · exact (hbb.cell (p := ⟨nb, 0, none⟩) hnbw).trans hcol
          go_wp2_with fail
          refine (HEE.out gends).mono ?_
          rintro e w5 ⟨rfl, hb5⟩
          have f2' := (hb5.cell (p := ⟨w.heap.size, 2, none⟩) hsw).trans f2
          clear HEE
          go_wp2_with fail
          refine (HRR.out _ (gnxt.next hb5) (hpR.out _ hb5)).mono ?_
          rintro e w6 ⟨rfl, hb6⟩
          clear HRR hpR
          go_wp2
          go_ret
          exact ⟨rfl, hbw2.trans ((hb5.trans (hb6.mono hb5.size)).mono hbw2.size)⟩
end Go.Proofs.YtoclbcfgfaialaaGreatDoor
