/-
  slices.IndexFunc and ContainsFunc at elements of some cells: the walks. (Printed by gen_index.py cf.)
-/
import Derived.Test.YtnpcjbdolmmaeaaDoorCfSk
namespace Go.Proofs.YtnpcjbdolmmaeaaDoor
open Go.RowKit
set_option maxRecDepth 100000
theorem ret_int {k : IntKind} {i j : Int} (h : i = j) : Ending.returned (.int k i) = .returned (.int k j) := by rw [h]
/-- the first place that is so, or -1 -/
def idxI {α : Type} (p : α → Bool) (l : List α) : Int := match l.findIdx? p with | some i => i | none => -1
theorem idxI_hit {α : Type} (p : α → Bool) (l : List α) (k : Nat) (hk : k < l.length) (h : p l[k] = true) (hn : ∀ j (hj : j < k), p (l[j]'(by omega)) = false) : idxI p l = k := by
  unfold idxI
  have : l.findIdx? p = some k := by
    rw [List.findIdx?_eq_some_iff_getElem]
    exact ⟨hk, h, fun j hj => by simp [hn j hj]⟩
  rw [this]
theorem idxI_miss {α : Type} (p : α → Bool) (l : List α) (hn : ∀ j (hj : j < l.length), p l[j] = false) : idxI p l = -1 := by
  unfold idxI
  have : l.findIdx? p = none := by
    rw [List.findIdx?_eq_none_iff]
    intro x hx
    obtain ⟨j, hj, rfl⟩ := List.getElem_of_mem hx
    exact hn j hj
  rw [this]
theorem idxI_any' {α : Type} (p : α → Bool) (l : List α) : decide (0 ≤ idxI p l) = l.any p := by
  unfold idxI
  cases h : l.findIdx? p with
  | none =>
    have := List.findIdx?_eq_none_iff.1 h
    have : l.any p = false := by simpa using this
    rw [this]; decide
  | some i =>
    obtain ⟨h1, h2, _⟩ := List.findIdx?_eq_some_iff_getElem.1 h
    have : l.any p = true := List.any_eq_true.2 ⟨_, List.getElem_mem h1, h2⟩
    rw [this]; simp
/-- what is asked of a predicate on elements of 1 cells -/
def PredC1 {α : Type} (g : Nat) (cb : Array Value) (q : α → Bool) (l : List α) (vs : List Value) (w : World) : Prop :=
  ∀ (wr : World) (i : Nat) (x0 : Value) (hi : i < l.length), vs[i]? = some x0 → Below w.heap.size w wr → Calls Tryd.prog g (#[x0] ++ cb) wr fun e w' => e = .returned (.bool (q l[i])) ∧ Below wr.heap.size wr w'
theorem readsC1 {w w' : World} {B n : Nat} {A : Option Addr} {vs : List Value} (hr : Reads w B 1 A n vs) (hb : Below B w w') (i : Nat) (hi : i < n) :
    ∃ b off x0, A = some ⟨b, off, none⟩ ∧ b < B ∧ w'.cell? ⟨b, off + i, none⟩ = some x0 ∧ vs[i]? = some x0 := by
  obtain ⟨b, off, rfl, hbl, hcell⟩ := hr.2 (by omega)
  have hl := hr.1
  have h0 := List.getElem?_eq_getElem (l := vs) (i := i) (by omega)
  refine ⟨b, off, vs[i]'(by omega), rfl, hbl, (hb.cell (p := ⟨b, off + i, none⟩) hbl).trans (by have := hcell (i) _ h0; simpa [Nat.add_assoc] using this), h0⟩
/-- what is asked of a predicate on elements of 3 cells -/
def PredC3 {α : Type} (g : Nat) (cb : Array Value) (q : α → Bool) (l : List α) (vs : List Value) (w : World) : Prop :=
  ∀ (wr : World) (i : Nat) (x0 x1 x2 : Value) (hi : i < l.length), vs[i * 3]? = some x0 → vs[i * 3 + 1]? = some x1 → vs[i * 3 + 2]? = some x2 → Below w.heap.size w wr → Calls Tryd.prog g (#[.agg #[x0, x1, x2]] ++ cb) wr fun e w' => e = .returned (.bool (q l[i])) ∧ Below wr.heap.size wr w'
theorem readsC3 {w w' : World} {B n : Nat} {A : Option Addr} {vs : List Value} (hr : Reads w B 3 A n vs) (hb : Below B w w') (i : Nat) (hi : i < n) :
    ∃ b off x0 x1 x2, A = some ⟨b, off, none⟩ ∧ b < B ∧ w'.cell? ⟨b, off + i * 3, none⟩ = some x0 ∧ w'.cell? ⟨b, off + i * 3 + 1, none⟩ = some x1 ∧ w'.cell? ⟨b, off + i * 3 + 2, none⟩ = some x2 ∧ vs[i * 3]? = some x0 ∧ vs[i * 3 + 1]? = some x1 ∧ vs[i * 3 + 2]? = some x2 := by
  obtain ⟨b, off, rfl, hbl, hcell⟩ := hr.2 (by omega)
  have hl := hr.1
  have h0 := List.getElem?_eq_getElem (l := vs) (i := i * 3) (by omega)
  have h1 := List.getElem?_eq_getElem (l := vs) (i := i * 3 + 1) (by omega)
  have h2 := List.getElem?_eq_getElem (l := vs) (i := i * 3 + 2) (by omega)
  refine ⟨b, off, vs[i * 3]'(by omega), vs[i * 3 + 1]'(by omega), vs[i * 3 + 2]'(by omega), rfl, hbl, (hb.cell (p := ⟨b, off + i * 3, none⟩) hbl).trans (by have := hcell (i * 3) _ h0; simpa [Nat.add_assoc] using this), (hb.cell (p := ⟨b, off + i * 3 + 1, none⟩) hbl).trans (by have := hcell (i * 3 + 1) _ h1; simpa [Nat.add_assoc] using this), (hb.cell (p := ⟨b, off + i * 3 + 2, none⟩) hbl).trans (by have := hcell (i * 3 + 2) _ h2; simpa [Nat.add_assoc] using this), h0, h1, h2⟩
/-- what is asked of a predicate on elements of 5 cells -/
def PredC5 {α : Type} (g : Nat) (cb : Array Value) (q : α → Bool) (l : List α) (vs : List Value) (w : World) : Prop :=
  ∀ (wr : World) (i : Nat) (x0 x1 x2 x3 x4 : Value) (hi : i < l.length), vs[i * 5]? = some x0 → vs[i * 5 + 1]? = some x1 → vs[i * 5 + 2]? = some x2 → vs[i * 5 + 3]? = some x3 → vs[i * 5 + 4]? = some x4 → Below w.heap.size w wr → Calls Tryd.prog g (#[.agg #[x0, x1, x2, x3, x4]] ++ cb) wr fun e w' => e = .returned (.bool (q l[i])) ∧ Below wr.heap.size wr w'
theorem readsC5 {w w' : World} {B n : Nat} {A : Option Addr} {vs : List Value} (hr : Reads w B 5 A n vs) (hb : Below B w w') (i : Nat) (hi : i < n) :
    ∃ b off x0 x1 x2 x3 x4, A = some ⟨b, off, none⟩ ∧ b < B ∧ w'.cell? ⟨b, off + i * 5, none⟩ = some x0 ∧ w'.cell? ⟨b, off + i * 5 + 1, none⟩ = some x1 ∧ w'.cell? ⟨b, off + i * 5 + 2, none⟩ = some x2 ∧ w'.cell? ⟨b, off + i * 5 + 3, none⟩ = some x3 ∧ w'.cell? ⟨b, off + i * 5 + 4, none⟩ = some x4 ∧ vs[i * 5]? = some x0 ∧ vs[i * 5 + 1]? = some x1 ∧ vs[i * 5 + 2]? = some x2 ∧ vs[i * 5 + 3]? = some x3 ∧ vs[i * 5 + 4]? = some x4 := by
  obtain ⟨b, off, rfl, hbl, hcell⟩ := hr.2 (by omega)
  have hl := hr.1
  have h0 := List.getElem?_eq_getElem (l := vs) (i := i * 5) (by omega)
  have h1 := List.getElem?_eq_getElem (l := vs) (i := i * 5 + 1) (by omega)
  have h2 := List.getElem?_eq_getElem (l := vs) (i := i * 5 + 2) (by omega)
  have h3 := List.getElem?_eq_getElem (l := vs) (i := i * 5 + 3) (by omega)
  have h4 := List.getElem?_eq_getElem (l := vs) (i := i * 5 + 4) (by omega)
  refine ⟨b, off, vs[i * 5]'(by omega), vs[i * 5 + 1]'(by omega), vs[i * 5 + 2]'(by omega), vs[i * 5 + 3]'(by omega), vs[i * 5 + 4]'(by omega), rfl, hbl, (hb.cell (p := ⟨b, off + i * 5, none⟩) hbl).trans (by have := hcell (i * 5) _ h0; simpa [Nat.add_assoc] using this), (hb.cell (p := ⟨b, off + i * 5 + 1, none⟩) hbl).trans (by have := hcell (i * 5 + 1) _ h1; simpa [Nat.add_assoc] using this), (hb.cell (p := ⟨b, off + i * 5 + 2, none⟩) hbl).trans (by have := hcell (i * 5 + 2) _ h2; simpa [Nat.add_assoc] using this), (hb.cell (p := ⟨b, off + i * 5 + 3, none⟩) hbl).trans (by have := hcell (i * 5 + 3) _ h3; simpa [Nat.add_assoc] using this), (hb.cell (p := ⟨b, off + i * 5 + 4, none⟩) hbl).trans (by have := hcell (i * 5 + 4) _ h4; simpa [Nat.add_assoc] using this), h0, h1, h2, h3, h4⟩
set_option maxHeartbeats 1600000 in
theorem indexZ_any {α : Type} (g : Nat) (cb : Array Value) (q : α → Bool) (eg : ∀ args w, (callFunc g args).run Tryd.prog w = .ok (.enter g args) w)
   (A : Option Addr) (c B : Nat) (l : List α) (vs : List Value) (w : World) (hm : l.length ≤ 1000000000) (hB : B ≤ w.heap.size) (hr : Reads w B 1 A l.length vs) (hp : PredC1 g cb q l vs w) :
   Calls Tryd.prog 61 #[.slice A l.length c, .func (.func g) #[] cb] w fun e w' => e = .returned (.int .i64 (idxI q l)) ∧ Below w.heap.size w w' := by
  have hr : Reads w w.heap.size 1 A l.length vs := hr.more hB
  have HP := hid hp
  clear hp
  go_enter Tryd.func61, Tryd.ntmps61
  go_wp2
  go_loopw [5, 8] (fun _ i wr => ∃ k : Nat, k ≤ l.length ∧ i = .int .i64 k ∧ Hid (∀ j (hj : j < l.length), j < k → q l[j] = false) ∧ Below w.heap.size w wr) (fun _ i _ => l.length - (intOf i).toNat)
  case atStart => exact ⟨0, Nat.zero_le _, rfl, fun j _ hj => absurd hj (by omega), Below.refl _ _⟩
  case round =>
    obtain ⟨k, hk, rfl, HN, hb⟩ := hrel
    by_cases hlt : k < l.length
    · obtain ⟨b, off, x0, rfl, hbl, c0, g0⟩ := readsC1 hr hb k hlt
      have HC := hid (HP.out wr k x0 hlt g0 hb)
      clear g0
      obtain ⟨qv, he⟩ : ∃ qv, q (l[k]'hlt) = qv := ⟨_, rfl⟩
      rw [he] at HC
      have HE := hid he
      clear he
      go_wp2_with fail
      refine HC.out.mono ?_
      rintro e w1 ⟨rfl, hb1⟩
      have hbw : Below w.heap.size w w1 := hb.trans (hb1.mono hb.size)
      cases qv with
      | false =>
        go_wp2
        go_roundw
        case rel =>
          refine ⟨k + 1, by omega, by go_num, ?_, hbw⟩
          intro j hj hjk
          by_cases e : j = k
          · subst e; exact HE.out
          · exact HN.out j hj (by omega)
        case measure => simp [intOf]; omega
      | true =>
        have hfin : idxI q l = k := idxI_hit q l k hlt HE.out (fun j hj => HN.out j (by omega) hj)
        have HF := hid hfin
        clear hfin
        go_wp2
        go_ret
        exact ⟨ret_int HF.out.symm, hbw⟩
    · go_wp2
      go_ret
      exact ⟨ret_int (idxI_miss q l fun j hj => HN.out j hj (by omega)).symm, hb⟩
theorem containsZ_any {α : Type} (g : Nat) (cb : Array Value) (q : α → Bool) (eg : ∀ args w, (callFunc g args).run Tryd.prog w = .ok (.enter g args) w)
   (A : Option Addr) (c B : Nat) (l : List α) (vs : List Value) (w : World) (hm : l.length ≤ 1000000000) (hB : B ≤ w.heap.size) (hr : Reads w B 1 A l.length vs) (hp : PredC1 g cb q l vs w) :
   Calls Tryd.prog 43 #[.slice A l.length c, .func (.func g) #[] cb] w fun e w' => e = .returned (.bool (l.any q)) ∧ Below w.heap.size w w' := by
  have HP := hid hp
  clear hp
  rw [← idxI_any']
  go_enter Tryd.func43, Tryd.ntmps43
  go_wp2_with (go_at_call 61; refine (indexZ_any g cb q eg A c B l vs _ hm hB hr HP.out).mono ?_; rintro e w' ⟨rfl, hb1⟩)
  go_ret
  exact ⟨rfl, hb1⟩
set_option maxHeartbeats 1600000 in
theorem indexAE_any {α : Type} (g : Nat) (cb : Array Value) (q : α → Bool) (eg : ∀ args w, (callFunc g args).run Tryd.prog w = .ok (.enter g args) w)
   (A : Option Addr) (c B : Nat) (l : List α) (vs : List Value) (w : World) (hm : l.length ≤ 1000000000) (hB : B ≤ w.heap.size) (hr : Reads w B 3 A l.length vs) (hp : PredC3 g cb q l vs w) :
   Calls Tryd.prog 83 #[.slice A l.length c, .func (.func g) #[] cb] w fun e w' => e = .returned (.int .i64 (idxI q l)) ∧ Below w.heap.size w w' := by
  have hr : Reads w w.heap.size 3 A l.length vs := hr.more hB
  have HP := hid hp
  clear hp
  go_enter Tryd.func83, Tryd.ntmps83
  go_wp2
  go_loopw [5, 8] (fun _ i wr => ∃ k : Nat, k ≤ l.length ∧ i = .int .i64 k ∧ Hid (∀ j (hj : j < l.length), j < k → q l[j] = false) ∧ Below w.heap.size w wr) (fun _ i _ => l.length - (intOf i).toNat)
  case atStart => exact ⟨0, Nat.zero_le _, rfl, fun j _ hj => absurd hj (by omega), Below.refl _ _⟩
  case round =>
    obtain ⟨k, hk, rfl, HN, hb⟩ := hrel
    by_cases hlt : k < l.length
    · obtain ⟨b, off, x0, x1, x2, rfl, hbl, c0, c1, c2, g0, g1, g2⟩ := readsC3 hr hb k hlt
      have HC := hid (HP.out wr k x0 x1 x2 hlt g0 g1 g2 hb)
      clear g0 g1 g2
      obtain ⟨qv, he⟩ : ∃ qv, q (l[k]'hlt) = qv := ⟨_, rfl⟩
      rw [he] at HC
      have HE := hid he
      clear he
      go_wp2_with fail
      refine HC.out.mono ?_
      rintro e w1 ⟨rfl, hb1⟩
      have hbw : Below w.heap.size w w1 := hb.trans (hb1.mono hb.size)
      cases qv with
      | false =>
        go_wp2
        go_roundw
        case rel =>
          refine ⟨k + 1, by omega, by go_num, ?_, hbw⟩
          intro j hj hjk
          by_cases e : j = k
          · subst e; exact HE.out
          · exact HN.out j hj (by omega)
        case measure => simp [intOf]; omega
      | true =>
        have hfin : idxI q l = k := idxI_hit q l k hlt HE.out (fun j hj => HN.out j (by omega) hj)
        have HF := hid hfin
        clear hfin
        go_wp2
        go_ret
        exact ⟨ret_int HF.out.symm, hbw⟩
    · go_wp2
      go_ret
      exact ⟨ret_int (idxI_miss q l fun j hj => HN.out j hj (by omega)).symm, hb⟩
theorem containsAE_any {α : Type} (g : Nat) (cb : Array Value) (q : α → Bool) (eg : ∀ args w, (callFunc g args).run Tryd.prog w = .ok (.enter g args) w)
   (A : Option Addr) (c B : Nat) (l : List α) (vs : List Value) (w : World) (hm : l.length ≤ 1000000000) (hB : B ≤ w.heap.size) (hr : Reads w B 3 A l.length vs) (hp : PredC3 g cb q l vs w) :
   Calls Tryd.prog 65 #[.slice A l.length c, .func (.func g) #[] cb] w fun e w' => e = .returned (.bool (l.any q)) ∧ Below w.heap.size w w' := by
  have HP := hid hp
  clear hp
  rw [← idxI_any']
  go_enter Tryd.func65, Tryd.ntmps65
  go_wp2_with (go_at_call 83; refine (indexAE_any g cb q eg A c B l vs _ hm hB hr HP.out).mono ?_; rintro e w' ⟨rfl, hb1⟩)
  go_ret
  exact ⟨rfl, hb1⟩
set_option maxHeartbeats 1600000 in
theorem indexCf_any {α : Type} (g : Nat) (cb : Array Value) (q : α → Bool) (eg : ∀ args w, (callFunc g args).run Tryd.prog w = .ok (.enter g args) w)
   (A : Option Addr) (c B : Nat) (l : List α) (vs : List Value) (w : World) (hm : l.length ≤ 1000000000) (hB : B ≤ w.heap.size) (hr : Reads w B 5 A l.length vs) (hp : PredC5 g cb q l vs w) :
   Calls Tryd.prog 35 #[.slice A l.length c, .func (.func g) #[] cb] w fun e w' => e = .returned (.int .i64 (idxI q l)) ∧ Below w.heap.size w w' := by
  have hr : Reads w w.heap.size 5 A l.length vs := hr.more hB
  have HP := hid hp
  clear hp
  go_enter Tryd.func35, Tryd.ntmps35
  go_wp2
  go_loopw [5, 8] (fun _ i wr => ∃ k : Nat, k ≤ l.length ∧ i = .int .i64 k ∧ Hid (∀ j (hj : j < l.length), j < k → q l[j] = false) ∧ Below w.heap.size w wr) (fun _ i _ => l.length - (intOf i).toNat)
  case atStart => exact ⟨0, Nat.zero_le _, rfl, fun j _ hj => absurd hj (by omega), Below.refl _ _⟩
  case round =>
    obtain ⟨k, hk, rfl, HN, hb⟩ := hrel
    by_cases hlt : k < l.length
    · obtain ⟨b, off, x0, x1, x2, x3, x4, rfl, hbl, c0, c1, c2, c3, c4, g0, g1, g2, g3, g4⟩ := readsC5 hr hb k hlt
      have HC := hid (HP.out wr k x0 x1 x2 x3 x4 hlt g0 g1 g2 g3 g4 hb)
      clear g0 g1 g2 g3 g4
      obtain ⟨qv, he⟩ : ∃ qv, q (l[k]'hlt) = qv := ⟨_, rfl⟩
      rw [he] at HC
      have HE := hid he
      clear he
      go_wp2_with fail
      refine HC.out.mono ?_
      rintro e w1 ⟨rfl, hb1⟩
      have hbw : Below w.heap.size w w1 := hb.trans (hb1.mono hb.size)
      cases qv with
      | false =>
        go_wp2
        go_roundw
        case rel =>
          refine ⟨k + 1, by omega, by go_num, ?_, hbw⟩
          intro j hj hjk
          by_cases e : j = k
          · subst e; exact HE.out
          · exact HN.out j hj (by omega)
        case measure => simp [intOf]; omega
      | true =>
        have hfin : idxI q l = k := idxI_hit q l k hlt HE.out (fun j hj => HN.out j (by omega) hj)
        have HF := hid hfin
        clear hfin
        go_wp2
        go_ret
        exact ⟨ret_int HF.out.symm, hbw⟩
    · go_wp2
      go_ret
      exact ⟨ret_int (idxI_miss q l fun j hj => HN.out j hj (by omega)).symm, hb⟩
theorem containsCf_any {α : Type} (g : Nat) (cb : Array Value) (q : α → Bool) (eg : ∀ args w, (callFunc g args).run Tryd.prog w = .ok (.enter g args) w)
   (A : Option Addr) (c B : Nat) (l : List α) (vs : List Value) (w : World) (hm : l.length ≤ 1000000000) (hB : B ≤ w.heap.size) (hr : Reads w B 5 A l.length vs) (hp : PredC5 g cb q l vs w) :
   Calls Tryd.prog 27 #[.slice A l.length c, .func (.func g) #[] cb] w fun e w' => e = .returned (.bool (l.any q)) ∧ Below w.heap.size w w' := by
  have HP := hid hp
  clear hp
  rw [← idxI_any']
  go_enter Tryd.func27, Tryd.ntmps27
  go_wp2_with (go_at_call 35; refine (indexCf_any g cb q eg A c B l vs _ hm hB hr HP.out).mono ?_; rintro e w' ⟨rfl, hb1⟩)
  go_ret
  exact ⟨rfl, hb1⟩
end Go.Proofs.YtnpcjbdolmmaeaaDoor
