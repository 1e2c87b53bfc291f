/-
  A page of ranges keeps by itself; (*Book).Ranges adds one.
-/
import Derived.Test.YtoclbcfgfaialaaGreatDoorApart
import Derived.Test.YtoclbcfgfaialaaGreatDoorTwin
namespace Go.Proofs.YtoclbcfgfaialaaGreatDoor
open Go.RowKit
set_option maxRecDepth 100000
set_option maxHeartbeats 400000 in
theorem write_nil (m b : Rg) (w : World) : Calls Tryz.prog 170 #[.agg (pageV none 0 0 m b)] w fun e w' => e = .returned (.tuple #[]) ∧ Below w.heap.size w w' := by
  unfold pageV
  go_enter Tryz.func170, Tryz.ntmps170
  go_wp2
  go_loop [2] (fun i => i = .int .i64 0) (fun _ => 0)
  case atStart => rfl
  case round =>
    subst hrel
    go_wp2
    go_end0
    exact ⟨rfl, below_new _ _⟩
set_option maxHeartbeats 400000 in
theorem behind_nil (m b : Rg) (w : World) : Calls Tryz.prog 171 #[.agg (pageV none 0 0 m b)] w fun e w' => e = .returned (.tuple #[]) ∧ Below w.heap.size w w' := by
  unfold pageV
  go_enter Tryz.func171, Tryz.ntmps171
  go_wp2
  go_loop [3] (fun i => i = .int .i64 0) (fun _ => 0)
  case atStart => rfl
  case round =>
    subst hrel
    go_wp2
    go_end0
    exact ⟨rfl, below_new _ _⟩
set_option maxHeartbeats 400000 in
theorem stands_nil (m b : Rg) (w : World) : Calls Tryz.prog 169 #[.agg (pageV none 0 0 m b)] w fun e w' => e = .returned (.bool true) ∧ Below w.heap.size w w' := by
  unfold pageV
  go_enter Tryz.func169, Tryz.ntmps169
  go_wp2
  go_loop [4] (fun i => i = .int .i64 0) (fun _ => 0)
  case atStart => rfl
  case round =>
    subst hrel
    go_wp2
    go_ret
    exact ⟨rfl, below_new _ _⟩
/-- the cells of a page, stage by stage -/
def stageA (cur : Array Value) (n c k : Nat) : Nat → Array Value
  | 0 => cur
  | 1 => mkA cur 0 n ((k : Int), 0)
  | _ => mkA (mkA cur 0 n ((k : Int), 0)) n c (0, (k : Int))
/-- a page of ranges: its block, if it has one -/
def rgPg (g : Option Nat) (n c k : Nat) (cur : Array Value) : Pg where
  T := 104
  v := .agg (pageV (g.map fun b => ⟨b, 0, none⟩) n c ((k : Int), 0) (0, (k : Int)))
  blk := g
  fW := 170
  fB := 171
  fS := 169
  st := fun i w => ∀ b, g = some b → w.heap[b]? = some (.cells (stageA cur n c k i) 66 (0, 0))
/-- what a page asks -/
def PageIn (g : Option Nat) (n c : Nat) (cur : Array Value) : Prop := (g = none → n = 0 ∧ c = 0) ∧ (∀ b, g = some b → n ≤ c ∧ c * 2 ≤ cur.size ∧ c ≤ 9223372036854775807)
theorem method_w (v : Array Value) : ∀ n w, (method (n + 1) 104 (.agg v) "harbinger/harbingerlaw01.write").run Tryz.prog w = .ok (170, .agg v) w := fun _ _ => by kernel_rfl
theorem method_b (v : Array Value) : ∀ n w, (method (n + 1) 104 (.agg v) "harbinger/harbingerlaw01.writeBehind").run Tryz.prog w = .ok (171, .agg v) w := fun _ _ => by kernel_rfl
theorem method_s (v : Array Value) : ∀ n w, (method (n + 1) 104 (.agg v) "harbinger/harbingerlaw01.stands").run Tryz.prog w = .ok (169, .agg v) w := fun _ _ => by kernel_rfl
theorem row_eW : ∀ l w, (callFunc 170 l).run Tryz.prog w = .ok (.enter 170 l) w := fun _ _ => by kernel_rfl
theorem row_eB : ∀ l w, (callFunc 171 l).run Tryz.prog w = .ok (.enter 171 l) w := fun _ _ => by kernel_rfl
theorem row_eS : ∀ l w, (callFunc 169 l).run Tryz.prog w = .ok (.enter 169 l) w := fun _ _ => by kernel_rfl
theorem rgPg_ok {g : Option Nat} {n c k : Nat} {cur : Array Value} (h : PageIn g n c cur) : PgOk (rgPg g n c k cur) where
  frame := by
    intro i w w' b hst ho hne x hx
    have hw := hst x hx
    rw [ho.block x (heap_ltB hw) (fun e => ?_)]
    · exact hw
    · rcases hne with h1 | h1
      · have h1 : g = none := h1
        rw [hx] at h1; cases h1
      · have h1 : g ≠ b := h1
        exact h1 (by rw [hx, e])
  w := by
    intro w hst
    cases g with
    | none =>
      obtain ⟨rfl, rfl⟩ := h.1 rfl
      exact (write_nil _ _ w).mono fun e w' ⟨he, hb⟩ => ⟨he, fun x hx => (by cases hx), OnlyO.of_below hb⟩
    | some b =>
      obtain ⟨h1, h2, h3⟩ := h.2 b rfl
      exact (write_any b n c _ _ cur w (hst b rfl) h1 h2 h3).mono fun e w' ⟨he, hc, ho⟩ => ⟨he, fun x hx => by cases hx; exact hc, OnlyO.of_b ho⟩
  b := by
    intro w hst
    cases g with
    | none =>
      obtain ⟨rfl, rfl⟩ := h.1 rfl
      exact (behind_nil _ _ w).mono fun e w' ⟨he, hb⟩ => ⟨he, fun x hx => (by cases hx), OnlyO.of_below hb⟩
    | some b =>
      obtain ⟨h1, h2, h3⟩ := h.2 b rfl
      exact (behind_any b n c _ _ (mkA cur 0 n ((k : Int), 0)) w (hst b rfl) h1 (by rw [mkA_size]; exact h2) h3).mono fun e w' ⟨he, hc, ho⟩ => ⟨he, fun x hx => by cases hx; exact hc, OnlyO.of_b ho⟩
  s := by
    intro w hst
    cases g with
    | none =>
      obtain ⟨rfl, rfl⟩ := h.1 rfl
      exact stands_nil _ _ w
    | some b =>
      obtain ⟨h1, h2, h3⟩ := h.2 b rfl
      refine stands_any b n c _ _ (mkA (mkA cur 0 n ((k : Int), 0)) n c (0, (k : Int))) w (hst b rfl) h1 h3 (fun i hi => ?_) (fun i hi hic => mkA_in _ _ _ _ i hi hic (by rw [mkA_size]; exact h2))
      have := mkA_in cur 0 n ((k : Int), 0) i (Nat.zero_le _) hi (by omega)
      exact ⟨(mkA_out _ _ _ _ _ (by omega)).trans this.1, (mkA_out _ _ _ _ _ (by omega)).trans this.2⟩
  mW := method_w _
  mB := method_b _
  mS := method_s _
  eW := row_eW
  eB := row_eB
  eS := row_eS
/-- a row of the call's own as a page -/
theorem page_of_own {w : World} {base n c : Nat} (k : Nat) {A : Option Addr} {xs : List Value} (h : OwnC w base 66 2 (.slice A n c) n xs) (hm : c ≤ 9223372036854775807) :
    ∃ g cur, A = g.map (fun b => (⟨b, 0, none⟩ : Addr)) ∧ PageIn g n c cur ∧ (rgPg g n c k cur).st 0 w ∧ ∀ b, g = some b → base ≤ b ∧ b < w.heap.size := by
  rcases h.2 with ⟨h1, h2⟩ | ⟨g, cap, cur, hv, hg, hh, h3, h4, h5, h6⟩
  · injection h1 with h1 _ h3
    exact ⟨none, #[], h1, ⟨fun _ => ⟨h2, h3⟩, fun b hb => (by cases hb)⟩, fun b hb => (by cases hb), fun b hb => (by cases hb)⟩
  · injection hv with hv _ hc
    subst hc
    refine ⟨some g, cur, hv, ⟨fun hb => (by cases hb), fun b _ => ⟨h3, h5, hm⟩⟩, fun b hb => ?_, fun b hb => ?_⟩
    · cases hb; exact hh
    · cases hb; exact ⟨hg, heap_ltB hh⟩
/-- a book, and its pages -/
def BookSt (w : World) (bb : Nat) (xs : List Value) : Prop :=
  bb < w.heap.size ∧ ∃ A c, w.cell? ⟨bb, 0, none⟩ = some (.slice A xs.length c) ∧ w.frozen? ⟨bb, 0, none⟩ = false ∧ w.ownsRow (bb + 1) 86 1 (.slice A xs.length c) xs.length xs
set_option maxHeartbeats 400000 in
theorem number_any (bb n c : Nat) (A : Option Addr) (w : World) (hc : w.cell? ⟨bb, 0, none⟩ = some (.slice A n c)) (hn : n ≤ 1000) :
    Calls Tryz.prog 39 #[.pointer (some ⟨bb, 0, none⟩)] w fun e w' => e = .returned (.int .i64 (n + 1)) ∧ w = w' := by
  go_enter Tryz.func39, Tryz.ntmps39
  go_wp2
  go_ret
  exact ⟨rfl, rfl⟩
theorem ownsRow_set_below {w : World} {base : Nat} {e : TypeId} {size n : Nat} {v : Value} {xs : List Value} (h : w.ownsRow base e size v n xs) {p : Addr} (hp : p.block < base) (u : Value) : (w.setCell p u).ownsRow base e size v n xs := by
  refine ⟨h.1, ?_⟩
  rcases h.2 with h2 | ⟨g, cap, cur, hv, hg, hh, r⟩
  · exact .inl h2
  · refine .inr ⟨g, cap, cur, hv, hg, ?_, r⟩
    rw [Below.heap_setCell _ _ _ _ (by omega)]; exact hh
theorem infoPage : (Tryz.prog.info? 86).map (fun i => (i.zero, i.size, i.bytes)) = some (some .nilIface, 1, 16) := by kernel_rfl
set_option maxHeartbeats 1600000 in
theorem bookR_any (bb n c : Nat) (A : Option Addr) (xs : List Value) (w : World) (hx : xs.length ≤ 1000) (h : BookSt w bb xs) :
    Calls Tryz.prog 40 #[.pointer (some ⟨bb, 0, none⟩), .slice A n c] w fun e w' => e = .returned (.tuple #[]) ∧ BookSt w' bb (xs ++ [.iface 104 (.agg (pageV A n c (((xs.length + 1 : Nat) : Int), 0) (0, ((xs.length + 1 : Nat) : Int))))]) ∧ Below bb w w' := by
  obtain ⟨i0, hi, hz0, hz1, hz2⟩ := info_parts infoPage
  obtain ⟨hbb, Ap, cp, hc, hf, hown⟩ := h
  have hk : ((xs.length + 1 : Nat) : Int) = (xs.length : Int) + 1 := by omega
  unfold pageV
  rw [hk]
  clear hk
  go_enter Tryz.func40, Tryz.ntmps40
  go_wp2_with fail
  refine (number_any bb xs.length cp Ap w hc hx).mono ?_
  rintro e w1 ⟨rfl, rfl⟩
  go_wp2_with (at_builtin; go_must (refine wpList_push _ rfl _ _ 49 rfl (bb + 1) 86 i0 _ 1 16 Tryz.underlying49 hi hz0 hz1 hz2 rfl (by omega) _ _ _ rfl hown [.iface 104 (.agg #[.slice A n c, .int .i32 ((xs.length : Int) + 1), .int .i32 0, .int .i32 0, .int .i32 ((xs.length : Int) + 1)])] 1 _ rfl (by simp) rfl (by simp [Value.oneCell']) (by simp only [maxLen]; omega) (by omega) (by omega) ?_); intro v' w' hown' hsz' hB'; obtain ⟨A9, c9, rfl, _, _⟩ := Reads.own hown'; have hc9 := ((hB' _ (Below.refl _ _)).cell (p := ⟨bb, 0, none⟩) (Nat.lt_succ_self bb)).trans hc; have hf9 := ((hB' _ (Below.refl _ _)).frozen (p := ⟨bb, 0, none⟩) (Nat.lt_succ_self bb)).trans hf)
  go_end0
  have hlen : ∀ v : Value, (xs ++ [v]).length = xs.length + 1 := fun v => by simp
  refine ⟨rfl, ⟨by simp [World.setCell]; omega, A9, c9, by rw [hlen]; exact cell_set_self hc9, by rw [World.frozen?_setCell]; exact hf9, by rw [hlen]; exact ownsRow_set_below hown' (Nat.lt_succ_self bb) _⟩, Below.setCell ((hB' _ (Below.refl _ _)).mono (by omega)) (Nat.le_refl bb) _⟩
theorem own_ge {w : World} {base b o n c : Nat} {e : TypeId} {size : Nat} {xs : List Value} (h : w.ownsRow base e size (.slice (some ⟨b, o, none⟩) n c) n xs) : base ≤ b := by
  rcases h.2 with ⟨h1, _⟩ | ⟨g, cap, cur, hv, hg, _⟩
  · cases h1
  · injection hv with hv _ _
    injection hv with hv
    injection hv with hv _ _
    omega
/-- Apart, of pages that were there ahead of the book -/
theorem apart_go (bb : Nat) (ps : List Pg) (w0 w : World) (hl : ps.length ≤ 120) (hbb : bb = w0.heap.size) (hok : ∀ p ∈ ps, PgOk p) (ha : Apart2 ps) (hst : ∀ p ∈ ps, p.st 0 w0) (hlt : ∀ p ∈ ps, ∀ g, p.blk = some g → g < w0.heap.size)
    (hb : Below w0.heap.size w0 w) (h : BookSt w bb (ps.map fun p => .iface p.T p.v)) :
    Calls Tryz.prog 17 #[.pointer (some ⟨bb, 0, none⟩)] w fun e w' => e = .returned (.bool true) ∧ OnlyL ps w w' := by
  obtain ⟨h1, A, c, h2, _, h4⟩ := h
  simp only [List.length_map] at h2 h4
  refine apart_any bb c A ps w hl h1 hok ha (fun j hj => ?_) h2 (Reads.of_own h4) (fun p hp => ⟨fun e => ?_, fun b o e e2 => ?_⟩)
  · rw [if_neg (by omega)]
    exact (hok _ (List.getElem_mem hj)).frame _ _ _ none (hst _ (List.getElem_mem hj)) (OnlyO.of_below hb) (by cases ps[j].blk <;> simp)
  · have := hlt p hp _ e
    omega
  · subst e
    have := own_ge h4
    have := hlt p hp _ e2
    omega
theorem bookSt_new (w : World) : BookSt (w.alloc (.cells #[.slice none 0 0] 51)) w.heap.size [] :=
  ⟨by simp, none, 0, by rw [cell_new]; rfl, frozen_new _ _ _ _, World.ownsRow_nil _ _ _ _⟩
theorem apart2_two {p q : Pg} (h : p.blk = none ∨ p.blk ≠ q.blk) (k : q.blk = none ∨ q.blk ≠ p.blk) : Apart2 [p, q] := by
  intro i j hi hj hne
  match i, j, hi, hj with
  | 0, 0, _, _ => exact absurd rfl hne
  | 0, 1, _, _ => exact h
  | 1, 0, _, _ => exact k
  | 1, 1, _, _ => exact absurd rfl hne
end Go.Proofs.YtoclbcfgfaialaaGreatDoor
