/-
  ranges.Split and its closures: the walks.
-/
import Derived.Test.YtoclbcfgfaialaaGreatDoorCuts
namespace Go.Proofs.YtoclbcfgfaialaaGreatDoor
open Go.RowKit
open Go.Sort (grow)
set_option maxRecDepth 100000
/-- what is asked of a predicate on lists of ranges -/
def PredL (g : Nat) (cb : Array Value) (q : List Rg → Bool) (w : World) : Prop :=
  ∀ (wr : World) (l : List Rg) (A : Option Addr) (c : Nat), Below w.heap.size w wr → l.length ≤ 10000000 → Reads wr wr.heap.size 2 A l.length (flat encR l) →
    Calls Tryz.prog g (#[.slice A l.length c] ++ cb) wr fun e w' => e = .returned (.bool (q l)) ∧ Below wr.heap.size wr w'
set_option maxHeartbeats 800000 in
theorem indexL_any (g : Nat) (cb : Array Value) (q : List Rg → Bool) (eg : ∀ args w, (callFunc g args).run Tryz.prog w = .ok (.enter g args) w)
   (A : Option Addr) (c : Nat) (lls : List (List Rg)) (w : World) (hm : lls.length ≤ 1000) (hml : ∀ l ∈ lls, l.length ≤ 10000000) (hr : LL w A lls) (hp : PredL g cb q w) :
   Calls Tryz.prog 78 #[.slice A lls.length c, .func (.func g) #[] cb] w fun e w' => e = .returned (.int .i64 (idxI q lls)) ∧ Below w.heap.size w w' := by
  go_enter Tryz.func78, Tryz.ntmps78
  go_wp2
  go_loopw [5, 8] (fun _ i wr => ∃ k : Nat, k ≤ lls.length ∧ i = .int .i64 k ∧ Hid (∀ j (hj : j < lls.length), j < k → q lls[j] = false) ∧ Below w.heap.size w wr) (fun _ i _ => lls.length - (intOf i).toNat)
  case atStart => exact ⟨0, Nat.zero_le _, rfl, fun j _ hj => absurd hj (by omega), Below.refl _ _⟩
  case round =>
    obtain ⟨k, hk, rfl, HN, hb⟩ := hrel
    by_cases hlt : k < lls.length
    · obtain ⟨b, off, Ai, ci, rfl, hbl, hc, hri⟩ := hr.at k hlt
      have hc' := (hb.cell (p := ⟨b, off + k, none⟩) hbl).trans hc
      have hri' := hri.next hb
      have hml' := hml _ (List.getElem_mem hlt)
      have HQ : Hid (∀ v, q lls[k] = v → q (lls[k]'hlt) = v) := fun v h => h
      generalize hq : lls[k] = x at hc' hri' hml'
      have HX := hid hq
      clear hq hri hc HQ
      go_wp2_with fail
      refine (hp _ x Ai ci hb hml' hri').mono ?_
      rintro e w1 ⟨rfl, hb1⟩
      have hbw : Below w.heap.size w w1 := hb.trans (hb1.mono hb.size)
      cases hpq : q x with
      | false =>
        go_wp2
        go_roundw
        case rel =>
          refine ⟨k + 1, by omega, by go_num, ?_, hbw⟩
          intro j hj hjk
          by_cases e : j = k
          · subst e; rw [HX.out]; exact hpq
          · exact HN.out j hj (by omega)
        case measure => simp [intOf]; omega
      | true =>
        have hfin : idxI q lls = k := idxI_hit q lls k hlt (by rw [HX.out]; exact hpq) (fun j hj => HN.out j (by omega) hj)
        have HF := hid hfin
        clear hfin
        go_wp2
        go_ret
        exact ⟨ret_int HF.out.symm, hbw⟩
    · go_wp2
      go_ret
      exact ⟨ret_int (idxI_miss q lls fun j hj => HN.out j hj (by omega)).symm, hb⟩
theorem idxI_any {α : Type} (q : α → Bool) (l : List α) : decide (0 ≤ idxI q l) = l.any q := by
  unfold idxI
  cases h : l.findIdx? q with
  | none =>
    rw [List.findIdx?_eq_none_iff] at h
    symm
    simpa using h
  | some i =>
    rw [List.findIdx?_eq_some_iff_getElem] at h
    obtain ⟨h1, h2, _⟩ := h
    simp only [Int.natCast_nonneg, decide_true]
    exact (List.any_eq_true.2 ⟨_, List.getElem_mem h1, h2⟩).symm
theorem containsL_any (g : Nat) (cb : Array Value) (q : List Rg → Bool) (eg : ∀ args w, (callFunc g args).run Tryz.prog w = .ok (.enter g args) w)
   (A : Option Addr) (c : Nat) (lls : List (List Rg)) (w : World) (hm : lls.length ≤ 1000) (hml : ∀ l ∈ lls, l.length ≤ 10000000) (hr : LL w A lls) (hp : PredL g cb q w) :
   Calls Tryz.prog 58 #[.slice A lls.length c, .func (.func g) #[] cb] w fun e w' => e = .returned (.bool (lls.any q)) ∧ Below w.heap.size w w' := by
  rw [← idxI_any]
  go_enter Tryz.func58, Tryz.ntmps58
  go_wp2_with (go_at_call 78; refine (indexL_any g cb q eg A c lls _ hm hml hr hp).mono ?_; rintro e w' ⟨rfl, hb1⟩)
  go_ret
  exact ⟨rfl, hb1⟩
set_option maxHeartbeats 400000 in
theorem split11_any (l : List Rg) (A : Option Addr) (c rb : Nat) (x : Int) (w : World) (hm : l.length ≤ 10000000) (hr : Reads w w.heap.size 2 A l.length (flat encR l)) (hc : w.cell? ⟨rb, 0, none⟩ = some (.int .i32 x)) :
    Calls Tryz.prog 59 #[.slice A l.length c, .pointer (some ⟨rb, 0, none⟩)] w fun e w' => e = .returned (.bool (hasB l x)) ∧ Below w.heap.size w w' := by
  go_enter Tryz.func59, Tryz.ntmps59
  go_wp2_with (go_at_call 31; refine (has_any A c l x _ hm hr).mono ?_; rintro e w' ⟨rfl, hb1⟩)
  go_ret
  exact ⟨rfl, hb1⟩
theorem split11_enters : ∀ args w, (callFunc 59 args).run Tryz.prog w = .ok (.enter 59 args) w := fun _ _ => by kernel_rfl
def heldB (nl : List (List Rg)) (r : Rg) : Bool := nl.any fun l => hasB l r.1
set_option maxHeartbeats 400000 in
theorem split1_any (nl : List (List Rg)) (A : Option Addr) (c p : Nat) (r : Rg) (w : World) (hm : nl.length ≤ 1000) (hml : ∀ l ∈ nl, l.length ≤ 10000000) (hr : LL w A nl) (hc : w.cell? ⟨p, 0, none⟩ = some (.slice A nl.length c)) (hp : p < w.heap.size) :
    Calls Tryz.prog 57 #[.agg #[.int .i32 r.1, .int .i32 r.2], .pointer (some ⟨p, 0, none⟩)] w fun e w' => e = .returned (.bool (heldB nl r)) ∧ Below w.heap.size w w' := by
  have hb0 : Below w.heap.size w (w.alloc (.cells #[.int .i32 r.1, .int .i32 r.2] 66)) := (Below.refl _ _).alloc (Nat.le_refl _) _
  have hc1 := (hb0.cell (p := ⟨p, 0, none⟩) hp).trans hc
  have hpred : PredL 59 #[.pointer (some ⟨w.heap.size, 0, none⟩)] (fun l => hasB l r.1) (w.alloc (.cells #[.int .i32 r.1, .int .i32 r.2] 66)) := by
    intro wr l A c hb hml hrl
    exact split11_any l A c _ r.1 wr hml hrl ((hb.cell (p := ⟨w.heap.size, 0, none⟩) (by simp)).trans (cell_new _ _ _ _))
  unfold heldB
  go_enter Tryz.func57, Tryz.ntmps57
  go_wp2_with (go_at_call 58; refine (containsL_any 59 _ _ split11_enters A c nl _ hm hml (hr.next hb0) hpred).mono ?_; rintro e w' ⟨rfl, hb1⟩)
  go_ret
  exact ⟨rfl, hb0.trans (hb1.mono (by simp))⟩
theorem split1_enters : ∀ args w, (callFunc 57 args).run Tryz.prog w = .ok (.enter 57 args) w := fun _ _ => by kernel_rfl
set_option maxHeartbeats 800000 in
theorem split21_any (l : List Rg) (A : Option Addr) (c ra rb : Nat) (x y : Int) (w : World) (hm : l.length ≤ 10000000) (hr : Reads w w.heap.size 2 A l.length (flat encR l)) (hc : w.cell? ⟨ra, 0, none⟩ = some (.int .i32 x)) (hd : w.cell? ⟨rb, 0, none⟩ = some (.int .i32 y)) :
    Calls Tryz.prog 61 #[.slice A l.length c, .pointer (some ⟨ra, 0, none⟩), .pointer (some ⟨rb, 0, none⟩)] w fun e w' => e = .returned (.bool (hasB l x != hasB l y)) ∧ Below w.heap.size w w' := by
  have q1 := fun d os => cell_regrown hc d os
  have q2 := fun d os => cell_regrown hd d os
  have ca := fun dd os => has_quiet A c l x w dd os hm hr
  have cb := fun dd os => has_quiet A c l y w dd os hm hr
  generalize hasB l x = bx at ca ⊢
  generalize hasB l y = bz at cb ⊢
  go_enter Tryz.func61, Tryz.ntmps61
  go_wp2
  refine wp_region_quiet_below (by kernel_rfl) (by kernel_rfl) ?_
  repeat (quiet_step (first | exact ca _ _ | exact cb _ _))
  refine wpQuiet_nil ?_
  intro _ hw'
  obtain ⟨⟨dq, osq⟩, hw''⟩ := hw'
  subst hw''
  go_wp2
  go_ret
  exact ⟨ret_bool (by cases bx <;> cases bz <;> rfl), below_regrown w dq osq⟩
theorem split21_enters : ∀ args w, (callFunc 61 args).run Tryz.prog w = .ok (.enter 61 args) w := fun _ _ => by kernel_rfl
def alikeB (nl : List (List Rg)) (a b : Rg) : Bool := (a.2 + 1 == b.1) && !(nl.any fun l => hasB l a.1 != hasB l b.1)
set_option maxHeartbeats 800000 in
theorem split2_any (nl : List (List Rg)) (A : Option Addr) (c p : Nat) (a b : Rg) (w : World) (hwa : Wf a) (hwb : Wf b) (hm : nl.length ≤ 1000) (hml : ∀ l ∈ nl, l.length ≤ 10000000) (hr : LL w A nl) (hc : w.cell? ⟨p, 0, none⟩ = some (.slice A nl.length c)) (hp : p < w.heap.size) :
    Calls Tryz.prog 60 #[.agg #[.int .i32 a.1, .int .i32 a.2], .agg #[.int .i32 b.1, .int .i32 b.2], .pointer (some ⟨p, 0, none⟩)] w fun e w' => e = .returned (.bool (alikeB nl a b)) ∧ Below w.heap.size w w' := by
  obtain ⟨w1, hw1⟩ : ∃ w1, w1 = (w.alloc (.cells #[.int .i32 a.1, .int .i32 a.2] 66)).alloc (.cells #[.int .i32 b.1, .int .i32 b.2] 66) := ⟨_, rfl⟩
  have hb0 : Below w.heap.size w w1 := by rw [hw1]; exact ((Below.refl _ _).alloc (Nat.le_refl _) _).alloc (by simp) _
  have hs1 : w1.heap.size = w.heap.size + 2 := by rw [hw1]; simp
  have k1 : w1.cell? ⟨w.heap.size, 0, none⟩ = some (.int .i32 a.1) := by
    rw [hw1, World.cell?_alloc_lt _ _ _ (by simp)]; exact cell_new _ _ _ _
  have k1' : w1.cell? ⟨w.heap.size, 1, none⟩ = some (.int .i32 a.2) := by
    rw [hw1, World.cell?_alloc_lt _ _ _ (by simp)]; exact cell_new _ _ _ _
  have k2 : w1.cell? ⟨w.heap.size + 1, 0, none⟩ = some (.int .i32 b.1) := by
    rw [hw1, ← size_alloc w (.cells #[.int .i32 a.1, .int .i32 a.2] 66)]; exact cell_new _ _ _ _
  have hc1 := (hb0.cell (p := ⟨p, 0, none⟩) hp).trans hc
  have hr1 := hr.next hb0
  have hpred : PredL 61 #[.pointer (some ⟨w.heap.size, 0, none⟩), .pointer (some ⟨w.heap.size + 1, 0, none⟩)] (fun l => hasB l a.1 != hasB l b.1) w1 := by
    intro wr l A c hb hml hrl
    exact split21_any l A c _ _ a.1 b.1 wr hml hrl ((hb.cell (p := ⟨w.heap.size, 0, none⟩) (by show w.heap.size < w1.heap.size; omega)).trans k1) ((hb.cell (p := ⟨w.heap.size + 1, 0, none⟩) (by show w.heap.size + 1 < w1.heap.size; omega)).trans k2)
  have HS := hid hs1
  clear hs1
  obtain ⟨⟨a1, a2⟩, ⟨a3, a4⟩⟩ := hwa
  obtain ⟨⟨b1, b2⟩, ⟨b3, b4⟩⟩ := hwb
  unfold alikeB
  generalize hbb : (nl.any fun l => hasB l a.1 != hasB l b.1) = bb
  have HB := hid hbb
  clear hbb
  cases he : (a.2 + 1 == b.1) with
  | true =>
    have he' : ((a.2 + 1) == b.1) = true := he
    go_enter Tryz.func60, Tryz.ntmps60
    go_wp2_with fail
    rw [← hw1]
    clear hw1 k1 k1' k2 hc1
    refine (containsL_any 61 _ _ split21_enters A c nl _ hm hml hr1 hpred).mono ?_
    rw [HB.out]
    rintro e w' ⟨rfl, hb1⟩
    cases bb <;>
    (go_wp2_with fail
     go_ret
     exact ⟨rfl, hb0.trans (hb1.mono (by have := HS.out; omega))⟩)
  | false =>
    have he' : ((a.2 + 1) == b.1) = false := he
    go_enter Tryz.func60, Tryz.ntmps60
    go_wp2_with fail
    go_ret
    exact ⟨ret_bool (by simp), by rw [← hw1]; exact hb0⟩
theorem split2_enters : ∀ args w, (callFunc 60 args).run Tryz.prog w = .ok (.enter 60 args) w := fun _ _ => by kernel_rfl
/-- one piece more: it goes on, or begins anew -/
def addS (nl : List (List Rg)) (out : List Rg) (r : Rg) : List Rg := match out.getLast? with
  | some q => if alikeB nl q r then out.dropLast ++ [(q.1, r.2)] else out ++ [r]
  | none => [r]
def foldS (nl : List (List Rg)) (l : List Rg) : List Rg := l.foldl (addS nl) []
theorem foldS_snoc (nl : List (List Rg)) (l : List Rg) (k : Nat) (h : k < l.length) : foldS nl (l.take (k+1)) = addS nl (foldS nl (l.take k)) l[k] := by
  rw [List.take_succ_eq_append_getElem h, foldS, List.foldl_append]
  rfl
theorem addS_len (nl : List (List Rg)) (m : List Rg) (r : Rg) : (addS nl m r).length ≤ m.length + 1 := by
  unfold addS
  split
  · split <;> simp
  · simp
theorem foldS_len (nl : List (List Rg)) (l : List Rg) (k : Nat) (hk : k ≤ l.length) : (foldS nl (l.take k)).length ≤ k := by
  induction k with
  | zero => simp [foldS]
  | succ k ih =>
    rw [foldS_snoc nl l k (by omega)]
    have := addS_len nl (foldS nl (l.take k)) l[k]
    have := ih (by omega)
    omega
theorem WfL.addS {nl : List (List Rg)} {m : List Rg} {r : Rg} (hm : WfL m) (hr : Wf r) : WfL (addS nl m r) := by
  unfold YtoclbcfgfaialaaGreatDoor.addS
  split
  · rename_i q hq
    have hqw := hm q (List.mem_of_getLast? hq)
    split
    · intro x hx
      rcases List.mem_append.1 hx with h | h
      · exact hm x (List.dropLast_subset _ h)
      · simp at h; subst h; unfold Wf at *; simp only; omega
    · intro x hx
      rcases List.mem_append.1 hx with h | h
      · exact hm x h
      · simp at h; subst h; exact hr
  · intro x hx; simp at hx; subst hx; exact hr
/-- the neat lists, so far, in the row that Split makes -/
def NeatRow (gN : Nat) (lls : List (List Rg)) (k : Nat) (wr : World) : Prop :=
  ∃ cs : Array Value, wr.heap[gN]? = some (.cells cs 28 (0, 0)) ∧ cs.size = lls.length ∧
    ∀ i (h : i < lls.length), i < k → ∃ Ai ci, cs[i]? = some (.slice Ai (neatOf lls[i]).length ci) ∧ OwnC wr (gN+1) 66 2 (.slice Ai (neatOf lls[i]).length ci) (neatOf lls[i]).length (flat encR (neatOf lls[i]))
theorem NeatRow.lt {gN k : Nat} {lls : List (List Rg)} {wr : World} (h : NeatRow gN lls k wr) : gN < wr.heap.size := by
  obtain ⟨cs, hh, _⟩ := h
  rcases Nat.lt_or_ge gN wr.heap.size with h | h
  · exact h
  · rw [Array.getElem?_eq_none h] at hh; cases hh
theorem NeatRow.next {gN k B : Nat} {lls : List (List Rg)} {wr w' : World} (h : NeatRow gN lls k wr) (hb : Below B wr w') (hB : wr.heap.size ≤ B) : NeatRow gN lls k w' := by
  have hlt := h.lt
  obtain ⟨cs, hh, h2, h3⟩ := h
  refine ⟨cs, by rw [hb.block gN (by omega)]; exact hh, h2, fun i hi hk => ?_⟩
  obtain ⟨Ai, ci, h4, h5⟩ := h3 i hi hk
  exact ⟨Ai, ci, h4, h5.below hb hB⟩
theorem NeatRow.put {gN k c : Nat} {lls : List (List Rg)} {wr : World} {A : Option Addr} (h : NeatRow gN lls k wr) (hk : k < lls.length)
    (hown : OwnC wr (gN+1) 66 2 (.slice A (neatOf lls[k]).length c) (neatOf lls[k]).length (flat encR (neatOf lls[k]))) :
    NeatRow gN lls (k+1) (wr.setCell ⟨gN, k, none⟩ (.slice A (neatOf lls[k]).length c)) := by
  obtain ⟨cs, hh, h2, h3⟩ := h
  refine ⟨cs.setIfInBounds k (.slice A (neatOf lls[k]).length c), by simp [World.setCell, Array.getElem?_modify, hh], by simpa using h2, fun i hi hik => ?_⟩
  by_cases e : i = k
  · subst e
    exact ⟨A, c, by simp [h2, hk], hown.set_below (by show gN < gN + 1; omega) _⟩
  · obtain ⟨Ai, ci, h4, h5⟩ := h3 i hi (by omega)
    exact ⟨Ai, ci, by rw [Array.getElem?_setIfInBounds, if_neg (fun h => e h.symm)]; exact h4, h5.set_below (by show gN < gN + 1; omega) _⟩
theorem NeatRow.ll {gN : Nat} {lls : List (List Rg)} {wr : World} (h : NeatRow gN lls lls.length wr) : LL wr (some ⟨gN, 0, none⟩) (lls.map neatOf) := by
  have hlt := h.lt
  obtain ⟨cs, hh, h2, h3⟩ := h
  refine ⟨cs.toList, ⟨by simp [h2], fun _ => ⟨gN, 0, rfl, hlt, fun j u hu => ?_⟩⟩, fun i hi => ?_⟩
  · simp only [World.cell?, hh]
    simpa using hu
  · have hi' : i < lls.length := by simpa using hi
    obtain ⟨Ai, ci, h4, h5⟩ := h3 i hi' hi'
    rw [List.getElem_map]
    exact ⟨Ai, ci, by simpa using h4, h5.reads⟩
end Go.Proofs.YtoclbcfgfaialaaGreatDoor
