/-
  Looks: CfOr, CfIx (texts joined).
-/
import Derived.StillTactics
import Derived.Test.YtnpcjbdolmmaeaaGreatDoorL01
import Derived.Test.YtnpcjbdolmmaeaaGreatDoorL05
import Derived.Test.YtnpcjbdolmmaeaaGreatDoorL08
import Derived.Test.YtnpcjbdolmmaeaaGreatDoorL09
import Derived.Test.YtnpcjbdolmmaeaaGreatDoorL11
import Derived.Test.YtnpcjbdolmmaeaaGreatDoorL12
namespace Go.Proofs.YtnpcjbdolmmaeaaGreatDoor
open Go.RowKit Go.Sort
set_option maxRecDepth 100000
def cmpZ (a b : Int) : Int := if a < b then -1 else if b < a then 1 else 0
def cmpZL : List Int → List Int → Int
  | [], [] => 0
  | [], _ :: _ => -1
  | _ :: _, [] => 1
  | a :: l, b :: m => if cmpZ a b = 0 then cmpZL l m else cmpZ a b
def orZ : List Int → Int
  | [] => 0
  | a :: l => if a = 0 then orZ l else a
def ordZ (a b : Cf.Cfg) : Int :=
  if orZ [cmpZ a.alt b.alt, cmpZ a.state b.state, cmpZL a.stack b.stack] ≠ 0 ∨ a.ended = b.ended then orZ [cmpZ a.alt b.alt, cmpZ a.state b.state, cmpZL a.stack b.stack] else if b.ended = true then -1 else 1
theorem cmpZ_eq (a b : Int) : cmpZ a b = (Cf.cmpI a b : Int) - 1 := by
  unfold cmpZ Cf.cmpI
  by_cases h1 : a < b
  · rw [if_pos h1, if_pos h1]; rfl
  · by_cases h2 : a = b
    · rw [if_neg h1, if_neg (by omega), if_neg h1, if_pos h2]; rfl
    · rw [if_neg h1, if_pos (by omega), if_neg h1, if_neg h2]; rfl
theorem cmpZL_eq : ∀ l m : List Int, cmpZL l m = (Cf.cmpL l m : Int) - 1
  | [], [] => rfl
  | [], _ :: _ => rfl
  | _ :: _, [] => rfl
  | a :: l, b :: m => by
    have ih := cmpZL_eq l m
    show (if cmpZ a b = 0 then cmpZL l m else cmpZ a b) = ((if a < b then 0 else if a = b then Cf.cmpL l m else 2 : Nat) : Int) - 1
    by_cases h1 : a < b
    · have e : cmpZ a b = -1 := by simp [cmpZ, h1]
      rw [e, if_neg (by decide), if_pos h1]; rfl
    · by_cases h2 : a = b
      · have e : cmpZ a b = 0 := by simp [cmpZ, h2]
        rw [e, if_pos rfl, if_neg h1, if_pos h2]; exact ih
      · have h3 : b < a := by omega
        have e : cmpZ a b = 1 := by simp [cmpZ, h1, h3]
        rw [e, if_neg (by decide), if_neg h1, if_neg h2]; rfl
theorem orZ3 (p q r : Nat) : orZ [(p : Int) - 1, (q : Int) - 1, (r : Int) - 1] = (Cf.andThen p (Cf.andThen q r) : Int) - 1 := by
  simp only [orZ, Cf.andThen]
  by_cases hp : p = 1
  · subst hp
    by_cases hq : q = 1
    · subst hq
      by_cases hr : r = 1
      · subst hr; rfl
      · simp; omega
    · have : ¬ ((q : Int) - 1 = 0) := by omega
      simp [hq, this]
  · have : ¬ ((p : Int) - 1 = 0) := by omega
    simp [hp, this]
theorem andThen_assoc (p q r b : Nat) : Cf.andThen p (Cf.andThen q (Cf.andThen r b)) = Cf.andThen (Cf.andThen p (Cf.andThen q r)) b := by
  unfold Cf.andThen
  by_cases hp : p = 1
  · rw [if_pos hp, if_pos hp]
    by_cases hq : q = 1
    · rw [if_pos hq, if_pos hq]
    · rw [if_neg hq, if_neg hq, if_neg hq]
  · rw [if_neg hp, if_neg hp, if_neg hp]
theorem ordZ_eq (a b : Cf.Cfg) : ordZ a b = (Cf.ord a b : Int) - 1 := by
  unfold ordZ Cf.ord
  rw [cmpZ_eq, cmpZ_eq, cmpZL_eq, orZ3, andThen_assoc]
  generalize Cf.andThen (Cf.cmpI a.alt b.alt) (Cf.andThen (Cf.cmpI a.state b.state) (Cf.cmpL a.stack b.stack)) = n
  unfold Cf.andThen Cf.cmpB
  generalize a.ended = x
  generalize b.ended = y
  by_cases hn : n = 1
  · subst hn
    rw [if_pos rfl]
    cases x <;> cases y <;> decide
  · rw [if_pos (.inl (by omega)), if_neg hn]
theorem ret_boolZ {b c : Bool} (h : b = c) : Ending.returned (.bool b) = Ending.returned (.bool c) := by rw [h]
set_option maxHeartbeats 400000 in
theorem isnanZ_any (a : Int) (w : World) : Calls Tryz.prog 105 #[.int .i64 a] w fun e w' => e = .returned (.bool false) ∧ w' = w := by
  go_enter Tryz.func105, Tryz.ntmps105
  go_wp2
  go_ret
  exact ⟨ret_boolZ (by simp), rfl⟩
set_option maxHeartbeats 400000 in
theorem cmpZ_any (a b : Int) (w : World) : Calls Tryz.prog 86 #[.int .i64 a, .int .i64 b] w fun e w' => e = .returned (.int .i64 (cmpZ a b)) ∧ w' = w := by
  by_cases h1 : a < b
  · have hf : cmpZ a b = -1 := by simp [cmpZ, h1]
    rw [hf]
    clear hf
    go_enter Tryz.func86, Tryz.ntmps86
    go_wp2_with (go_at_call 105; refine (isnanZ_any _ _).mono ?_; rintro e w' ⟨rfl, rfl⟩)
    go_ret
    exact ⟨rfl, rfl⟩
  · by_cases h2 : b < a
    · have hf : cmpZ a b = 1 := by simp [cmpZ, h1, h2]
      rw [hf]
      clear hf
      go_enter Tryz.func86, Tryz.ntmps86
      go_wp2_with (go_at_call 105; refine (isnanZ_any _ _).mono ?_; rintro e w' ⟨rfl, rfl⟩)
      go_ret
      exact ⟨rfl, rfl⟩
    · have hf : cmpZ a b = 0 := by simp [cmpZ, h1, h2]
      rw [hf]
      clear hf
      go_enter Tryz.func86, Tryz.ntmps86
      go_wp2_with (go_at_call 105; refine (isnanZ_any _ _).mono ?_; rintro e w' ⟨rfl, rfl⟩)
      go_ret
      exact ⟨rfl, rfl⟩
set_option maxHeartbeats 2000000 in
theorem orZ_any (l : List Int) (A : Option Addr) (c B : Nat) (w : World) (hl : l.length ≤ 1000000) (hr : Reads w B 1 A l.length (l.map (Value.int .i64))) : Calls Tryz.prog 85 #[.slice A l.length c] w fun e w' => e = .returned (.int .i64 (orZ l)) ∧ w' = w := by
  go_enter Tryz.func85, Tryz.ntmps85
  go_wp2
  go_loopw [5, 8] (fun _ i wr => ∃ j : Nat, j ≤ l.length ∧ i = .int .i64 (j : Int) ∧ wr = w ∧ orZ l = orZ (l.drop j)) (fun _ i _ => l.length - (intOf i).toNat)
  case atStart => exact ⟨0, Nat.zero_le _, rfl, rfl, rfl⟩
  case round =>
    obtain ⟨j, hj, rfl, hwr, ho⟩ := hrel
    subst hwr
    have HO := hid ho
    clear ho
    by_cases hlt : j < l.length
    · obtain ⟨b, off, hA, hbl, hcell⟩ := hr.2 (by omega)
      have kc := hcell j (.int .i64 l[j]) (by rw [List.getElem?_map, List.getElem?_eq_getElem hlt]; rfl)
      have hd : l.drop j = l[j] :: l.drop (j + 1) := List.drop_eq_getElem_cons hlt
      have HD := hid hd
      clear hd hcell
      rw [hA]
      have HA := hid hA
      clear hA
      generalize l[j] = x at kc HD
      by_cases hx : x = 0
      · have f1 : (x == 0) = true := by rw [hx]; rfl
        have HX := hid hx
        clear hx
        go_wp2
        go_roundw
        case rel => exact ⟨j + 1, hlt, by go_num, trivial, by rw [HO.out, HD.out]; show (if x = 0 then _ else _) = _; rw [if_pos HX.out]⟩
        case measure => simp [intOf]; omega
      · have f1 : (x == 0) = false := by rw [beq_eq_false_iff_ne]; exact hx
        have HX := hid hx
        clear hx
        go_wp2
        go_ret
        exact ⟨by rw [HO.out, HD.out, show orZ (x :: l.drop (j + 1)) = x from if_neg HX.out]; rfl, rfl⟩
    · go_wp2
      go_ret
      exact ⟨by rw [HO.out, List.drop_eq_nil_of_le (by omega)]; rfl, rfl⟩
set_option maxHeartbeats 2000000 in
theorem cmpZL_any (l m : List Int) (A A2 : Option Addr) (c c2 B : Nat) (w : World) (hl : l.length ≤ 1000000) (hr : Reads w B 1 A l.length (l.map (Value.int .i64))) (hr2 : Reads w B 1 A2 m.length (m.map (Value.int .i64))) : Calls Tryz.prog 87 #[.slice A l.length c, .slice A2 m.length c2] w fun e w' => e = .returned (.int .i64 (cmpZL l m)) ∧ w' = w := by
  obtain ⟨z, hz⟩ : ∃ z, cmpZL l m = z := ⟨_, rfl⟩
  rw [hz]
  go_enter Tryz.func87, Tryz.ntmps87
  go_wp2
  go_loopw [5, 6, 7, 8, 11] (fun _ _ _ _ i wr => ∃ j : Nat, j ≤ l.length ∧ j ≤ m.length ∧ i = .int .i64 (j : Int) ∧ wr = w ∧ z = cmpZL (l.drop j) (m.drop j)) (fun _ _ _ _ i _ => l.length - (intOf i).toNat)
  case atStart => exact ⟨0, Nat.zero_le _, Nat.zero_le _, rfl, rfl, hz.symm⟩
  case round =>
    obtain ⟨j, hj, hjm, rfl, hwr, ho⟩ := hrel
    subst hwr
    have HO := hid ho
    clear ho
    by_cases hlt : j < l.length
    · obtain ⟨b, off, hA, hbl, hcell⟩ := hr.2 (by omega)
      have kc := hcell j (.int .i64 l[j]) (by rw [List.getElem?_map, List.getElem?_eq_getElem hlt]; rfl)
      have HD := hid (show l.drop j = l[j] :: l.drop (j + 1) from List.drop_eq_getElem_cons hlt)
      clear hcell
      have HA := hid hA
      generalize l[j] = x at kc HD
      by_cases hlm : j < m.length
      · obtain ⟨b2, off2, hA2, hbl2, hcell2⟩ := hr2.2 (by omega)
        have kc2 := hcell2 j (.int .i64 m[j]) (by rw [List.getElem?_map, List.getElem?_eq_getElem hlm]; rfl)
        have HD2 := hid (show m.drop j = m[j] :: m.drop (j + 1) from List.drop_eq_getElem_cons hlm)
        clear hcell2
        have HA2 := hid hA2
        generalize m[j] = y at kc2 HD2
        rw [hA, hA2]
        clear hA hA2
        go_wp2_with fail
        go_at_call 86
        refine (cmpZ_any x y wr).mono ?_
        rintro _ w' ⟨rfl, rfl⟩
        by_cases hx : cmpZ x y = 0
        · have HX := hid hx
          rw [hx]
          clear hx
          go_wp2
          go_roundw
          case rel => exact ⟨j + 1, hlt, hlm, by go_num, trivial, by rw [HO.out, HD.out, HD2.out]; show (if cmpZ x y = 0 then _ else _) = _; rw [if_pos HX.out]⟩
          case measure => simp [intOf]; omega
        · have f1 : (cmpZ x y == 0) = false := by rw [beq_eq_false_iff_ne]; exact hx
          have HX := hid (show z = cmpZ x y by rw [HO.out, HD.out, HD2.out]; show (if cmpZ x y = 0 then _ else _) = _; rw [if_neg hx])
          clear hx
          generalize cmpZ x y = z' at f1 HX ⊢
          go_wp2
          go_ret
          exact ⟨by rw [HX.out]; rfl, rfl⟩
      · have HX := hid (show z = 1 by rw [HO.out, HD.out, List.drop_eq_nil_of_le (show m.length ≤ j by omega)]; rfl)
        rw [hA]
        clear hA
        go_wp2
        go_ret
        exact ⟨by rw [HX.out]; rfl, rfl⟩
    · have hje : j = l.length := by omega
      subst hje
      by_cases hlm : l.length < m.length
      · have HX := hid (show z = -1 by
          rw [HO.out, List.drop_length, List.drop_eq_getElem_cons hlm]; rfl)
        go_wp2
        go_ret
        exact ⟨by rw [HX.out]; rfl, rfl⟩
      · have HX := hid (show z = 0 by
          rw [HO.out, List.drop_length, List.drop_eq_nil_of_le (show m.length ≤ l.length by omega)]; rfl)
        go_wp2
        go_ret
        exact ⟨by rw [HX.out]; rfl, rfl⟩
set_option maxHeartbeats 4000000 in
theorem order_any (x y : Cf.Cfg) (A A2 : Option Addr) (c c2 : Nat) (w : World) (hl : x.stack.length ≤ 1000000) (hr : Reads w w.heap.size 1 A x.stack.length (x.stack.map (Value.int .i64))) (hr2 : Reads w w.heap.size 1 A2 y.stack.length (y.stack.map (Value.int .i64))) :
    Calls Tryz.prog 60 #[.agg (cfC x A c).toArray, .agg (cfC y A2 c2).toArray] w fun e w' => e = .returned (.int .i64 (ordZ x y)) ∧ ∃ q os', w' = grow (w.drewN q) os' := by
  unfold cfC
  obtain ⟨zz, hzz⟩ : ∃ zz, ordZ x y = zz := ⟨_, rfl⟩
  rw [hzz]
  obtain ⟨W, hW⟩ : ∃ W, W = (w.alloc (.cells #[.int .i64 x.alt, .int .i64 x.state, .slice A x.stack.length c, .bool x.exact, .bool x.ended] 89)).alloc (.cells #[.int .i64 y.alt, .int .i64 y.state, .slice A2 y.stack.length c2, .bool y.exact, .bool y.ended] 89) := ⟨_, rfl⟩
  have z0 : (w.alloc (.cells #[.int .i64 x.alt, .int .i64 x.state, .slice A x.stack.length c, .bool x.exact, .bool x.ended] 89)).heap.size = w.heap.size + 1 := by simp
  have hb : Below w.heap.size w W := by rw [hW]; exact (below_new _ _).alloc (by omega) _
  have h0 : W.heap[w.heap.size]? = some (.cells #[.int .i64 x.alt, .int .i64 x.state, .slice A x.stack.length c, .bool x.exact, .bool x.ended] 89 (0, 0)) := by
    rw [hW, Below.heap_alloc _ _ _ (by omega)]; exact heap_alloc_new _ _
  have h1 : W.heap[w.heap.size + 1]? = some (.cells #[.int .i64 y.alt, .int .i64 y.state, .slice A2 y.stack.length c2, .bool y.exact, .bool y.ended] 89 (0, 0)) := by
    rw [hW, ← z0]; exact heap_alloc_new _ _
  have HG := hid (show W = grow w #[.cells #[.int .i64 x.alt, .int .i64 x.state, .slice A x.stack.length c, .bool x.exact, .bool x.ended] 89, .cells #[.int .i64 y.alt, .int .i64 y.state, .slice A2 y.stack.length c2, .bool y.exact, .bool y.ended] 89] by rw [hW, alloc_eq_grow, alloc_eq_grow, grow_grow]; rfl)
  go_enter Tryz.func60, Tryz.ntmps60
  go_upto_region 1 with fail
  rw [← hW]
  clear hW z0
  refine still_tail 15 (by kernel_rfl) (by kernel_rfl) ?_
  intro w2 HW2
  have h0 : w2.heap[w.heap.size]? = some (.cells #[.int .i64 x.alt, .int .i64 x.state, .slice A x.stack.length c, .bool x.exact, .bool x.ended] 89 (0, 0)) := by rw [HW2.out]; exact h0
  have h1 : w2.heap[w.heap.size + 1]? = some (.cells #[.int .i64 y.alt, .int .i64 y.state, .slice A2 y.stack.length c2, .bool y.exact, .bool y.ended] 89 (0, 0)) := by rw [HW2.out]; exact h1
  have hb2 : Below w.heap.size w w2 := by rw [HW2.out]; exact hb.drew
  have a0 : w2.cell? ⟨w.heap.size, 0, none⟩ = some (.int .i64 x.alt) := by rw [Lib.cell_of_heap h0]; rfl
  have a1 : w2.cell? ⟨w.heap.size, 1, none⟩ = some (.int .i64 x.state) := by rw [Lib.cell_of_heap h0]; rfl
  have a2 : w2.cell? ⟨w.heap.size, 2, none⟩ = some (.slice A x.stack.length c) := by rw [Lib.cell_of_heap h0]; rfl
  have a4 : w2.cell? ⟨w.heap.size, 4, none⟩ = some (.bool x.ended) := by rw [Lib.cell_of_heap h0]; rfl
  have b0 : w2.cell? ⟨w.heap.size + 1, 0, none⟩ = some (.int .i64 y.alt) := by rw [Lib.cell_of_heap h1]; rfl
  have b1 : w2.cell? ⟨w.heap.size + 1, 1, none⟩ = some (.int .i64 y.state) := by rw [Lib.cell_of_heap h1]; rfl
  have b2 : w2.cell? ⟨w.heap.size + 1, 2, none⟩ = some (.slice A2 y.stack.length c2) := by rw [Lib.cell_of_heap h1]; rfl
  have b4 : w2.cell? ⟨w.heap.size + 1, 4, none⟩ = some (.bool y.ended) := by rw [Lib.cell_of_heap h1]; rfl
  have hr' := hr.below hb2
  have hr2' := hr2.below hb2
  have hlt : w.heap.size + 1 < w2.heap.size := heap_lt h1
  have HOZ := hid (show zz = if orZ [cmpZ x.alt y.alt, cmpZ x.state y.state, cmpZL x.stack y.stack] ≠ 0 ∨ x.ended = y.ended then orZ [cmpZ x.alt y.alt, cmpZ x.state y.state, cmpZL x.stack y.stack] else if y.ended = true then -1 else 1 by rw [← hzz]; rfl)
  have hg2 : ∃ q os', w2 = grow (w.drewN q) os' := ⟨1, _, by rw [HW2.out, HG.out]; rfl⟩
  have HG2 := hid hg2
  clear HW2 h0 h1 hb hb2 hg2 hr hr2 hzz
  simp only [List.take_succ_cons, List.take_zero, List.drop_succ_cons, List.drop_zero]
  still_step
  still_step
  still_step
  still_step
  still_call (cmpZ_any x.alt y.alt w2)
  still_step
  still_step
  still_step
  still_step
  still_call (cmpZ_any x.state y.state w2)
  still_step
  still_step
  still_step
  still_step
  still_call (cmpZL_any x.stack y.stack A A2 c c2 _ w2 hl hr' hr2')
  refine wpStill_nil ?_
  generalize cmpZ x.alt y.alt = p at *
  generalize cmpZ x.state y.state = q at *
  generalize cmpZL x.stack y.stack = r at *
  clear hr' hr2' a0 a1 a2 b0 b1 b2
  have HG3 := hid (show ∃ q' os', w2.alloc (.cells #[.int .i64 p, .int .i64 q, .int .i64 r] 3) = grow (w.drewN q') os' by
    obtain ⟨q', os', e⟩ := HG2.out
    rw [e, alloc_eq_grow, grow_grow]
    exact ⟨_, _, rfl⟩)
  have hr3 : Reads (w2.alloc (.cells #[.int .i64 p, .int .i64 q, .int .i64 r] 3)) (w2.heap.size + 1) 1 (some ⟨w2.heap.size, 0, none⟩) 3 ([p, q, r].map (Value.int .i64)) :=
    ⟨rfl, fun _ => ⟨_, _, rfl, Nat.lt_succ_self _, fun k u hk => by rw [cell_new, Nat.zero_add]; simpa using hk⟩⟩
  have a4 := ((below_new w2 (.cells #[.int .i64 p, .int .i64 q, .int .i64 r] 3)).cell (p := ⟨w.heap.size, 4, none⟩) (Nat.lt_of_succ_lt hlt)).trans a4
  have b4 := ((below_new w2 (.cells #[.int .i64 p, .int .i64 q, .int .i64 r] 3)).cell (p := ⟨w.heap.size + 1, 4, none⟩) hlt).trans b4
  go_wp2_with fail
  go_at_call 85
  refine (orZ_any [p, q, r] (some ⟨w2.heap.size, 0, none⟩) 3 _ _ (by simp) hr3).mono ?_
  rintro _ w4 ⟨rfl, hw4⟩
  rw [← hw4] at a4 b4 HG3
  clear hw4 hr3
  generalize orZ [p, q, r] = n at *
  generalize x.ended = xe at a4 HOZ
  generalize y.ended = ye at b4 HOZ
  by_cases hn : n = 0
  · have f1 : (n == 0) = true := by rw [hn]; rfl
    have HN := hid hn
    clear hn
    cases xe <;> cases ye
    all_goals
      go_wp2
      go_ret
      exact ⟨by rw [HOZ.out, HN.out]; rfl, HG3.out⟩
  · have f1 : (n == 0) = false := by rw [beq_eq_false_iff_ne]; exact hn
    have HN := hid hn
    clear hn
    go_wp2
    go_ret
    exact ⟨by rw [HOZ.out, if_pos (.inl HN.out)]; rfl, HG3.out⟩
end Go.Proofs.YtnpcjbdolmmaeaaGreatDoor
namespace Go.Proofs.YtnpcjbdolmmaeaaGreatDoor
open Go.RowKit
set_option maxRecDepth 100000
theorem ret_int {k : IntKind} {i j : Int} (h : i = j) : Ending.returned (.int k i) = .returned (.int k j) := by rw [h]
def idxI {α : Type} (p : α → Bool) (l : List α) : Int := match l.findIdx? p with | some i => i | none => -1
theorem idxI_hit {α : Type} (p : α → Bool) (l : List α) (k : Nat) (hk : k < l.length) (h : p l[k] = true) (hn : ∀ j (hj : j < k), p (l[j]'(by omega)) = false) : idxI p l = k := by
  unfold idxI
  have : l.findIdx? p = some k := by
    rw [List.findIdx?_eq_some_iff_getElem]
    exact ⟨hk, h, fun j hj => by simp [hn j hj]⟩
  rw [this]
theorem idxI_miss {α : Type} (p : α → Bool) (l : List α) (hn : ∀ j (hj : j < l.length), p l[j] = false) : idxI p l = -1 := by
  unfold idxI
  have : l.findIdx? p = none := by
    rw [List.findIdx?_eq_none_iff]
    intro x hx
    obtain ⟨j, hj, rfl⟩ := List.getElem_of_mem hx
    exact hn j hj
  rw [this]
theorem idxI_any' {α : Type} (p : α → Bool) (l : List α) : decide (0 ≤ idxI p l) = l.any p := by
  unfold idxI
  cases h : l.findIdx? p with
  | none =>
    have := List.findIdx?_eq_none_iff.1 h
    have : l.any p = false := by simpa using this
    rw [this]; decide
  | some i =>
    obtain ⟨h1, h2, _⟩ := List.findIdx?_eq_some_iff_getElem.1 h
    have : l.any p = true := List.any_eq_true.2 ⟨_, List.getElem_mem h1, h2⟩
    rw [this]; simp
def PredC1 {α : Type} (g : Nat) (cb : Array Value) (q : α → Bool) (l : List α) (vs : List Value) (w : World) : Prop :=
  ∀ (wr : World) (i : Nat) (x0 : Value) (hi : i < l.length), vs[i]? = some x0 → Below w.heap.size w wr → Calls Tryz.prog g (#[x0] ++ cb) wr fun e w' => e = .returned (.bool (q l[i])) ∧ Below wr.heap.size wr w'
theorem readsC1 {w w' : World} {B n : Nat} {A : Option Addr} {vs : List Value} (hr : Reads w B 1 A n vs) (hb : Below B w w') (i : Nat) (hi : i < n) :
    ∃ b off x0, A = some ⟨b, off, none⟩ ∧ b < B ∧ w'.cell? ⟨b, off + i, none⟩ = some x0 ∧ vs[i]? = some x0 := by
  obtain ⟨b, off, rfl, hbl, hcell⟩ := hr.2 (by omega)
  have hl := hr.1
  have h0 := List.getElem?_eq_getElem (l := vs) (i := i) (by omega)
  refine ⟨b, off, vs[i]'(by omega), rfl, hbl, (hb.cell (p := ⟨b, off + i, none⟩) hbl).trans (by have := hcell (i) _ h0; simpa [Nat.add_assoc] using this), h0⟩
def PredC3 {α : Type} (g : Nat) (cb : Array Value) (q : α → Bool) (l : List α) (vs : List Value) (w : World) : Prop :=
  ∀ (wr : World) (i : Nat) (x0 x1 x2 : Value) (hi : i < l.length), vs[i * 3]? = some x0 → vs[i * 3 + 1]? = some x1 → vs[i * 3 + 2]? = some x2 → Below w.heap.size w wr → Calls Tryz.prog g (#[.agg #[x0, x1, x2]] ++ cb) wr fun e w' => e = .returned (.bool (q l[i])) ∧ Below wr.heap.size wr w'
theorem readsC3 {w w' : World} {B n : Nat} {A : Option Addr} {vs : List Value} (hr : Reads w B 3 A n vs) (hb : Below B w w') (i : Nat) (hi : i < n) :
    ∃ b off x0 x1 x2, A = some ⟨b, off, none⟩ ∧ b < B ∧ w'.cell? ⟨b, off + i * 3, none⟩ = some x0 ∧ w'.cell? ⟨b, off + i * 3 + 1, none⟩ = some x1 ∧ w'.cell? ⟨b, off + i * 3 + 2, none⟩ = some x2 ∧ vs[i * 3]? = some x0 ∧ vs[i * 3 + 1]? = some x1 ∧ vs[i * 3 + 2]? = some x2 := by
  obtain ⟨b, off, rfl, hbl, hcell⟩ := hr.2 (by omega)
  have hl := hr.1
  have h0 := List.getElem?_eq_getElem (l := vs) (i := i * 3) (by omega)
  have h1 := List.getElem?_eq_getElem (l := vs) (i := i * 3 + 1) (by omega)
  have h2 := List.getElem?_eq_getElem (l := vs) (i := i * 3 + 2) (by omega)
  refine ⟨b, off, vs[i * 3]'(by omega), vs[i * 3 + 1]'(by omega), vs[i * 3 + 2]'(by omega), rfl, hbl, (hb.cell (p := ⟨b, off + i * 3, none⟩) hbl).trans (by have := hcell (i * 3) _ h0; simpa [Nat.add_assoc] using this), (hb.cell (p := ⟨b, off + i * 3 + 1, none⟩) hbl).trans (by have := hcell (i * 3 + 1) _ h1; simpa [Nat.add_assoc] using this), (hb.cell (p := ⟨b, off + i * 3 + 2, none⟩) hbl).trans (by have := hcell (i * 3 + 2) _ h2; simpa [Nat.add_assoc] using this), h0, h1, h2⟩
def PredC5 {α : Type} (g : Nat) (cb : Array Value) (q : α → Bool) (l : List α) (vs : List Value) (w : World) : Prop :=
  ∀ (wr : World) (i : Nat) (x0 x1 x2 x3 x4 : Value) (hi : i < l.length), vs[i * 5]? = some x0 → vs[i * 5 + 1]? = some x1 → vs[i * 5 + 2]? = some x2 → vs[i * 5 + 3]? = some x3 → vs[i * 5 + 4]? = some x4 → Below w.heap.size w wr → Calls Tryz.prog g (#[.agg #[x0, x1, x2, x3, x4]] ++ cb) wr fun e w' => e = .returned (.bool (q l[i])) ∧ Below wr.heap.size wr w'
theorem readsC5 {w w' : World} {B n : Nat} {A : Option Addr} {vs : List Value} (hr : Reads w B 5 A n vs) (hb : Below B w w') (i : Nat) (hi : i < n) :
    ∃ b off x0 x1 x2 x3 x4, A = some ⟨b, off, none⟩ ∧ b < B ∧ w'.cell? ⟨b, off + i * 5, none⟩ = some x0 ∧ w'.cell? ⟨b, off + i * 5 + 1, none⟩ = some x1 ∧ w'.cell? ⟨b, off + i * 5 + 2, none⟩ = some x2 ∧ w'.cell? ⟨b, off + i * 5 + 3, none⟩ = some x3 ∧ w'.cell? ⟨b, off + i * 5 + 4, none⟩ = some x4 ∧ vs[i * 5]? = some x0 ∧ vs[i * 5 + 1]? = some x1 ∧ vs[i * 5 + 2]? = some x2 ∧ vs[i * 5 + 3]? = some x3 ∧ vs[i * 5 + 4]? = some x4 := by
  obtain ⟨b, off, rfl, hbl, hcell⟩ := hr.2 (by omega)
  have hl := hr.1
  have h0 := List.getElem?_eq_getElem (l := vs) (i := i * 5) (by omega)
  have h1 := List.getElem?_eq_getElem (l := vs) (i := i * 5 + 1) (by omega)
  have h2 := List.getElem?_eq_getElem (l := vs) (i := i * 5 + 2) (by omega)
  have h3 := List.getElem?_eq_getElem (l := vs) (i := i * 5 + 3) (by omega)
  have h4 := List.getElem?_eq_getElem (l := vs) (i := i * 5 + 4) (by omega)
  refine ⟨b, off, vs[i * 5]'(by omega), vs[i * 5 + 1]'(by omega), vs[i * 5 + 2]'(by omega), vs[i * 5 + 3]'(by omega), vs[i * 5 + 4]'(by omega), rfl, hbl, (hb.cell (p := ⟨b, off + i * 5, none⟩) hbl).trans (by have := hcell (i * 5) _ h0; simpa [Nat.add_assoc] using this), (hb.cell (p := ⟨b, off + i * 5 + 1, none⟩) hbl).trans (by have := hcell (i * 5 + 1) _ h1; simpa [Nat.add_assoc] using this), (hb.cell (p := ⟨b, off + i * 5 + 2, none⟩) hbl).trans (by have := hcell (i * 5 + 2) _ h2; simpa [Nat.add_assoc] using this), (hb.cell (p := ⟨b, off + i * 5 + 3, none⟩) hbl).trans (by have := hcell (i * 5 + 3) _ h3; simpa [Nat.add_assoc] using this), (hb.cell (p := ⟨b, off + i * 5 + 4, none⟩) hbl).trans (by have := hcell (i * 5 + 4) _ h4; simpa [Nat.add_assoc] using this), h0, h1, h2, h3, h4⟩
set_option maxHeartbeats 1600000 in
theorem indexZ_any {α : Type} (g : Nat) (cb : Array Value) (q : α → Bool) (eg : ∀ args w, (callFunc g args).run Tryz.prog w = .ok (.enter g args) w)
   (A : Option Addr) (c B : Nat) (l : List α) (vs : List Value) (w : World) (hm : l.length ≤ 1000000000) (hB : B ≤ w.heap.size) (hr : Reads w B 1 A l.length vs) (hp : PredC1 g cb q l vs w) :
   Calls Tryz.prog 71 #[.slice A l.length c, .func (.func g) #[] cb] w fun e w' => e = .returned (.int .i64 (idxI q l)) ∧ Below w.heap.size w w' := by
  have hr : Reads w w.heap.size 1 A l.length vs := hr.more hB
  have HP := hid hp
  clear hp
  go_enter Tryz.func71, Tryz.ntmps71
  go_wp2
  go_loopw [5, 8] (fun _ i wr => ∃ k : Nat, k ≤ l.length ∧ i = .int .i64 k ∧ Hid (∀ j (hj : j < l.length), j < k → q l[j] = false) ∧ Below w.heap.size w wr) (fun _ i _ => l.length - (intOf i).toNat)
  case atStart => exact ⟨0, Nat.zero_le _, rfl, fun j _ hj => absurd hj (by omega), Below.refl _ _⟩
  case round =>
    obtain ⟨k, hk, rfl, HN, hb⟩ := hrel
    by_cases hlt : k < l.length
    · obtain ⟨b, off, x0, rfl, hbl, c0, g0⟩ := readsC1 hr hb k hlt
      have HC := hid (HP.out wr k x0 hlt g0 hb)
      clear g0
      obtain ⟨qv, he⟩ : ∃ qv, q (l[k]'hlt) = qv := ⟨_, rfl⟩
      rw [he] at HC
      have HE := hid he
      clear he
      go_wp2_with fail
      refine HC.out.mono ?_
      rintro e w1 ⟨rfl, hb1⟩
      have hbw : Below w.heap.size w w1 := hb.trans (hb1.mono hb.size)
      cases qv with
      | false =>
        go_wp2
        go_roundw
        case rel =>
          refine ⟨k + 1, by omega, by go_num, ?_, hbw⟩
          intro j hj hjk
          by_cases e : j = k
          · subst e; exact HE.out
          · exact HN.out j hj (by omega)
        case measure => simp [intOf]; omega
      | true =>
        have hfin : idxI q l = k := idxI_hit q l k hlt HE.out (fun j hj => HN.out j (by omega) hj)
        have HF := hid hfin
        clear hfin
        go_wp2
        go_ret
        exact ⟨ret_int HF.out.symm, hbw⟩
    · go_wp2
      go_ret
      exact ⟨ret_int (idxI_miss q l fun j hj => HN.out j hj (by omega)).symm, hb⟩
theorem containsZ_any {α : Type} (g : Nat) (cb : Array Value) (q : α → Bool) (eg : ∀ args w, (callFunc g args).run Tryz.prog w = .ok (.enter g args) w)
   (A : Option Addr) (c B : Nat) (l : List α) (vs : List Value) (w : World) (hm : l.length ≤ 1000000000) (hB : B ≤ w.heap.size) (hr : Reads w B 1 A l.length vs) (hp : PredC1 g cb q l vs w) :
   Calls Tryz.prog 46 #[.slice A l.length c, .func (.func g) #[] cb] w fun e w' => e = .returned (.bool (l.any q)) ∧ Below w.heap.size w w' := by
  have HP := hid hp
  clear hp
  rw [← idxI_any']
  go_enter Tryz.func46, Tryz.ntmps46
  go_wp2_with (go_at_call 71; refine (indexZ_any g cb q eg A c B l vs _ hm hB hr HP.out).mono ?_; rintro e w' ⟨rfl, hb1⟩)
  go_ret
  exact ⟨rfl, hb1⟩
set_option maxHeartbeats 1600000 in
theorem indexAE_any {α : Type} (g : Nat) (cb : Array Value) (q : α → Bool) (eg : ∀ args w, (callFunc g args).run Tryz.prog w = .ok (.enter g args) w)
   (A : Option Addr) (c B : Nat) (l : List α) (vs : List Value) (w : World) (hm : l.length ≤ 1000000000) (hB : B ≤ w.heap.size) (hr : Reads w B 3 A l.length vs) (hp : PredC3 g cb q l vs w) :
   Calls Tryz.prog 92 #[.slice A l.length c, .func (.func g) #[] cb] w fun e w' => e = .returned (.int .i64 (idxI q l)) ∧ Below w.heap.size w w' := by
  have hr : Reads w w.heap.size 3 A l.length vs := hr.more hB
  have HP := hid hp
  clear hp
  go_enter Tryz.func92, Tryz.ntmps92
  go_wp2
  go_loopw [5, 8] (fun _ i wr => ∃ k : Nat, k ≤ l.length ∧ i = .int .i64 k ∧ Hid (∀ j (hj : j < l.length), j < k → q l[j] = false) ∧ Below w.heap.size w wr) (fun _ i _ => l.length - (intOf i).toNat)
  case atStart => exact ⟨0, Nat.zero_le _, rfl, fun j _ hj => absurd hj (by omega), Below.refl _ _⟩
  case round =>
    obtain ⟨k, hk, rfl, HN, hb⟩ := hrel
    by_cases hlt : k < l.length
    · obtain ⟨b, off, x0, x1, x2, rfl, hbl, c0, c1, c2, g0, g1, g2⟩ := readsC3 hr hb k hlt
      have HC := hid (HP.out wr k x0 x1 x2 hlt g0 g1 g2 hb)
      clear g0 g1 g2
      obtain ⟨qv, he⟩ : ∃ qv, q (l[k]'hlt) = qv := ⟨_, rfl⟩
      rw [he] at HC
      have HE := hid he
      clear he
      go_wp2_with fail
      refine HC.out.mono ?_
      rintro e w1 ⟨rfl, hb1⟩
      have hbw : Below w.heap.size w w1 := hb.trans (hb1.mono hb.size)
      cases qv with
      | false =>
        go_wp2
        go_roundw
        case rel =>
          refine ⟨k + 1, by omega, by go_num, ?_, hbw⟩
          intro j hj hjk
          by_cases e : j = k
          · subst e; exact HE.out
          · exact HN.out j hj (by omega)
        case measure => simp [intOf]; omega
      | true =>
        have hfin : idxI q l = k := idxI_hit q l k hlt HE.out (fun j hj => HN.out j (by omega) hj)
        have HF := hid hfin
        clear hfin
        go_wp2
        go_ret
        exact ⟨ret_int HF.out.symm, hbw⟩
    · go_wp2
      go_ret
      exact ⟨ret_int (idxI_miss q l fun j hj => HN.out j hj (by omega)).symm, hb⟩
theorem containsAE_any {α : Type} (g : Nat) (cb : Array Value) (q : α → Bool) (eg : ∀ args w, (callFunc g args).run Tryz.prog w = .ok (.enter g args) w)
   (A : Option Addr) (c B : Nat) (l : List α) (vs : List Value) (w : World) (hm : l.length ≤ 1000000000) (hB : B ≤ w.heap.size) (hr : Reads w B 3 A l.length vs) (hp : PredC3 g cb q l vs w) :
   Calls Tryz.prog 75 #[.slice A l.length c, .func (.func g) #[] cb] w fun e w' => e = .returned (.bool (l.any q)) ∧ Below w.heap.size w w' := by
  have HP := hid hp
  clear hp
  rw [← idxI_any']
  go_enter Tryz.func75, Tryz.ntmps75
  go_wp2_with (go_at_call 92; refine (indexAE_any g cb q eg A c B l vs _ hm hB hr HP.out).mono ?_; rintro e w' ⟨rfl, hb1⟩)
  go_ret
  exact ⟨rfl, hb1⟩
set_option maxHeartbeats 1600000 in
theorem indexCf_any {α : Type} (g : Nat) (cb : Array Value) (q : α → Bool) (eg : ∀ args w, (callFunc g args).run Tryz.prog w = .ok (.enter g args) w)
   (A : Option Addr) (c B : Nat) (l : List α) (vs : List Value) (w : World) (hm : l.length ≤ 1000000000) (hB : B ≤ w.heap.size) (hr : Reads w B 5 A l.length vs) (hp : PredC5 g cb q l vs w) :
   Calls Tryz.prog 66 #[.slice A l.length c, .func (.func g) #[] cb] w fun e w' => e = .returned (.int .i64 (idxI q l)) ∧ Below w.heap.size w w' := by
  have hr : Reads w w.heap.size 5 A l.length vs := hr.more hB
  have HP := hid hp
  clear hp
  go_enter Tryz.func66, Tryz.ntmps66
  go_wp2
  go_loopw [5, 8] (fun _ i wr => ∃ k : Nat, k ≤ l.length ∧ i = .int .i64 k ∧ Hid (∀ j (hj : j < l.length), j < k → q l[j] = false) ∧ Below w.heap.size w wr) (fun _ i _ => l.length - (intOf i).toNat)
  case atStart => exact ⟨0, Nat.zero_le _, rfl, fun j _ hj => absurd hj (by omega), Below.refl _ _⟩
  case round =>
    obtain ⟨k, hk, rfl, HN, hb⟩ := hrel
    by_cases hlt : k < l.length
    · obtain ⟨b, off, x0, x1, x2, x3, x4, rfl, hbl, c0, c1, c2, c3, c4, g0, g1, g2, g3, g4⟩ := readsC5 hr hb k hlt
      have HC := hid (HP.out wr k x0 x1 x2 x3 x4 hlt g0 g1 g2 g3 g4 hb)
      clear g0 g1 g2 g3 g4
      obtain ⟨qv, he⟩ : ∃ qv, q (l[k]'hlt) = qv := ⟨_, rfl⟩
      rw [he] at HC
      have HE := hid he
      clear he
      go_wp2_with fail
      refine HC.out.mono ?_
      rintro e w1 ⟨rfl, hb1⟩
      have hbw : Below w.heap.size w w1 := hb.trans (hb1.mono hb.size)
      cases qv with
      | false =>
        go_wp2
        go_roundw
        case rel =>
          refine ⟨k + 1, by omega, by go_num, ?_, hbw⟩
          intro j hj hjk
          by_cases e : j = k
          · subst e; exact HE.out
          · exact HN.out j hj (by omega)
        case measure => simp [intOf]; omega
      | true =>
        have hfin : idxI q l = k := idxI_hit q l k hlt HE.out (fun j hj => HN.out j (by omega) hj)
        have HF := hid hfin
        clear hfin
        go_wp2
        go_ret
        exact ⟨ret_int HF.out.symm, hbw⟩
    · go_wp2
      go_ret
      exact ⟨ret_int (idxI_miss q l fun j hj => HN.out j hj (by omega)).symm, hb⟩
theorem containsCf_any {α : Type} (g : Nat) (cb : Array Value) (q : α → Bool) (eg : ∀ args w, (callFunc g args).run Tryz.prog w = .ok (.enter g args) w)
   (A : Option Addr) (c B : Nat) (l : List α) (vs : List Value) (w : World) (hm : l.length ≤ 1000000000) (hB : B ≤ w.heap.size) (hr : Reads w B 5 A l.length vs) (hp : PredC5 g cb q l vs w) :
   Calls Tryz.prog 33 #[.slice A l.length c, .func (.func g) #[] cb] w fun e w' => e = .returned (.bool (l.any q)) ∧ Below w.heap.size w w' := by
  have HP := hid hp
  clear hp
  rw [← idxI_any']
  go_enter Tryz.func33, Tryz.ntmps33
  go_wp2_with (go_at_call 66; refine (indexCf_any g cb q eg A c B l vs _ hm hB hr HP.out).mono ?_; rintro e w' ⟨rfl, hb1⟩)
  go_ret
  exact ⟨rfl, hb1⟩
end Go.Proofs.YtnpcjbdolmmaeaaGreatDoor
namespace Go.Proofs.YtnpcjbdolmmaeaaGreatDoor
open Go.RowKit Go.Maps
set_option maxRecDepth 100000
def struck (left : Lit → Bool) (kl : Lit) : Lit → Bool := fun z => left z && !z.sameKey kl
theorem struck_false {left : Lit → Bool} {x x0 : Cf.Cfg} (h : struck left (keyL x0 false) (keyL x false) = false) : left (keyL x false) = false ∨ Cf.Like x x0 := by
  unfold struck at h
  cases hl : left (keyL x false) with
  | false => exact .inl rfl
  | true =>
    rw [hl] at h
    have h : (keyL x false).sameKey (keyL x0 false) = true := by simpa using h
    exact .inr (keyL_inj (WideAt.sameKey_eq h)).1
theorem struck_true {left : Lit → Bool} {kl z : Lit} (h : struck left kl z = true) : left z = true := by
  unfold struck at h
  exact (Bool.and_eq_true _ _ ▸ h).1
theorem struck_self {left : Lit → Bool} {x x0 : Cf.Cfg} (h : Cf.Like x x0) : struck left (keyL x0 false) (keyL x false) = false := by
  unfold struck
  rw [keyL_like h, WideAt.sameKey_self (show WideAt.IsKeyLit (keyL x0 false) by trivial)]
  simp
theorem struck_keep {left : Lit → Bool} {kl z : Lit} (h : left z = false) : struck left kl z = false := by unfold struck; rw [h]; rfl
structure SureI (v : Cf.Vw) (K : List Cf.Cfg) (left : Lit → Bool) (m : Int) : Prop where
  le : m ≤ v.d.ends.length
  low : ∀ x ∈ K, x.ended = true → x.exact = true → left (keyL x false) = false → m ≤ x.alt
  of : m = v.d.ends.length ∨ ∃ z ∈ K, z.ended = true ∧ z.exact = true ∧ m = z.alt
theorem SureI.start {v : Cf.Vw} {K : List Cf.Cfg} {left : Lit → Bool} (h : ∀ x ∈ K, left (keyL x false) = true) : SureI v K left v.d.ends.length :=
  ⟨Int.le_refl _, fun x hx _ _ e => (by rw [h x hx] at e; cases e), .inl rfl⟩
theorem SureI.skip {v : Cf.Vw} {K : List Cf.Cfg} {left : Lit → Bool} {m : Int} {x0 y : Cf.Cfg} (h : SureI v K left m) (hy : Cf.Like y x0) (he : y.exact = true ↔ ∃ z ∈ K, Cf.Like x0 z ∧ z.exact = true) (hn : (y.ended && y.exact) = false) : SureI v K (struck left (keyL x0 false)) m := by
  refine ⟨h.le, fun x hx e1 e2 e3 => ?_, h.of⟩
  rcases struck_false e3 with e | e
  · exact h.low x hx e1 e2 e
  · have h1 : y.ended = true := by rw [hy.2.2.2, ← e.2.2.2]; exact e1
    have h2 : y.exact = true := he.2 ⟨x, hx, e.symm, e2⟩
    rw [h1, h2] at hn
    cases hn
theorem SureI.take {v : Cf.Vw} {K : List Cf.Cfg} {left : Lit → Bool} {m : Int} {x0 y : Cf.Cfg} (h : SureI v K left m) (hy : Cf.Like y x0) (he : y.exact = true ↔ ∃ z ∈ K, Cf.Like x0 z ∧ z.exact = true) (hn : (y.ended && y.exact) = true) : SureI v K (struck left (keyL x0 false)) (min m y.alt) := by
  have hn1 : y.ended = true := (Bool.and_eq_true _ _ ▸ hn).1
  have hn2 : y.exact = true := (Bool.and_eq_true _ _ ▸ hn).2
  refine ⟨by have := h.le; omega, fun x hx e1 e2 e3 => ?_, ?_⟩
  · rcases struck_false e3 with e | e
    · have := h.low x hx e1 e2 e; omega
    · have h1 : y.alt = x.alt := by rw [hy.1, e.1]
      omega
  · by_cases hm : m ≤ y.alt
    · rw [Int.min_eq_left hm]; exact h.of
    · rw [Int.min_eq_right (by omega)]
      obtain ⟨z, hz, e1, e2⟩ := he.1 hn2
      exact .inr ⟨z, hz, by rw [← e1.2.2.2, ← hy.2.2.2]; exact hn1, e2, by rw [hy.1, e1.1]⟩
theorem SureI.done {v : Cf.Vw} {K : List Cf.Cfg} {left : Lit → Bool} {m : Int} (h : SureI v K left m) (hl : ∀ kl, left kl = false) : m = Cf.sureOf v K := by
  obtain ⟨h1, h2, h3⟩ := Cf.minf_spec (fun x => x.alt) (K.filter fun x => x.ended && x.exact) v.d.ends.length
  have e1 : m ≤ Cf.sureOf v K := by
    unfold Cf.sureOf
    rcases h3 with e | ⟨x, hx, e⟩
    · rw [e]; exact h.le
    · rw [e]
      obtain ⟨hx1, hx2⟩ := List.mem_filter.1 hx
      have hx2 := (Bool.and_eq_true _ _ ▸ hx2)
      exact h.low x hx1 hx2.1 hx2.2 (hl _)
  have e2 : Cf.sureOf v K ≤ m := by
    unfold Cf.sureOf
    rcases h.of with e | ⟨z, hz, e1, e2, e3⟩
    · rw [e]; exact h1
    · rw [e3]; exact h2 z (List.mem_filter.2 ⟨hz, by rw [e1, e2]; rfl⟩)
  omega
structure OutI (K : List Cf.Cfg) (sure : Int) (left : Lit → Bool) (L : List Cf.Cfg) : Prop where
  of : ∀ x ∈ L, x.alt ≤ sure ∧ ∃ y ∈ K, Cf.Like x y ∧ left (keyL y false) = false
  ex : ∀ x ∈ L, x.exact = true ↔ ∃ z ∈ K, Cf.Like x z ∧ z.exact = true
  has : ∀ y ∈ K, y.alt ≤ sure → left (keyL y false) = false → ∃ x ∈ L, Cf.Like x y
  un : L.Pairwise fun a b => ¬ Cf.Like a b
theorem OutI.start {K : List Cf.Cfg} {sure : Int} {left : Lit → Bool} (h : ∀ x ∈ K, left (keyL x false) = true) : OutI K sure left [] :=
  ⟨fun _ h => (by cases h), fun _ h => (by cases h), fun y hy _ e => (by rw [h y hy] at e; cases e), List.Pairwise.nil⟩
theorem OutI.skip {K : List Cf.Cfg} {sure : Int} {left : Lit → Bool} {L : List Cf.Cfg} {x0 y : Cf.Cfg} (h : OutI K sure left L) (hy : Cf.Like y x0) (hn : ¬ y.alt ≤ sure) : OutI K sure (struck left (keyL x0 false)) L := by
  refine ⟨fun x hx => ?_, h.ex, fun z hz e1 e2 => ?_, h.un⟩
  · obtain ⟨h1, y', h2, h3, h4⟩ := h.of x hx
    exact ⟨h1, y', h2, h3, struck_keep h4⟩
  · rcases struck_false e2 with e | e
    · exact h.has z hz e1 e
    · rw [e.1, ← hy.1] at e1; exact absurd e1 hn
theorem OutI.take {K : List Cf.Cfg} {sure : Int} {left : Lit → Bool} {L : List Cf.Cfg} {x0 y : Cf.Cfg} (h : OutI K sure left L) (hx0 : x0 ∈ K) (hl : left (keyL x0 false) = true) (hy : Cf.Like y x0) (he : y.exact = true ↔ ∃ z ∈ K, Cf.Like x0 z ∧ z.exact = true) (hn : y.alt ≤ sure) : OutI K sure (struck left (keyL x0 false)) (L ++ [y]) := by
  refine ⟨fun x hx => ?_, fun x hx => ?_, fun z hz e1 e2 => ?_, ?_⟩
  · rcases List.mem_append.1 hx with hx | hx
    · obtain ⟨h1, y', h2, h3, h4⟩ := h.of x hx
      exact ⟨h1, y', h2, h3, struck_keep h4⟩
    · rw [List.mem_singleton.1 hx]
      exact ⟨hn, x0, hx0, hy, struck_self (Cf.Like.refl _)⟩
  · rcases List.mem_append.1 hx with hx | hx
    · exact h.ex x hx
    · rw [List.mem_singleton.1 hx, he]
      exact ⟨fun ⟨z, h1, h2, h3⟩ => ⟨z, h1, hy.trans h2, h3⟩, fun ⟨z, h1, h2, h3⟩ => ⟨z, h1, hy.symm.trans h2, h3⟩⟩
  · rcases struck_false e2 with e | e
    · obtain ⟨x, h1, h2⟩ := h.has z hz e1 e
      exact ⟨x, List.mem_append_left _ h1, h2⟩
    · exact ⟨y, by simp, hy.trans e.symm⟩
  · rw [List.pairwise_append]
    refine ⟨h.un, List.pairwise_singleton _ _, fun a ha b hb => ?_⟩
    rw [List.mem_singleton.1 hb]
    intro e
    obtain ⟨_, y', h2, h3, h4⟩ := h.of a ha
    rw [keyL_like (h3.symm.trans (e.trans hy)), hl] at h4
    cases h4
theorem OutI.few {K : List Cf.Cfg} {sure : Int} {left : Lit → Bool} {L : List Cf.Cfg} (h : OutI K sure left L) {c : Cf.Cl} (hw : Cf.KW c) (hk : K = c.kept) : L.length ≤ 2 * c.wait.length := by
  have h1 := Cf.pigeon Cf.norm L ((c.wait ++ c.wait.map Cf.endC).map Cf.norm) (h.un.imp fun {a b} hab e => hab (Cf.norm_like e)) (fun x hx => by
    obtain ⟨_, y, hy, e, _⟩ := h.of x hx
    rw [hk] at hy
    obtain ⟨z, hz, e2⟩ := hw y hy
    rw [Cf.like_norm e]
    rcases e2 with e2 | e2
    · rw [e2]; exact List.mem_map_of_mem (List.mem_append_left _ hz)
    · rw [e2]; exact List.mem_map_of_mem (List.mem_append_right _ (List.mem_map_of_mem hz)))
  simp only [List.length_map, List.length_append] at h1
  omega
theorem OutI.done {K : List Cf.Cfg} {sure : Int} {left : Lit → Bool} {L L' : List Cf.Cfg} (h : OutI K sure left L) (hl : ∀ kl, left kl = false) (hp : L'.Perm L) (hs : L'.Pairwise fun a b => Cf.ord a b ≠ 2) : Cf.Canon (K.filter fun x => decide (x.alt ≤ sure)) L' := by
  have hun : L'.Pairwise fun a b => ¬ Cf.Like a b := (hp.symm.pairwise_iff (fun {a b} k e => k e.symm)).1 h.un
  refine ⟨?_, fun x hx => ?_, fun y hy => ?_, fun x hx => ?_⟩
  · refine (hs.and hun).imp fun {a b} hab => ?_
    have h1 := Cf.ord_cmp.le a b
    have h2 : Cf.ord a b ≠ 1 := fun e => hab.2 ((Cf.ord_one a b).1 e)
    have h3 := hab.1
    omega
  · obtain ⟨h1, y, h2, h3, _⟩ := h.of x (hp.mem_iff.1 hx)
    exact ⟨y, List.mem_filter.2 ⟨h2, by rw [← h3.1]; exact decide_eq_true h1⟩, h3⟩
  · obtain ⟨h1, h2⟩ := List.mem_filter.1 hy
    obtain ⟨x, h3, h4⟩ := h.has y h1 (of_decide_eq_true h2) (hl _)
    exact ⟨x, hp.mem_iff.2 h3, h4⟩
  · rw [h.ex x (hp.mem_iff.1 hx)]
    obtain ⟨h1, _⟩ := h.of x (hp.mem_iff.1 hx)
    exact ⟨fun ⟨z, h2, h3, h4⟩ => ⟨z, List.mem_filter.2 ⟨h2, by rw [← h3.1]; exact decide_eq_true h1⟩, h3, h4⟩, fun ⟨z, h2, h3, h4⟩ => ⟨z, (List.mem_filter.1 h2).1, h3, h4⟩⟩
theorem ranges_only {H : Type} {P : Program} {k : TypeId} {R : Value → Option (DataW H × List MemPlace)} {w w' : World} {b r n : Nat} {D : DataW H} {left : Lit → Bool} {cnt : Nat} {S : Nat → Prop} (h : w.ranges P k R b r n D left cnt) (ho : Only S w w') (hb : ¬ S b) (hr : ¬ S r) : w'.ranges P k R b r n D left cnt := by
  have h1 := h.lt
  have h2 := h.owns.lt
  obtain ⟨es, clock, since, seen, c0, hbk, r1, r2, r3, hrk, r4⟩ := h
  exact ⟨es, clock, since, seen, c0, (ho.block b h2 hb).trans hbk, r1, r2, r3, (ho.block r h1 hr).trans hrk, r4⟩
end Go.Proofs.YtnpcjbdolmmaeaaGreatDoor
namespace Go.Proofs.YtnpcjbdolmmaeaaGreatDoor
open Go.RowKit Go.Sort
set_option maxRecDepth 100000
theorem flatK_flatG {α : Type} [Inhabited α] (enc : α → List Value) (k : Nat) (hk : ∀ x, (enc x).length = k) (h0 : 0 < k) (l : List α) : (flatK enc k l.toArray).toList = flat enc l := by
  apply List.ext_getElem?
  intro t
  by_cases h : t < l.length * k
  · have hq : t / k < l.length := Nat.div_lt_of_lt_mul (by rwa [Nat.mul_comm] at h)
    have hr : t % k < k := Nat.mod_lt _ h0
    have h1 := flat_get enc k hk l (t / k) hq (t % k) hr
    rw [show t / k * k + t % k = t by have := Nat.div_add_mod t k; rw [Nat.mul_comm] at this; exact this] at h1
    rw [h1]
    have h2 := get_flatK enc k l.toArray t (by simpa using h)
    have h3 : (flatK enc k l.toArray).toList[t]? = some ((flatK enc k l.toArray)[t]!) := by
      rw [Array.getElem?_toList, getElem!_pos _ t (by simpa using h)]
      simp [h]
    rw [h3, h2]
    have h4 : l.toArray[t / k]! = l[t / k]'hq := by rw [getElem!_pos _ _ (by simpa using hq)]; simp
    have hr' : t % k < (enc (l[t / k]'hq)).length := by rw [hk]; exact hr
    rw [h4, getElem!_pos (enc (l[t / k]'hq)) (t % k) hr', List.getElem?_eq_getElem hr']
  · rw [List.getElem?_eq_none (by simp; omega), List.getElem?_eq_none (by rw [flat_length enc k hk]; omega)]
structure El (w : World) (S : Nat → Prop) where
  c : Cf.Cfg
  A : Option Addr
  n : Nat
  cap : c.stack.length ≤ n
  r : RO w S 1 A c.stack.length (c.stack.map (Value.int .i64))
  l : c.stack.length ≤ 1000000
def encL {w : World} {S : Nat → Prop} (x : El w S) : List Value := cfC x.c x.A x.n
theorem encL_len {w : World} {S : Nat → Prop} (x : El w S) : (encL x).length = 5 := rfl
theorem encL_one {w : World} {S : Nat → Prop} (x : El w S) : ∀ v ∈ encL x, v.oneCell' = true := by
  intro v hv
  unfold encL cfC at hv
  simp only [List.mem_cons, List.mem_nil_iff, or_false] at hv
  rcases hv with rfl | rfl | rfl | rfl | rfl <;> rfl
theorem cfs_els {w : World} {S : Nat → Prop} : ∀ {l : List Cf.Cfg} {vs : List Value}, CfsV w S l vs → (∀ x ∈ l, x.stack.length ≤ 1000000) → ∃ es : List (El w S), es.map El.c = l ∧ vs = flat encL es
  | [], _, h, _ => ⟨[], rfl, h⟩
  | x :: l, _, h, hl => by
    obtain ⟨a, b, e, ⟨A, c, ea, hc, r⟩, h2⟩ := h
    obtain ⟨es, h3, h4⟩ := cfs_els h2 (fun y hy => hl y (by simp [hy]))
    exact ⟨⟨x, A, c, hc, r, hl x (by simp)⟩ :: es, by rw [List.map_cons, h3], by rw [e, ea, h4, flat_cons]; rfl⟩
theorem swoOrd {w : World} {S : Nat → Prop} : SWO (ltOf fun x y : El w S => ordZ x.c y.c) := by
  have key : ∀ x y : El w S, ltOf (fun x y : El w S => ordZ x.c y.c) x y = decide (Cf.ord x.c y.c = 0) := fun x y => by
    show decide (ordZ x.c y.c < 0) = _
    rw [ordZ_eq]
    have := Cf.ord_cmp.le x.c y.c
    congr 1
    exact propext ⟨fun h => by omega, fun h => by omega⟩
  refine ⟨fun x => ?_, fun x y z h1 h2 => ?_, fun x y z h1 h2 => ?_⟩
  · rw [key]; exact decide_eq_false (Cf.ord_irr _)
  · rw [key] at h1 h2 ⊢
    exact decide_eq_true (Cf.ord_trans (of_decide_eq_true h1) (of_decide_eq_true h2))
  · rw [key] at h1 h2 ⊢
    have h1 := of_decide_eq_false h1
    have h2 := of_decide_eq_false h2
    refine decide_eq_false fun h => ?_
    have l1 := Cf.ord_cmp.le x.c y.c
    have l2 := Cf.ord_cmp.le y.c z.c
    have f1 := Cf.ord_cmp.flip x.c y.c
    have f2 := Cf.ord_cmp.flip y.c z.c
    have f3 := Cf.ord_cmp.flip x.c z.c
    by_cases e1 : Cf.ord x.c y.c = 1
    · have := Cf.ord_cmp.cl _ _ z.c e1; omega
    · by_cases e2 : Cf.ord y.c z.c = 1
      · have := Cf.ord_cmp.cr _ _ x.c e2; omega
      · have := Cf.ord_trans (show Cf.ord z.c y.c = 0 by omega) (show Cf.ord y.c x.c = 0 by omega)
        omega
theorem order_enters : ∀ args w, (callFunc 60 args).run Tryz.prog w = .ok (.enter 60 args) w := fun _ _ => by kernel_rfl
theorem aCf : ∀ w, (isAgg 89).run Tryz.prog w = .ok true w := fun _ => by kernel_rfl
theorem zCf : ∀ w, (Go.sizeOf 89).run Tryz.prog w = .ok 5 w := fun _ => by kernel_rfl
def SoP (base : Nat) (v : Value) (S : Nat → Prop) (l : List Cf.Cfg) (vs : List Value) (w : World) (e : Ending) (w' : World) : Prop :=
  e = .returned (.tuple #[]) ∧ ∃ es es' : List (El w S), es.map El.c = l ∧ vs = flat encL es ∧ es'.Perm es ∧ ((es'.map El.c).Pairwise fun a b => Cf.ord a b ≠ 2) ∧ w'.ownsRow base 89 5 v l.length (flat encL es') ∧ Only (fun k => v.ownBlock = some k) w w'
theorem sort_only {α : Type} (enc : α → List Value) [Inhabited α] (k : Nat) (w : World) (g m : Nat) (dk : Array α) (os : Array Obj) : Only (fun b => b = g) w (sortWorldK enc k w g 0 m dk os) := by
  refine ⟨rfl, rfl, rfl, by simp [sortWorldK, putRowK], fun b hb hn => ?_⟩
  unfold sortWorldK
  rw [heap_grow_old _ _ (by simpa [putRowK] using hb)]
  simp only [putRowK, putRow, mapBlock, Array.getElem?_modify]
  rw [if_neg (fun e => hn e.symm)]
  rfl
set_option maxHeartbeats 1000000 in
theorem sortC_any (base : Nat) (v : Value) (S : Nat → Prop) (l : List Cf.Cfg) (vs : List Value) (w : World) (hm : l.length ≤ 10000000) (hown : w.ownsRow base 89 5 v l.length vs) (hv : CfsV w S l vs) (hS : ∀ k, v.ownBlock = some k → S k) (hl : ∀ x ∈ l, x.stack.length ≤ 1000000) :
    Calls Tryz.prog 59 #[v, .func (.func 60) #[] #[]] w (SoP base v S l vs w) := by
  by_cases h0 : l.length = 0
  · have hl0 : l = [] := List.eq_nil_of_length_eq_zero h0
    subst hl0
    obtain ⟨A, c, rfl, _, _⟩ := Reads.own hown
    exact (Tryz.slices_SortFunc_none (α := Nat) A c _ w).mono fun e w' ⟨he, hw⟩ => ⟨he, [], [], rfl, hv, List.Perm.refl _, List.Pairwise.nil, by rw [hw]; rw [show vs = [] from hv] at hown; exact hown, by rw [hw]; exact Only.refl _ _⟩
  · obtain ⟨es, hes, hvs⟩ := cfs_els hv hl
    have hle : es.length = l.length := by rw [← hes, List.length_map]
    subst hvs
    rw [← hle] at hown h0
    obtain ⟨hlen, h2⟩ := hown
    have : Inhabited (El w S) := ⟨es[0]'(by omega)⟩
    rcases h2 with ⟨_, h⟩ | ⟨g, cap, cur, rfl, hg, hh, hnc, hcm, hcs, htk⟩
    · exact absurd h h0
    · have hlt : g < w.heap.size := heap_lt hh
      have hH : HoldsK encL 5 w g 0 es.toArray := by
        intro j hj
        rw [size_flatK] at hj
        have hj' : j < es.length * 5 := by simpa using hj
        refine ⟨?_, by simp [World.frozen?, hh]⟩
        have e1 : (flatK encL 5 es.toArray)[j]! = (flatK encL 5 es.toArray)[j]'(by simpa using hj') := getElem!_pos _ j _
        have e2 : (flat encL es)[j]? = some ((flatK encL 5 es.toArray)[j]'(by simpa using hj')) := by
          rw [← flatK_flatG encL 5 encL_len (by decide), Array.getElem?_toList]; simp [hj']
        rw [← htk, List.getElem?_take, if_pos hj'] at e2
        simp only [World.cell?, hh]
        simpa [e1] using e2
      have hcmp : CmpLays Tryz.prog 60 #[] encL 5 (fun x y : El w S => ordZ x.c y.c) g 0 es.toArray.size w := fun m os dk _ x y => by
        have ho : Only S w (sortWorldK encL 5 w g 0 m dk os) := (sort_only encL 5 w g m dk os).more (fun b _ e => hS b (by rw [e]; rfl))
        have r1 := (x.r.only (S' := S) ho (fun _ _ e => e)).reads
        have r2 := (y.r.only (S' := S) ho (fun _ _ e => e)).reads
        exact order_any x.c y.c x.A y.A x.n y.n _ x.l r1 r2
      refine (Tryz.slices_SortFunc 5 aCf zCf encL encL_len encL_one (fun x y : El w S => ordZ x.c y.c) swoOrd 60 #[] g 0 cap es.toArray w order_enters hcmp hH hlt (by simp; omega)).mono ?_
      rintro e w' ⟨he, d', n, os, ⟨hp1, _, hp3⟩, hs, hw⟩
      have hd : d'.size = es.length := by simpa using hp1
      have hperm : d'.toList.Perm es := by
        have := hp3
        rw [show es.toArray.size = d'.size by simpa using hp1.symm, Array.extract_size] at this
        rw [show d'.size = es.toArray.size by simpa using hp1, Array.extract_size] at this
        simpa using this
      refine ⟨he, es, d'.toList, hes, rfl, hperm, ?_, ?_, ?_⟩
      · rw [List.pairwise_map, List.pairwise_iff_getElem]
        intro i j hi hj hij
        have := hs i j (Nat.zero_le _) hij (by simpa [hd] using hj)
        rw [getElem!_pos d' j (by simpa using hj), getElem!_pos d' i (by simpa using hi)] at this
        rw [Array.getElem_toList, Array.getElem_toList]
        have h7 : ¬ (ordZ (d'[j]'(by simpa using hj)).c (d'[i]'(by simpa using hi)).c < 0) := of_decide_eq_false this
        rw [ordZ_eq] at h7
        have h8 := Cf.ord_cmp.flip (d'[j]'(by simpa using hj)).c (d'[i]'(by simpa using hi)).c
        have h9 := Cf.ord_cmp.le (d'[j]'(by simpa using hj)).c (d'[i]'(by simpa using hi)).c
        omega
      · refine ⟨by rw [flat_length encL 5 encL_len]; simp [hd, hle], .inr ⟨g, cap, putCells id 0 (flatK encL 5 d') cur, by simp [hle], hg, ?_, by omega, hcm, by simp [putCells, hcs], ?_⟩⟩
        · rw [hw]
          unfold sortWorldK
          rw [heap_grow_old _ _ (by simpa [putRowK] using hlt)]
          simp only [putRowK, putRow, mapBlock, Array.getElem?_modify]
          rw [if_pos trivial]
          show Option.map _ (w.heap[g]?) = _
          rw [hh]
          rfl
        · have hff := flatK_flatG encL 5 encL_len (by decide) d'.toList
          rw [Array.toArray_toList] at hff
          rw [← hff]
          have hsz : (flatK encL 5 d').size ≤ cur.size := by
            rw [size_flatK, hcs, hd]; exact Nat.mul_le_mul_right _ hnc
          apply List.ext_getElem?
          intro t
          rw [List.getElem?_take]
          by_cases ht : t < l.length * 5
          · rw [if_pos ht]
            have ht' : t < (flatK encL 5 d').size := by rw [size_flatK, hd, hle]; exact ht
            have htc : t < cur.size := by omega
            rw [Array.getElem?_toList, Array.getElem?_toList, Array.getElem?_eq_getElem ht', putCells, Array.getElem?_mapIdx, Array.getElem?_eq_getElem htc]
            simp only [Option.map_some]
            rw [if_pos (by omega), getElem!_pos _ _ (by simpa using ht')]
            simp
          · rw [if_neg ht, List.getElem?_eq_none (by simp [hd, hle] at ht ⊢; omega)]
      · rw [hw]
        exact (sort_only encL 5 w g n d' os).more (fun b _ e => by rw [e]; rfl)
end Go.Proofs.YtnpcjbdolmmaeaaGreatDoor
