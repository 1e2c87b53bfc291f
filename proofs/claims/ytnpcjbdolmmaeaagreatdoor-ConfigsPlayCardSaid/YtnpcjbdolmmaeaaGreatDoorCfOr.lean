/-
  The order of configurations (configs.order), over cmp.Compare, cmp.Or, slices.Compare at int: the walks.
-/
import Derived.Test.YtnpcjbdolmmaeaaGreatDoorCfAl
import Derived.StillTactics
namespace Go.Proofs.YtnpcjbdolmmaeaaGreatDoor
open Go.RowKit Go.Sort
set_option maxRecDepth 100000
def cmpZ (a b : Int) : Int := if a < b then -1 else if b < a then 1 else 0
def cmpZL : List Int → List Int → Int
  | [], [] => 0
  | [], _ :: _ => -1
  | _ :: _, [] => 1
  | a :: l, b :: m => if cmpZ a b = 0 then cmpZL l m else cmpZ a b
def orZ : List Int → Int
  | [] => 0
  | a :: l => if a = 0 then orZ l else a
def ordZ (a b : Cf.Cfg) : Int :=
  if orZ [cmpZ a.alt b.alt, cmpZ a.state b.state, cmpZL a.stack b.stack] ≠ 0 ∨ a.ended = b.ended then orZ [cmpZ a.alt b.alt, cmpZ a.state b.state, cmpZL a.stack b.stack] else if b.ended = true then -1 else 1
theorem cmpZ_eq (a b : Int) : cmpZ a b = (Cf.cmpI a b : Int) - 1 := by
  unfold cmpZ Cf.cmpI
  by_cases h1 : a < b
  · rw [if_pos h1, if_pos h1]; rfl
  · by_cases h2 : a = b
    · rw [if_neg h1, if_neg (by omega), if_neg h1, if_pos h2]; rfl
    · rw [if_neg h1, if_pos (by omega), if_neg h1, if_neg h2]; rfl
theorem cmpZL_eq : ∀ l m : List Int, cmpZL l m = (Cf.cmpL l m : Int) - 1
  | [], [] => rfl
  | [], _ :: _ => rfl
  | _ :: _, [] => rfl
  | a :: l, b :: m => by
    have ih := cmpZL_eq l m
    show (if cmpZ a b = 0 then cmpZL l m else cmpZ a b) = ((if a < b then 0 else if a = b then Cf.cmpL l m else 2 : Nat) : Int) - 1
    by_cases h1 : a < b
    · have e : cmpZ a b = -1 := by simp [cmpZ, h1]
      rw [e, if_neg (by decide), if_pos h1]; rfl
    · by_cases h2 : a = b
      · have e : cmpZ a b = 0 := by simp [cmpZ, h2]
        rw [e, if_pos rfl, if_neg h1, if_pos h2]; exact ih
      · have h3 : b < a := by omega
        have e : cmpZ a b = 1 := by simp [cmpZ, h1, h3]
        rw [e, if_neg (by decide), if_neg h1, if_neg h2]; rfl
theorem orZ3 (p q r : Nat) : orZ [(p : Int) - 1, (q : Int) - 1, (r : Int) - 1] = (Cf.andThen p (Cf.andThen q r) : Int) - 1 := by
  simp only [orZ, Cf.andThen]
  by_cases hp : p = 1
  · subst hp
    by_cases hq : q = 1
    · subst hq
      by_cases hr : r = 1
      · subst hr; rfl
      · simp; omega
    · have : ¬ ((q : Int) - 1 = 0) := by omega
      simp [hq, this]
  · have : ¬ ((p : Int) - 1 = 0) := by omega
    simp [hp, this]
theorem andThen_assoc (p q r b : Nat) : Cf.andThen p (Cf.andThen q (Cf.andThen r b)) = Cf.andThen (Cf.andThen p (Cf.andThen q r)) b := by
  unfold Cf.andThen
  by_cases hp : p = 1
  · rw [if_pos hp, if_pos hp]
    by_cases hq : q = 1
    · rw [if_pos hq, if_pos hq]
    · rw [if_neg hq, if_neg hq, if_neg hq]
  · rw [if_neg hp, if_neg hp, if_neg hp]
theorem ordZ_eq (a b : Cf.Cfg) : ordZ a b = (Cf.ord a b : Int) - 1 := by
  unfold ordZ Cf.ord
  rw [cmpZ_eq, cmpZ_eq, cmpZL_eq, orZ3, andThen_assoc]
  generalize Cf.andThen (Cf.cmpI a.alt b.alt) (Cf.andThen (Cf.cmpI a.state b.state) (Cf.cmpL a.stack b.stack)) = n
  unfold Cf.andThen Cf.cmpB
  generalize a.ended = x
  generalize b.ended = y
  by_cases hn : n = 1
  · subst hn
    rw [if_pos rfl]
    cases x <;> cases y <;> decide
  · rw [if_pos (.inl (by omega)), if_neg hn]
theorem ret_boolZ {b c : Bool} (h : b = c) : Ending.returned (.bool b) = Ending.returned (.bool c) := by rw [h]
set_option maxHeartbeats 400000 in
theorem isnanZ_any (a : Int) (w : World) : Calls Tryz.prog 105 #[.int .i64 a] w fun e w' => e = .returned (.bool false) ∧ w' = w := by
  go_enter Tryz.func105, Tryz.ntmps105
  go_wp2
  go_ret
  exact ⟨ret_boolZ (by simp), rfl⟩
set_option maxHeartbeats 400000 in
theorem cmpZ_any (a b : Int) (w : World) : Calls Tryz.prog 86 #[.int .i64 a, .int .i64 b] w fun e w' => e = .returned (.int .i64 (cmpZ a b)) ∧ w' = w := by
  by_cases h1 : a < b
  · have hf : cmpZ a b = -1 := by simp [cmpZ, h1]
    rw [hf]
    clear hf
    go_enter Tryz.func86, Tryz.ntmps86
    go_wp2_with (go_at_call 105; refine (isnanZ_any _ _).mono ?_; rintro e w' ⟨rfl, rfl⟩)
    go_ret
    exact ⟨rfl, rfl⟩
  · by_cases h2 : b < a
    · have hf : cmpZ a b = 1 := by simp [cmpZ, h1, h2]
      rw [hf]
      clear hf
      go_enter Tryz.func86, Tryz.ntmps86
      go_wp2_with (go_at_call 105; refine (isnanZ_any _ _).mono ?_; rintro e w' ⟨rfl, rfl⟩)
      go_ret
      exact ⟨rfl, rfl⟩
    · have hf : cmpZ a b = 0 := by simp [cmpZ, h1, h2]
      rw [hf]
      clear hf
      go_enter Tryz.func86, Tryz.ntmps86
      go_wp2_with (go_at_call 105; refine (isnanZ_any _ _).mono ?_; rintro e w' ⟨rfl, rfl⟩)
      go_ret
      exact ⟨rfl, rfl⟩
set_option maxHeartbeats 2000000 in
theorem orZ_any (l : List Int) (A : Option Addr) (c B : Nat) (w : World) (hl : l.length ≤ 1000000) (hr : Reads w B 1 A l.length (l.map (Value.int .i64))) : Calls Tryz.prog 85 #[.slice A l.length c] w fun e w' => e = .returned (.int .i64 (orZ l)) ∧ w' = w := by
  go_enter Tryz.func85, Tryz.ntmps85
  go_wp2
  go_loopw [5, 8] (fun _ i wr => ∃ j : Nat, j ≤ l.length ∧ i = .int .i64 (j : Int) ∧ wr = w ∧ orZ l = orZ (l.drop j)) (fun _ i _ => l.length - (intOf i).toNat)
  case atStart => exact ⟨0, Nat.zero_le _, rfl, rfl, rfl⟩
  case round =>
    obtain ⟨j, hj, rfl, hwr, ho⟩ := hrel
    subst hwr
    have HO := hid ho
    clear ho
    by_cases hlt : j < l.length
    · obtain ⟨b, off, hA, hbl, hcell⟩ := hr.2 (by omega)
      have kc := hcell j (.int .i64 l[j]) (by rw [List.getElem?_map, List.getElem?_eq_getElem hlt]; rfl)
      have hd : l.drop j = l[j] :: l.drop (j + 1) := List.drop_eq_getElem_cons hlt
      have HD := hid hd
      clear hd hcell
      rw [hA]
      have HA := hid hA
      clear hA
      generalize l[j] = x at kc HD
      by_cases hx : x = 0
      · have f1 : (x == 0) = true := by rw [hx]; rfl
        have HX := hid hx
        clear hx
        go_wp2
        go_roundw
        case rel => exact ⟨j + 1, hlt, by go_num, trivial, by rw [HO.out, HD.out]; show (if x = 0 then _ else _) = _; rw [if_pos HX.out]⟩
        case measure => simp [intOf]; omega
      · have f1 : (x == 0) = false := by rw [beq_eq_false_iff_ne]; exact hx
        have HX := hid hx
        clear hx
        go_wp2
        go_ret
        exact ⟨by rw [HO.out, HD.out, show orZ (x :: l.drop (j + 1)) = x from if_neg HX.out]; rfl, rfl⟩
    · go_wp2
      go_ret
      exact ⟨by rw [HO.out, List.drop_eq_nil_of_le (by omega)]; rfl, rfl⟩
set_option maxHeartbeats 2000000 in
theorem cmpZL_any (l m : List Int) (A A2 : Option Addr) (c c2 B : Nat) (w : World) (hl : l.length ≤ 1000000) (hr : Reads w B 1 A l.length (l.map (Value.int .i64))) (hr2 : Reads w B 1 A2 m.length (m.map (Value.int .i64))) : Calls Tryz.prog 87 #[.slice A l.length c, .slice A2 m.length c2] w fun e w' => e = .returned (.int .i64 (cmpZL l m)) ∧ w' = w := by
  obtain ⟨z, hz⟩ : ∃ z, cmpZL l m = z := ⟨_, rfl⟩
  rw [hz]
  go_enter Tryz.func87, Tryz.ntmps87
  go_wp2
  go_loopw [5, 6, 7, 8, 11] (fun _ _ _ _ i wr => ∃ j : Nat, j ≤ l.length ∧ j ≤ m.length ∧ i = .int .i64 (j : Int) ∧ wr = w ∧ z = cmpZL (l.drop j) (m.drop j)) (fun _ _ _ _ i _ => l.length - (intOf i).toNat)
  case atStart => exact ⟨0, Nat.zero_le _, Nat.zero_le _, rfl, rfl, hz.symm⟩
  case round =>
    obtain ⟨j, hj, hjm, rfl, hwr, ho⟩ := hrel
    subst hwr
    have HO := hid ho
    clear ho
    by_cases hlt : j < l.length
    · obtain ⟨b, off, hA, hbl, hcell⟩ := hr.2 (by omega)
      have kc := hcell j (.int .i64 l[j]) (by rw [List.getElem?_map, List.getElem?_eq_getElem hlt]; rfl)
      have HD := hid (show l.drop j = l[j] :: l.drop (j + 1) from List.drop_eq_getElem_cons hlt)
      clear hcell
      have HA := hid hA
      generalize l[j] = x at kc HD
      by_cases hlm : j < m.length
      · obtain ⟨b2, off2, hA2, hbl2, hcell2⟩ := hr2.2 (by omega)
        have kc2 := hcell2 j (.int .i64 m[j]) (by rw [List.getElem?_map, List.getElem?_eq_getElem hlm]; rfl)
        have HD2 := hid (show m.drop j = m[j] :: m.drop (j + 1) from List.drop_eq_getElem_cons hlm)
        clear hcell2
        have HA2 := hid hA2
        generalize m[j] = y at kc2 HD2
        rw [hA, hA2]
        clear hA hA2
        go_wp2_with fail
        go_at_call 86
        refine (cmpZ_any x y wr).mono ?_
        rintro _ w' ⟨rfl, rfl⟩
        by_cases hx : cmpZ x y = 0
        · have HX := hid hx
          rw [hx]
          clear hx
          go_wp2
          go_roundw
          case rel => exact ⟨j + 1, hlt, hlm, by go_num, trivial, by rw [HO.out, HD.out, HD2.out]; show (if cmpZ x y = 0 then _ else _) = _; rw [if_pos HX.out]⟩
          case measure => simp [intOf]; omega
        · have f1 : (cmpZ x y == 0) = false := by rw [beq_eq_false_iff_ne]; exact hx
          have HX := hid (show z = cmpZ x y by rw [HO.out, HD.out, HD2.out]; show (if cmpZ x y = 0 then _ else _) = _; rw [if_neg hx])
          clear hx
          generalize cmpZ x y = z' at f1 HX ⊢
          go_wp2
          go_ret
          exact ⟨by rw [HX.out]; rfl, rfl⟩
      · have HX := hid (show z = 1 by rw [HO.out, HD.out, List.drop_eq_nil_of_le (show m.length ≤ j by omega)]; rfl)
        rw [hA]
        clear hA
        go_wp2
        go_ret
        exact ⟨by rw [HX.out]; rfl, rfl⟩
    · have hje : j = l.length := by omega
      subst hje
      by_cases hlm : l.length < m.length
      · have HX := hid (show z = -1 by
          rw [HO.out, List.drop_length, List.drop_eq_getElem_cons hlm]; rfl)
        go_wp2
        go_ret
        exact ⟨by rw [HX.out]; rfl, rfl⟩
      · have HX := hid (show z = 0 by
          rw [HO.out, List.drop_length, List.drop_eq_nil_of_le (show m.length ≤ l.length by omega)]; rfl)
        go_wp2
        go_ret
        exact ⟨by rw [HX.out]; rfl, rfl⟩
set_option maxHeartbeats 4000000 in
theorem order_any (x y : Cf.Cfg) (A A2 : Option Addr) (c c2 : Nat) (w : World) (hl : x.stack.length ≤ 1000000) (hr : Reads w w.heap.size 1 A x.stack.length (x.stack.map (Value.int .i64))) (hr2 : Reads w w.heap.size 1 A2 y.stack.length (y.stack.map (Value.int .i64))) :
    Calls Tryz.prog 60 #[.agg (cfC x A c).toArray, .agg (cfC y A2 c2).toArray] w fun e w' => e = .returned (.int .i64 (ordZ x y)) ∧ ∃ q os', w' = grow (w.drewN q) os' := by
  unfold cfC
  obtain ⟨zz, hzz⟩ : ∃ zz, ordZ x y = zz := ⟨_, rfl⟩
  rw [hzz]
  obtain ⟨W, hW⟩ : ∃ W, W = (w.alloc (.cells #[.int .i64 x.alt, .int .i64 x.state, .slice A x.stack.length c, .bool x.exact, .bool x.ended] 89)).alloc (.cells #[.int .i64 y.alt, .int .i64 y.state, .slice A2 y.stack.length c2, .bool y.exact, .bool y.ended] 89) := ⟨_, rfl⟩
  have z0 : (w.alloc (.cells #[.int .i64 x.alt, .int .i64 x.state, .slice A x.stack.length c, .bool x.exact, .bool x.ended] 89)).heap.size = w.heap.size + 1 := by simp
  have hb : Below w.heap.size w W := by rw [hW]; exact (below_new _ _).alloc (by omega) _
  have h0 : W.heap[w.heap.size]? = some (.cells #[.int .i64 x.alt, .int .i64 x.state, .slice A x.stack.length c, .bool x.exact, .bool x.ended] 89 (0, 0)) := by
    rw [hW, Below.heap_alloc _ _ _ (by omega)]; exact heap_alloc_new _ _
  have h1 : W.heap[w.heap.size + 1]? = some (.cells #[.int .i64 y.alt, .int .i64 y.state, .slice A2 y.stack.length c2, .bool y.exact, .bool y.ended] 89 (0, 0)) := by
    rw [hW, ← z0]; exact heap_alloc_new _ _
  have HG := hid (show W = grow w #[.cells #[.int .i64 x.alt, .int .i64 x.state, .slice A x.stack.length c, .bool x.exact, .bool x.ended] 89, .cells #[.int .i64 y.alt, .int .i64 y.state, .slice A2 y.stack.length c2, .bool y.exact, .bool y.ended] 89] by rw [hW, alloc_eq_grow, alloc_eq_grow, grow_grow]; rfl)
  go_enter Tryz.func60, Tryz.ntmps60
  go_upto_region 1 with fail
  rw [← hW]
  clear hW z0
  refine still_tail 15 (by kernel_rfl) (by kernel_rfl) ?_
  intro w2 HW2
  have h0 : w2.heap[w.heap.size]? = some (.cells #[.int .i64 x.alt, .int .i64 x.state, .slice A x.stack.length c, .bool x.exact, .bool x.ended] 89 (0, 0)) := by rw [HW2.out]; exact h0
  have h1 : w2.heap[w.heap.size + 1]? = some (.cells #[.int .i64 y.alt, .int .i64 y.state, .slice A2 y.stack.length c2, .bool y.exact, .bool y.ended] 89 (0, 0)) := by rw [HW2.out]; exact h1
  have hb2 : Below w.heap.size w w2 := by rw [HW2.out]; exact hb.drew
  have a0 : w2.cell? ⟨w.heap.size, 0, none⟩ = some (.int .i64 x.alt) := by rw [Lib.cell_of_heap h0]; rfl
  have a1 : w2.cell? ⟨w.heap.size, 1, none⟩ = some (.int .i64 x.state) := by rw [Lib.cell_of_heap h0]; rfl
  have a2 : w2.cell? ⟨w.heap.size, 2, none⟩ = some (.slice A x.stack.length c) := by rw [Lib.cell_of_heap h0]; rfl
  have a4 : w2.cell? ⟨w.heap.size, 4, none⟩ = some (.bool x.ended) := by rw [Lib.cell_of_heap h0]; rfl
  have b0 : w2.cell? ⟨w.heap.size + 1, 0, none⟩ = some (.int .i64 y.alt) := by rw [Lib.cell_of_heap h1]; rfl
  have b1 : w2.cell? ⟨w.heap.size + 1, 1, none⟩ = some (.int .i64 y.state) := by rw [Lib.cell_of_heap h1]; rfl
  have b2 : w2.cell? ⟨w.heap.size + 1, 2, none⟩ = some (.slice A2 y.stack.length c2) := by rw [Lib.cell_of_heap h1]; rfl
  have b4 : w2.cell? ⟨w.heap.size + 1, 4, none⟩ = some (.bool y.ended) := by rw [Lib.cell_of_heap h1]; rfl
  have hr' := hr.below hb2
  have hr2' := hr2.below hb2
  have hlt : w.heap.size + 1 < w2.heap.size := heap_lt h1
  have HOZ := hid (show zz = if orZ [cmpZ x.alt y.alt, cmpZ x.state y.state, cmpZL x.stack y.stack] ≠ 0 ∨ x.ended = y.ended then orZ [cmpZ x.alt y.alt, cmpZ x.state y.state, cmpZL x.stack y.stack] else if y.ended = true then -1 else 1 by rw [← hzz]; rfl)
  have hg2 : ∃ q os', w2 = grow (w.drewN q) os' := ⟨1, _, by rw [HW2.out, HG.out]; rfl⟩
  have HG2 := hid hg2
  clear HW2 h0 h1 hb hb2 hg2 hr hr2 hzz
  simp only [List.take_succ_cons, List.take_zero, List.drop_succ_cons, List.drop_zero]
  still_step
  still_step
  still_step
  still_step
  still_call (cmpZ_any x.alt y.alt w2)
  still_step
  still_step
  still_step
  still_step
  still_call (cmpZ_any x.state y.state w2)
  still_step
  still_step
  still_step
  still_step
  still_call (cmpZL_any x.stack y.stack A A2 c c2 _ w2 hl hr' hr2')
  refine wpStill_nil ?_
  generalize cmpZ x.alt y.alt = p at *
  generalize cmpZ x.state y.state = q at *
  generalize cmpZL x.stack y.stack = r at *
  clear hr' hr2' a0 a1 a2 b0 b1 b2
  have HG3 := hid (show ∃ q' os', w2.alloc (.cells #[.int .i64 p, .int .i64 q, .int .i64 r] 3) = grow (w.drewN q') os' by
    obtain ⟨q', os', e⟩ := HG2.out
    rw [e, alloc_eq_grow, grow_grow]
    exact ⟨_, _, rfl⟩)
  have hr3 : Reads (w2.alloc (.cells #[.int .i64 p, .int .i64 q, .int .i64 r] 3)) (w2.heap.size + 1) 1 (some ⟨w2.heap.size, 0, none⟩) 3 ([p, q, r].map (Value.int .i64)) :=
    ⟨rfl, fun _ => ⟨_, _, rfl, Nat.lt_succ_self _, fun k u hk => by rw [cell_new, Nat.zero_add]; simpa using hk⟩⟩
  have a4 := ((below_new w2 (.cells #[.int .i64 p, .int .i64 q, .int .i64 r] 3)).cell (p := ⟨w.heap.size, 4, none⟩) (Nat.lt_of_succ_lt hlt)).trans a4
  have b4 := ((below_new w2 (.cells #[.int .i64 p, .int .i64 q, .int .i64 r] 3)).cell (p := ⟨w.heap.size + 1, 4, none⟩) hlt).trans b4
  go_wp2_with fail
  go_at_call 85
  refine (orZ_any [p, q, r] (some ⟨w2.heap.size, 0, none⟩) 3 _ _ (by simp) hr3).mono ?_
  rintro _ w4 ⟨rfl, hw4⟩
  rw [← hw4] at a4 b4 HG3
  clear hw4 hr3
  generalize orZ [p, q, r] = n at *
  generalize x.ended = xe at a4 HOZ
  generalize y.ended = ye at b4 HOZ
  by_cases hn : n = 0
  · have f1 : (n == 0) = true := by rw [hn]; rfl
    have HN := hid hn
    clear hn
    cases xe <;> cases ye
    all_goals
      go_wp2
      go_ret
      exact ⟨by rw [HOZ.out, HN.out]; rfl, HG3.out⟩
  · have f1 : (n == 0) = false := by rw [beq_eq_false_iff_ne]; exact hn
    have HN := hid hn
    clear hn
    go_wp2
    go_ret
    exact ⟨by rw [HOZ.out, if_pos (.inl HN.out)]; rfl, HG3.out⟩
end Go.Proofs.YtnpcjbdolmmaeaaGreatDoor
