/-
  Looks: CfRo, CfRp (texts joined).
-/
import Derived.Deep.CutBlock
import Derived.Test.YtnpcjbdolmmaeaaGreatDoorL11
import Derived.Test.YtnpcjbdolmmaeaaGreatDoorL19
namespace Go.Proofs.YtnpcjbdolmmaeaaGreatDoor
open Go.RowKit Go.Maps
set_option maxRecDepth 100000
def Sg (z : Int) (n : Nat) : Prop := (z < 0 ↔ n = 0) ∧ (z = 0 ↔ n = 1)
def SnP (z : Int) (w : World) (e : Ending) (w' : World) : Prop := e = .returned (.int .i64 z) ∧ Below w.heap.size w w'
def cmpR : List Int → List Int → Int
  | [], m => -(m.length : Int)
  | _ :: l, [] => (l.length : Int) + 1
  | a :: l, b :: m => if a < b then -1 else if a = b then cmpR l m else 1
def ordR (x y : Cf.Cfg) : Int :=
  if x.alt = y.alt then (if x.state = y.state then (if cmpR x.stack y.stack = 0 then (if x.ended = y.ended then 0 else if y.ended = true then -1 else 1) else cmpR x.stack y.stack) else x.state - y.state) else x.alt - y.alt
theorem cmpR_sg : ∀ l m, Sg (cmpR l m) (Cf.cmpL l m)
  | [], [] => by exact ⟨by decide, by decide⟩
  | [], b :: m => by
    show Sg (-((b :: m).length : Int)) 0
    rw [List.length_cons]
    exact ⟨⟨fun _ => rfl, fun _ => by omega⟩, ⟨fun h => by omega, fun h => by cases h⟩⟩
  | a :: l, [] => by
    show Sg ((l.length : Int) + 1) 2
    exact ⟨⟨fun h => by omega, fun h => by cases h⟩, ⟨fun h => by omega, fun h => by cases h⟩⟩
  | a :: l, b :: m => by
    unfold cmpR Cf.cmpL
    split
    · exact ⟨by decide, by decide⟩
    · split
      · exact cmpR_sg l m
      · exact ⟨by decide, by decide⟩
structure Sm (x : Cf.Cfg) : Prop where
  alt : 0 ≤ x.alt ∧ x.alt ≤ 1000000
  state : 0 ≤ x.state ∧ x.state ≤ 1000000
  len : x.stack.length ≤ 1000000
set_option maxHeartbeats 2000000 in
theorem compareR_any (l m : List Int) (A A2 : Option Addr) (c c2 B : Nat) (w : World) (hl : l.length ≤ 1000000) (hm : m.length ≤ 1000000) (hB : B ≤ w.heap.size) (hr : Reads w B 1 A l.length (l.map (Value.int .i64))) (hr2 : Reads w B 1 A2 m.length (m.map (Value.int .i64))) : Calls Tryz.prog 88 #[.slice A l.length c, .slice A2 m.length c2] w (SnP (cmpR l m) w) := by
  obtain ⟨z, hz⟩ : ∃ z, cmpR l m = z := ⟨_, rfl⟩
  rw [hz]
  have hr := hr.more hB
  have hr2 := hr2.more hB
  go_enter Tryz.func88, Tryz.ntmps88
  go_wp2
  go_loopw [5] (fun i wr => ∃ j : Nat, j ≤ l.length ∧ j ≤ m.length ∧ i = .int .i64 (j : Int) ∧ Hid (Below w.heap.size w wr ∧ z = cmpR (l.drop j) (m.drop j))) (fun i _ => l.length - (intOf i).toNat)
  case atStart => exact ⟨0, Nat.zero_le _, Nat.zero_le _, rfl, hid ⟨Below.refl _ _, hz.symm⟩⟩
  case round =>
    obtain ⟨j, hj, hjm, rfl, HI⟩ := hrel
    have HZ := hid hz
    clear hz
    by_cases hlt : j < l.length
    · have HD := hid (show l.drop j = l[j] :: l.drop (j + 1) from List.drop_eq_getElem_cons hlt)
      obtain ⟨b, off, hA, hbl, kc⟩ := reads_atZ (hr.below HI.out.1) j hlt
      generalize l[j] = x at kc HD
      by_cases hlm : j < m.length
      · have HD2 := hid (show m.drop j = m[j] :: m.drop (j + 1) from List.drop_eq_getElem_cons hlm)
        obtain ⟨b2, off2, hA2, hbl2, kc2⟩ := reads_atZ (hr2.below HI.out.1) j hlm
        generalize m[j] = y at kc2 HD2
        have HA := hid hA
        have HA2 := hid hA2
        rw [hA, hA2]
        clear hA hA2
        have HE := hid (show z = if x < y then -1 else if x = y then cmpR (l.drop (j + 1)) (m.drop (j + 1)) else 1 by rw [HI.out.2, HD.out, HD2.out]; rfl)
        by_cases h1 : x < y
        · have f1 : decide (x < y) = true := decide_eq_true h1
          have HX := hid (show z = -1 by rw [HE.out, if_pos h1])
          clear h1
          go_wp2_with fail
          go_quiet (fail)
          go_wp2
          go_ret
          exact ⟨by rw [HX.out]; rfl, below_drewN HI.out.1 _⟩
        · have f1 : decide (x < y) = false := decide_eq_false h1
          by_cases h2 : y < x
          · have f2 : decide (y < x) = true := decide_eq_true h2
            have HX := hid (show z = 1 by rw [HE.out, if_neg h1, if_neg (by omega)])
            clear h1 h2
            go_wp2_with fail
            go_quiet (fail)
            go_wp2_with fail
            go_quiet (fail)
            go_wp2
            go_ret
            exact ⟨by rw [HX.out]; rfl, below_drewN (below_drewN HI.out.1 _) _⟩
          · have f2 : decide (y < x) = false := decide_eq_false h2
            have HX := hid (show z = cmpR (l.drop (j + 1)) (m.drop (j + 1)) by rw [HE.out, if_neg h1, if_pos (by omega)])
            clear h1 h2
            go_wp2_with fail
            go_quiet (fail)
            go_wp2_with fail
            go_quiet (fail)
            go_wp2
            go_roundw
            case rel => exact ⟨j + 1, hlt, hlm, by go_num, hid ⟨below_drewN HI.out.1 _, HX.out⟩⟩
            case measure => simp [intOf]; omega
      · have hme : m.drop j = [] := List.drop_eq_nil_of_le (by omega)
        have hmj : m.length = j := by omega
        have HX := hid (show z = (l.length : Int) - (m.length : Int) by rw [HI.out.2, HD.out, hme]; show ((l.drop (j + 1)).length : Int) + 1 = _; rw [List.length_drop]; omega)
        have hwr : IntKind.i64.wrap ((l.length : Int) - (m.length : Int)) = (l.length : Int) - (m.length : Int) := w64 (by omega) (by omega)
        have HMJ := hid hmj
        clear hmj hme
        go_wp2
        go_ret
        exact ⟨by rw [HX.out]; rfl, HI.out.1⟩
    · have hje : j = l.length := by omega
      subst hje
      have hwr : IntKind.i64.wrap ((l.length : Int) - (m.length : Int)) = (l.length : Int) - (m.length : Int) := w64 (by omega) (by omega)
      have HX := hid (show z = (l.length : Int) - (m.length : Int) by
        rw [HI.out.2, List.drop_length]
        show -((m.drop l.length).length : Int) = _
        rw [List.length_drop]; omega)
      go_wp2
      go_ret
      exact ⟨by rw [HX.out]; rfl, HI.out.1⟩
theorem ord_sub {a b : Int} {k : Nat} (h : Cf.cmpI a b ≠ 1) : Sg (a - b) (Cf.andThen (Cf.cmpI a b) k) := by
  unfold Cf.andThen
  rw [if_neg h]
  unfold Cf.cmpI at h ⊢
  split
  · exact ⟨⟨fun _ => rfl, fun _ => by omega⟩, ⟨fun h => by omega, fun h => by cases h⟩⟩
  · next h1 =>
    split
    · next h2 => rw [if_neg h1, if_pos h2] at h; exact absurd rfl h
    · exact ⟨⟨fun h => by omega, fun h => by cases h⟩, ⟨fun h => by omega, fun h => by cases h⟩⟩
theorem ordR_sg (x y : Cf.Cfg) : Sg (ordR x y) (Cf.ord x y) := by
  unfold ordR Cf.ord
  split
  · next h =>
    have k : Cf.cmpI x.alt y.alt = 1 := by unfold Cf.cmpI; rw [if_neg (by omega), if_pos h]
    rw [k]
    show Sg _ (Cf.andThen (Cf.cmpI x.state y.state) _)
    split
    · next h =>
      have k : Cf.cmpI x.state y.state = 1 := by unfold Cf.cmpI; rw [if_neg (by omega), if_pos h]
      rw [k]
      show Sg _ (Cf.andThen (Cf.cmpL x.stack y.stack) _)
      have hs := cmpR_sg x.stack y.stack
      split
      · next h =>
        rw [hs.2.1 h]
        show Sg _ (Cf.cmpB x.ended y.ended)
        cases x.ended <;> cases y.ended <;> exact ⟨by decide, by decide⟩
      · next h =>
        unfold Cf.andThen
        rw [if_neg (fun q => h (hs.2.2 q))]
        exact hs
    · next h =>
      refine ord_sub ?_
      unfold Cf.cmpI
      split
      · decide
      · first | (rw [if_neg h]; decide) | decide
  · next h =>
    refine ord_sub ?_
    unfold Cf.cmpI
    split
    · decide
    · first | (rw [if_neg h]; decide) | decide
set_option maxHeartbeats 2000000 in
theorem orderR_any (x y : Cf.Cfg) (A A2 : Option Addr) (c c2 : Nat) (w : World) (sx : Sm x) (sy : Sm y) (hr : Reads w w.heap.size 1 A x.stack.length (x.stack.map (Value.int .i64))) (hr2 : Reads w w.heap.size 1 A2 y.stack.length (y.stack.map (Value.int .i64))) :
    Calls Tryz.prog 65 #[.agg #[.int .i64 x.alt, .int .i64 x.state, .slice A x.stack.length c, .bool x.exact, .bool x.ended], .agg #[.int .i64 y.alt, .int .i64 y.state, .slice A2 y.stack.length c2, .bool y.exact, .bool y.ended]] w (SnP (ordR x y) w) := by
  obtain ⟨o, ho⟩ : ∃ o, ordR x y = o := ⟨_, rfl⟩
  rw [ho]
  obtain ⟨W, hW⟩ : ∃ W, Hid ((w.alloc (.cells #[.int .i64 x.alt, .int .i64 x.state, .slice A x.stack.length c, .bool x.exact, .bool x.ended] 103)).alloc (.cells #[.int .i64 y.alt, .int .i64 y.state, .slice A2 y.stack.length c2, .bool y.exact, .bool y.ended] 103) = W) := ⟨_, hid rfl⟩
  have z0 : (w.alloc (.cells #[.int .i64 x.alt, .int .i64 x.state, .slice A x.stack.length c, .bool x.exact, .bool x.ended] 103)).heap.size = w.heap.size + 1 := by simp
  have hb : Below w.heap.size w W := by rw [← hW.out]; exact (below_new _ _).alloc (by omega) _
  have h0 : W.heap[w.heap.size]? = some (.cells #[.int .i64 x.alt, .int .i64 x.state, .slice A x.stack.length c, .bool x.exact, .bool x.ended] 103 (0, 0)) := by
    rw [← hW.out, Below.heap_alloc _ _ _ (by omega)]; exact heap_alloc_new _ _
  have h1 : W.heap[w.heap.size + 1]? = some (.cells #[.int .i64 y.alt, .int .i64 y.state, .slice A2 y.stack.length c2, .bool y.exact, .bool y.ended] 103 (0, 0)) := by
    rw [← hW.out, ← z0]; exact heap_alloc_new _ _
  have a0 : W.cell? ⟨w.heap.size, 0, none⟩ = some (.int .i64 x.alt) := by rw [Lib.cell_of_heap h0]; rfl
  have a1 : W.cell? ⟨w.heap.size, 1, none⟩ = some (.int .i64 x.state) := by rw [Lib.cell_of_heap h0]; rfl
  have a2 : W.cell? ⟨w.heap.size, 2, none⟩ = some (.slice A x.stack.length c) := by rw [Lib.cell_of_heap h0]; rfl
  have b0 : W.cell? ⟨w.heap.size + 1, 0, none⟩ = some (.int .i64 y.alt) := by rw [Lib.cell_of_heap h1]; rfl
  have b1 : W.cell? ⟨w.heap.size + 1, 1, none⟩ = some (.int .i64 y.state) := by rw [Lib.cell_of_heap h1]; rfl
  have b2 : W.cell? ⟨w.heap.size + 1, 2, none⟩ = some (.slice A2 y.stack.length c2) := by rw [Lib.cell_of_heap h1]; rfl
  have hcm := compareR_any x.stack y.stack A A2 c c2 w.heap.size W sx.len sy.len hb.size (hr.below hb) (hr2.below hb)
  have ea : IntKind.i64.wrap (x.alt - y.alt) = x.alt - y.alt := w64 (by have := sx.alt; have := sy.alt; omega) (by have := sx.alt; have := sy.alt; omega)
  have es : IntKind.i64.wrap (x.state - y.state) = x.state - y.state := w64 (by have := sx.state; have := sy.state; omega) (by have := sx.state; have := sy.state; omega)
  have HCM := hid hcm
  have HB := hid hb
  have HH0 := hid h0
  have HH1 := hid h1
  have HO := hid ho
  clear hcm hb h0 h1 z0 hr hr2 ho sx sy
  by_cases e1 : x.alt = y.alt
  · have f1 : (x.alt == y.alt) = true := by rw [e1]; exact beq_self_eq_true _
    by_cases e2 : x.state = y.state
    · have f2 : (x.state == y.state) = true := by rw [e2]; exact beq_self_eq_true _
      have HO2 := hid (show o = if cmpR x.stack y.stack = 0 then (if x.ended = y.ended then 0 else if y.ended = true then -1 else 1) else cmpR x.stack y.stack by rw [← HO.out]; unfold ordR; rw [if_pos e1, if_pos e2])
      clear e1 e2
      go_enter Tryz.func65, Tryz.ntmps65
      go_wp2_with fail
      rw [hW.out]
      go_wp2_with fail
      go_at_call 88
      refine HCM.out.mono ?_
      obtain ⟨z, hz0⟩ : ∃ z, cmpR x.stack y.stack = z := ⟨_, rfl⟩
      rintro _ w2 ⟨rfl, hb2⟩
      rw [hz0]
      have HSG := hid hz0
      clear hz0
      have hx2 := (hb2.block _ (heap_lt HH0.out)).trans HH0.out
      have hy2 := (hb2.block _ (heap_lt HH1.out)).trans HH1.out
      have a4 : w2.cell? ⟨w.heap.size, 4, none⟩ = some (.bool x.ended) := by rw [Lib.cell_of_heap hx2]; rfl
      have b4 : w2.cell? ⟨w.heap.size + 1, 4, none⟩ = some (.bool y.ended) := by rw [Lib.cell_of_heap hy2]; rfl
      have HB2 := hid (HB.out.trans (hb2.mono HB.out.size))
      clear hx2 hy2 hb2 a0 a1 a2 b0 b1 b2
      by_cases hz : z = 0
      · have HL := hid (show o = if x.ended = y.ended then 0 else if y.ended = true then -1 else 1 by rw [HO2.out, if_pos (HSG.out.trans hz)])
        subst hz
        generalize x.ended = xe at a4 HL
        generalize y.ended = ye at b4 HL
        cases xe <;> cases ye
        all_goals
          go_wp2_with fail
          go_ret
        · exact ⟨by rw [HL.out]; rfl, HB2.out⟩
        · exact ⟨by rw [HL.out]; rfl, HB2.out⟩
        · exact ⟨by rw [HL.out]; rfl, HB2.out⟩
        · exact ⟨by rw [HL.out]; rfl, HB2.out⟩
      · have fz : (z == 0) = false := by rw [beq_eq_false_iff_ne]; exact hz
        have fz2 : (z != 0) = true := by rw [bne_iff_ne]; exact hz
        have HL := hid (show o = z by
          rw [HO2.out, HSG.out, if_neg hz])
        clear hz
        go_wp2_with fail
        go_ret
        exact ⟨by rw [HL.out]; rfl, HB2.out⟩
    · have f2 : (x.state == y.state) = false := by rw [beq_eq_false_iff_ne]; exact e2
      have HO2 := hid (show o = x.state - y.state by rw [← HO.out]; unfold ordR; rw [if_pos e1, if_neg e2])
      clear e1 e2
      go_enter Tryz.func65, Tryz.ntmps65
      go_wp2_with fail
      rw [hW.out]
      go_wp2_with fail
      go_ret
      exact ⟨by rw [HO2.out]; rfl, HB.out⟩
  · have f1 : (x.alt == y.alt) = false := by rw [beq_eq_false_iff_ne]; exact e1
    have HO2 := hid (show o = x.alt - y.alt by rw [← HO.out]; unfold ordR; rw [if_neg e1])
    clear e1
    go_enter Tryz.func65, Tryz.ntmps65
    go_wp2_with fail
    rw [hW.out]
    go_wp2_with fail
    go_ret
    exact ⟨by rw [HO2.out]; rfl, HB.out⟩
end Go.Proofs.YtnpcjbdolmmaeaaGreatDoor
namespace Go.Proofs.YtnpcjbdolmmaeaaGreatDoor
open Go.RowKit Go.Maps
open Go.Sort (grow)
set_option maxRecDepth 100000
theorem infoRC : (Tryz.prog.info? 103).map (fun i => (i.zero, i.size, i.bytes)) = some (some (.agg #[.int .i64 0, .int .i64 0, .slice none 0 0, .bool false, .bool false]), 5, 48) := by kernel_rfl
theorem CfsV.app {w : World} {S : Nat → Prop} : ∀ {l m : List Cf.Cfg} {a b : List Value}, CfsV w S l a → CfsV w S m b → CfsV w S (l ++ m) (a ++ b)
  | [], _, _, _, h, k => by rw [show _ = ([] : List Value) from h]; exact k
  | _ :: _, _, _, _, h, k => by
    obtain ⟨p, q, e, h1, h2⟩ := h
    exact ⟨p, q ++ _, by rw [e, List.append_assoc], h1, CfsV.app h2 k⟩
theorem CfsV.split {w : World} {S : Nat → Prop} : ∀ {l : List Cf.Cfg} {vs : List Value} (i : Nat), CfsV w S l vs → CfsV w S (l.take i) (vs.take (i * 5)) ∧ CfsV w S (l.drop i) (vs.drop (i * 5))
  | l, vs, 0, h => ⟨by rw [Nat.zero_mul, List.take_zero, List.take_zero]; rfl, by rw [Nat.zero_mul]; exact h⟩
  | [], _, i + 1, h => by rw [show _ = ([] : List Value) from h]; simp [CfsV]
  | x :: l, _, i + 1, h => by
    obtain ⟨a, b, e, h1, h2⟩ := h
    obtain ⟨k1, k2⟩ := CfsV.split i h2
    have hl := h1.len
    rw [e, show (i + 1) * 5 = a.length + i * 5 by omega, List.take_length_add_append, List.drop_length_add_append, List.take_succ_cons, List.drop_succ_cons]
    exact ⟨⟨a, _, rfl, h1, k1⟩, k2⟩
def shR (W : List Value) (n i : Nat) : List Value := W.take ((i + 1) * 5) ++ (W.drop (i * 5)).take ((n - i) * 5)
theorem shR_len {W : List Value} {n i : Nat} (hW : W.length = (n + 1) * 5) (hi : i ≤ n) : (shR W n i).length = (n + 1) * 5 := by
  unfold shR; simp; omega
theorem shR_get {W : List Value} {n i : Nat} (hW : W.length = (n + 1) * 5) (hi : i ≤ n) (j : Nat) (hj : j < (n + 1) * 5) : (shR W n i)[j]? = if j < (i + 1) * 5 then W[j]? else W[j - 5]? := by
  unfold shR
  by_cases h : j < (i + 1) * 5
  · rw [if_pos h, List.getElem?_append_left (by simp; omega), List.getElem?_take, if_pos h]
  · rw [if_neg h, List.getElem?_append_right (by simp; omega), List.getElem?_take, List.length_take, hW, Nat.min_eq_left (by omega)]
    by_cases h2 : j - (i + 1) * 5 < (n - i) * 5
    · rw [if_pos h2, List.getElem?_drop]; congr 1; omega
    · omega
theorem shR_step {W : List Value} {n i : Nat} (hW : W.length = (n + 1) * 5) (hi : i + 1 ≤ n) {a0 a1 a2 a3 a4 : Value} (h0 : W[i * 5]? = some a0) (h1 : W[i * 5 + 1]? = some a1) (h2 : W[i * 5 + 2]? = some a2) (h3 : W[i * 5 + 3]? = some a3) (h4 : W[i * 5 + 4]? = some a4) :
    ((((((shR W n (i + 1)).set ((i + 1) * 5) a0).set ((i + 1) * 5 + 1) a1).set ((i + 1) * 5 + 2) a2).set ((i + 1) * 5 + 3) a3).set ((i + 1) * 5 + 4) a4) = shR W n i := by
  have hl := shR_len hW hi
  apply List.ext_getElem?
  intro j
  by_cases hj : j < (n + 1) * 5
  rotate_left
  · rw [List.getElem?_eq_none (by simp only [List.length_set, hl]; omega), List.getElem?_eq_none (by rw [shR_len hW (by omega)]; omega)]
  rw [shR_get hW (by omega) j hj]
  simp only [List.getElem?_set, List.length_set, hl]
  rw [shR_get hW hi j hj]
  by_cases q : j < (i + 1) * 5
  · rw [if_neg (by omega), if_neg (by omega), if_neg (by omega), if_neg (by omega), if_neg (by omega), if_pos (by omega), if_pos q]
  · rw [if_neg q]
    by_cases q2 : j < (i + 1 + 1) * 5
    · obtain ⟨k, hk, rfl⟩ : ∃ k, k < 5 ∧ j = (i + 1) * 5 + k := ⟨j - (i + 1) * 5, by omega, by omega⟩
      rw [show (i + 1) * 5 + k - 5 = i * 5 + k by omega]
      have : k = 0 ∨ k = 1 ∨ k = 2 ∨ k = 3 ∨ k = 4 := by omega
      rcases this with rfl | rfl | rfl | rfl | rfl
      · simp [h0]; omega
      · simp [h1]; omega
      · simp [h2]; omega
      · simp [h3]; omega
      · simp [h4]; omega
    · rw [if_neg (by omega), if_neg (by omega), if_neg (by omega), if_neg (by omega), if_neg (by omega), if_neg q2]
theorem shR_end {vs cv : List Value} {n i : Nat} (hv : vs.length = n * 5) (hi : i ≤ n) {a0 a1 a2 a3 a4 : Value} (hc : cv = [a0, a1, a2, a3, a4]) :
    ((((((shR (vs ++ cv) n i).set (i * 5) a0).set (i * 5 + 1) a1).set (i * 5 + 2) a2).set (i * 5 + 3) a3).set (i * 5 + 4) a4) = vs.take (i * 5) ++ (cv ++ vs.drop (i * 5)) := by
  subst hc
  have hW : (vs ++ [a0, a1, a2, a3, a4]).length = (n + 1) * 5 := by simp; omega
  have hl := shR_len hW hi
  apply List.ext_getElem?
  intro j
  by_cases hj : j < (n + 1) * 5
  rotate_left
  · rw [List.getElem?_eq_none (by simp only [List.length_set, hl]; omega), List.getElem?_eq_none (by simp; omega)]
  simp only [List.getElem?_set, List.length_set, hl]
  rw [shR_get hW hi j hj]
  by_cases q : j < i * 5
  · rw [if_neg (by omega), if_neg (by omega), if_neg (by omega), if_neg (by omega), if_neg (by omega), if_pos (by omega), List.getElem?_append_left (by omega), List.getElem?_append_left (by simp; omega), List.getElem?_take, if_pos q]
  · rw [List.getElem?_append_right (l₁ := vs.take (i * 5)) (by simp; omega), List.length_take, Nat.min_eq_left (by omega)]
    by_cases q2 : j < (i + 1) * 5
    · obtain ⟨k, hk, rfl⟩ : ∃ k, k < 5 ∧ j = i * 5 + k := ⟨j - i * 5, by omega, by omega⟩
      rw [show i * 5 + k - i * 5 = k by omega]
      have : k = 0 ∨ k = 1 ∨ k = 2 ∨ k = 3 ∨ k = 4 := by omega
      rcases this with rfl | rfl | rfl | rfl | rfl <;> (simp; omega)
    · rw [if_neg (by omega), if_neg (by omega), if_neg (by omega), if_neg (by omega), if_neg (by omega), if_neg q2, List.getElem?_append_right (l₁ := [a0, a1, a2, a3, a4]) (by show 5 ≤ _; omega), List.getElem?_drop]
      show (vs ++ [a0, a1, a2, a3, a4])[j - 5]? = vs[i * 5 + (j - i * 5 - 5)]?
      by_cases q3 : j - 5 < vs.length
      · rw [List.getElem?_append_left q3]; congr 1; omega
      · rw [List.getElem?_eq_none (by simp; omega), List.getElem?_eq_none (by omega)]
theorem row_set5 {w : World} {base n c g : Nat} {e : TypeId} {xs : List Value} (h : w.ownsRow base e 5 (.slice (some ⟨g, 0, none⟩) n c) n xs) (m : Nat) (a0 a1 a2 a3 a4 : Value) :
    (((((w.setCell ⟨g, m * 5, none⟩ a0).setCell ⟨g, m * 5 + 1, none⟩ a1).setCell ⟨g, m * 5 + 2, none⟩ a2).setCell ⟨g, m * 5 + 3, none⟩ a3).setCell ⟨g, m * 5 + 4, none⟩ a4).ownsRow base e 5 (.slice (some ⟨g, 0, none⟩) n c) n ((((((xs.set (m * 5) a0).set (m * 5 + 1) a1).set (m * 5 + 2) a2).set (m * 5 + 3) a3).set (m * 5 + 4) a4)) ∧
    Only (fun j => j = g) w (((((w.setCell ⟨g, m * 5, none⟩ a0).setCell ⟨g, m * 5 + 1, none⟩ a1).setCell ⟨g, m * 5 + 2, none⟩ a2).setCell ⟨g, m * 5 + 3, none⟩ a3).setCell ⟨g, m * 5 + 4, none⟩ a4) := by
  have h1 := (h.stored (m * 5) a0).1
  have h2 := (h1.stored (m * 5 + 1) a1).1
  have h3 := (h2.stored (m * 5 + 2) a2).1
  have h4 := (h3.stored (m * 5 + 3) a3).1
  have h5 := (h4.stored (m * 5 + 4) a4).1
  exact ⟨h5, ((((Only.of_set w g _ a0).trans (Only.of_set _ g _ a1) fun _ _ e => e).trans (Only.of_set _ g _ a2) fun _ _ e => e).trans (Only.of_set _ g _ a3) fun _ _ e => e).trans (Only.of_set _ g _ a4) fun _ _ e => e⟩
theorem ahead_yes {x c : Cf.Cfg} {r : List Cf.Cfg} (h : Cf.ord x c = 0) : Cf.ahead (x :: r) c = Cf.ahead r c + 1 := by unfold Cf.ahead; rw [List.takeWhile_cons_of_pos (by simpa using h)]; rfl
theorem ahead_no {x c : Cf.Cfg} {r : List Cf.Cfg} (h : Cf.ord x c ≠ 0) : Cf.ahead (x :: r) c = 0 := by unfold Cf.ahead; rw [List.takeWhile_cons_of_neg (by simpa using h)]; rfl
theorem likeHas_yes {x c : Cf.Cfg} {r : List Cf.Cfg} (h : Cf.ord x c = 1) : Cf.likeHas (x :: r) c = ((x.exact == c.exact) || Cf.likeHas r c) := by unfold Cf.likeHas; rw [List.takeWhile_cons_of_pos (by simpa using h), List.any_cons]
theorem likeHas_no {x c : Cf.Cfg} {r : List Cf.Cfg} (h : Cf.ord x c ≠ 1) : Cf.likeHas (x :: r) c = false := by unfold Cf.likeHas; rw [List.takeWhile_cons_of_neg (by simpa using h)]; rfl
def PutP (l : List Cf.Cfg) (c : Cf.Cfg) (S : Nat → Prop) (base : Nat) (u : Value) (w : World) (e : Ending) (w' : World) : Prop :=
  ∃ u' vs', e = .returned (.tuple #[u', .bool (Cf.putL l c).2]) ∧ w'.ownsRow base 103 5 u' (Cf.putL l c).1.length vs' ∧
    (∀ S' : Nat → Prop, (∀ b, b < w.heap.size → S' b → S b) → CfsV w' S' (Cf.putL l c).1 vs') ∧ Only (fun k => u.ownBlock = some k) w w' ∧ (u'.ownBlock = u.ownBlock ∨ ∀ k, u'.ownBlock = some k → w.heap.size ≤ k)
theorem PutP.same {l : List Cf.Cfg} {c : Cf.Cfg} {S : Nat → Prop} {base k : Nat} {u : Value} {vs : List Value} {w w' : World} (hk : k = Cf.ahead l c) (hh : Cf.likeHas (l.drop k) c = true) (hown : w.ownsRow base 103 5 u l.length vs) (hcv : CfsV w S l vs) (hb : Below w.heap.size w w') :
    PutP l c S base u w (.returned (.tuple #[u, .bool false])) w' := by
  have hp : Cf.putL l c = (l, false) := by rw [Cf.putL_ix, ← hk, if_pos hh]
  unfold PutP
  rw [hp]
  exact ⟨u, vs, rfl, ownsRow_below hown hb (Nat.le_refl _), fun S' hS => hcv.only (Only.of_below hb) hS, Only.of_below hb, .inl rfl⟩
theorem PutP.new {l : List Cf.Cfg} {c : Cf.Cfg} {S : Nat → Prop} {base k : Nat} {u u' : Value} {vs cv : List Value} {w w' : World} (hk : k = Cf.ahead l c) (hh : Cf.likeHas (l.drop k) c = false) (hcv : CfsV w S l vs) (hc : CfV w S c cv) (hSu : ∀ k, u.ownBlock = some k → S k) (ho : Only (fun k => u.ownBlock = some k) w w')
    (hown : w'.ownsRow base 103 5 u' (l.length + 1) (vs.take (k * 5) ++ (cv ++ vs.drop (k * 5)))) (hu : u'.ownBlock = u.ownBlock ∨ ∀ k, u'.ownBlock = some k → w.heap.size ≤ k) :
    PutP l c S base u w (.returned (.tuple #[u', .bool true])) w' := by
  have hp : Cf.putL l c = (l.take k ++ c :: l.drop k, true) := by rw [Cf.putL_ix, ← hk, if_neg (by rw [hh]; decide)]
  have hkl : k ≤ l.length := by rw [hk]; exact Cf.ahead_le l c
  unfold PutP
  rw [hp]
  have hln : (l.take k ++ c :: l.drop k).length = l.length + 1 := by simp; omega
  obtain ⟨q1, q2⟩ := CfsV.split k hcv
  have ho' : Only S w w' := ho.more (fun _ _ e => hSu _ e)
  refine ⟨u', _, rfl, by rw [hln]; exact hown, fun S' hS => ?_, ho, hu⟩
  exact CfsV.only ho' hS (CfsV.app q1 ⟨cv, _, rfl, hc, q2⟩)
set_option maxHeartbeats 4000000 in
theorem put_any (l : List Cf.Cfg) (c : Cf.Cfg) (S : Nat → Prop) (base : Nat) (u : Value) (vs : List Value) (A : Option Addr) (cc : Nat) (w : World) (hown : w.ownsRow base 103 5 u l.length vs) (hcv : CfsV w S l vs) (hSu : ∀ k, u.ownBlock = some k → S k) (hl : l.length ≤ 100000000) (hsm : ∀ x ∈ l, Sm x) (hc : Sm c)
    (hcc : c.stack.length ≤ cc) (hr : RO w S 1 A c.stack.length (c.stack.map (Value.int .i64))) (hB : base ≤ w.heap.size) :
    Calls Tryz.prog 62 #[u, .agg #[.int .i64 c.alt, .int .i64 c.state, .slice A c.stack.length cc, .bool c.exact, .bool c.ended]] w (PutP l c S base u w) := by
  obtain ⟨AR, cR, rfl, hRd, hcap⟩ := Reads.own hown
  obtain ⟨w1, hw1⟩ : ∃ w1, Hid (w.alloc (.cells #[.int .i64 c.alt, .int .i64 c.state, .slice A c.stack.length cc, .bool c.exact, .bool c.ended] 103) = w1) := ⟨_, hid rfl⟩
  have hb1 : Below w.heap.size w w1 := by rw [← hw1.out]; exact below_new _ _
  have h1 : w1.heap[w.heap.size]? = some (.cells #[.int .i64 c.alt, .int .i64 c.state, .slice A c.stack.length cc, .bool c.exact, .bool c.ended] 103 (0, 0)) := by rw [← hw1.out]; exact heap_alloc_new _ _
  have hCR : CfR w (fun _ => False) AR l := ⟨vs, RO.of_reads hRd (Nat.le_refl _) (fun _ h => h.elim), hcv.only (Only.of_below (S := S) (Below.refl _ _)) (fun _ _ h => h.elim)⟩
  have hRC : Reads w w.heap.size 1 A c.stack.length (c.stack.map (Value.int .i64)) := hr.reads
  have HCR := hid hCR
  have HRC := hid hRC
  have HOWN := hid hown
  have HCV := hid hcv
  have HSU := hid hSu
  have HSM := hid hsm
  have HC := hid hc
  have HR := hid hr
  have HB1 := hid hb1
  have HH1 := hid h1
  have HW1 := hw1
  clear hCR hRC hown hcv hSu hsm hc hr hb1 h1 hRd hw1
  have CO := hid (fun (x : Cf.Cfg) (B : Option Addr) (cb : Nat) (hx : x ∈ l) (wq : World) (hbq : Below w.heap.size w wq) (hrx : Reads wq wq.heap.size 1 B x.stack.length (x.stack.map (Value.int .i64))) =>
    orderR_any x c B A cb cc wq (HSM.out x hx) HC.out hrx ((HRC.out.below hbq).more hbq.size))
  go_enter Tryz.func62, Tryz.ntmps62
  go_upto_block 0 with fail
  rw [HW1.out]
  go_cut [6] from 9 (fun v wx => ∃ j : Nat, v = .int .i64 (j : Int) ∧ j = Cf.ahead l c ∧ Hid (Below w1.heap.size w1 wx))
  case first =>
    go_wp2_with fail
    go_loopw [6] (fun i wr => ∃ j : Nat, j ≤ l.length ∧ i = .int .i64 (j : Int) ∧ Hid (Below w1.heap.size w1 wr ∧ Cf.ahead l c = j + Cf.ahead (l.drop j) c)) (fun i _ => l.length - (intOf i).toNat)
    case atStart => exact ⟨0, Nat.zero_le _, rfl, hid ⟨Below.refl _ _, by simp⟩⟩
    case round =>
      obtain ⟨j, hj, rfl, HI⟩ := hrel
      have HBW := hid (HB1.out.trans (HI.out.1.mono HB1.out.size))
      by_cases hlt : j < l.length
      · have f1 : decide ((j : Int) < (l.length : Int)) = true := decide_eq_true (by omega)
        have HD := hid (show l.drop j = l[j] :: l.drop (j + 1) from List.drop_eq_getElem_cons hlt)
        obtain ⟨b, off, B, cb, hA, hbl, _, _, hrx, r0, r1, r2, r3, r4⟩ := (HCR.out.below HBW.out).at j hlt
        have hco := fun d os => Calls.regrown_of (CO.out l[j] B cb (List.getElem_mem hlt) (grow (redrawn wr d) os) (HBW.out.trans ((below_regrown wr d os).mono HBW.out.size)) (hrx.reads.next (below_regrown wr d os)))
        have HZ := hid (ordR_sg l[j] c)
        have HDX := hid (show Cf.ahead (l.drop j) c = if Cf.ord l[j] c = 0 then Cf.ahead (l.drop (j + 1)) c + 1 else 0 by
          rw [HD.out]
          split
          · next h => exact ahead_yes h
          · next h => exact ahead_no h)
        clear hrx HD
        generalize ordR l[j] c = z at hco HZ
        generalize Cf.ord l[j] c = o at HZ HDX
        generalize l[j] = x at hco r0 r1 r2 r3 r4
        have hx1 := (HI.out.1.block _ (heap_lt HH1.out)).trans HH1.out
        have s0 : wr.cell? ⟨w.heap.size, 0, none⟩ = some (.int .i64 c.alt) := by rw [Lib.cell_of_heap hx1]; rfl
        have s1 : wr.cell? ⟨w.heap.size, 1, none⟩ = some (.int .i64 c.state) := by rw [Lib.cell_of_heap hx1]; rfl
        have s2 : wr.cell? ⟨w.heap.size, 2, none⟩ = some (.slice A c.stack.length cc) := by rw [Lib.cell_of_heap hx1]; rfl
        have s3 : wr.cell? ⟨w.heap.size, 3, none⟩ = some (.bool c.exact) := by rw [Lib.cell_of_heap hx1]; rfl
        have s4 : wr.cell? ⟨w.heap.size, 4, none⟩ = some (.bool c.ended) := by rw [Lib.cell_of_heap hx1]; rfl
        have q0 := fun d os => cell_regrown s0 d os
        have q1 := fun d os => cell_regrown s1 d os
        have q2 := fun d os => cell_regrown s2 d os
        have q3 := fun d os => cell_regrown s3 d os
        have q4 := fun d os => cell_regrown s4 d os
        have p0 := fun d os => cell_regrown r0 d os
        have p1 := fun d os => cell_regrown r1 d os
        have p2 := fun d os => cell_regrown r2 d os
        have p3 := fun d os => cell_regrown r3 d os
        have p4 := fun d os => cell_regrown r4 d os
        clear s0 s1 s2 s3 s4 r0 r1 r2 r3 r4 hx1
        have HA := hid hA
        rw [hA]
        clear hA
        go_wp2_with fail
        refine wp_region_quiet_below (by kernel_rfl) (by kernel_rfl) ?_
        repeat (quiet_step (exact hco _ _))
        clear hco q0 q1 q2 q3 q4 p0 p1 p2 p3 p4
        refine wpQuiet_nil ?_
        rintro _ ⟨⟨dq, osq⟩, rfl⟩
        have hb3 := below_regrown wr dq osq
        generalize grow (redrawn wr dq) osq = w3 at hb3 ⊢
        have HB3 := hid (HI.out.1.trans (hb3.mono HI.out.1.size))
        clear hb3
        by_cases hz : z < 0
        · have f2 : decide (z < 0) = true := decide_eq_true hz
          have HX := hid (show Cf.ahead l c = j + 1 + Cf.ahead (l.drop (j + 1)) c by rw [HI.out.2, HDX.out, if_pos (HZ.out.1.1 hz)]; omega)
          clear hz
          rw [f2]
          go_wp2_with fail
          go_roundw
          case rel => exact ⟨j + 1, hlt, by go_num, hid ⟨HB3.out, HX.out⟩⟩
          case measure => simp [intOf]; omega
        · have f2 : decide (z < 0) = false := decide_eq_false hz
          have HX := hid (show j = Cf.ahead l c by rw [HI.out.2, HDX.out, if_neg (fun h => hz (HZ.out.1.2 h))]; rfl)
          clear hz
          rw [f2]
          go_wp2_with fail
          rw [← HA.out]
          go_meet
          exact ⟨j, rfl, HX.out, HB3⟩
      · have f1 : decide ((j : Int) < (l.length : Int)) = false := decide_eq_false (by omega)
        have HE := hid (show j = Cf.ahead l c by rw [HI.out.2, List.drop_eq_nil_of_le (by omega)]; rfl)
        go_wp2_with fail
        go_quiet (fail)
        go_wp2_with fail
        go_meet
        exact ⟨j, rfl, HE.out, hid (below_drewN HI.out.1 _)⟩
  case rest =>
    obtain ⟨k, rfl, hk, HB2⟩ := hcut
    have hkl : k ≤ l.length := by rw [hk]; exact Cf.ahead_le l c
    have HK := hid hk
    clear hk
    go_upto_block 2 with fail
    go_cut [7] from 25 (fun _ wx => Cf.likeHas (l.drop k) c = false ∧ Hid (Below w1.heap.size w1 wx))
    case first =>
      go_wp2_with fail
      go_loopw [7] (fun i wr => ∃ j : Nat, j ≤ l.length ∧ i = .int .i64 (j : Int) ∧ Hid (Below w1.heap.size w1 wr ∧ Cf.likeHas (l.drop k) c = Cf.likeHas (l.drop j) c)) (fun i _ => l.length - (intOf i).toNat)
      case atStart => exact ⟨k, hkl, rfl, hid ⟨HB2.out, rfl⟩⟩
      case round =>
        obtain ⟨j, hj, rfl, HI⟩ := hrel
        have HBW := hid (HB1.out.trans (HI.out.1.mono HB1.out.size))
        by_cases hlt : j < l.length
        · have f1 : decide ((j : Int) < (l.length : Int)) = true := decide_eq_true (by omega)
          have HD := hid (show l.drop j = l[j] :: l.drop (j + 1) from List.drop_eq_getElem_cons hlt)
          obtain ⟨b, off, B, cb, hA, hbl, _, _, hrx, r0, r1, r2, r3, r4⟩ := (HCR.out.below HBW.out).at j hlt
          have hco := fun d os => Calls.regrown_of (CO.out l[j] B cb (List.getElem_mem hlt) (grow (redrawn wr d) os) (HBW.out.trans ((below_regrown wr d os).mono HBW.out.size)) (hrx.reads.next (below_regrown wr d os)))
          have HZ := hid (ordR_sg l[j] c)
          have HDX := hid (show Cf.likeHas (l.drop j) c = if Cf.ord l[j] c = 1 then (l[j].exact == c.exact) || Cf.likeHas (l.drop (j + 1)) c else false by
            rw [HD.out]
            split
            · next h => exact likeHas_yes h
            · next h => exact likeHas_no h)
          clear hrx HD
          generalize ordR l[j] c = z at hco HZ
          generalize Cf.ord l[j] c = o at HZ HDX
          generalize l[j] = x at hco r0 r1 r2 r3 r4 HDX
          have hx1 := (HI.out.1.block _ (heap_lt HH1.out)).trans HH1.out
          have s0 : wr.cell? ⟨w.heap.size, 0, none⟩ = some (.int .i64 c.alt) := by rw [Lib.cell_of_heap hx1]; rfl
          have s1 : wr.cell? ⟨w.heap.size, 1, none⟩ = some (.int .i64 c.state) := by rw [Lib.cell_of_heap hx1]; rfl
          have s2 : wr.cell? ⟨w.heap.size, 2, none⟩ = some (.slice A c.stack.length cc) := by rw [Lib.cell_of_heap hx1]; rfl
          have s3 : wr.cell? ⟨w.heap.size, 3, none⟩ = some (.bool c.exact) := by rw [Lib.cell_of_heap hx1]; rfl
          have s4 : wr.cell? ⟨w.heap.size, 4, none⟩ = some (.bool c.ended) := by rw [Lib.cell_of_heap hx1]; rfl
          have q0 := fun d os => cell_regrown s0 d os
          have q1 := fun d os => cell_regrown s1 d os
          have q2 := fun d os => cell_regrown s2 d os
          have q3 := fun d os => cell_regrown s3 d os
          have q4 := fun d os => cell_regrown s4 d os
          have p0 := fun d os => cell_regrown r0 d os
          have p1 := fun d os => cell_regrown r1 d os
          have p2 := fun d os => cell_regrown r2 d os
          have p3 := fun d os => cell_regrown r3 d os
          have p4 := fun d os => cell_regrown r4 d os
          have HS3 := hid s3
          have HR3 := hid r3
          have HBL := hid hbl
          clear s0 s1 s2 s3 s4 r0 r1 r2 r3 r4 hx1 hbl
          have HA := hid hA
          rw [hA]
          clear hA
          go_wp2_with fail
          refine wp_region_quiet_below (by kernel_rfl) (by kernel_rfl) ?_
          repeat (quiet_step (exact hco _ _))
          clear hco q0 q1 q2 q3 q4 p0 p1 p2 p3 p4
          refine wpQuiet_nil ?_
          rintro _ ⟨⟨dq, osq⟩, rfl⟩
          have hb3 := below_regrown wr dq osq
          generalize grow (redrawn wr dq) osq = w3 at hb3 ⊢
          have HB3 := hid (HI.out.1.trans (hb3.mono HI.out.1.size))
          have s3 := (hb3.cell (p := ⟨w.heap.size, 3, none⟩) (World.block_lt_of_cell? wr _ HS3.out)).trans HS3.out
          have r3 := (hb3.cell (p := ⟨b, off + j * 5 + 3, none⟩) HBL.out).trans HR3.out
          clear hb3 HS3 HR3
          by_cases hz : z = 0
          · subst hz
            generalize x.exact = xe at r3 HDX
            have HX0 := hid (show Cf.likeHas (l.drop k) c = ((xe == c.exact) || Cf.likeHas (l.drop (j + 1)) c) by rw [HI.out.2, HDX.out, if_pos (HZ.out.2.1 rfl)])
            obtain ⟨ce, hce⟩ : ∃ ce, c.exact = ce := ⟨_, rfl⟩
            rw [hce] at s3 HX0
            have HCE := hid hce
            clear hce
            rw [show ((0 : Int) == 0) = true from rfl]
            by_cases hee : xe = ce
            · have f3 : (xe == ce) = true := by rw [beq_iff_eq]; exact hee
              have HLH := hid (show Cf.likeHas (l.drop k) c = true by rw [HX0.out, f3]; rfl)
              clear hee
              go_wp2_with fail
              go_quiet (fail)
              go_wp2_with fail
              rw [← HA.out]
              go_ret2
              exact PutP.same HK.out HLH.out HOWN.out HCV.out (below_drewN (HB1.out.trans (HB3.out.mono HB1.out.size)) _)
            · have f3 : (xe == ce) = false := by rw [beq_eq_false_iff_ne]; exact hee
              have HX := hid (show Cf.likeHas (l.drop k) c = Cf.likeHas (l.drop (j + 1)) c by rw [HX0.out, f3]; rfl)
              clear hee
              go_wp2_with fail
              go_quiet (fail)
              go_wp2_with fail
              go_roundw
              case rel => exact ⟨j + 1, hlt, by go_num, hid ⟨below_drewN HB3.out _, HX.out⟩⟩
              case measure => simp [intOf]; omega
          · have f2 : (z == 0) = false := by rw [beq_eq_false_iff_ne]; exact hz
            have HX := hid (show Cf.likeHas (l.drop k) c = false by rw [HI.out.2, HDX.out, if_neg (fun h => hz (HZ.out.2.2 h))])
            clear hz
            rw [f2]
            go_wp2_with fail
            rw [← HA.out]
            go_meet
            exact ⟨HX.out, HB3⟩
        · have f1 : decide ((j : Int) < (l.length : Int)) = false := decide_eq_false (by omega)
          have HE := hid (show Cf.likeHas (l.drop k) c = false by rw [HI.out.2, List.drop_eq_nil_of_le (by omega)]; rfl)
          go_wp2_with fail
          go_quiet (fail)
          go_wp2_with fail
          go_meet
          exact ⟨HE.out, hid (below_drewN HI.out.1 _)⟩
    case rest =>
      obtain ⟨hlk, HB3⟩ := hcut
      have HLK := hid hlk
      clear hlk
      obtain ⟨iC, hiC, hzC, hsC, hyC⟩ := info_of infoRC
      have hx1 := (HB3.out.block _ (heap_lt HH1.out)).trans HH1.out
      have HBW := hid (HB1.out.trans (HB3.out.mono HB1.out.size))
      have hown3 := ownsRow_below HOWN.out HBW.out (Nat.le_refl _)
      have s0 : wc.cell? ⟨w.heap.size, 0, none⟩ = some (.int .i64 c.alt) := by rw [Lib.cell_of_heap hx1]; rfl
      have s1 : wc.cell? ⟨w.heap.size, 1, none⟩ = some (.int .i64 c.state) := by rw [Lib.cell_of_heap hx1]; rfl
      have s2 : wc.cell? ⟨w.heap.size, 2, none⟩ = some (.slice A c.stack.length cc) := by rw [Lib.cell_of_heap hx1]; rfl
      have s3 : wc.cell? ⟨w.heap.size, 3, none⟩ = some (.bool c.exact) := by rw [Lib.cell_of_heap hx1]; rfl
      have s4 : wc.cell? ⟨w.heap.size, 4, none⟩ = some (.bool c.ended) := by rw [Lib.cell_of_heap hx1]; rfl
      have hcs : ∀ u ∈ [Value.int .i64 c.alt, .int .i64 c.state, .slice A c.stack.length cc, .bool c.exact, .bool c.ended], u.oneCell' = true := fun u hu => by
        simp only [List.mem_cons, List.mem_nil_iff, or_false] at hu
        rcases hu with rfl | rfl | rfl | rfl | rfl <;> rfl
      have HX1 := hid hx1
      have HLV := hid (CfsV.len HCV.out)
      have hBs := hB
      have HBS := hid (Nat.le_trans hB HBW.out.size)
      clear hx1
      go_wp2_with (at_builtin; refine wpList_push4 wc rfl _ _ 45 rfl base 103 iC _ 5 48 Tryz.underlying45 hiC hzC hsC hyC rfl (by omega) (.slice AR l.length cR) l.length vs rfl hown3 [.int .i64 c.alt, .int .i64 c.state, .slice A c.stack.length cc, .bool c.exact, .bool c.ended] 1 wc.heap.size rfl rfl rfl hcs Nat.zero_lt_one (by simp only [maxLen]; omega) (by omega) HBS.out ?_; intro g cg w5 hown5 hg5 ho5)
      have hgw : g ≠ w.heap.size := by
        rcases hg5 with h | h
        · have := (HOWN.out.lt g h).2; omega
        · have := HB1.out.size; have := HBW.out.size; omega
      have HX5 := hid (show w5.heap[w.heap.size]? = some (.cells #[.int .i64 c.alt, .int .i64 c.state, .slice A c.stack.length cc, .bool c.exact, .bool c.ended] 103 (0, 0)) from
        (ho5.block _ (heap_lt HX1.out) (fun e => by have := (HOWN.out.lt _ e).2; omega)).trans HX1.out)
      have hWl : (vs ++ [Value.int .i64 c.alt, .int .i64 c.state, .slice A c.stack.length cc, .bool c.exact, .bool c.ended]).length = (l.length + 1) * 5 := by rw [List.length_append, HLV.out]; simp; omega
      have hsh0 : shR (vs ++ [Value.int .i64 c.alt, .int .i64 c.state, .slice A c.stack.length cc, .bool c.exact, .bool c.ended]) l.length l.length = vs ++ [Value.int .i64 c.alt, .int .i64 c.state, .slice A c.stack.length cc, .bool c.exact, .bool c.ended] := by
        unfold shR; rw [Nat.sub_self, Nat.zero_mul, List.take_zero, List.append_nil, List.take_of_length_le (by omega)]
      have HEND := hid (fun a => shR_end (i := k) HLV.out hkl (a0 := Value.int .i64 c.alt) (a1 := .int .i64 c.state) (a2 := .slice A c.stack.length cc) (a3 := .bool c.exact) (a4 := .bool c.ended) (cv := a))
      have HCVV := hid (show CfV w S c [Value.int .i64 c.alt, .int .i64 c.state, .slice A c.stack.length cc, .bool c.exact, .bool c.ended] from ⟨A, cc, rfl, hcc, HR.out⟩)
      rw [← hsh0] at hown5
      obtain ⟨W, hW⟩ : ∃ W, (vs ++ [Value.int .i64 c.alt, .int .i64 c.state, .slice A c.stack.length cc, .bool c.exact, .bool c.ended]) = W := ⟨_, rfl⟩
      rw [hW] at hown5 hWl
      have HOW5 := hid hown5
      have HGW := hid hgw
      have HG5 := hid hg5
      have HO5 := hid ho5
      have HWE := hid hW
      clear s0 s1 s2 s3 s4 hcs hown3 hown5 hsh0 hg5 ho5 hW hgw
      go_loopw [8] (fun i wr => ∃ m : Nat, k ≤ m ∧ m ≤ l.length ∧ i = .int .i64 (m : Int) ∧ Hid (wr.ownsRow base 103 5 (.slice (some ⟨g, 0, none⟩) (l.length + 1) cg) (l.length + 1) (shR W l.length m) ∧ Only (fun b => b = g) w5 wr)) (fun i _ => (intOf i).toNat)
      case atStart => exact ⟨l.length, hkl, Nat.le_refl _, rfl, hid ⟨HOW5.out, Only.refl _ _⟩⟩
      case round =>
        obtain ⟨m, hkm, hml, rfl, HI⟩ := hrel
        by_cases hlt : k < m
        · obtain ⟨j, rfl⟩ : ∃ j, m = j + 1 := ⟨m - 1, by omega⟩
          have f1 : decide ((k : Int) < ((j + 1 : Nat) : Int)) = true := decide_eq_true (by omega)
          have cat := HI.out.1.cellAt
          have zf := HI.out.1.frozenAt
          have hsl := shR_len hWl hml
          obtain ⟨BB, cB, _, _, hkq⟩ := HCV.out.at j (by omega)
          have hg1 : ∀ q, q < 5 → W[j * 5 + q]? = (cfC l[j] BB cB)[q]? := fun q hq => by
            rw [← HWE.out, List.getElem?_append_left (by rw [HLV.out]; omega)]
            exact hkq q hq
          have ha0 := hg1 0 (by omega)
          have ha1 := hg1 1 (by omega)
          have ha2 := hg1 2 (by omega)
          have ha3 := hg1 3 (by omega)
          have ha4 := hg1 4 (by omega)
          clear hkq
          have hjl : j < l.length := by omega
          unfold cfC at ha0 ha1 ha2 ha3 ha4
          generalize l[j].alt = y0 at ha0 ha1 ha2 ha3 ha4
          generalize l[j].state = y1 at ha0 ha1 ha2 ha3 ha4
          generalize l[j].stack.length = y2 at ha0 ha1 ha2 ha3 ha4
          generalize l[j].exact = y3 at ha0 ha1 ha2 ha3 ha4
          generalize l[j].ended = y4 at ha0 ha1 ha2 ha3 ha4
          replace ha0 : W[j * 5]? = some (.int .i64 y0) := ha0
          replace ha1 : W[j * 5 + 1]? = some (.int .i64 y1) := ha1
          replace ha2 : W[j * 5 + 2]? = some (.slice BB y2 cB) := ha2
          replace ha3 : W[j * 5 + 3]? = some (.bool y3) := ha3
          replace ha4 : W[j * 5 + 4]? = some (.bool y4) := ha4
          have r0 : wr.cell? ⟨g, j * 5, none⟩ = some (.int .i64 y0) := by rw [cat _ (by omega), shR_get hWl hml _ (by omega), if_pos (by omega)]; exact ha0
          have r1 : wr.cell? ⟨g, j * 5 + 1, none⟩ = some (.int .i64 y1) := by rw [cat _ (by omega), shR_get hWl hml _ (by omega), if_pos (by omega)]; exact ha1
          have r2 : wr.cell? ⟨g, j * 5 + 2, none⟩ = some (.slice BB y2 cB) := by rw [cat _ (by omega), shR_get hWl hml _ (by omega), if_pos (by omega)]; exact ha2
          have r3 : wr.cell? ⟨g, j * 5 + 3, none⟩ = some (.bool y3) := by rw [cat _ (by omega), shR_get hWl hml _ (by omega), if_pos (by omega)]; exact ha3
          have r4 : wr.cell? ⟨g, j * 5 + 4, none⟩ = some (.bool y4) := by rw [cat _ (by omega), shR_get hWl hml _ (by omega), if_pos (by omega)]; exact ha4
          have hg2 : ∀ q, q < 5 → ∃ b, wr.cell? ⟨g, (j + 1) * 5 + q, none⟩ = some b := fun q hq => by
            rw [cat _ (by omega)]
            exact ⟨_, List.getElem?_eq_getElem (by omega)⟩
          obtain ⟨b0, t0'⟩ := hg2 0 (by omega)
          have t0 : wr.cell? ⟨g, (j + 1) * 5, none⟩ = some b0 := t0'
          clear t0'
          obtain ⟨b1, t1⟩ := hg2 1 (by omega)
          obtain ⟨b2, t2⟩ := hg2 2 (by omega)
          obtain ⟨b3, t3⟩ := hg2 3 (by omega)
          obtain ⟨b4, t4⟩ := hg2 4 (by omega)
          have hwj : IntKind.i64.wrap ((j : Int) + 1 - 1) = (j : Int) := by rw [Int.add_sub_cancel]; exact w64 (by omega) (by omega)
          have HAS := hid (And.intro ha0 (And.intro ha1 (And.intro ha2 (And.intro ha3 ha4))))
          clear cat hg1 hg2 ha0 ha1 ha2 ha3 ha4 hsl
          go_wp2_with fail
          obtain ⟨h5, ho9⟩ := row_set5 HI.out.1 (j + 1) (.int .i64 y0) (.int .i64 y1) (.slice BB y2 cB) (.bool y3) (.bool y4)
          rw [shR_step hWl hml HAS.out.1 HAS.out.2.1 HAS.out.2.2.1 HAS.out.2.2.2.1 HAS.out.2.2.2.2] at h5
          have HO9 := hid (HI.out.2.trans ho9 fun _ _ e => e)
          have H5 := hid h5
          clear h5 ho9
          go_roundw
          case rel => exact ⟨j, by omega, by omega, by go_num, hid ⟨H5.out, HO9.out⟩⟩
          case measure => simp [intOf]
        · have hme : m = k := by omega
          subst hme
          have f1 : decide ((m : Int) < (m : Int)) = false := decide_eq_false (by omega)
          have hx1 := (HI.out.2.block _ (heap_lt HX5.out) (fun e => HGW.out e.symm)).trans HX5.out
          have s0 : wr.cell? ⟨w.heap.size, 0, none⟩ = some (.int .i64 c.alt) := by rw [Lib.cell_of_heap hx1]; rfl
          have s1 : wr.cell? ⟨w.heap.size, 1, none⟩ = some (.int .i64 c.state) := by rw [Lib.cell_of_heap hx1]; rfl
          have s2 : wr.cell? ⟨w.heap.size, 2, none⟩ = some (.slice A c.stack.length cc) := by rw [Lib.cell_of_heap hx1]; rfl
          have s3 : wr.cell? ⟨w.heap.size, 3, none⟩ = some (.bool c.exact) := by rw [Lib.cell_of_heap hx1]; rfl
          have s4 : wr.cell? ⟨w.heap.size, 4, none⟩ = some (.bool c.ended) := by rw [Lib.cell_of_heap hx1]; rfl
          have hsl := shR_len hWl hml
          have cat := HI.out.1.cellAt
          have zf := HI.out.1.frozenAt
          have hg2 : ∀ q, q < 5 → ∃ b, wr.cell? ⟨g, m * 5 + q, none⟩ = some b := fun q hq => by
            rw [cat _ (by omega)]
            exact ⟨_, List.getElem?_eq_getElem (by omega)⟩
          obtain ⟨b0, t0'⟩ := hg2 0 (by omega)
          have t0 : wr.cell? ⟨g, m * 5, none⟩ = some b0 := t0'
          obtain ⟨b1, t1⟩ := hg2 1 (by omega)
          obtain ⟨b2, t2⟩ := hg2 2 (by omega)
          obtain ⟨b3, t3⟩ := hg2 3 (by omega)
          obtain ⟨b4, t4⟩ := hg2 4 (by omega)
          clear cat hg2 t0' hsl hx1
          go_wp2_with fail
          go_ret2
          obtain ⟨h5, ho9⟩ := row_set5 HI.out.1 m (.int .i64 c.alt) (.int .i64 c.state) (.slice A c.stack.length cc) (.bool c.exact) (.bool c.ended)
          rw [← HWE.out, HEND.out _ rfl] at h5
          have ho5 := HI.out.2.trans ho9 fun _ _ e => e
          have hbw : Only (fun k => (Value.slice AR l.length cR).ownBlock = some k) w wc := Only.of_below HBW.out
          refine PutP.new HK.out HLK.out HCV.out HCVV.out HSU.out ((hbw.trans HO5.out fun _ _ e => e).trans ho5 fun b hb e => ?_) h5 ?_
          · rcases HG5.out with h | h
            · rw [h, e]
            · have := HBW.out.size; omega
          · rcases HG5.out with h | h
            · exact .inl h.symm
            · refine .inr fun k hk => ?_
              have hk : g = k := by injection hk
              have := HBW.out.size
              omega
end Go.Proofs.YtnpcjbdolmmaeaaGreatDoor
