/-
  The document's order of configurations (harbingerref14.compare, Order): the walks.
-/
import Derived.Test.YtnpcjbdolmmaeaaGreatDoorCfDn
namespace Go.Proofs.YtnpcjbdolmmaeaaGreatDoor
open Go.RowKit Go.Maps
set_option maxRecDepth 100000
/-- below nought just if ahead, nought just if alike -/
def Sg (z : Int) (n : Nat) : Prop := (z < 0 ↔ n = 0) ∧ (z = 0 ↔ n = 1)
def SnP (z : Int) (w : World) (e : Ending) (w' : World) : Prop := e = .returned (.int .i64 z) ∧ Below w.heap.size w w'
def cmpR : List Int → List Int → Int
  | [], m => -(m.length : Int)
  | _ :: l, [] => (l.length : Int) + 1
  | a :: l, b :: m => if a < b then -1 else if a = b then cmpR l m else 1
def ordR (x y : Cf.Cfg) : Int :=
  if x.alt = y.alt then (if x.state = y.state then (if cmpR x.stack y.stack = 0 then (if x.ended = y.ended then 0 else if y.ended = true then -1 else 1) else cmpR x.stack y.stack) else x.state - y.state) else x.alt - y.alt
theorem cmpR_sg : ∀ l m, Sg (cmpR l m) (Cf.cmpL l m)
  | [], [] => by exact ⟨by decide, by decide⟩
  | [], b :: m => by
    show Sg (-((b :: m).length : Int)) 0
    rw [List.length_cons]
    exact ⟨⟨fun _ => rfl, fun _ => by omega⟩, ⟨fun h => by omega, fun h => by cases h⟩⟩
  | a :: l, [] => by
    show Sg ((l.length : Int) + 1) 2
    exact ⟨⟨fun h => by omega, fun h => by cases h⟩, ⟨fun h => by omega, fun h => by cases h⟩⟩
  | a :: l, b :: m => by
    unfold cmpR Cf.cmpL
    split
    · exact ⟨by decide, by decide⟩
    · split
      · exact cmpR_sg l m
      · exact ⟨by decide, by decide⟩
/-- small numbers -/
structure Sm (x : Cf.Cfg) : Prop where
  alt : 0 ≤ x.alt ∧ x.alt ≤ 1000000
  state : 0 ≤ x.state ∧ x.state ≤ 1000000
  len : x.stack.length ≤ 1000000
set_option maxHeartbeats 2000000 in
theorem compareR_any (l m : List Int) (A A2 : Option Addr) (c c2 B : Nat) (w : World) (hl : l.length ≤ 1000000) (hm : m.length ≤ 1000000) (hB : B ≤ w.heap.size) (hr : Reads w B 1 A l.length (l.map (Value.int .i64))) (hr2 : Reads w B 1 A2 m.length (m.map (Value.int .i64))) : Calls Tryz.prog 88 #[.slice A l.length c, .slice A2 m.length c2] w (SnP (cmpR l m) w) := by
  obtain ⟨z, hz⟩ : ∃ z, cmpR l m = z := ⟨_, rfl⟩
  rw [hz]
  have hr := hr.more hB
  have hr2 := hr2.more hB
  go_enter Tryz.func88, Tryz.ntmps88
  go_wp2
  go_loopw [5] (fun i wr => ∃ j : Nat, j ≤ l.length ∧ j ≤ m.length ∧ i = .int .i64 (j : Int) ∧ Hid (Below w.heap.size w wr ∧ z = cmpR (l.drop j) (m.drop j))) (fun i _ => l.length - (intOf i).toNat)
  case atStart => exact ⟨0, Nat.zero_le _, Nat.zero_le _, rfl, hid ⟨Below.refl _ _, hz.symm⟩⟩
  case round =>
    obtain ⟨j, hj, hjm, rfl, HI⟩ := hrel
    have HZ := hid hz
    clear hz
    by_cases hlt : j < l.length
    · have HD := hid (show l.drop j = l[j] :: l.drop (j + 1) from List.drop_eq_getElem_cons hlt)
      obtain ⟨b, off, hA, hbl, kc⟩ := reads_atZ (hr.below HI.out.1) j hlt
      generalize l[j] = x at kc HD
      by_cases hlm : j < m.length
      · have HD2 := hid (show m.drop j = m[j] :: m.drop (j + 1) from List.drop_eq_getElem_cons hlm)
        obtain ⟨b2, off2, hA2, hbl2, kc2⟩ := reads_atZ (hr2.below HI.out.1) j hlm
        generalize m[j] = y at kc2 HD2
        have HA := hid hA
        have HA2 := hid hA2
        rw [hA, hA2]
        clear hA hA2
        have HE := hid (show z = if x < y then -1 else if x = y then cmpR (l.drop (j + 1)) (m.drop (j + 1)) else 1 by rw [HI.out.2, HD.out, HD2.out]; rfl)
        by_cases h1 : x < y
        · have f1 : decide (x < y) = true := decide_eq_true h1
          have HX := hid (show z = -1 by rw [HE.out, if_pos h1])
          clear h1
          go_wp2_with fail
          go_quiet (fail)
          go_wp2
          go_ret
          exact ⟨by rw [HX.out]; rfl, below_drewN HI.out.1 _⟩
        · have f1 : decide (x < y) = false := decide_eq_false h1
          by_cases h2 : y < x
          · have f2 : decide (y < x) = true := decide_eq_true h2
            have HX := hid (show z = 1 by rw [HE.out, if_neg h1, if_neg (by omega)])
            clear h1 h2
            go_wp2_with fail
            go_quiet (fail)
            go_wp2_with fail
            go_quiet (fail)
            go_wp2
            go_ret
            exact ⟨by rw [HX.out]; rfl, below_drewN (below_drewN HI.out.1 _) _⟩
          · have f2 : decide (y < x) = false := decide_eq_false h2
            have HX := hid (show z = cmpR (l.drop (j + 1)) (m.drop (j + 1)) by rw [HE.out, if_neg h1, if_pos (by omega)])
            clear h1 h2
            go_wp2_with fail
            go_quiet (fail)
            go_wp2_with fail
            go_quiet (fail)
            go_wp2
            go_roundw
            case rel => exact ⟨j + 1, hlt, hlm, by go_num, hid ⟨below_drewN HI.out.1 _, HX.out⟩⟩
            case measure => simp [intOf]; omega
      · have hme : m.drop j = [] := List.drop_eq_nil_of_le (by omega)
        have hmj : m.length = j := by omega
        have HX := hid (show z = (l.length : Int) - (m.length : Int) by rw [HI.out.2, HD.out, hme]; show ((l.drop (j + 1)).length : Int) + 1 = _; rw [List.length_drop]; omega)
        have hwr : IntKind.i64.wrap ((l.length : Int) - (m.length : Int)) = (l.length : Int) - (m.length : Int) := w64 (by omega) (by omega)
        have HMJ := hid hmj
        clear hmj hme
        go_wp2
        go_ret
        exact ⟨by rw [HX.out]; rfl, HI.out.1⟩
    · have hje : j = l.length := by omega
      subst hje
      have hwr : IntKind.i64.wrap ((l.length : Int) - (m.length : Int)) = (l.length : Int) - (m.length : Int) := w64 (by omega) (by omega)
      have HX := hid (show z = (l.length : Int) - (m.length : Int) by
        rw [HI.out.2, List.drop_length]
        show -((m.drop l.length).length : Int) = _
        rw [List.length_drop]; omega)
      go_wp2
      go_ret
      exact ⟨by rw [HX.out]; rfl, HI.out.1⟩
theorem ord_sub {a b : Int} {k : Nat} (h : Cf.cmpI a b ≠ 1) : Sg (a - b) (Cf.andThen (Cf.cmpI a b) k) := by
  unfold Cf.andThen
  rw [if_neg h]
  unfold Cf.cmpI at h ⊢
  split
  · exact ⟨⟨fun _ => rfl, fun _ => by omega⟩, ⟨fun h => by omega, fun h => by cases h⟩⟩
  · next h1 =>
    split
    · next h2 => rw [if_neg h1, if_pos h2] at h; exact absurd rfl h
    · exact ⟨⟨fun h => by omega, fun h => by cases h⟩, ⟨fun h => by omega, fun h => by cases h⟩⟩
theorem ordR_sg (x y : Cf.Cfg) : Sg (ordR x y) (Cf.ord x y) := by
  unfold ordR Cf.ord
  split
  · next h =>
    have k : Cf.cmpI x.alt y.alt = 1 := by unfold Cf.cmpI; rw [if_neg (by omega), if_pos h]
    rw [k]
    show Sg _ (Cf.andThen (Cf.cmpI x.state y.state) _)
    split
    · next h =>
      have k : Cf.cmpI x.state y.state = 1 := by unfold Cf.cmpI; rw [if_neg (by omega), if_pos h]
      rw [k]
      show Sg _ (Cf.andThen (Cf.cmpL x.stack y.stack) _)
      have hs := cmpR_sg x.stack y.stack
      split
      · next h =>
        rw [hs.2.1 h]
        show Sg _ (Cf.cmpB x.ended y.ended)
        cases x.ended <;> cases y.ended <;> exact ⟨by decide, by decide⟩
      · next h =>
        unfold Cf.andThen
        rw [if_neg (fun q => h (hs.2.2 q))]
        exact hs
    · next h =>
      refine ord_sub ?_
      unfold Cf.cmpI
      split
      · decide
      · first | (rw [if_neg h]; decide) | decide
  · next h =>
    refine ord_sub ?_
    unfold Cf.cmpI
    split
    · decide
    · first | (rw [if_neg h]; decide) | decide
set_option maxHeartbeats 2000000 in
theorem orderR_any (x y : Cf.Cfg) (A A2 : Option Addr) (c c2 : Nat) (w : World) (sx : Sm x) (sy : Sm y) (hr : Reads w w.heap.size 1 A x.stack.length (x.stack.map (Value.int .i64))) (hr2 : Reads w w.heap.size 1 A2 y.stack.length (y.stack.map (Value.int .i64))) :
    Calls Tryz.prog 65 #[.agg #[.int .i64 x.alt, .int .i64 x.state, .slice A x.stack.length c, .bool x.exact, .bool x.ended], .agg #[.int .i64 y.alt, .int .i64 y.state, .slice A2 y.stack.length c2, .bool y.exact, .bool y.ended]] w (SnP (ordR x y) w) := by
  obtain ⟨o, ho⟩ : ∃ o, ordR x y = o := ⟨_, rfl⟩
  rw [ho]
  obtain ⟨W, hW⟩ : ∃ W, Hid ((w.alloc (.cells #[.int .i64 x.alt, .int .i64 x.state, .slice A x.stack.length c, .bool x.exact, .bool x.ended] 103)).alloc (.cells #[.int .i64 y.alt, .int .i64 y.state, .slice A2 y.stack.length c2, .bool y.exact, .bool y.ended] 103) = W) := ⟨_, hid rfl⟩
  have z0 : (w.alloc (.cells #[.int .i64 x.alt, .int .i64 x.state, .slice A x.stack.length c, .bool x.exact, .bool x.ended] 103)).heap.size = w.heap.size + 1 := by simp
  have hb : Below w.heap.size w W := by rw [← hW.out]; exact (below_new _ _).alloc (by omega) _
  have h0 : W.heap[w.heap.size]? = some (.cells #[.int .i64 x.alt, .int .i64 x.state, .slice A x.stack.length c, .bool x.exact, .bool x.ended] 103 (0, 0)) := by
    rw [← hW.out, Below.heap_alloc _ _ _ (by omega)]; exact heap_alloc_new _ _
  have h1 : W.heap[w.heap.size + 1]? = some (.cells #[.int .i64 y.alt, .int .i64 y.state, .slice A2 y.stack.length c2, .bool y.exact, .bool y.ended] 103 (0, 0)) := by
    rw [← hW.out, ← z0]; exact heap_alloc_new _ _
  have a0 : W.cell? ⟨w.heap.size, 0, none⟩ = some (.int .i64 x.alt) := by rw [Lib.cell_of_heap h0]; rfl
  have a1 : W.cell? ⟨w.heap.size, 1, none⟩ = some (.int .i64 x.state) := by rw [Lib.cell_of_heap h0]; rfl
  have a2 : W.cell? ⟨w.heap.size, 2, none⟩ = some (.slice A x.stack.length c) := by rw [Lib.cell_of_heap h0]; rfl
  have b0 : W.cell? ⟨w.heap.size + 1, 0, none⟩ = some (.int .i64 y.alt) := by rw [Lib.cell_of_heap h1]; rfl
  have b1 : W.cell? ⟨w.heap.size + 1, 1, none⟩ = some (.int .i64 y.state) := by rw [Lib.cell_of_heap h1]; rfl
  have b2 : W.cell? ⟨w.heap.size + 1, 2, none⟩ = some (.slice A2 y.stack.length c2) := by rw [Lib.cell_of_heap h1]; rfl
  have hcm := compareR_any x.stack y.stack A A2 c c2 w.heap.size W sx.len sy.len hb.size (hr.below hb) (hr2.below hb)
  have ea : IntKind.i64.wrap (x.alt - y.alt) = x.alt - y.alt := w64 (by have := sx.alt; have := sy.alt; omega) (by have := sx.alt; have := sy.alt; omega)
  have es : IntKind.i64.wrap (x.state - y.state) = x.state - y.state := w64 (by have := sx.state; have := sy.state; omega) (by have := sx.state; have := sy.state; omega)
  have HCM := hid hcm
  have HB := hid hb
  have HH0 := hid h0
  have HH1 := hid h1
  have HO := hid ho
  clear hcm hb h0 h1 z0 hr hr2 ho sx sy
  by_cases e1 : x.alt = y.alt
  · have f1 : (x.alt == y.alt) = true := by rw [e1]; exact beq_self_eq_true _
    by_cases e2 : x.state = y.state
    · have f2 : (x.state == y.state) = true := by rw [e2]; exact beq_self_eq_true _
      have HO2 := hid (show o = if cmpR x.stack y.stack = 0 then (if x.ended = y.ended then 0 else if y.ended = true then -1 else 1) else cmpR x.stack y.stack by rw [← HO.out]; unfold ordR; rw [if_pos e1, if_pos e2])
      clear e1 e2
      go_enter Tryz.func65, Tryz.ntmps65
      go_wp2_with fail
      rw [hW.out]
      go_wp2_with fail
      go_at_call 88
      refine HCM.out.mono ?_
      obtain ⟨z, hz0⟩ : ∃ z, cmpR x.stack y.stack = z := ⟨_, rfl⟩
      rintro _ w2 ⟨rfl, hb2⟩
      rw [hz0]
      have HSG := hid hz0
      clear hz0
      have hx2 := (hb2.block _ (heap_lt HH0.out)).trans HH0.out
      have hy2 := (hb2.block _ (heap_lt HH1.out)).trans HH1.out
      have a4 : w2.cell? ⟨w.heap.size, 4, none⟩ = some (.bool x.ended) := by rw [Lib.cell_of_heap hx2]; rfl
      have b4 : w2.cell? ⟨w.heap.size + 1, 4, none⟩ = some (.bool y.ended) := by rw [Lib.cell_of_heap hy2]; rfl
      have HB2 := hid (HB.out.trans (hb2.mono HB.out.size))
      clear hx2 hy2 hb2 a0 a1 a2 b0 b1 b2
      by_cases hz : z = 0
      · have HL := hid (show o = if x.ended = y.ended then 0 else if y.ended = true then -1 else 1 by rw [HO2.out, if_pos (HSG.out.trans hz)])
        subst hz
        generalize x.ended = xe at a4 HL
        generalize y.ended = ye at b4 HL
        cases xe <;> cases ye
        all_goals
          go_wp2_with fail
          go_ret
        · exact ⟨by rw [HL.out]; rfl, HB2.out⟩
        · exact ⟨by rw [HL.out]; rfl, HB2.out⟩
        · exact ⟨by rw [HL.out]; rfl, HB2.out⟩
        · exact ⟨by rw [HL.out]; rfl, HB2.out⟩
      · have fz : (z == 0) = false := by rw [beq_eq_false_iff_ne]; exact hz
        have fz2 : (z != 0) = true := by rw [bne_iff_ne]; exact hz
        have HL := hid (show o = z by
          rw [HO2.out, HSG.out, if_neg hz])
        clear hz
        go_wp2_with fail
        go_ret
        exact ⟨by rw [HL.out]; rfl, HB2.out⟩
    · have f2 : (x.state == y.state) = false := by rw [beq_eq_false_iff_ne]; exact e2
      have HO2 := hid (show o = x.state - y.state by rw [← HO.out]; unfold ordR; rw [if_pos e1, if_neg e2])
      clear e1 e2
      go_enter Tryz.func65, Tryz.ntmps65
      go_wp2_with fail
      rw [hW.out]
      go_wp2_with fail
      go_ret
      exact ⟨by rw [HO2.out]; rfl, HB.out⟩
  · have f1 : (x.alt == y.alt) = false := by rw [beq_eq_false_iff_ne]; exact e1
    have HO2 := hid (show o = x.alt - y.alt by rw [← HO.out]; unfold ordR; rw [if_neg e1])
    clear e1
    go_enter Tryz.func65, Tryz.ntmps65
    go_wp2_with fail
    rw [hW.out]
    go_wp2_with fail
    go_ret
    exact ⟨by rw [HO2.out]; rfl, HB.out⟩
end Go.Proofs.YtnpcjbdolmmaeaaGreatDoor
