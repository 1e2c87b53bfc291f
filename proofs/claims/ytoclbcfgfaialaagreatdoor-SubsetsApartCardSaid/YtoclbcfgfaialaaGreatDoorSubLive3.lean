/-
  Subsets: lives of the statements of subsets: the walk.
-/
import Derived.Test.YtoclbcfgfaialaaGreatDoorSubLive2
namespace Go.Proofs.YtoclbcfgfaialaaGreatDoor
open Go.RowKit
set_option maxRecDepth 100000
theorem readsZ_new (w : World) (l : List Int) (t : TypeId) : Reads (w.alloc (.cells (l.map (Value.int .i64)).toArray t)) (w.alloc (.cells (l.map (Value.int .i64)).toArray t)).heap.size 1 (some ⟨w.heap.size, 0, none⟩) l.length (l.map (Value.int .i64)) := by
  refine ⟨by simp, fun _ => ⟨w.heap.size, 0, rfl, by simp, fun j u hu => ?_⟩⟩
  rw [Nat.zero_add, cell_new]
  simpa using hu
theorem readsV_new (w : World) (xs : List Value) (n size : Nat) (t : TypeId) (h : xs.length = n * size) : Reads (w.alloc (.cells xs.toArray t)) (w.alloc (.cells xs.toArray t)).heap.size size (some ⟨w.heap.size, 0, none⟩) n xs := by
  refine ⟨h, fun _ => ⟨w.heap.size, 0, rfl, by simp, fun j u hu => ?_⟩⟩
  rw [Nat.zero_add, cell_new]
  simpa using hu
theorem PlsR.next {w w' : World} {A : Option Addr} {ps : List Pl} (h : PlsR w w.heap.size A ps) (hb : Below w.heap.size w w') : PlsR w' w'.heap.size A ps := (h.below hb).more hb.size
theorem plsL {w : World} {B : Nat} {A1 A2 A3 F1 F2 : Option Addr} {c1 c2 c3 d1 d2 : Nat} {A : Option Addr} (r1 : Reads w B 2 A1 1 (flat encR [(97, 97)])) (r2 : Reads w B 2 A2 1 (flat encR [(98, 98)])) (r3 : Reads w B 2 A3 1 (flat encR [(120, 120)]))
    (f1 : Reads w B 1 F1 1 (([1] : List Int).map (Value.int .i64))) (f2 : Reads w B 1 F2 2 (([0, 2] : List Int).map (Value.int .i64)))
    (h : Reads w B 4 A 3 [.slice A1 1 c1, .int .i64 0, .bool false, .slice F1 1 d1, .slice A2 1 c2, .int .i64 0, .bool false, .slice F2 2 d2, .slice A3 1 c3, .int .i64 0, .bool true, .slice none 0 0]) : PlsR w B A auL.places := by
  refine ⟨_, h, fun i hi => ?_⟩
  match i, hi with
  | 0, _ => exact ⟨A1, c1, F1, d1, rfl, rfl, rfl, rfl, r1, f1⟩
  | 1, _ => exact ⟨A2, c2, F2, d2, rfl, rfl, rfl, rfl, r2, f2⟩
  | 2, _ => exact ⟨A3, c3, none, 0, rfl, rfl, rfl, rfl, r3, ⟨rfl, fun h => absurd h (by simp [auL])⟩⟩
theorem wfL_L : WfL (auL.places.map (·.set)).flatten := by
  have e : (auL.places.map (·.set)).flatten = [(97, 97), (98, 98), (120, 120)] := rfl
  rw [e]
  simp [WfL, Wf]
theorem goodL : GoodT rsL [[1, -1, 2], [-1, 3, -1], [-1, -1, -1], [1, -1, 2]] [-1, -1, 0, -1] := by
  have h : tableM auL (rsOf auL) = some (⟨[[], [0], [2], [1]], [-1, -1, 0, -1]⟩, [[1, -1, 2], [-1, 3, -1], [-1, -1, -1], [1, -1, 2]]) := by
    have e : rsOf auL = rsL := liveS
    rw [e]; exact liveT
  have := goodT_of mayL (by decide) wfL_L h
  have e : rsOf auL = rsL := liveS
  rw [e] at this
  exact this
def LivePost (w : World) (e : Ending) (w' : World) : Prop :=
  Below w.heap.size w w' ∧ ∃ RA CA NA EA, e = .returned (.tuple #[.agg #[.slice RA 3 3, .slice CA 3 3, .slice NA 4 4, .slice EA 4 4], .int .i64 0]) ∧ TabR w' w'.heap.size RA CA NA EA rsL [[1, -1, 2], [-1, 3, -1], [-1, -1, -1], [1, -1, 2]] [-1, -1, 0, -1]
theorem ofL_any (PA FA : Option Addr) (cp cf : Nat) (w : World) (hp : PlsR w w.heap.size PA auL.places) (hr : Reads w w.heap.size 1 FA 2 (([0, 2] : List Int).map (Value.int .i64))) :
    Calls Tryz.prog 11 #[.agg #[.slice PA 3 cp, .slice FA 2 cf, .int .i64 1]] w fun e w' => LivePost w e w' := by
  refine (of_any auL PA FA cp cf w (by decide) (by decide) (by intro p hp; have : ∀ p ∈ auL.places, p.follow.length ≤ 1000000 := by decide
                                                               exact this p hp) (by decide) wfL_L hp hr).mono ?_
  rintro e w' ⟨hb, h⟩
  have e1 : rsOf auL = rsL := liveS
  rw [e1, mayL, liveT] at h
  rcases h with ⟨h, _⟩ | ⟨_, h, _⟩ | ⟨_, m, rows, RA, CA, NA, EA, gs, ht, rfl, hT⟩
  · cases h
  · cases h
  · injection ht with ht
    injection ht with h1 h2
    subst h1 h2
    exact ⟨hb, RA, CA, NA, EA, rfl, hT.tab⟩
theorem step_L (RA CA NA EA : Option Addr) (rc cc nc ec : Nat) (s x v : Int) (w : World) (h : TabR w w.heap.size RA CA NA EA rsL [[1, -1, 2], [-1, 3, -1], [-1, -1, -1], [1, -1, 2]] [-1, -1, 0, -1])
    (hv : stepOf rsL [[1, -1, 2], [-1, 3, -1], [-1, -1, -1], [1, -1, 2]] s x = v) :
    Calls Tryz.prog 20 #[.agg #[.slice RA 3 rc, .slice CA 3 cc, .slice NA 4 nc, .slice EA 4 ec], .int .i64 s, .int .i32 x] w fun e w' => e = .returned (.int .i64 v) ∧ Below w.heap.size w w' :=
  step_any RA CA NA EA rc cc nc ec 3 4 rsL [[1, -1, 2], [-1, 3, -1], [-1, -1, -1], [1, -1, 2]] [-1, -1, 0, -1] s x v w rfl rfl (hid goodL) h (hid hv)
theorem may_L (RA CA NA EA : Option Addr) (rc cc nc ec : Nat) (w : World) (h : TabR w w.heap.size RA CA NA EA rsL [[1, -1, 2], [-1, 3, -1], [-1, -1, -1], [1, -1, 2]] [-1, -1, 0, -1]) :
    Calls Tryz.prog 18 #[.agg #[.slice RA 3 rc, .slice CA 3 cc, .slice NA 4 nc, .slice EA 4 ec]] w fun e w' => e = .returned (.bool true) ∧ Below w.heap.size w w' :=
  may_good RA CA NA EA rc cc nc ec 3 4 rsL [[1, -1, 2], [-1, 3, -1], [-1, -1, -1], [1, -1, 2]] [-1, -1, 0, -1] w rfl rfl (hid goodL) h
set_option maxHeartbeats 6400000 in
theorem lives9_any (w : World) : Calls Tryz.prog 6 #[] w fun e w' => e = .returned (.bool true) ∧ Below w.heap.size w w' := by
  have hB : Below w.heap.size w w := Below.refl _ _
  go_enter Tryz.func6, Tryz.ntmps6
  go_wp2_with fail
  have f1 := readsZ_new w [0, 2] 3
  refine (set_any 97 _).mono ?_
  rintro e w1 ⟨A1, rfl, r1, hb1⟩
  have f1 := f1.next hb1
  have hb1 := below_drop hb1
  have hB := hB.trans (hb1.mono hB.size)
  go_wp2_with fail
  have g1 := readsZ_new w1 [1] 3
  have f1 := f1.next (below_new w1 (.cells (([1] : List Int).map (Value.int .i64)).toArray 3))
  have r1 := r1.next (below_new w1 (.cells (([1] : List Int).map (Value.int .i64)).toArray 3))
  refine (set_any 98 _).mono ?_
  rintro e w2 ⟨A2, rfl, r2, hb2⟩
  have f1 := f1.next hb2
  have r1 := r1.next hb2
  have g1 := g1.next hb2
  have hb2 := below_drop hb2
  have hB := hB.trans (hb2.mono hB.size)
  go_wp2_with fail
  have k1 := readsZ_new w2 [0, 2] 3
  have f1 := f1.next (below_new w2 (.cells (([0, 2] : List Int).map (Value.int .i64)).toArray 3))
  have r1 := r1.next (below_new w2 (.cells (([0, 2] : List Int).map (Value.int .i64)).toArray 3))
  have g1 := g1.next (below_new w2 (.cells (([0, 2] : List Int).map (Value.int .i64)).toArray 3))
  have r2 := r2.next (below_new w2 (.cells (([0, 2] : List Int).map (Value.int .i64)).toArray 3))
  refine (set_any 120 _).mono ?_
  rintro e w3 ⟨A3, rfl, r3, hb3⟩
  have f1 := f1.next hb3
  have r1 := r1.next hb3
  have g1 := g1.next hb3
  have k1 := k1.next hb3
  have r2 := r2.next hb3
  have hb3 := below_drop hb3
  have hB := hB.trans (hb3.mono hB.size)
  clear hb1 hb2 hb3
  have hx : Below w3.heap.size w3 (w3.alloc (.cells ([.slice A1 1 1, .int .i64 0, .bool false, .slice (some ⟨w1.heap.size, 0, none⟩) 1 1, .slice A2 1 1, .int .i64 0, .bool false, .slice (some ⟨w2.heap.size, 0, none⟩) 2 2, .slice A3 1 1, .int .i64 0, .bool true, .slice none 0 0] : List Value).toArray 41)) := below_new _ _
  have hP := plsL (r1.next hx) (r2.next hx) (r3.next hx) (g1.next hx) (k1.next hx) (readsV_new w3 [.slice A1 1 1, .int .i64 0, .bool false, .slice (some ⟨w1.heap.size, 0, none⟩) 1 1, .slice A2 1 1, .int .i64 0, .bool false, .slice (some ⟨w2.heap.size, 0, none⟩) 2 2, .slice A3 1 1, .int .i64 0, .bool true, .slice none 0 0] 3 4 41 rfl)
  have f1 := f1.next hx
  go_wp2_with fail
  refine (ofL_any _ _ _ _ _ (hP.next (below_new _ _)) (f1.next (below_new _ _))).mono ?_
  rintro e w4 ⟨hb4, RA, CA, NA, EA, rfl, hT⟩
  have hB := hB.trans ((below_drop (below_drop hb4)).mono hB.size)
  clear hb4 hP f1 r1 r2 r3 g1 k1 hx
  obtain ⟨w5, hw5⟩ : ∃ w5, Hid (w4.alloc (.cells #[.slice RA 3 3, .slice CA 3 3, .slice NA 4 4, .slice EA 4 4] 43) = w5) := ⟨_, rfl⟩
  have h0 : w5.heap[w4.heap.size]? = some (.cells #[.slice RA 3 3, .slice CA 3 3, .slice NA 4 4, .slice EA 4 4] 43 (0, 0)) := by rw [← hw5.out]; exact heap_alloc_new _ _
  have hb5 : Below w4.heap.size w4 w5 := by rw [← hw5.out]; exact below_new _ _
  have hT := hT.next hb5
  have hB := hB.trans (hb5.mono hB.size)
  have hs := heap_lt h0
  generalize hnt : w4.heap.size = nt at h0 hs
  have HNT := hid hnt
  clear hnt hb5
  go_wp2_with fail
  rw [hw5.out, HNT.out]
  clear hw5
  refine (may_L RA CA NA EA 3 3 4 4 _ hT).mono ?_
  rintro e w6 ⟨rfl, hb⟩
  have h0 := (hb.block _ hs).trans h0
  have hs := Nat.lt_of_lt_of_le hs hb.size
  have hT := hT.next hb
  have hB := hB.trans (hb.mono hB.size)
  obtain ⟨r0, r1, r2, r3, z0, z1, z2, z3⟩ := cells4 h0
  clear hb
  go_wp2_with fail
  clear r0 r1 r2 r3 z0 z1 z2 z3
  refine (step_L RA CA NA EA 3 3 4 4 0 97 (1) _ hT (by kernel_rfl)).mono ?_
  rintro e w7 ⟨rfl, hb⟩
  have h0 := (hb.block _ hs).trans h0
  have hs := Nat.lt_of_lt_of_le hs hb.size
  have hT := hT.next hb
  have hB := hB.trans (hb.mono hB.size)
  obtain ⟨r0, r1, r2, r3, z0, z1, z2, z3⟩ := cells4 h0
  clear hb
  go_wp2_with fail
  clear r0 r1 r2 r3 z0 z1 z2 z3
  refine (step_L RA CA NA EA 3 3 4 4 0 120 (2) _ hT (by kernel_rfl)).mono ?_
  rintro e w8 ⟨rfl, hb⟩
  have h0 := (hb.block _ hs).trans h0
  have hs := Nat.lt_of_lt_of_le hs hb.size
  have hT := hT.next hb
  have hB := hB.trans (hb.mono hB.size)
  obtain ⟨r0, r1, r2, r3, z0, z1, z2, z3⟩ := cells4 h0
  clear hb
  go_wp2_with fail
  clear r0 r1 r2 r3 z0 z1 z2 z3
  refine (step_L RA CA NA EA 3 3 4 4 0 98 (-1) _ hT (by kernel_rfl)).mono ?_
  rintro e w9 ⟨rfl, hb⟩
  have h0 := (hb.block _ hs).trans h0
  have hs := Nat.lt_of_lt_of_le hs hb.size
  have hT := hT.next hb
  have hB := hB.trans (hb.mono hB.size)
  obtain ⟨r0, r1, r2, r3, z0, z1, z2, z3⟩ := cells4 h0
  clear hb
  go_wp2_with fail
  clear r0 r1 r2 r3 z0 z1 z2 z3
  refine (step_L RA CA NA EA 3 3 4 4 1 98 (3) _ hT (by kernel_rfl)).mono ?_
  rintro e w10 ⟨rfl, hb⟩
  have h0 := (hb.block _ hs).trans h0
  have hs := Nat.lt_of_lt_of_le hs hb.size
  have hT := hT.next hb
  have hB := hB.trans (hb.mono hB.size)
  obtain ⟨r0, r1, r2, r3, z0, z1, z2, z3⟩ := cells4 h0
  clear hb
  go_wp2_with fail
  clear r0 r1 r2 r3 z0 z1 z2 z3
  refine (step_L RA CA NA EA 3 3 4 4 3 97 (1) _ hT (by kernel_rfl)).mono ?_
  rintro e w11 ⟨rfl, hb⟩
  have h0 := (hb.block _ hs).trans h0
  have hs := Nat.lt_of_lt_of_le hs hb.size
  have hT := hT.next hb
  have hB := hB.trans (hb.mono hB.size)
  obtain ⟨r0, r1, r2, r3, z0, z1, z2, z3⟩ := cells4 h0
  clear hb
  go_wp2_with fail
  clear r0 r1 r2 r3 z0 z1 z2 z3
  refine (step_L RA CA NA EA 3 3 4 4 3 120 (2) _ hT (by kernel_rfl)).mono ?_
  rintro e w12 ⟨rfl, hb⟩
  have h0 := (hb.block _ hs).trans h0
  have hs := Nat.lt_of_lt_of_le hs hb.size
  have hT := hT.next hb
  have hB := hB.trans (hb.mono hB.size)
  obtain ⟨r0, r1, r2, r3, z0, z1, z2, z3⟩ := cells4 h0
  clear hb
  go_wp2_with fail
  clear r0 r1 r2 r3 z0 z1 z2 z3
  refine (step_L RA CA NA EA 3 3 4 4 9 97 (-1) _ hT (by kernel_rfl)).mono ?_
  rintro e w13 ⟨rfl, hb⟩
  have h0 := (hb.block _ hs).trans h0
  have hs := Nat.lt_of_lt_of_le hs hb.size
  have hT := hT.next hb
  have hB := hB.trans (hb.mono hB.size)
  obtain ⟨r0, r1, r2, r3, z0, z1, z2, z3⟩ := cells4 h0
  clear hb
  go_wp2_with fail
  clear r0 r1 r2 r3 z0 z1 z2 z3
  have q := readsZ_new w13 [-1, -1, 0, -1] 3
  refine (sameZ_eq EA _ 4 4 [-1, -1, 0, -1] _ (by decide) (hT.ends.next (below_new _ _)) q).mono ?_
  rintro e w14 ⟨rfl, hb⟩
  have hB := hB.trans ((below_drop hb).mono hB.size)
  clear hb q
  go_wp2_with fail
  go_ret
  exact ⟨rfl, hB⟩
end Go.Proofs.YtoclbcfgfaialaaGreatDoor
