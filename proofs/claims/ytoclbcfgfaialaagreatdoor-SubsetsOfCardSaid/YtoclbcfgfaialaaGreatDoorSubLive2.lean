/-
  Subsets: a table that was made may be; lives of the statements of subsets: the walk.
-/
import Derived.Test.YtoclbcfgfaialaaGreatDoorOf
import Derived.Test.YtoclbcfgfaialaaGreatDoorStep
import Derived.Test.YtoclbcfgfaialaaGreatDoorSubTail
import Derived.Test.YtoclbcfgfaialaaGreatDoorSubLives
namespace Go.Proofs.YtoclbcfgfaialaaGreatDoor
open Go.RowKit
set_option maxRecDepth 100000
theorem TableAt.tab {w : World} {base : Nat} {RA CA NA EA : Option Addr} {gs : List Nat} {rs : List Rg} {m : Mk} {rows : List (List Int)} (h : TableAt w base RA CA NA EA gs rs m rows) : TabR w w.heap.size RA CA NA EA rs rows m.ends := by
  refine ⟨h.rng.reads, ?_, ?_, h.ends.reads⟩
  · have := h.cls.reads
    unfold iotaI
    rw [List.map_map]
    exact this
  · refine ⟨_, h.nxt.reads, fun i hi => ?_⟩
    obtain ⟨g, e, _, hl, _, hr, hh⟩ := h.row.each i hi
    refine ⟨some ⟨g, 0, none⟩, rs.length, ?_, by simp, fun _ => ⟨g, 0, rfl, hl, fun j u hu => ?_⟩⟩
    · rw [List.getElem?_map, e, hr]; rfl
    · rw [Nat.zero_add]
      simp only [World.cell?, hh]
      simpa using hu
theorem loopM_len (a : Au) (rs : List Rg) : ∀ (f s : Nat) (m : Mk) (rows : List (List Int)) (m' : Mk) (rows' : List (List Int)), loopM a rs f s m rows = some (m', rows') → rows'.length ≤ rows.length + f
  | 0, _, _, _, _, _, h => by cases h
  | f + 1, s, m, rows, m', rows', h => by
    unfold loopM at h
    split at h
    · split at h
      · cases h
      · have := loopM_len a rs f _ _ _ _ _ h
        simp at this
        omega
    · injection h with h
      injection h with _ h
      subst h
      omega
theorem splitP_of (a : Au) (hwf : WfL (a.places.map (·.set)).flatten) : SplitP (a.places.map (·.set)) (-2147483649) (rsOf a) := by
  refine splitOf_law _ _ fun l hl x hx => ?_
  obtain ⟨r, hr, h1, _⟩ := hx
  have := (hwf r (List.mem_flatten.2 ⟨l, hl, hr⟩)).1.1
  omega
theorem goodT_of {a : Au} {m : Mk} {rows : List (List Int)} (hm : mayB a = true) (hsl : (a.places.map (·.set)).flatten.length ≤ 100000) (hwf : WfL (a.places.map (·.set)).flatten) (ht : tableM a (rsOf a) = some (m, rows)) : GoodT (rsOf a) rows m.ends := by
  obtain ⟨hI, hl, hr⟩ := tableM_law hm ht
  have hP := splitP_of a hwf
  have hn := loopM_len a (rsOf a) 4098 0 start0 [] m rows ht
  refine ⟨by have := rsOf_len a hsl; omega, ⟨hP.some, fun j hj => ?_⟩, by rw [hl]; exact hI.one, by simp at hn; omega, by rw [hl]; exact hI.ends, hI.endsIn, hr, fun r hr' x hx => ?_⟩
  · exact List.pairwise_iff_getElem.1 hP.rise j (j + 1) (by omega) hj (by omega)
  · have := hI.cell r hr' x hx
    rw [hl]; omega
end Go.Proofs.YtoclbcfgfaialaaGreatDoor

/-
  Subsets: lives of the statements of subsets: the walk.
-/
namespace Go.Proofs.YtoclbcfgfaialaaGreatDoor
open Go.RowKit
set_option maxRecDepth 100000
theorem readsZ_new (w : World) (l : List Int) (t : TypeId) : Reads (w.alloc (.cells (l.map (Value.int .i64)).toArray t)) (w.alloc (.cells (l.map (Value.int .i64)).toArray t)).heap.size 1 (some ⟨w.heap.size, 0, none⟩) l.length (l.map (Value.int .i64)) := by
  refine ⟨by simp, fun _ => ⟨w.heap.size, 0, rfl, by simp, fun j u hu => ?_⟩⟩
  rw [Nat.zero_add, cell_new]
  simpa using hu
theorem readsV_new (w : World) (xs : List Value) (n size : Nat) (t : TypeId) (h : xs.length = n * size) : Reads (w.alloc (.cells xs.toArray t)) (w.alloc (.cells xs.toArray t)).heap.size size (some ⟨w.heap.size, 0, none⟩) n xs := by
  refine ⟨h, fun _ => ⟨w.heap.size, 0, rfl, by simp, fun j u hu => ?_⟩⟩
  rw [Nat.zero_add, cell_new]
  simpa using hu
theorem PlsR.next {w w' : World} {A : Option Addr} {ps : List Pl} (h : PlsR w w.heap.size A ps) (hb : Below w.heap.size w w') : PlsR w' w'.heap.size A ps := (h.below hb).more hb.size
theorem plsL {w : World} {B : Nat} {A1 A2 A3 F1 F2 : Option Addr} {c1 c2 c3 d1 d2 : Nat} {A : Option Addr} (r1 : Reads w B 2 A1 1 (flat encR [(97, 97)])) (r2 : Reads w B 2 A2 1 (flat encR [(98, 98)])) (r3 : Reads w B 2 A3 1 (flat encR [(120, 120)]))
    (f1 : Reads w B 1 F1 1 (([1] : List Int).map (Value.int .i64))) (f2 : Reads w B 1 F2 2 (([0, 2] : List Int).map (Value.int .i64)))
    (h : Reads w B 4 A 3 [.slice A1 1 c1, .int .i64 0, .bool false, .slice F1 1 d1, .slice A2 1 c2, .int .i64 0, .bool false, .slice F2 2 d2, .slice A3 1 c3, .int .i64 0, .bool true, .slice none 0 0]) : PlsR w B A auL.places := by
  refine ⟨_, h, fun i hi => ?_⟩
  match i, hi with
  | 0, _ => exact ⟨A1, c1, F1, d1, rfl, rfl, rfl, rfl, r1, f1⟩
  | 1, _ => exact ⟨A2, c2, F2, d2, rfl, rfl, rfl, rfl, r2, f2⟩
  | 2, _ => exact ⟨A3, c3, none, 0, rfl, rfl, rfl, rfl, r3, ⟨rfl, fun h => absurd h (by simp [auL])⟩⟩
theorem wfL_L : WfL (auL.places.map (·.set)).flatten := by
  have e : (auL.places.map (·.set)).flatten = [(97, 97), (98, 98), (120, 120)] := rfl
  rw [e]
  simp [WfL, Wf]
theorem goodL : GoodT rsL [[1, -1, 2], [-1, 3, -1], [-1, -1, -1], [1, -1, 2]] [-1, -1, 0, -1] := by
  have h : tableM auL (rsOf auL) = some (⟨[[], [0], [2], [1]], [-1, -1, 0, -1]⟩, [[1, -1, 2], [-1, 3, -1], [-1, -1, -1], [1, -1, 2]]) := by
    have e : rsOf auL = rsL := liveS
    rw [e]; exact liveT
  have := goodT_of mayL (by decide) wfL_L h
  have e : rsOf auL = rsL := liveS
  rw [e] at this
  exact this
def LivePost (w : World) (e : Ending) (w' : World) : Prop :=
  Below w.heap.size w w' ∧ ∃ RA CA NA EA, e = .returned (.tuple #[.agg #[.slice RA 3 3, .slice CA 3 3, .slice NA 4 4, .slice EA 4 4], .int .i64 0]) ∧ TabR w' w'.heap.size RA CA NA EA rsL [[1, -1, 2], [-1, 3, -1], [-1, -1, -1], [1, -1, 2]] [-1, -1, 0, -1]
theorem ofL_any (PA FA : Option Addr) (cp cf : Nat) (w : World) (hp : PlsR w w.heap.size PA auL.places) (hr : Reads w w.heap.size 1 FA 2 (([0, 2] : List Int).map (Value.int .i64))) :
    Calls Tryz.prog 11 #[.agg #[.slice PA 3 cp, .slice FA 2 cf, .int .i64 1]] w fun e w' => LivePost w e w' := by
  refine (of_any auL PA FA cp cf w (by decide) (by decide) (by intro p hp; have : ∀ p ∈ auL.places, p.follow.length ≤ 1000000 := by decide
                                                               exact this p hp) (by decide) wfL_L hp hr).mono ?_
  rintro e w' ⟨hb, h⟩
  have e1 : rsOf auL = rsL := liveS
  rw [e1, mayL, liveT] at h
  rcases h with ⟨h, _⟩ | ⟨_, h, _⟩ | ⟨_, m, rows, RA, CA, NA, EA, gs, ht, rfl, hT⟩
  · cases h
  · cases h
  · injection ht with ht
    injection ht with h1 h2
    subst h1 h2
    exact ⟨hb, RA, CA, NA, EA, rfl, hT.tab⟩
theorem step_L (RA CA NA EA : Option Addr) (rc cc nc ec : Nat) (s x v : Int) (w : World) (h : TabR w w.heap.size RA CA NA EA rsL [[1, -1, 2], [-1, 3, -1], [-1, -1, -1], [1, -1, 2]] [-1, -1, 0, -1])
    (hv : stepOf rsL [[1, -1, 2], [-1, 3, -1], [-1, -1, -1], [1, -1, 2]] s x = v) :
    Calls Tryz.prog 20 #[.agg #[.slice RA 3 rc, .slice CA 3 cc, .slice NA 4 nc, .slice EA 4 ec], .int .i64 s, .int .i32 x] w fun e w' => e = .returned (.int .i64 v) ∧ Below w.heap.size w w' :=
  step_any RA CA NA EA rc cc nc ec 3 4 rsL [[1, -1, 2], [-1, 3, -1], [-1, -1, -1], [1, -1, 2]] [-1, -1, 0, -1] s x v w rfl rfl (hid goodL) h (hid hv)
theorem may_L (RA CA NA EA : Option Addr) (rc cc nc ec : Nat) (w : World) (h : TabR w w.heap.size RA CA NA EA rsL [[1, -1, 2], [-1, 3, -1], [-1, -1, -1], [1, -1, 2]] [-1, -1, 0, -1]) :
    Calls Tryz.prog 18 #[.agg #[.slice RA 3 rc, .slice CA 3 cc, .slice NA 4 nc, .slice EA 4 ec]] w fun e w' => e = .returned (.bool true) ∧ Below w.heap.size w w' :=
  may_good RA CA NA EA rc cc nc ec 3 4 rsL [[1, -1, 2], [-1, 3, -1], [-1, -1, -1], [1, -1, 2]] [-1, -1, 0, -1] w rfl rfl (hid goodL) h
set_option maxHeartbeats 6400000 in
theorem lives9_any (w : World) : Calls Tryz.prog 6 #[] w fun e w' => e = .returned (.bool true) ∧ Below w.heap.size w w' := by
  have hB : Below w.heap.size w w := Below.refl _ _
  go_enter Tryz.func6, Tryz.ntmps6
  go_wp2_with fail
  have f1 := readsZ_new w [0, 2] 3
  refine (set_any 97 _).mono ?_
  rintro e w1 ⟨A1, rfl, r1, hb1⟩
  have f1 := f1.next hb1
  have hb1 := below_drop hb1
  have hB := hB.trans (hb1.mono hB.size)
  go_wp2_with fail
  have g1 := readsZ_new w1 [1] 3
  have f1 := f1.next (below_new w1 (.cells (([1] : List Int).map (Value.int .i64)).toArray 3))
  have r1 := r1.next (below_new w1 (.cells (([1] : List Int).map (Value.int .i64)).toArray 3))
  refine (set_any 98 _).mono ?_
  rintro e w2 ⟨A2, rfl, r2, hb2⟩
  have f1 := f1.next hb2
  have r1 := r1.next hb2
  have g1 := g1.next hb2
  have hb2 := below_drop hb2
  have hB := hB.trans (hb2.mono hB.size)
  go_wp2_with fail
  have k1 := readsZ_new w2 [0, 2] 3
  have f1 := f1.next (below_new w2 (.cells (([0, 2] : List Int).map (Value.int .i64)).toArray 3))
  have r1 := r1.next (below_new w2 (.cells (([0, 2] : List Int).map (Value.int .i64)).toArray 3))
  have g1 := g1.next (below_new w2 (.cells (([0, 2] : List Int).map (Value.int .i64)).toArray 3))
  have r2 := r2.next (below_new w2 (.cells (([0, 2] : List Int).map (Value.int .i64)).toArray 3))
  refine (set_any 120 _).mono ?_
  rintro e w3 ⟨A3, rfl, r3, hb3⟩
  have f1 := f1.next hb3
  have r1 := r1.next hb3
  have g1 := g1.next hb3
  have k1 := k1.next hb3
  have r2 := r2.next hb3
  have hb3 := below_drop hb3
  have hB := hB.trans (hb3.mono hB.size)
  clear hb1 hb2 hb3
  have hx : Below w3.heap.size w3 (w3.alloc (.cells ([.slice A1 1 1, .int .i64 0, .bool false, .slice (some ⟨w1.heap.size, 0, none⟩) 1 1, .slice A2 1 1, .int .i64 0, .bool false, .slice (some ⟨w2.heap.size, 0, none⟩) 2 2, .slice A3 1 1, .int .i64 0, .bool true, .slice none 0 0] : List Value).toArray 41)) := below_new _ _
  have hP := plsL (r1.next hx) (r2.next hx) (r3.next hx) (g1.next hx) (k1.next hx) (readsV_new w3 [.slice A1 1 1, .int .i64 0, .bool false, .slice (some ⟨w1.heap.size, 0, none⟩) 1 1, .slice A2 1 1, .int .i64 0, .bool false, .slice (some ⟨w2.heap.size, 0, none⟩) 2 2, .slice A3 1 1, .int .i64 0, .bool true, .slice none 0 0] 3 4 41 rfl)
  have f1 := f1.next hx
  go_wp2_with fail
  refine (ofL_any _ _ _ _ _ (hP.next (below_new _ _)) (f1.next (below_new _ _))).mono ?_
  rintro e w4 ⟨hb4, RA, CA, NA, EA, rfl, hT⟩
  have hB := hB.trans ((below_drop (below_drop hb4)).mono hB.size)
  clear hb4 hP f1 r1 r2 r3 g1 k1 hx
  obtain ⟨w5, hw5⟩ : ∃ w5, Hid (w4.alloc (.cells #[.slice RA 3 3, .slice CA 3 3, .slice NA 4 4, .slice EA 4 4] 43) = w5) := ⟨_, rfl⟩
  have h0 : w5.heap[w4.heap.size]? = some (.cells #[.slice RA 3 3, .slice CA 3 3, .slice NA 4 4, .slice EA 4 4] 43 (0, 0)) := by rw [← hw5.out]; exact heap_alloc_new _ _
  have hb5 : Below w4.heap.size w4 w5 := by rw [← hw5.out]; exact below_new _ _
  have hT := hT.next hb5
  have hB := hB.trans (hb5.mono hB.size)
  have hs := heap_lt h0
  generalize hnt : w4.heap.size = nt at h0 hs
  have HNT := hid hnt
  clear hnt hb5
  go_wp2_with fail
  rw [hw5.out, HNT.out]
  clear hw5
  refine (may_L RA CA NA EA 3 3 4 4 _ hT).mono ?_
  rintro e w6 ⟨rfl, hb⟩
  have h0 := (hb.block _ hs).trans h0
  have hs := Nat.lt_of_lt_of_le hs hb.size
  have hT := hT.next hb
  have hB := hB.trans (hb.mono hB.size)
  obtain ⟨r0, r1, r2, r3, z0, z1, z2, z3⟩ := cells4 h0
  clear hb
  go_wp2_with fail
  clear r0 r1 r2 r3 z0 z1 z2 z3
  refine (step_L RA CA NA EA 3 3 4 4 0 97 (1) _ hT (by kernel_rfl)).mono ?_
  rintro e w7 ⟨rfl, hb⟩
  have h0 := (hb.block _ hs).trans h0
  have hs := Nat.lt_of_lt_of_le hs hb.size
  have hT := hT.next hb
  have hB := hB.trans (hb.mono hB.size)
  obtain ⟨r0, r1, r2, r3, z0, z1, z2, z3⟩ := cells4 h0
  clear hb
  go_wp2_with fail
  clear r0 r1 r2 r3 z0 z1 z2 z3
  refine (step_L RA CA NA EA 3 3 4 4 0 120 (2) _ hT (by kernel_rfl)).mono ?_
  rintro e w8 ⟨rfl, hb⟩
  have h0 := (hb.block _ hs).trans h0
  have hs := Nat.lt_of_lt_of_le hs hb.size
  have hT := hT.next hb
  have hB := hB.trans (hb.mono hB.size)
  obtain ⟨r0, r1, r2, r3, z0, z1, z2, z3⟩ := cells4 h0
  clear hb
  go_wp2_with fail
  clear r0 r1 r2 r3 z0 z1 z2 z3
  refine (step_L RA CA NA EA 3 3 4 4 0 98 (-1) _ hT (by kernel_rfl)).mono ?_
  rintro e w9 ⟨rfl, hb⟩
  have h0 := (hb.block _ hs).trans h0
  have hs := Nat.lt_of_lt_of_le hs hb.size
  have hT := hT.next hb
  have hB := hB.trans (hb.mono hB.size)
  obtain ⟨r0, r1, r2, r3, z0, z1, z2, z3⟩ := cells4 h0
  clear hb
  go_wp2_with fail
  clear r0 r1 r2 r3 z0 z1 z2 z3
  refine (step_L RA CA NA EA 3 3 4 4 1 98 (3) _ hT (by kernel_rfl)).mono ?_
  rintro e w10 ⟨rfl, hb⟩
  have h0 := (hb.block _ hs).trans h0
  have hs := Nat.lt_of_lt_of_le hs hb.size
  have hT := hT.next hb
  have hB := hB.trans (hb.mono hB.size)
  obtain ⟨r0, r1, r2, r3, z0, z1, z2, z3⟩ := cells4 h0
  clear hb
  go_wp2_with fail
  clear r0 r1 r2 r3 z0 z1 z2 z3
  refine (step_L RA CA NA EA 3 3 4 4 3 97 (1) _ hT (by kernel_rfl)).mono ?_
  rintro e w11 ⟨rfl, hb⟩
  have h0 := (hb.block _ hs).trans h0
  have hs := Nat.lt_of_lt_of_le hs hb.size
  have hT := hT.next hb
  have hB := hB.trans (hb.mono hB.size)
  obtain ⟨r0, r1, r2, r3, z0, z1, z2, z3⟩ := cells4 h0
  clear hb
  go_wp2_with fail
  clear r0 r1 r2 r3 z0 z1 z2 z3
  refine (step_L RA CA NA EA 3 3 4 4 3 120 (2) _ hT (by kernel_rfl)).mono ?_
  rintro e w12 ⟨rfl, hb⟩
  have h0 := (hb.block _ hs).trans h0
  have hs := Nat.lt_of_lt_of_le hs hb.size
  have hT := hT.next hb
  have hB := hB.trans (hb.mono hB.size)
  obtain ⟨r0, r1, r2, r3, z0, z1, z2, z3⟩ := cells4 h0
  clear hb
  go_wp2_with fail
  clear r0 r1 r2 r3 z0 z1 z2 z3
  refine (step_L RA CA NA EA 3 3 4 4 9 97 (-1) _ hT (by kernel_rfl)).mono ?_
  rintro e w13 ⟨rfl, hb⟩
  have h0 := (hb.block _ hs).trans h0
  have hs := Nat.lt_of_lt_of_le hs hb.size
  have hT := hT.next hb
  have hB := hB.trans (hb.mono hB.size)
  obtain ⟨r0, r1, r2, r3, z0, z1, z2, z3⟩ := cells4 h0
  clear hb
  go_wp2_with fail
  clear r0 r1 r2 r3 z0 z1 z2 z3
  have q := readsZ_new w13 [-1, -1, 0, -1] 3
  refine (sameZ_eq EA _ 4 4 [-1, -1, 0, -1] _ (by decide) (hT.ends.next (below_new _ _)) q).mono ?_
  rintro e w14 ⟨rfl, hb⟩
  have hB := hB.trans ((below_drop hb).mono hB.size)
  clear hb q
  go_wp2_with fail
  go_ret
  exact ⟨rfl, hB⟩
end Go.Proofs.YtoclbcfgfaialaaGreatDoor

/-
  SubsetsApart: plain law of what is reached, and its memory.
-/
namespace Go.Proofs.YtoclbcfgfaialaaGreatDoor
open Go.RowKit
set_option maxRecDepth 100000
/-- reached ahead of cell c of row s -/
def Rch (rows : List (List Int)) (s c : Nat) (j : Nat) : Prop :=
  j = 0 ∨ (∃ q row, q < s ∧ rows[q]? = some row ∧ (j : Int) ∈ row) ∨ ∃ row, rows[s]? = some row ∧ (j : Int) ∈ row.take c
theorem Rch.cell {rows : List (List Int)} {s c j : Nat} {row : List Int} (hrow : rows[s]? = some row) (hc : c < row.length) (h : Rch rows s (c + 1) j) : Rch rows s c j ∨ (j : Int) = row[c] := by
  rcases h with h | h | ⟨r, e, h⟩
  · exact .inl (.inl h)
  · exact .inl (.inr (.inl h))
  · rw [hrow] at e
    injection e with e
    subst e
    rw [List.take_succ_eq_append_getElem hc] at h
    rcases List.mem_append.1 h with h | h
    · exact .inl (.inr (.inr ⟨_, hrow, h⟩))
    · simp at h; exact .inr h
theorem Rch.next {rows : List (List Int)} {s j : Nat} {row : List Int} (hrow : rows[s]? = some row) (h : Rch rows (s + 1) 0 j) : Rch rows s row.length j := by
  rcases h with h | ⟨q, r, hq, e, h⟩ | ⟨r, e, h⟩
  · exact .inl h
  · by_cases hs : q = s
    · subst hs
      rw [hrow] at e
      injection e with e
      subst e
      exact .inr (.inr ⟨_, hrow, by rw [List.take_length]; exact h⟩)
    · exact .inr (.inl ⟨q, r, by omega, e, h⟩)
  · simp at h
/-- a list of bools in a block, true where P says so -/
def BoolsAt (w : World) (rb n : Nat) (P : Nat → Prop) : Prop :=
  ∃ bs : List Bool, bs.length = n ∧ w.heap[rb]? = some (.cells (bs.map Value.bool).toArray 4 (0, 0)) ∧ ∀ j, j < n → P j → bs[j]? = some true
theorem BoolsAt.weak {w : World} {rb n : Nat} {P Q : Nat → Prop} (h : BoolsAt w rb n P) (hQ : ∀ j, j < n → Q j → P j) : BoolsAt w rb n Q := by
  obtain ⟨bs, h1, h2, h3⟩ := h
  exact ⟨bs, h1, h2, fun j hj hq => h3 j hj (hQ j hj hq)⟩
theorem BoolsAt.cell {w : World} {rb n : Nat} {P : Nat → Prop} (h : BoolsAt w rb n P) (j : Nat) (hj : j < n) : ∃ b, w.cell? ⟨rb, j, none⟩ = some (.bool b) ∧ w.frozen? ⟨rb, j, none⟩ = false ∧ (P j → b = true) := by
  obtain ⟨bs, h1, h2, h3⟩ := h
  refine ⟨bs[j]'(by omega), ?_, Lib.frozen_of_heap h2 j, fun hp => ?_⟩
  · rw [Lib.cell_of_heap h2]
    simp [List.getElem?_eq_getElem (show j < bs.length by omega)]
  · have := h3 j hj hp
    rw [List.getElem?_eq_getElem (by omega)] at this
    injection this
theorem BoolsAt.set {w : World} {rb n : Nat} {P : Nat → Prop} (h : BoolsAt w rb n P) (j : Nat) (hj : j < n) : BoolsAt (w.setCell ⟨rb, j, none⟩ (.bool true)) rb n (fun i => P i ∨ i = j) := by
  obtain ⟨bs, h1, h2, h3⟩ := h
  refine ⟨bs.set j true, by simp [h1], ?_, fun i hi hp => ?_⟩
  · rw [heap_setCell_same w rb j _ _ _ h2]
    simp [List.map_set]
  · by_cases e : i = j
    · subst e
      rw [List.getElem?_set_self (by omega)]
    · rw [List.getElem?_set_ne (by omega)]
      exact h3 i hi (hp.resolve_right e)
end Go.Proofs.YtoclbcfgfaialaaGreatDoor

/-
  SubsetsApart: the walk.
-/
namespace Go.Proofs.YtoclbcfgfaialaaGreatDoor
open Go.RowKit
set_option maxRecDepth 100000
theorem cells3 {w : World} {b : Nat} {T : TypeId} {x0 x1 x2 : Value} (h : w.heap[b]? = some (.cells #[x0, x1, x2] T (0, 0))) :
    w.cell? ⟨b, 0, none⟩ = some x0 ∧ w.cell? ⟨b, 1, none⟩ = some x1 ∧ w.cell? ⟨b, 2, none⟩ = some x2 := by
  refine ⟨?_, ?_, ?_⟩ <;> (rw [Lib.cell_of_heap h]; rfl)
set_option maxHeartbeats 6400000 in
theorem apartW_any (a : Au) (PA FA : Option Addr) (cp cf : Nat) (w : World) (hn : a.places.length ≤ 140737488351232) (hf : a.first.length ≤ 140737488351232) (hpf : Hid (∀ p ∈ a.places, p.follow.length ≤ 140737488351232 ∧ p.set.length ≤ 140737488351232))
    (hwf : Hid (WfL (a.places.map (·.set)).flatten)) (hp : PlsR w w.heap.size PA a.places) (hr : Reads w w.heap.size 1 FA a.first.length (a.first.map (Value.int .i64))) :
    Calls Tryz.prog 4 #[.agg #[.slice PA a.places.length cp, .slice FA a.first.length cf, .int .i64 a.kinds]] w fun e w' => e = .returned (.bool true) ∧ Below w.heap.size w w' := by
  obtain ⟨q, hq⟩ : ∃ q, Hid (hugeB a = q) := ⟨_, rfl⟩
  obtain ⟨wx, hwx⟩ : ∃ wx, Hid (w.alloc (.cells #[.slice PA a.places.length cp, .slice FA a.first.length cf, .int .i64 a.kinds] 25) = wx) := ⟨_, rfl⟩
  have hb : Below w.heap.size w wx := by rw [← hwx.out]; exact below_new _ _
  have hs : w.heap.size < wx.heap.size := by rw [← hwx.out]; simp
  have hA : wx.heap[w.heap.size]? = some (.cells #[.slice PA a.places.length cp, .slice FA a.first.length cf, .int .i64 a.kinds] 25 (0, 0)) := by rw [← hwx.out]; exact heap_alloc_new _ _
  have hp := hp.next hb
  have hr := hr.next hb
  obtain ⟨c0, c1, c2⟩ := cells3 hA
  go_enter Tryz.func4, Tryz.ntmps4
  go_wp2_with fail
  rw [hwx.out]
  clear hwx
  refine (huge_any a PA FA cp cf q wx hn hf hpf hp hq).mono ?_
  rintro e w1 ⟨rfl, hb1⟩
  have hbw : Below w.heap.size w w1 := hb.trans (hb1.mono hb.size)
  have hA := (hb1.block _ hs).trans hA
  have hs := Nat.lt_of_lt_of_le hs hb1.size
  have hp := hp.next hb1
  have hr := hr.next hb1
  clear c0 c1 c2 hb hb1
  obtain ⟨c0, c1, c2⟩ := cells3 hA
  cases q with
  | true =>
    go_wp2_with fail
    refine (lives9_any _).mono ?_
    rintro e w2 ⟨rfl, hb2⟩
    go_wp2_with fail
    go_ret
    exact ⟨rfl, hbw.trans (hb2.mono hbw.size)⟩
  | false =>
    by_cases hmany : 40 < a.places.length
    · have h1 : (40 : Int) < (a.places.length : Int) := by omega
      go_wp2_with fail
      refine (lives9_any _).mono ?_
      rintro e w2 ⟨rfl, hb2⟩
      go_wp2_with fail
      go_ret
      exact ⟨rfl, hbw.trans (hb2.mono hbw.size)⟩
    · have h1 : ¬ (40 : Int) < (a.places.length : Int) := by omega
      have hh := hq.out
      have hsl := hugeB_sets hh
      have hfl : a.first.length ≤ 1000000 := by
        have := (hugeB_no hh).1
        unfold totOf at this
        omega
      have hpf2 : Hid (∀ p ∈ a.places, p.follow.length ≤ 1000000) := hid fun p hp' => by have := (hugeB_place hh hp').1; omega
      have HH := hid hh
      clear hh
      go_wp2_with fail
      refine (of_any a PA FA cp cf w1 (by omega) hfl hpf2 (by omega) hwf.out hp hr).mono ?_
      rintro e w2 ⟨hb2, h⟩
      have hbw2 : Below w.heap.size w w2 := hbw.trans (hb2.mono hbw.size)
      rcases h with ⟨_, rfl⟩ | ⟨_, _, rfl⟩ | ⟨hmay, m, rows, RA, CA, NA, EA, gs, ht, rfl, hT⟩
      · clear c0 c1 c2 hp hr hA hb2 hbw
        unfold emptyT
        go_wp2_with fail
        refine (lives9_any _).mono ?_
        rintro e w3 ⟨rfl, hb3⟩
        go_wp2_with fail
        go_ret
        exact ⟨rfl, hbw2.trans ((below_drop hb3).mono hbw2.size)⟩
      · clear c0 c1 c2 hp hr hA hb2 hbw
        unfold emptyT
        go_wp2_with fail
        refine (lives9_any _).mono ?_
        rintro e w3 ⟨rfl, hb3⟩
        go_wp2_with fail
        go_ret
        exact ⟨rfl, hbw2.trans ((below_drop hb3).mono hbw2.size)⟩
      · have hG := goodT_of hmay (by omega) hwf.out ht
        have hI := (tableM_law hmay ht).1
        have hTab := hT.tab
        have hop := (tableM_law hmay ht).2.1
        unfold tableV
        clear c0 c1 c2 hp hr hA hT ht
        rw [hG.el]
        have HI := hid hI
        have HOP := hid hop
        clear hI hop
        generalize rsOf a = rs at hG hTab ⊢
        generalize m.ends = ends at hG hTab
        have HG := hid hG
        clear hG
        obtain ⟨n, hnn⟩ : ∃ n, Hid (rs.length = n) := ⟨_, rfl⟩
        obtain ⟨k, hkk⟩ : ∃ k, Hid (rows.length = k) := ⟨_, rfl⟩
        rw [hnn.out, hkk.out]
        have hn1 : n ≤ 10000000 := by rw [← hnn.out]; exact HG.out.few
        have hk1 : 1 ≤ k := by rw [← hkk.out]; exact HG.out.one
        have hk2 : k ≤ 1000000 := by rw [← hkk.out]; exact HG.out.few2
        obtain ⟨w3, hw3⟩ : ∃ w3, Hid (w2.alloc (.cells #[.slice RA n n, .slice CA n n, .slice NA k k, .slice EA k k] 43) = w3) := ⟨_, rfl⟩
        have h0 : w3.heap[w2.heap.size]? = some (.cells #[.slice RA n n, .slice CA n n, .slice NA k k, .slice EA k k] 43 (0, 0)) := by rw [← hw3.out]; exact heap_alloc_new _ _
        have hb3 : Below w2.heap.size w2 w3 := by rw [← hw3.out]; exact below_new _ _
        have hTab := hTab.next hb3
        have hbw3 := hbw2.trans (hb3.mono hbw2.size)
        have hs := heap_lt h0
        have htb : w.heap.size ≤ w2.heap.size := hbw2.size
        generalize htbe : w2.heap.size = tb at h0 hs htb
        have HTB := hid htbe
        clear htbe
        clear hb3 hbw hbw2 hb2
        go_wp2_with fail
        rw [hw3.out, HTB.out]
        clear hw3
        refine (may_good RA CA NA EA n n k k n k rs rows ends _ hnn hkk HG hTab).mono ?_
        rintro e w4 ⟨rfl, hb4⟩
        have h0 := (hb4.block _ hs).trans h0
        have hs := Nat.lt_of_lt_of_le hs hb4.size
        have hTab := hTab.next hb4
        have hbw4 := hbw3.trans (hb4.mono hbw3.size)
        clear hb4 hbw3
        obtain ⟨r0, r1, r2, r3, z0, z1, z2, z3⟩ := cells4 h0
        have hmkb : ∀ u : World, (Instr.makeSlice 56 (.int .i64 (k : Int)) (.int .i64 (k : Int))).run Tryz.prog u = .ok (.slice (some ⟨u.heap.size, 0, none⟩) k k) (u.alloc (.cells (Array.replicate k (Value.bool false)) 4)) := fun u => by
          obtain ⟨i3, hi3, hz3, hs3, hy3⟩ := info_parts infoBool
          have h := run_make (P := Tryz.prog) u 56 4 i3 (.bool false) Tryz.underlying56 hi3 hz3 .i64 .i64 (k : Int) (k : Int) (by omega) (Int.le_refl _) (by rw [hy3]; omega) (by omega)
          have e : (k : Int).toNat = k := by omega
          rw [e] at h
          rw [← made_bool]
          simpa [hs3, Value.cells] using h
        have hm0 : (w4.alloc (.cells (Array.replicate k (Value.bool false)) 4)).cell? ⟨w4.heap.size, 0, none⟩ = some (.bool false) := by
          rw [cell_new, Array.getElem?_replicate, if_pos (by omega)]
        have hm1 : (w4.alloc (.cells (Array.replicate k (Value.bool false)) 4)).frozen? ⟨w4.heap.size, 0, none⟩ = false := frozen_new _ _ _ _
        go_wp2_with fail
        clear hm0 hm1 hmkb
        obtain ⟨w5, hw5⟩ : ∃ w5, Hid (w4.alloc (.cells ((Array.replicate k (Value.bool false)).setIfInBounds 0 (Value.bool true)) 4) = w5) := ⟨_, rfl⟩
        have q0 : w5.heap[w4.heap.size]? = some (.cells ((Array.replicate k (Value.bool false)).setIfInBounds 0 (Value.bool true)) 4 (0, 0)) := by rw [← hw5.out]; exact heap_alloc_new _ _
        have hb5 : Below w4.heap.size w4 w5 := by rw [← hw5.out]; exact below_new _ _
        rw [hw5.out]
        clear hw5
        have hbA : BoolsAt w5 w4.heap.size k (Rch rows 0 0) := by
          refine ⟨(List.replicate k false).set 0 true, by simp, ?_, fun j hj hp => ?_⟩
          · rw [q0]
            congr 2
            apply Array.ext'
            simp [List.map_set]
          · rcases hp with rfl | ⟨q, _, hq, _⟩ | ⟨row, _, h⟩
            · rw [List.getElem?_set_self (by simp; omega)]
            · omega
            · simp at h
        clear q0
        generalize hrb : w4.heap.size = rb at hs hTab hb5 hbA ⊢
        have HRB := hid hrb
        clear hrb z0 z1 z2 z3 r0 r3 h0
        have hrbk : w.heap.size ≤ rb := by rw [← HRB.out]; exact hbw4.size
        go_loopw [6] (fun i wr => ∃ s : Nat, s ≤ k ∧ i = .int .i64 s ∧ BoolsAt wr rb k (Rch rows s 0) ∧ Below rb w4 wr) (fun i _ => k - (intOf i).toNat)
        case atStart => exact ⟨0, Nat.zero_le _, rfl, hbA, hb5⟩
        case round =>
          obtain ⟨s, hsk, rfl, hbo, hbr⟩ := hrel
          have t1 := (hbr.cell (p := ⟨tb, 1, none⟩) hs).trans r1
          have t2 := (hbr.cell (p := ⟨tb, 2, none⟩) hs).trans r2
          by_cases hlt : s < k
          · have hrs : s < rows.length := by rw [hkk.out]; exact hlt
            have HSR : Hid (rows[s]? = some rows[s]) := hid (List.getElem?_eq_getElem hrs)
            have hrow := HG.out.row _ (List.getElem_mem hrs)
            have hcl := HI.out.cell _ (List.getElem_mem hrs)
            have hreach : Rch rows s 0 s := by
              by_cases e : s = 0
              · exact .inl e
              · obtain ⟨q, hq, hql, hqm⟩ := HI.out.come s (by omega) (by rw [← HOP.out]; exact hrs)
                exact .inr (.inl ⟨q, _, hq, List.getElem?_eq_getElem hql, hqm⟩)
            obtain ⟨b, hc0, hc1, hc2⟩ := hbo.cell s hlt
            obtain rfl := hc2 hreach
            clear hc2 hreach
            obtain ⟨b2, off2, Ai, ci, rfl, hbl2, v1, rA⟩ := (hTab.nxt.below hbr).at s hrs
            rw [hrow, hnn.out] at v1
            rw [hnn.out] at hrow
            rw [← HOP.out, hkk.out] at hcl
            generalize rows[s] = row at HSR hrow hcl rA
            have HROW := hid hrow
            have HCL := hid hcl
            clear hcl
            rw [hrow] at rA
            clear hrow
            have hcls := hTab.cls
            rw [hnn.out] at hcls
            go_wp2_with fail
            obtain ⟨wo, hwo⟩ : ∃ wo : World, wo = wr := ⟨_, rfl⟩
            subst hwo
            clear hc0 hc1
            go_loopw [7] (fun c wi => ∃ j : Nat, j ≤ n ∧ c = .int .i64 j ∧ BoolsAt wi rb k (Rch rows s j) ∧ Below rb wo wi) (fun c _ => n - (intOf c).toNat)
            case atStart => exact ⟨0, Nat.zero_le _, rfl, hbo, Below.refl _ _⟩
            case round =>
              obtain ⟨j, hjn, rfl, hbi, hbj⟩ := hrel
              have u1 := (hbj.cell (p := ⟨tb, 1, none⟩) hs).trans t1
              have u2 := (hbj.cell (p := ⟨tb, 2, none⟩) hs).trans t2
              have v2 := (hbj.cell (p := ⟨b2, off2 + s, none⟩) hbl2).trans v1
              by_cases hjl : j < n
              · obtain ⟨b3, off3, rfl, hbl3, y0⟩ := readsC (w' := wr) hcls (hbr.trans hbj) j hjl
                have hj2 : j < row.length := by rw [HROW.out]; exact hjl
                obtain ⟨b4, off4, hAi, hbl4, y1⟩ := readsZ (l := row) (w := wo) (w' := wr) (by rw [HROW.out]; exact rA) hbj j hj2
                subst hAi
                have hx := HCL.out _ (List.getElem_mem hj2)
                have HGX : Hid (∀ i, Rch rows s (j + 1) i → Rch rows s j i ∨ (i : Int) = row[j]) := hid fun i hi => hi.cell HSR.out hj2
                generalize row[j] = x at y1 hx HGX
                have hx0 : (x == 0) = false := by rw [beq_eq_false_iff_ne]; omega
                by_cases hxp : 0 < x
                · obtain ⟨y, rfl⟩ : ∃ y : Nat, x = y := ⟨x.toNat, by omega⟩
                  have hyk : y < k := by omega
                  obtain ⟨b, g0, g1, _⟩ := hbi.cell y hyk
                  have hset := hbi.set y hyk
                  go_wp2
                  go_roundw
                  case rel => exact ⟨j + 1, by omega, by go_num, hset.weak fun i _ hi => (HGX.out i hi).imp id fun e => by omega, hbj.setCell (Nat.le_refl _) _⟩
                  case measure => simp [intOf]; omega
                · have hxm : x = -1 := by omega
                  subst hxm
                  go_wp2
                  go_roundw
                  case rel => exact ⟨j + 1, by omega, by go_num, hbi.weak fun i _ hi => (HGX.out i hi).elim id fun e => by omega, hbj⟩
                  case measure => simp [intOf]; omega
              · obtain rfl : j = n := by omega
                go_wp2
                go_roundw
                case rel =>
                  refine ⟨s + 1, by omega, by go_num, hbi.weak fun i _ hi => ?_, hbr.trans hbj⟩
                  have := hi.next HSR.out
                  rw [HROW.out] at this
                  exact this
                case measure => simp [intOf]; omega
          · go_wp2_with fail
            refine (lives9_any _).mono ?_
            rintro e w6 ⟨rfl, hb6⟩
            have hfin : Below w.heap.size w w6 := (hbw4.trans (hbr.mono hrbk)).trans (hb6.mono (by have := hbr.size; rw [HRB.out] at this; omega))
            go_wp2_with fail
            go_ret
            exact ⟨rfl, hfin⟩
end Go.Proofs.YtoclbcfgfaialaaGreatDoor
