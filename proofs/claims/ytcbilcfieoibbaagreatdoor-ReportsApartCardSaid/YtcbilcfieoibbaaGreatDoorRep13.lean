/-
  The chapter's answers (lives): the walk.
-/
import Derived.Test.YtcbilcfieoibbaaGreatDoorRep10
import Derived.Test.YtcbilcfieoibbaaGreatDoorRep12
namespace Go.Proofs.YtcbilcfieoibbaaGreatDoor
open Go.RowKit
set_option maxRecDepth 100000
theorem al_size (os : List Obj) : ∀ w : World, (os.foldl World.alloc w).heap.size = w.heap.size + os.length := by
  induction os with
  | nil => intro w; rfl
  | cons o os ih =>
    intro w
    show (os.foldl World.alloc (w.alloc o)).heap.size = _
    rw [ih]
    simp
    omega
theorem al_below (os : List Obj) : ∀ w : World, Below w.heap.size w (os.foldl World.alloc w) := by
  induction os with
  | nil => intro w; exact Below.refl _ _
  | cons o os ih =>
    intro w
    exact (below_new w o).trans ((ih (w.alloc o)).mono (by simp))
theorem al_at (os : List Obj) : ∀ (w : World) (k : Nat) (o : Obj), os[k]? = some o → (os.foldl World.alloc w).heap[w.heap.size + k]? = some o := by
  induction os with
  | nil => intro w k o h; simp at h
  | cons o1 os ih =>
    intro w k o h
    show (os.foldl World.alloc (w.alloc o1)).heap[w.heap.size + k]? = _
    cases k with
    | zero =>
      have e : o1 = o := by simpa using h
      subst e
      rw [(al_below os (w.alloc o1)).block _ (by simp)]
      exact heap_alloc_new w o1
    | succ k =>
      have := ih (w.alloc o1) k o (by simpa using h)
      rwa [show (w.alloc o1).heap.size + k = w.heap.size + (k + 1) from by simp; omega] at this
def lvOs (w : World) : List Obj := [.cells #[.string ⟨#[97]⟩, .string ⟨#[98]⟩] 9, .cells #[.string ⟨#[66]⟩] 9, .cells #[.slice (some ⟨w.heap.size, 0, none⟩) 2 2, .slice (some ⟨w.heap.size + 1, 0, none⟩) 1 1, .slice none 0 0, .slice none 0 0, .slice none 0 0, .slice none 0 0, .slice none 0 0, .slice none 0 0, .slice none 0 0, .slice none 0 0, .slice none 0 0, .slice none 0 0, .slice none 0 0] 61, .cells #[.int .i64 (-1), .int .i64 (-1), .int .i64 0, .bool false, .slice none 0 0] 45, .cells #[.int .i64 (-1), .int .i64 0, .int .i64 0, .bool false, .slice none 0 0, .int .i64 1, .int .i64 0, .int .i64 0, .bool true, .slice (some ⟨w.heap.size + 1 + 1 + 1, 0, none⟩) 1 1] 45, .cells #[.int .i64 0, .int .i64 0, .int .i64 0, .bool false, .slice (some ⟨w.heap.size + 1 + 1 + 1 + 1, 0, none⟩) 2 2] 45, .cells #[.string ⟨#[97]⟩, .int .u8 0, .int .u8 0, .string ⟨#[]⟩, .string ⟨#[]⟩, .slice none 0 0, .slice none 0 0, .int .i64 3, .int .i64 1, .int .i64 4] 86, .cells #[.string ⟨#[]⟩, .int .i64 0, .int .i64 0, .slice (some ⟨w.heap.size + 1 + 1 + 1 + 1 + 1 + 1, 0, none⟩) 1 1] 31]
def lvT : Rp.Tr := .node 0 0 0 false [.node (-1) 0 0 false [], .node 1 0 0 true [.node (-1) (-1) 0 false []]]
def lvR : List RuP := [⟨[97], 3, 1, 4⟩]
theorem it_one (i : Nat) (h : i < 10) : Lib.itoa (i : Int) = [UInt8.ofNat (48 + i)] := (Lib.itoa_nonneg i).trans (Lib.decDigits_one h)
theorem lv_f : faultT 4 2 5 = [50, 58, 53, 58, 32, 101, 114, 114, 111, 114, 32, 52] := by
  unfold faultT placeT
  rw [show Lib.itoa 4 = [52] from it_one 4 (by decide), show Lib.itoa 2 = [50] from it_one 2 (by decide), show Lib.itoa 5 = [53] from it_one 5 (by decide)]
  rfl
theorem lv_t : Rp.treeT [[97], [98]] [[66]] [[98]] lvT = [40, 97, 32, 66, 39, 98, 39, 32, 33, 40, 98, 32, 66, 63, 41, 41] := by decide
theorem lv_p : probT lvR 2 0 [82, 113] = [49, 58, 52, 58, 32, 97, 58, 32, 116, 104, 101, 114, 101, 32, 105, 115, 32, 110, 111, 32, 82, 113] := by
  unfold probT
  rw [if_neg (by decide), show atP lvR 0 = placeT 1 4 from rfl]
  unfold placeT
  rw [show Lib.itoa 1 = [49] from it_one 1 (by decide), show Lib.itoa 4 = [52] from it_one 4 (by decide)]
  rfl
theorem lv_n : Rp.Short 1 [[97], [98]] := by
  intro x hx
  have : x = [97] ∨ x = [98] := by simpa using hx
  rcases this with rfl | rfl <;> decide
theorem lv_m : Rp.Short 1 [[66]] := by
  intro x hx
  have : x = [66] := by simpa using hx
  subst this
  decide
theorem lv_k : Rp.Short 1 [[98]] := by
  intro x hx
  have : x = [98] := by simpa using hx
  subst this
  decide
theorem lvR_ok : ∀ r ∈ lvR, r.ok := by
  intro r hr
  have : r = ⟨[97], 3, 1, 4⟩ := by simpa [lvR] using hr
  subst this
  exact ⟨by decide, by unfold i64b; decide, by unfold i64b; decide⟩
theorem reads_block {w : World} {b B n size : Nat} {xs : List Value} {t : TypeId} {fr : Nat × Nat} (h : w.heap[b]? = some (.cells xs.toArray t fr)) (hB : b < B) (hl : xs.length = n * size) : Reads w B size (some ⟨b, 0, none⟩) n xs :=
  ⟨hl, fun _ => ⟨b, 0, rfl, hB, fun j u hj => by
    rw [Nat.zero_add, Lib.cell_of_heap h, ← hj]
    exact List.getElem?_toArray⟩⟩
set_option maxHeartbeats 4000000 in
theorem lives_any (w : World) (hT : TB w.heap.size w) :
    Calls Tryz.prog 6 #[] w fun e w' => e = .returned (.bool true) ∧ Below w.heap.size w w' := by
  obtain ⟨W, hW⟩ : ∃ W, W = ((((((((w.alloc (.cells #[.string ⟨#[97]⟩, .string ⟨#[98]⟩] 9)).alloc (.cells #[.string ⟨#[66]⟩] 9)).alloc (.cells #[.slice (some ⟨w.heap.size, 0, none⟩) 2 2, .slice (some ⟨w.heap.size + 1, 0, none⟩) 1 1, .slice none 0 0, .slice none 0 0, .slice none 0 0, .slice none 0 0, .slice none 0 0, .slice none 0 0, .slice none 0 0, .slice none 0 0, .slice none 0 0, .slice none 0 0, .slice none 0 0] 61)).alloc (.cells #[.int .i64 (-1), .int .i64 (-1), .int .i64 0, .bool false, .slice none 0 0] 45)).alloc (.cells #[.int .i64 (-1), .int .i64 0, .int .i64 0, .bool false, .slice none 0 0, .int .i64 1, .int .i64 0, .int .i64 0, .bool true, .slice (some ⟨w.heap.size + 1 + 1 + 1, 0, none⟩) 1 1] 45)).alloc (.cells #[.int .i64 0, .int .i64 0, .int .i64 0, .bool false, .slice (some ⟨w.heap.size + 1 + 1 + 1 + 1, 0, none⟩) 2 2] 45)).alloc (.cells #[.string ⟨#[97]⟩, .int .u8 0, .int .u8 0, .string ⟨#[]⟩, .string ⟨#[]⟩, .slice none 0 0, .slice none 0 0, .int .i64 3, .int .i64 1, .int .i64 4] 86)).alloc (.cells #[.string ⟨#[]⟩, .int .i64 0, .int .i64 0, .slice (some ⟨w.heap.size + 1 + 1 + 1 + 1 + 1 + 1, 0, none⟩) 1 1] 31)) := ⟨_, rfl⟩
  have hWo : W = (lvOs w).foldl World.alloc w := hW
  have hbW : Below w.heap.size w W := by rw [hWo]; exact al_below _ _
  have hsW : W.heap.size = w.heap.size + 8 := by rw [hWo, al_size]; rfl
  have hat : ∀ k o, (lvOs w)[k]? = some o → W.heap[w.heap.size + k]? = some o := fun k o h => by rw [hWo]; exact al_at _ _ _ _ h
  have h0 := hat 0 _ rfl
  have h1 := hat 1 _ rfl
  have h2 := hat 2 _ rfl
  have h3 := hat 3 _ rfl
  have h4 := hat 4 _ rfl
  have h5 := hat 5 _ rfl
  have h6 := hat 6 _ rfl
  have h7 := hat 7 _ rfl
  have hTW := hT.next hbW
  clear hat hWo
  have HA := hid (fault_any 4 9 2 5 (by unfold i64b; omega) (by unfold i64b; omega) (by unfold i64b; omega) W hTW)
  rw [lv_f] at HA
  go_enter Tryz.func6, Tryz.ntmps6
  go_wp2_with fail
  rw [← hW]
  refine HA.out.mono ?_
  rintro e w1 ⟨rfl, hb1⟩
  have f2_0 := (hb1.cell (p := ⟨w.heap.size + 1 + 1, 0, none⟩) (by show w.heap.size + 1 + 1 < _; omega)).trans (Lib.cell_of_heap h2 0)
  have f2_1 := (hb1.cell (p := ⟨w.heap.size + 1 + 1, 1, none⟩) (by show w.heap.size + 1 + 1 < _; omega)).trans (Lib.cell_of_heap h2 1)
  have f2_2 := (hb1.cell (p := ⟨w.heap.size + 1 + 1, 2, none⟩) (by show w.heap.size + 1 + 1 < _; omega)).trans (Lib.cell_of_heap h2 2)
  have f2_3 := (hb1.cell (p := ⟨w.heap.size + 1 + 1, 3, none⟩) (by show w.heap.size + 1 + 1 < _; omega)).trans (Lib.cell_of_heap h2 3)
  have f2_4 := (hb1.cell (p := ⟨w.heap.size + 1 + 1, 4, none⟩) (by show w.heap.size + 1 + 1 < _; omega)).trans (Lib.cell_of_heap h2 4)
  have f2_5 := (hb1.cell (p := ⟨w.heap.size + 1 + 1, 5, none⟩) (by show w.heap.size + 1 + 1 < _; omega)).trans (Lib.cell_of_heap h2 5)
  have f2_6 := (hb1.cell (p := ⟨w.heap.size + 1 + 1, 6, none⟩) (by show w.heap.size + 1 + 1 < _; omega)).trans (Lib.cell_of_heap h2 6)
  have f2_7 := (hb1.cell (p := ⟨w.heap.size + 1 + 1, 7, none⟩) (by show w.heap.size + 1 + 1 < _; omega)).trans (Lib.cell_of_heap h2 7)
  have f2_8 := (hb1.cell (p := ⟨w.heap.size + 1 + 1, 8, none⟩) (by show w.heap.size + 1 + 1 < _; omega)).trans (Lib.cell_of_heap h2 8)
  have f2_9 := (hb1.cell (p := ⟨w.heap.size + 1 + 1, 9, none⟩) (by show w.heap.size + 1 + 1 < _; omega)).trans (Lib.cell_of_heap h2 9)
  have f2_10 := (hb1.cell (p := ⟨w.heap.size + 1 + 1, 10, none⟩) (by show w.heap.size + 1 + 1 < _; omega)).trans (Lib.cell_of_heap h2 10)
  have f2_11 := (hb1.cell (p := ⟨w.heap.size + 1 + 1, 11, none⟩) (by show w.heap.size + 1 + 1 < _; omega)).trans (Lib.cell_of_heap h2 11)
  have f2_12 := (hb1.cell (p := ⟨w.heap.size + 1 + 1, 12, none⟩) (by show w.heap.size + 1 + 1 < _; omega)).trans (Lib.cell_of_heap h2 12)
  have f5_0 := (hb1.cell (p := ⟨w.heap.size + 1 + 1 + 1 + 1 + 1, 0, none⟩) (by show w.heap.size + 1 + 1 + 1 + 1 + 1 < _; omega)).trans (Lib.cell_of_heap h5 0)
  have f5_1 := (hb1.cell (p := ⟨w.heap.size + 1 + 1 + 1 + 1 + 1, 1, none⟩) (by show w.heap.size + 1 + 1 + 1 + 1 + 1 < _; omega)).trans (Lib.cell_of_heap h5 1)
  have f5_2 := (hb1.cell (p := ⟨w.heap.size + 1 + 1 + 1 + 1 + 1, 2, none⟩) (by show w.heap.size + 1 + 1 + 1 + 1 + 1 < _; omega)).trans (Lib.cell_of_heap h5 2)
  have f5_3 := (hb1.cell (p := ⟨w.heap.size + 1 + 1 + 1 + 1 + 1, 3, none⟩) (by show w.heap.size + 1 + 1 + 1 + 1 + 1 < _; omega)).trans (Lib.cell_of_heap h5 3)
  have f5_4 := (hb1.cell (p := ⟨w.heap.size + 1 + 1 + 1 + 1 + 1, 4, none⟩) (by show w.heap.size + 1 + 1 + 1 + 1 + 1 < _; omega)).trans (Lib.cell_of_heap h5 4)
  have f7_0 := (hb1.cell (p := ⟨w.heap.size + 1 + 1 + 1 + 1 + 1 + 1 + 1, 0, none⟩) (by show w.heap.size + 1 + 1 + 1 + 1 + 1 + 1 + 1 < _; omega)).trans (Lib.cell_of_heap h7 0)
  have f7_1 := (hb1.cell (p := ⟨w.heap.size + 1 + 1 + 1 + 1 + 1 + 1 + 1, 1, none⟩) (by show w.heap.size + 1 + 1 + 1 + 1 + 1 + 1 + 1 < _; omega)).trans (Lib.cell_of_heap h7 1)
  have f7_2 := (hb1.cell (p := ⟨w.heap.size + 1 + 1 + 1 + 1 + 1 + 1 + 1, 2, none⟩) (by show w.heap.size + 1 + 1 + 1 + 1 + 1 + 1 + 1 < _; omega)).trans (Lib.cell_of_heap h7 2)
  have f7_3 := (hb1.cell (p := ⟨w.heap.size + 1 + 1 + 1 + 1 + 1 + 1 + 1, 3, none⟩) (by show w.heap.size + 1 + 1 + 1 + 1 + 1 + 1 + 1 < _; omega)).trans (Lib.cell_of_heap h7 3)
  clear HA
  have hT1 := hTW.next hb1
  have hs1 := hb1.size
  obtain ⟨wt, hwt⟩ : ∃ wt, wt = w1.alloc (.cells #[.int .i64 0, .string ⟨#[98]⟩, .int .i64 0] 48) := ⟨_, rfl⟩
  have hbt : Below w1.heap.size w1 wt := by rw [hwt]; exact below_new _ _
  have hst : wt.heap.size = w1.heap.size + 1 := by rw [hwt]; simp
  have hBt := hb1.trans (hbt.mono hs1)
  have t0 := (hBt.block _ (by omega)).trans h0
  have t1 := (hBt.block _ (by omega)).trans h1
  have t3 := (hBt.block _ (by omega)).trans h3
  have t4 := (hBt.block _ (by omega)).trans h4
  have t5 : wt.heap[w1.heap.size]? = some (.cells #[.int .i64 0, .string ⟨#[98]⟩, .int .i64 0] 48) := by rw [hwt]; exact heap_alloc_new _ _
  have hX : TrR wt wt.heap.size lvT [.int .i64 0, .int .i64 0, .int .i64 0, .bool false, .slice (some ⟨w.heap.size + 1 + 1 + 1 + 1, 0, none⟩) 2 2] := by
    unfold lvT
    unfold TrR
    refine ⟨_, 2, _, rfl, reads_block t4 (by omega) rfl, ?_⟩
    unfold TrsR
    refine ⟨[.int .i64 (-1), .int .i64 0, .int .i64 0, .bool false, .slice none 0 0], [.int .i64 1, .int .i64 0, .int .i64 0, .bool true, .slice (some ⟨w.heap.size + 1 + 1 + 1, 0, none⟩) 1 1], rfl, ?_, ?_⟩
    · unfold TrR
      exact ⟨none, 0, [], rfl, ⟨rfl, fun h => absurd h (by decide)⟩, by unfold TrsR; rfl⟩
    · unfold TrsR
      refine ⟨[.int .i64 1, .int .i64 0, .int .i64 0, .bool true, .slice (some ⟨w.heap.size + 1 + 1 + 1, 0, none⟩) 1 1], [], rfl, ?_, by unfold TrsR; rfl⟩
      unfold TrR
      refine ⟨_, 1, _, rfl, reads_block t3 (by omega) rfl, ?_⟩
      unfold TrsR
      refine ⟨[.int .i64 (-1), .int .i64 (-1), .int .i64 0, .bool false, .slice none 0 0], [], rfl, ?_, by unfold TrsR; rfl⟩
      unfold TrR
      exact ⟨none, 0, [], rfl, ⟨rfl, fun h => absurd h (by decide)⟩, by unfold TrsR; rfl⟩
  have HT := hid (tree_any ⟨some ⟨w.heap.size, 0, none⟩, some ⟨w.heap.size + 1, 0, none⟩, some ⟨w1.heap.size, 0, none⟩, 2, 1, 1, [[97], [98]], [[66]], [(0, [98], 0)]⟩ 1 lv_n lv_m lv_k (by decide) (by decide) lvT _ wt (hT1.next hbt) (reads_block t0 (by omega) rfl) (reads_block t1 (by omega) rfl) (reads_block t5 (by omega) rfl) hX (by decide))
  rw [show Rp.treeT [[97], [98]] [[66]] (txs [((0 : Int), [98], (0 : Int))]) lvT = _ from lv_t] at HT
  clear hX t0 t1 t3 t4 t5
  go_wp2_with fail
  rw [← hwt]
  refine HT.out.mono ?_
  rintro e w2 ⟨rfl, hb2⟩
  clear HT
  have hB2 := hBt.trans (hb2.mono (by omega))
  have hs2 := hb2.size
  have g0 := (hB2.cell (p := ⟨w.heap.size + 1 + 1 + 1 + 1 + 1 + 1 + 1, 0, none⟩) (by show w.heap.size + 1 + 1 + 1 + 1 + 1 + 1 + 1 < _; omega)).trans (Lib.cell_of_heap h7 0)
  have g1 := (hB2.cell (p := ⟨w.heap.size + 1 + 1 + 1 + 1 + 1 + 1 + 1, 1, none⟩) (by show w.heap.size + 1 + 1 + 1 + 1 + 1 + 1 + 1 < _; omega)).trans (Lib.cell_of_heap h7 1)
  have g2 := (hB2.cell (p := ⟨w.heap.size + 1 + 1 + 1 + 1 + 1 + 1 + 1, 2, none⟩) (by show w.heap.size + 1 + 1 + 1 + 1 + 1 + 1 + 1 < _; omega)).trans (Lib.cell_of_heap h7 2)
  have g3 := (hB2.cell (p := ⟨w.heap.size + 1 + 1 + 1 + 1 + 1 + 1 + 1, 3, none⟩) (by show w.heap.size + 1 + 1 + 1 + 1 + 1 + 1 + 1 < _; omega)).trans (Lib.cell_of_heap h7 3)
  have t6 := (hB2.block _ (by omega)).trans h6
  have hT2 := (hT1.next hbt).next hb2
  have hG : GRR w2 w2.heap.size (some ⟨w.heap.size + 1 + 1 + 1 + 1 + 1 + 1, 0, none⟩) lvR := by
    intro k hk
    obtain rfl : k = 0 := by have : lvR.length = 1 := rfl; omega
    exact ⟨_, 0, rfl, by omega, Lib.cell_of_heap t6 0, Lib.cell_of_heap t6 7, Lib.cell_of_heap t6 8, Lib.cell_of_heap t6 9⟩
  have HP := hid (prob_any ⟨#[]⟩ 0 0 _ 1 lvR 2 0 [82, 113] w2 hT2 hG lvR_ok (by decide) (by unfold i64b; omega) (by decide))
  rw [lv_p] at HP
  clear hG t6
  go_wp2_with fail
  refine HP.out.mono ?_
  rintro e w3 ⟨rfl, hb3⟩
  clear HP
  have HW := hid (warnings_nil w3)
  unfold tabV nilV at HW
  go_wp2_with fail
  refine HW.out.mono ?_
  rintro e w4 ⟨rfl, hb4⟩
  go_wp2_with fail
  go_ret
  have hs3 := hb3.size
  exact ⟨rfl, hbW.trans (((hB2.trans (hb3.mono (by omega))).trans (hb4.mono (by omega))).mono hbW.size)⟩
end Go.Proofs.YtcbilcfieoibbaaGreatDoor
