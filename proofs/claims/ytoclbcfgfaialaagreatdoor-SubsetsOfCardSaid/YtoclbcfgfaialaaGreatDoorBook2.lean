/-
  (*Book).Ranges, Nums, with what may turn told closely: the book, and its list of pages.
-/
import Derived.Test.YtoclbcfgfaialaaGreatDoorPageZ
import Derived.Test.YtoclbcfgfaialaaGreatDoorOnly
namespace Go.Proofs.YtoclbcfgfaialaaGreatDoor
open Go.RowKit
set_option maxRecDepth 100000
/-- a book, and its list of pages -/
structure BookAt (w : World) (bb : Nat) (A : Option Addr) (c : Nat) (xs : List Value) : Prop where
  blk : w.heap[bb]? = some (.cells #[.slice A xs.length c] 51 (0, 0))
  own : w.ownsRow (bb + 1) 86 1 (.slice A xs.length c) xs.length xs
theorem BookAt.st {w : World} {bb : Nat} {A : Option Addr} {c : Nat} {xs : List Value} (h : BookAt w bb A c xs) : BookSt w bb xs := by
  refine ⟨heap_ltB h.blk, A, c, ?_, Lib.frozen_of_heap h.blk 0, h.own⟩
  rw [Lib.cell_of_heap h.blk]; rfl
/-- the blocks of a book -/
def BkS (bb : Nat) (A : Option Addr) (n c : Nat) (j : Nat) : Prop := j = bb ∨ (Value.slice A n c).ownBlock = some j
def BookPost (bb : Nat) (A : Option Addr) (c : Nat) (xs : List Value) (pg : Value) (w : World) (e : Ending) (w' : World) : Prop :=
  e = .returned (.tuple #[]) ∧ ∃ A' c', BookAt w' bb A' c' (xs ++ [pg]) ∧ Only (BkS bb A xs.length c) w w' ∧ (∀ j, j < w.heap.size → BkS bb A' (xs.length + 1) c' j → BkS bb A xs.length c j)
def rgPage (A : Option Addr) (n c k : Nat) : Value := .iface 104 (.agg (pageV A n c ((k : Int), 0) (0, (k : Int))))
def zPage (A : Option Addr) (n c k : Nat) : Value := .iface 83 (.agg (pageZ A n c (k : Int) (-(k : Int))))
theorem book_fin {w w9 : World} {bb : Nat} {Ap : Option Addr} {cp g c9 : Nat} {xs : List Value} {pg : Value} (h : BookAt w bb Ap cp xs) (hown : w9.ownsRow (bb + 1) 86 1 (.slice (some ⟨g, 0, none⟩) (xs.length + 1) c9) (xs.length + 1) (xs ++ [pg]))
    (hg : (Value.slice Ap xs.length cp).ownBlock = some g ∨ w.heap.size < g) (ho : Only (fun j => (Value.slice Ap xs.length cp).ownBlock = some j) w w9) :
    BookPost bb Ap cp xs pg w (.returned (.tuple #[])) (w9.setCell ⟨bb, 0, none⟩ (.slice (some ⟨g, 0, none⟩) (xs.length + 1) c9)) := by
  have hlen : (xs ++ [pg]).length = xs.length + 1 := by simp
  have hnb : (Value.slice Ap xs.length cp).ownBlock ≠ some bb := fun e => by have := (h.own.lt bb e).1; omega
  have hb9 := (ho.block bb (heap_ltB h.blk) hnb).trans h.blk
  refine ⟨rfl, some ⟨g, 0, none⟩, c9, ⟨by rw [hlen]; exact heap_setCell_same w9 bb 0 _ _ _ hb9, by rw [hlen]; exact ownsRow_set_below hown (Nat.lt_succ_self bb) _⟩, ?_, fun j hj e => ?_⟩
  · exact (ho.more fun j _ e => (show BkS bb Ap xs.length cp j from .inr e)).trans ((Only.of_set w9 bb 0 _).more fun j _ e => (show BkS bb Ap xs.length cp j from .inl e)) fun _ _ e => e
  · rcases e with e | e
    · exact .inl e
    · injection e with e
      have e : g = j := e
      subst e
      rcases hg with hg | hg
      · exact .inr hg
      · omega
set_option maxHeartbeats 1600000 in
theorem bookR2_any (bb n c : Nat) (A Ap : Option Addr) (cp : Nat) (xs : List Value) (w : World) (hx : xs.length ≤ 1000) (h : BookAt w bb Ap cp xs) :
    Calls Tryz.prog 40 #[.pointer (some ⟨bb, 0, none⟩), .slice A n c] w fun e w' => BookPost bb Ap cp xs (rgPage A n c (xs.length + 1)) w e w' := by
  obtain ⟨i0, hi, hz0, hz1, hz2⟩ := info_parts infoPage
  have hc : w.cell? ⟨bb, 0, none⟩ = some (.slice Ap xs.length cp) := by rw [Lib.cell_of_heap h.blk]; rfl
  have hbb := heap_ltB h.blk
  have hnb : (Value.slice Ap xs.length cp).ownBlock ≠ some bb := fun e => by have := (h.own.lt bb e).1; omega
  have HBL := hid h.blk
  have hown := h.own
  have hk : ((xs.length + 1 : Nat) : Int) = (xs.length : Int) + 1 := by omega
  unfold rgPage pageV
  rw [hk]
  clear hk
  go_enter Tryz.func40, Tryz.ntmps40
  go_wp2_with fail
  refine (number_any bb xs.length cp Ap w hc hx).mono ?_
  rintro e w1 ⟨rfl, rfl⟩
  go_wp2_with (at_builtin; go_must (refine wpList_push4 w rfl _ _ 49 rfl (bb + 1) 86 i0 _ 1 16 Tryz.underlying49 hi hz0 hz1 hz2 rfl (by omega) (.slice Ap xs.length cp) xs.length xs rfl hown [.iface 104 (.agg #[.slice A n c, .int .i32 ((xs.length : Int) + 1), .int .i32 0, .int .i32 0, .int .i32 ((xs.length : Int) + 1)])] 1 w.heap.size rfl rfl rfl (by simp [Value.oneCell']) Nat.zero_lt_one (by simp only [maxLen]; omega) (by omega) (by omega) ?_); intro g9 c9 w9 hown9 hg9 ho9; have b9 := (ho9.block bb hbb hnb).trans HBL.out; have hc9 : w9.cell? ⟨bb, 0, none⟩ = some (.slice Ap xs.length cp) := (by rw [Lib.cell_of_heap b9]; rfl); have hf9 : w9.frozen? ⟨bb, 0, none⟩ = false := Lib.frozen_of_heap b9 0)
  go_end0
  exact book_fin h hown9 hg9 ho9
set_option maxHeartbeats 1600000 in
theorem bookZ2_any (bb n c : Nat) (A Ap : Option Addr) (cp : Nat) (xs : List Value) (w : World) (hx : xs.length ≤ 1000) (h : BookAt w bb Ap cp xs) :
    Calls Tryz.prog 15 #[.pointer (some ⟨bb, 0, none⟩), .slice A n c] w fun e w' => BookPost bb Ap cp xs (zPage A n c (xs.length + 1)) w e w' := by
  obtain ⟨i0, hi, hz0, hz1, hz2⟩ := info_parts infoPage
  have hc : w.cell? ⟨bb, 0, none⟩ = some (.slice Ap xs.length cp) := by rw [Lib.cell_of_heap h.blk]; rfl
  have hbb := heap_ltB h.blk
  have hnb : (Value.slice Ap xs.length cp).ownBlock ≠ some bb := fun e => by have := (h.own.lt bb e).1; omega
  have HBL := hid h.blk
  have hown := h.own
  have hk : ((xs.length + 1 : Nat) : Int) = (xs.length : Int) + 1 := by omega
  unfold zPage pageZ
  rw [hk]
  clear hk
  have hng : IntKind.i64.wrap (-((xs.length : Int) + 1)) = -((xs.length : Int) + 1) := w64 (by omega) (by omega)
  go_enter Tryz.func15, Tryz.ntmps15
  go_wp2_with fail
  refine (number_any bb xs.length cp Ap w hc hx).mono ?_
  rintro e w1 ⟨rfl, rfl⟩
  go_wp2_with (at_builtin; go_must (refine wpList_push4 w rfl _ _ 49 rfl (bb + 1) 86 i0 _ 1 16 Tryz.underlying49 hi hz0 hz1 hz2 rfl (by omega) (.slice Ap xs.length cp) xs.length xs rfl hown [.iface 83 (.agg #[.slice A n c, .int .i64 ((xs.length : Int) + 1), .int .i64 (-((xs.length : Int) + 1))])] 1 w.heap.size rfl rfl rfl (by simp [Value.oneCell']) Nat.zero_lt_one (by simp only [maxLen]; omega) (by omega) (by omega) ?_); intro g9 c9 w9 hown9 hg9 ho9; have b9 := (ho9.block bb hbb hnb).trans HBL.out; have hc9 : w9.cell? ⟨bb, 0, none⟩ = some (.slice Ap xs.length cp) := (by rw [Lib.cell_of_heap b9]; rfl); have hf9 : w9.frozen? ⟨bb, 0, none⟩ = false := Lib.frozen_of_heap b9 0)
  go_end0
  exact book_fin h hown9 hg9 ho9
theorem bookAt_new (w : World) : BookAt (w.alloc (.cells #[.slice none 0 0] 51)) w.heap.size none 0 [] := ⟨heap_alloc_new _ _, World.ownsRow_nil _ _ _ _⟩
theorem BookAt.ge {w : World} {bb : Nat} {A : Option Addr} {c : Nat} {xs : List Value} (h : BookAt w bb A c xs) {j : Nat} (hj : BkS bb A xs.length c j) : bb ≤ j ∧ j < w.heap.size := by
  rcases hj with e | e
  · rw [e]; exact ⟨Nat.le_refl _, heap_ltB h.blk⟩
  · have := h.own.lt j e
    exact ⟨by omega, this.2⟩
end Go.Proofs.YtoclbcfgfaialaaGreatDoor
