/-
  Configurations: the chapter's example: its memory. (Printed by gen_cflm.py.)
-/
import Derived.Test.YtnpcjbdolmmaeaaDoorCfLv
namespace Go.Proofs.YtnpcjbdolmmaeaaDoor
open Go.RowKit
set_option maxRecDepth 100000
theorem allocs_get : ∀ (l : List Obj) (w : World) (i : Nat) (h : i < l.length), (l.foldl World.alloc w).heap[w.heap.size + i]? = some l[i] ∧ Below w.heap.size w (l.foldl World.alloc w) ∧ (l.foldl World.alloc w).heap.size = w.heap.size + l.length := by
  intro l
  induction l with
  | nil => intro w i h; exact absurd h (Nat.not_lt_zero _)
  | cons o l ih =>
    intro w i h
    have hz : (w.alloc o).heap.size = w.heap.size + 1 := by simp
    have hb := below_new w o
    rw [List.foldl_cons]
    cases l with
    | nil =>
      have : i = 0 := by simp at h; omega
      subst this
      exact ⟨heap_alloc_new _ _, hb, hz⟩
    | cons p l =>
      cases i with
      | zero =>
        obtain ⟨_, g2, g3⟩ := ih (w.alloc o) 0 (by simp)
        exact ⟨(g2.block _ (by omega)).trans (heap_alloc_new _ _), hb.trans (g2.mono hb.size), by rw [g3, hz]; simp; omega⟩
      | succ i =>
        obtain ⟨g1, g2, g3⟩ := ih (w.alloc o) i (by simpa using h)
        exact ⟨by rw [hz, Nat.add_assoc, Nat.add_comm 1 i] at g1; exact g1, hb.trans (g2.mono hb.size), by rw [g3, hz]; simp; omega⟩
theorem rdh {w : World} {b n size : Nat} {T : TypeId} {cs : Array Value} (h : w.heap[b]? = some (.cells cs T (0, 0))) (hl : cs.size = n * size) : Reads w w.heap.size size (some ⟨b, 0, none⟩) n cs.toList :=
  ⟨by rw [Array.length_toList]; exact hl, fun _ => ⟨b, 0, rfl, heap_lt h, fun j u hu => by rw [Lib.cell_of_heap h, Nat.zero_add, ← Array.getElem?_toList]; exact hu⟩⟩
theorem rd0 {w : World} {B size : Nat} {A : Option Addr} : Reads w B size A 0 [] := ⟨by simp, fun h => absurd h (Nat.lt_irrefl 0)⟩
theorem live_mem (w wq : World) (h : wq = ((((((((((((((((w.alloc (.cells #[.int .i64 0] 3)).alloc (.cells #[.int .i64 1] 3)).alloc (.cells #[.int .i64 2] 3)).alloc (.cells #[.int .u8 0, .int .i64 0, .int .i64 2] 45)).alloc (.cells #[.int .u8 0, .int .i64 0, .int .i64 2] 45)).alloc (.cells #[.int .u8 0, .int .i64 0, .int .i64 4] 45)).alloc (.cells #[.int .u8 0, .int .i64 0, .int .i64 5] 45)).alloc (.cells #[.int .u8 0, .int .i64 0, .int .i64 4, .int .u8 0, .int .i64 0, .int .i64 5] 45)).alloc (.cells #[.int .i64 3, .int .i64 3] 3)).alloc (.cells #[.int .u8 0, .int .i64 0, .int .i64 1] 45)).alloc (.cells #[.int .u8 0, .int .i64 0, .int .i64 1] 45)).alloc (.cells #[.int .u8 1, .int .i64 0, .int .i64 3] 45)).alloc (.cells #[.int .u8 1, .int .i64 0, .int .i64 6] 45)).alloc (.cells #[.int .u8 1, .int .i64 1, .int .i64 3] 45)).alloc (.cells #[.int .i64 0, .slice (some ⟨w.heap.size + 1 + 1 + 1 + 1, 0, none⟩) 1 1, .slice none 0 0, .int .i64 0, .slice none 0 0, .slice none 0 0, .int .i64 0, .slice (some ⟨w.heap.size + 1 + 1 + 1 + 1 + 1 + 1 + 1, 0, none⟩) 2 2, .slice (some ⟨w.heap.size + 1 + 1 + 1 + 1 + 1 + 1 + 1 + 1, 0, none⟩) 2 2, .int .i64 0, .slice (some ⟨w.heap.size + 1 + 1 + 1 + 1 + 1 + 1 + 1 + 1 + 1 + 1, 0, none⟩) 1 1, .slice none 0 0, .int .i64 0, .slice (some ⟨w.heap.size + 1 + 1 + 1 + 1 + 1 + 1 + 1 + 1 + 1 + 1 + 1, 0, none⟩) 1 1, .slice none 0 0, .int .i64 0, .slice (some ⟨w.heap.size + 1 + 1 + 1 + 1 + 1 + 1 + 1 + 1 + 1 + 1 + 1 + 1, 0, none⟩) 1 1, .slice none 0 0, .int .i64 0, .slice (some ⟨w.heap.size + 1 + 1 + 1 + 1 + 1 + 1 + 1 + 1 + 1 + 1 + 1 + 1 + 1, 0, none⟩) 1 1, .slice none 0 0] 28)).alloc (.cells #[.slice (some ⟨w.heap.size + 1 + 1 + 1 + 1 + 1 + 1 + 1 + 1 + 1 + 1 + 1 + 1 + 1 + 1, 0, none⟩) 7 7, .slice (some ⟨w.heap.size, 0, none⟩) 1 1, .slice (some ⟨w.heap.size + 1, 0, none⟩) 1 1, .slice none 0 0, .slice (some ⟨w.heap.size + 1 + 1, 0, none⟩) 1 1] 25))) : Below w.heap.size w wq ∧ wq.heap[w.heap.size + 1 + 1 + 1 + 1 + 1 + 1 + 1 + 1 + 1 + 1 + 1 + 1 + 1 + 1 + 1]? = some (.cells #[.slice (some ⟨w.heap.size + 1 + 1 + 1 + 1 + 1 + 1 + 1 + 1 + 1 + 1 + 1 + 1 + 1 + 1, 0, none⟩) 7 7, .slice (some ⟨w.heap.size, 0, none⟩) 1 1, .slice (some ⟨w.heap.size + 1, 0, none⟩) 1 1, .slice none 0 0, .slice (some ⟨w.heap.size + 1 + 1, 0, none⟩) 1 1] 25 (0, 0)) ∧ w.heap.size + 15 < wq.heap.size ∧
    NetR wq wq.heap.size (some ⟨w.heap.size + 1 + 1 + 1 + 1 + 1 + 1 + 1 + 1 + 1 + 1 + 1 + 1 + 1 + 1, 0, none⟩) (some ⟨w.heap.size, 0, none⟩) (some ⟨w.heap.size + 1, 0, none⟩) none (some ⟨w.heap.size + 1 + 1, 0, none⟩) Cf.n14 := by
  have hall := fun i hi => allocs_get [(.cells #[.int .i64 0] 3), (.cells #[.int .i64 1] 3), (.cells #[.int .i64 2] 3), (.cells #[.int .u8 0, .int .i64 0, .int .i64 2] 45), (.cells #[.int .u8 0, .int .i64 0, .int .i64 2] 45), (.cells #[.int .u8 0, .int .i64 0, .int .i64 4] 45), (.cells #[.int .u8 0, .int .i64 0, .int .i64 5] 45), (.cells #[.int .u8 0, .int .i64 0, .int .i64 4, .int .u8 0, .int .i64 0, .int .i64 5] 45), (.cells #[.int .i64 3, .int .i64 3] 3), (.cells #[.int .u8 0, .int .i64 0, .int .i64 1] 45), (.cells #[.int .u8 0, .int .i64 0, .int .i64 1] 45), (.cells #[.int .u8 1, .int .i64 0, .int .i64 3] 45), (.cells #[.int .u8 1, .int .i64 0, .int .i64 6] 45), (.cells #[.int .u8 1, .int .i64 1, .int .i64 3] 45), (.cells #[.int .i64 0, .slice (some ⟨w.heap.size + 1 + 1 + 1 + 1, 0, none⟩) 1 1, .slice none 0 0, .int .i64 0, .slice none 0 0, .slice none 0 0, .int .i64 0, .slice (some ⟨w.heap.size + 1 + 1 + 1 + 1 + 1 + 1 + 1, 0, none⟩) 2 2, .slice (some ⟨w.heap.size + 1 + 1 + 1 + 1 + 1 + 1 + 1 + 1, 0, none⟩) 2 2, .int .i64 0, .slice (some ⟨w.heap.size + 1 + 1 + 1 + 1 + 1 + 1 + 1 + 1 + 1 + 1, 0, none⟩) 1 1, .slice none 0 0, .int .i64 0, .slice (some ⟨w.heap.size + 1 + 1 + 1 + 1 + 1 + 1 + 1 + 1 + 1 + 1 + 1, 0, none⟩) 1 1, .slice none 0 0, .int .i64 0, .slice (some ⟨w.heap.size + 1 + 1 + 1 + 1 + 1 + 1 + 1 + 1 + 1 + 1 + 1 + 1, 0, none⟩) 1 1, .slice none 0 0, .int .i64 0, .slice (some ⟨w.heap.size + 1 + 1 + 1 + 1 + 1 + 1 + 1 + 1 + 1 + 1 + 1 + 1 + 1, 0, none⟩) 1 1, .slice none 0 0] 28), (.cells #[.slice (some ⟨w.heap.size + 1 + 1 + 1 + 1 + 1 + 1 + 1 + 1 + 1 + 1 + 1 + 1 + 1 + 1, 0, none⟩) 7 7, .slice (some ⟨w.heap.size, 0, none⟩) 1 1, .slice (some ⟨w.heap.size + 1, 0, none⟩) 1 1, .slice none 0 0, .slice (some ⟨w.heap.size + 1 + 1, 0, none⟩) 1 1] 25)] w i hi
  simp only [List.foldl_cons, List.foldl_nil] at hall
  rw [← h] at hall
  have h0 : wq.heap[w.heap.size]? = some (.cells #[.int .i64 0] 3 (0, 0)) := (hall 0 (by simp)).1
  have h1 : wq.heap[w.heap.size + 1]? = some (.cells #[.int .i64 1] 3 (0, 0)) := (hall 1 (by simp)).1
  have h2 : wq.heap[w.heap.size + 1 + 1]? = some (.cells #[.int .i64 2] 3 (0, 0)) := (hall 2 (by simp)).1
  have h4 : wq.heap[w.heap.size + 1 + 1 + 1 + 1]? = some (.cells #[.int .u8 0, .int .i64 0, .int .i64 2] 45 (0, 0)) := (hall 4 (by simp)).1
  have h7 : wq.heap[w.heap.size + 1 + 1 + 1 + 1 + 1 + 1 + 1]? = some (.cells #[.int .u8 0, .int .i64 0, .int .i64 4, .int .u8 0, .int .i64 0, .int .i64 5] 45 (0, 0)) := (hall 7 (by simp)).1
  have h8 : wq.heap[w.heap.size + 1 + 1 + 1 + 1 + 1 + 1 + 1 + 1]? = some (.cells #[.int .i64 3, .int .i64 3] 3 (0, 0)) := (hall 8 (by simp)).1
  have h10 : wq.heap[w.heap.size + 1 + 1 + 1 + 1 + 1 + 1 + 1 + 1 + 1 + 1]? = some (.cells #[.int .u8 0, .int .i64 0, .int .i64 1] 45 (0, 0)) := (hall 10 (by simp)).1
  have h11 : wq.heap[w.heap.size + 1 + 1 + 1 + 1 + 1 + 1 + 1 + 1 + 1 + 1 + 1]? = some (.cells #[.int .u8 1, .int .i64 0, .int .i64 3] 45 (0, 0)) := (hall 11 (by simp)).1
  have h12 : wq.heap[w.heap.size + 1 + 1 + 1 + 1 + 1 + 1 + 1 + 1 + 1 + 1 + 1 + 1]? = some (.cells #[.int .u8 1, .int .i64 0, .int .i64 6] 45 (0, 0)) := (hall 12 (by simp)).1
  have h13 : wq.heap[w.heap.size + 1 + 1 + 1 + 1 + 1 + 1 + 1 + 1 + 1 + 1 + 1 + 1 + 1]? = some (.cells #[.int .u8 1, .int .i64 1, .int .i64 3] 45 (0, 0)) := (hall 13 (by simp)).1
  have h14 : wq.heap[w.heap.size + 1 + 1 + 1 + 1 + 1 + 1 + 1 + 1 + 1 + 1 + 1 + 1 + 1 + 1]? = some (.cells #[.int .i64 0, .slice (some ⟨w.heap.size + 1 + 1 + 1 + 1, 0, none⟩) 1 1, .slice none 0 0, .int .i64 0, .slice none 0 0, .slice none 0 0, .int .i64 0, .slice (some ⟨w.heap.size + 1 + 1 + 1 + 1 + 1 + 1 + 1, 0, none⟩) 2 2, .slice (some ⟨w.heap.size + 1 + 1 + 1 + 1 + 1 + 1 + 1 + 1, 0, none⟩) 2 2, .int .i64 0, .slice (some ⟨w.heap.size + 1 + 1 + 1 + 1 + 1 + 1 + 1 + 1 + 1 + 1, 0, none⟩) 1 1, .slice none 0 0, .int .i64 0, .slice (some ⟨w.heap.size + 1 + 1 + 1 + 1 + 1 + 1 + 1 + 1 + 1 + 1 + 1, 0, none⟩) 1 1, .slice none 0 0, .int .i64 0, .slice (some ⟨w.heap.size + 1 + 1 + 1 + 1 + 1 + 1 + 1 + 1 + 1 + 1 + 1 + 1, 0, none⟩) 1 1, .slice none 0 0, .int .i64 0, .slice (some ⟨w.heap.size + 1 + 1 + 1 + 1 + 1 + 1 + 1 + 1 + 1 + 1 + 1 + 1 + 1, 0, none⟩) 1 1, .slice none 0 0] 28 (0, 0)) := (hall 14 (by simp)).1
  have h15 : wq.heap[w.heap.size + 1 + 1 + 1 + 1 + 1 + 1 + 1 + 1 + 1 + 1 + 1 + 1 + 1 + 1 + 1]? = some (.cells #[.slice (some ⟨w.heap.size + 1 + 1 + 1 + 1 + 1 + 1 + 1 + 1 + 1 + 1 + 1 + 1 + 1 + 1, 0, none⟩) 7 7, .slice (some ⟨w.heap.size, 0, none⟩) 1 1, .slice (some ⟨w.heap.size + 1, 0, none⟩) 1 1, .slice none 0 0, .slice (some ⟨w.heap.size + 1 + 1, 0, none⟩) 1 1] 25 (0, 0)) := (hall 15 (by simp)).1
  refine ⟨(hall 0 (by simp)).2.1, h15, by rw [(hall 0 (by simp)).2.2]; simp, ⟨⟨_, rdh h14 rfl, fun i hi => ?_⟩, rdh h0 rfl, rdh h1 rfl, rd0, rdh h2 rfl⟩⟩
  have hi : i < 7 := hi
  rcases (by omega : i = 0 ∨ i = 1 ∨ i = 2 ∨ i = 3 ∨ i = 4 ∨ i = 5 ∨ i = 6) with rfl | rfl | rfl | rfl | rfl | rfl | rfl
  · exact ⟨_, _, _, _, rfl, rfl, rfl, rdh h4 rfl, rd0⟩
  · exact ⟨_, _, _, _, rfl, rfl, rfl, rd0, rd0⟩
  · exact ⟨_, _, _, _, rfl, rfl, rfl, rdh h7 rfl, rdh h8 rfl⟩
  · exact ⟨_, _, _, _, rfl, rfl, rfl, rdh h10 rfl, rd0⟩
  · exact ⟨_, _, _, _, rfl, rfl, rfl, rdh h11 rfl, rd0⟩
  · exact ⟨_, _, _, _, rfl, rfl, rfl, rdh h12 rfl, rd0⟩
  · exact ⟨_, _, _, _, rfl, rfl, rfl, rdh h13 rfl, rd0⟩
end Go.Proofs.YtnpcjbdolmmaeaaDoor
