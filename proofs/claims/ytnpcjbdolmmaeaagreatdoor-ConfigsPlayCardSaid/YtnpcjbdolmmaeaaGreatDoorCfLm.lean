/-
  Configurations: the chapter's example: its memory. (Printed by gen_cflm.py.)
-/
import Derived.Test.YtnpcjbdolmmaeaaGreatDoorCfDn
namespace Go.Proofs.YtnpcjbdolmmaeaaGreatDoor
open Go.RowKit
set_option maxRecDepth 100000
theorem allocs_get : ∀ (l : List Obj) (w : World) (i : Nat) (h : i < l.length), (l.foldl World.alloc w).heap[w.heap.size + i]? = some l[i] ∧ Below w.heap.size w (l.foldl World.alloc w) ∧ (l.foldl World.alloc w).heap.size = w.heap.size + l.length := by
  intro l
  induction l with
  | nil => intro w i h; exact absurd h (Nat.not_lt_zero _)
  | cons o l ih =>
    intro w i h
    have hz : (w.alloc o).heap.size = w.heap.size + 1 := by simp
    have hb := below_new w o
    rw [List.foldl_cons]
    cases l with
    | nil =>
      have : i = 0 := by simp at h; omega
      subst this
      exact ⟨heap_alloc_new _ _, hb, hz⟩
    | cons p l =>
      cases i with
      | zero =>
        obtain ⟨_, g2, g3⟩ := ih (w.alloc o) 0 (by simp)
        exact ⟨(g2.block _ (by omega)).trans (heap_alloc_new _ _), hb.trans (g2.mono hb.size), by rw [g3, hz]; simp; omega⟩
      | succ i =>
        obtain ⟨g1, g2, g3⟩ := ih (w.alloc o) i (by simpa using h)
        exact ⟨by rw [hz, Nat.add_assoc, Nat.add_comm 1 i] at g1; exact g1, hb.trans (g2.mono hb.size), by rw [g3, hz]; simp; omega⟩
theorem rdh {w : World} {b n size : Nat} {T : TypeId} {cs : Array Value} (h : w.heap[b]? = some (.cells cs T (0, 0))) (hl : cs.size = n * size) : Reads w w.heap.size size (some ⟨b, 0, none⟩) n cs.toList :=
  ⟨by rw [Array.length_toList]; exact hl, fun _ => ⟨b, 0, rfl, heap_lt h, fun j u hu => by rw [Lib.cell_of_heap h, Nat.zero_add, ← Array.getElem?_toList]; exact hu⟩⟩
theorem rd0 {w : World} {B size : Nat} {A : Option Addr} : Reads w B size A 0 [] := ⟨by simp, fun h => absurd h (Nat.lt_irrefl 0)⟩
theorem live_mem (w wq : World) (h : wq = ((((((((((((((((w.alloc (.cells #[.int .i64 0] 3)).alloc (.cells #[.int .i64 1] 3)).alloc (.cells #[.int .i64 2] 3)).alloc (.cells #[.int .u8 0, .int .i64 0, .int .i64 2] 86)).alloc (.cells #[.int .u8 0, .int .i64 0, .int .i64 2] 86)).alloc (.cells #[.int .u8 0, .int .i64 0, .int .i64 4] 86)).alloc (.cells #[.int .u8 0, .int .i64 0, .int .i64 5] 86)).alloc (.cells #[.int .u8 0, .int .i64 0, .int .i64 4, .int .u8 0, .int .i64 0, .int .i64 5] 86)).alloc (.cells #[.int .i64 3, .int .i64 3] 3)).alloc (.cells #[.int .u8 0, .int .i64 0, .int .i64 1] 86)).alloc (.cells #[.int .u8 0, .int .i64 0, .int .i64 1] 86)).alloc (.cells #[.int .u8 1, .int .i64 0, .int .i64 3] 86)).alloc (.cells #[.int .u8 1, .int .i64 0, .int .i64 6] 86)).alloc (.cells #[.int .u8 1, .int .i64 1, .int .i64 3] 86)).alloc (.cells #[.int .i64 0, .slice (some ⟨w.heap.size + 1 + 1 + 1 + 1, 0, none⟩) 1 1, .slice none 0 0, .int .i64 0, .slice none 0 0, .slice none 0 0, .int .i64 0, .slice (some ⟨w.heap.size + 1 + 1 + 1 + 1 + 1 + 1 + 1, 0, none⟩) 2 2, .slice (some ⟨w.heap.size + 1 + 1 + 1 + 1 + 1 + 1 + 1 + 1, 0, none⟩) 2 2, .int .i64 0, .slice (some ⟨w.heap.size + 1 + 1 + 1 + 1 + 1 + 1 + 1 + 1 + 1 + 1, 0, none⟩) 1 1, .slice none 0 0, .int .i64 0, .slice (some ⟨w.heap.size + 1 + 1 + 1 + 1 + 1 + 1 + 1 + 1 + 1 + 1 + 1, 0, none⟩) 1 1, .slice none 0 0, .int .i64 0, .slice (some ⟨w.heap.size + 1 + 1 + 1 + 1 + 1 + 1 + 1 + 1 + 1 + 1 + 1 + 1, 0, none⟩) 1 1, .slice none 0 0, .int .i64 0, .slice (some ⟨w.heap.size + 1 + 1 + 1 + 1 + 1 + 1 + 1 + 1 + 1 + 1 + 1 + 1 + 1, 0, none⟩) 1 1, .slice none 0 0] 83)).alloc (.cells #[.slice (some ⟨w.heap.size + 1 + 1 + 1 + 1 + 1 + 1 + 1 + 1 + 1 + 1 + 1 + 1 + 1 + 1, 0, none⟩) 7 7, .slice (some ⟨w.heap.size, 0, none⟩) 1 1, .slice (some ⟨w.heap.size + 1, 0, none⟩) 1 1, .slice none 0 0, .slice (some ⟨w.heap.size + 1 + 1, 0, none⟩) 1 1] 25))) : Below w.heap.size w wq ∧ wq.heap[w.heap.size + 1 + 1 + 1 + 1 + 1 + 1 + 1 + 1 + 1 + 1 + 1 + 1 + 1 + 1 + 1]? = some (.cells #[.slice (some ⟨w.heap.size + 1 + 1 + 1 + 1 + 1 + 1 + 1 + 1 + 1 + 1 + 1 + 1 + 1 + 1, 0, none⟩) 7 7, .slice (some ⟨w.heap.size, 0, none⟩) 1 1, .slice (some ⟨w.heap.size + 1, 0, none⟩) 1 1, .slice none 0 0, .slice (some ⟨w.heap.size + 1 + 1, 0, none⟩) 1 1] 25 (0, 0)) ∧ w.heap.size + 15 < wq.heap.size ∧
    NetR wq wq.heap.size (some ⟨w.heap.size + 1 + 1 + 1 + 1 + 1 + 1 + 1 + 1 + 1 + 1 + 1 + 1 + 1 + 1, 0, none⟩) (some ⟨w.heap.size, 0, none⟩) (some ⟨w.heap.size + 1, 0, none⟩) none (some ⟨w.heap.size + 1 + 1, 0, none⟩) Cf.n14 := by
  have hall := fun i hi => allocs_get [(.cells #[.int .i64 0] 3), (.cells #[.int .i64 1] 3), (.cells #[.int .i64 2] 3), (.cells #[.int .u8 0, .int .i64 0, .int .i64 2] 86), (.cells #[.int .u8 0, .int .i64 0, .int .i64 2] 86), (.cells #[.int .u8 0, .int .i64 0, .int .i64 4] 86), (.cells #[.int .u8 0, .int .i64 0, .int .i64 5] 86), (.cells #[.int .u8 0, .int .i64 0, .int .i64 4, .int .u8 0, .int .i64 0, .int .i64 5] 86), (.cells #[.int .i64 3, .int .i64 3] 3), (.cells #[.int .u8 0, .int .i64 0, .int .i64 1] 86), (.cells #[.int .u8 0, .int .i64 0, .int .i64 1] 86), (.cells #[.int .u8 1, .int .i64 0, .int .i64 3] 86), (.cells #[.int .u8 1, .int .i64 0, .int .i64 6] 86), (.cells #[.int .u8 1, .int .i64 1, .int .i64 3] 86), (.cells #[.int .i64 0, .slice (some ⟨w.heap.size + 1 + 1 + 1 + 1, 0, none⟩) 1 1, .slice none 0 0, .int .i64 0, .slice none 0 0, .slice none 0 0, .int .i64 0, .slice (some ⟨w.heap.size + 1 + 1 + 1 + 1 + 1 + 1 + 1, 0, none⟩) 2 2, .slice (some ⟨w.heap.size + 1 + 1 + 1 + 1 + 1 + 1 + 1 + 1, 0, none⟩) 2 2, .int .i64 0, .slice (some ⟨w.heap.size + 1 + 1 + 1 + 1 + 1 + 1 + 1 + 1 + 1 + 1, 0, none⟩) 1 1, .slice none 0 0, .int .i64 0, .slice (some ⟨w.heap.size + 1 + 1 + 1 + 1 + 1 + 1 + 1 + 1 + 1 + 1 + 1, 0, none⟩) 1 1, .slice none 0 0, .int .i64 0, .slice (some ⟨w.heap.size + 1 + 1 + 1 + 1 + 1 + 1 + 1 + 1 + 1 + 1 + 1 + 1, 0, none⟩) 1 1, .slice none 0 0, .int .i64 0, .slice (some ⟨w.heap.size + 1 + 1 + 1 + 1 + 1 + 1 + 1 + 1 + 1 + 1 + 1 + 1 + 1, 0, none⟩) 1 1, .slice none 0 0] 83), (.cells #[.slice (some ⟨w.heap.size + 1 + 1 + 1 + 1 + 1 + 1 + 1 + 1 + 1 + 1 + 1 + 1 + 1 + 1, 0, none⟩) 7 7, .slice (some ⟨w.heap.size, 0, none⟩) 1 1, .slice (some ⟨w.heap.size + 1, 0, none⟩) 1 1, .slice none 0 0, .slice (some ⟨w.heap.size + 1 + 1, 0, none⟩) 1 1] 25)] w i hi
  simp only [List.foldl_cons, List.foldl_nil] at hall
  rw [← h] at hall
  have h0 : wq.heap[w.heap.size]? = some (.cells #[.int .i64 0] 3 (0, 0)) := (hall 0 (by simp)).1
  have h1 : wq.heap[w.heap.size + 1]? = some (.cells #[.int .i64 1] 3 (0, 0)) := (hall 1 (by simp)).1
  have h2 : wq.heap[w.heap.size + 1 + 1]? = some (.cells #[.int .i64 2] 3 (0, 0)) := (hall 2 (by simp)).1
  have h4 : wq.heap[w.heap.size + 1 + 1 + 1 + 1]? = some (.cells #[.int .u8 0, .int .i64 0, .int .i64 2] 86 (0, 0)) := (hall 4 (by simp)).1
  have h7 : wq.heap[w.heap.size + 1 + 1 + 1 + 1 + 1 + 1 + 1]? = some (.cells #[.int .u8 0, .int .i64 0, .int .i64 4, .int .u8 0, .int .i64 0, .int .i64 5] 86 (0, 0)) := (hall 7 (by simp)).1
  have h8 : wq.heap[w.heap.size + 1 + 1 + 1 + 1 + 1 + 1 + 1 + 1]? = some (.cells #[.int .i64 3, .int .i64 3] 3 (0, 0)) := (hall 8 (by simp)).1
  have h10 : wq.heap[w.heap.size + 1 + 1 + 1 + 1 + 1 + 1 + 1 + 1 + 1 + 1]? = some (.cells #[.int .u8 0, .int .i64 0, .int .i64 1] 86 (0, 0)) := (hall 10 (by simp)).1
  have h11 : wq.heap[w.heap.size + 1 + 1 + 1 + 1 + 1 + 1 + 1 + 1 + 1 + 1 + 1]? = some (.cells #[.int .u8 1, .int .i64 0, .int .i64 3] 86 (0, 0)) := (hall 11 (by simp)).1
  have h12 : wq.heap[w.heap.size + 1 + 1 + 1 + 1 + 1 + 1 + 1 + 1 + 1 + 1 + 1 + 1]? = some (.cells #[.int .u8 1, .int .i64 0, .int .i64 6] 86 (0, 0)) := (hall 12 (by simp)).1
  have h13 : wq.heap[w.heap.size + 1 + 1 + 1 + 1 + 1 + 1 + 1 + 1 + 1 + 1 + 1 + 1 + 1]? = some (.cells #[.int .u8 1, .int .i64 1, .int .i64 3] 86 (0, 0)) := (hall 13 (by simp)).1
  have h14 : wq.heap[w.heap.size + 1 + 1 + 1 + 1 + 1 + 1 + 1 + 1 + 1 + 1 + 1 + 1 + 1 + 1]? = some (.cells #[.int .i64 0, .slice (some ⟨w.heap.size + 1 + 1 + 1 + 1, 0, none⟩) 1 1, .slice none 0 0, .int .i64 0, .slice none 0 0, .slice none 0 0, .int .i64 0, .slice (some ⟨w.heap.size + 1 + 1 + 1 + 1 + 1 + 1 + 1, 0, none⟩) 2 2, .slice (some ⟨w.heap.size + 1 + 1 + 1 + 1 + 1 + 1 + 1 + 1, 0, none⟩) 2 2, .int .i64 0, .slice (some ⟨w.heap.size + 1 + 1 + 1 + 1 + 1 + 1 + 1 + 1 + 1 + 1, 0, none⟩) 1 1, .slice none 0 0, .int .i64 0, .slice (some ⟨w.heap.size + 1 + 1 + 1 + 1 + 1 + 1 + 1 + 1 + 1 + 1 + 1, 0, none⟩) 1 1, .slice none 0 0, .int .i64 0, .slice (some ⟨w.heap.size + 1 + 1 + 1 + 1 + 1 + 1 + 1 + 1 + 1 + 1 + 1 + 1, 0, none⟩) 1 1, .slice none 0 0, .int .i64 0, .slice (some ⟨w.heap.size + 1 + 1 + 1 + 1 + 1 + 1 + 1 + 1 + 1 + 1 + 1 + 1 + 1, 0, none⟩) 1 1, .slice none 0 0] 83 (0, 0)) := (hall 14 (by simp)).1
  have h15 : wq.heap[w.heap.size + 1 + 1 + 1 + 1 + 1 + 1 + 1 + 1 + 1 + 1 + 1 + 1 + 1 + 1 + 1]? = some (.cells #[.slice (some ⟨w.heap.size + 1 + 1 + 1 + 1 + 1 + 1 + 1 + 1 + 1 + 1 + 1 + 1 + 1 + 1, 0, none⟩) 7 7, .slice (some ⟨w.heap.size, 0, none⟩) 1 1, .slice (some ⟨w.heap.size + 1, 0, none⟩) 1 1, .slice none 0 0, .slice (some ⟨w.heap.size + 1 + 1, 0, none⟩) 1 1] 25 (0, 0)) := (hall 15 (by simp)).1
  refine ⟨(hall 0 (by simp)).2.1, h15, by rw [(hall 0 (by simp)).2.2]; simp, ⟨⟨_, rdh h14 rfl, fun i hi => ?_⟩, rdh h0 rfl, rdh h1 rfl, rd0, rdh h2 rfl⟩⟩
  have hi : i < 7 := hi
  rcases (by omega : i = 0 ∨ i = 1 ∨ i = 2 ∨ i = 3 ∨ i = 4 ∨ i = 5 ∨ i = 6) with rfl | rfl | rfl | rfl | rfl | rfl | rfl
  · exact ⟨_, _, _, _, rfl, rfl, rfl, rdh h4 rfl, rd0⟩
  · exact ⟨_, _, _, _, rfl, rfl, rfl, rd0, rd0⟩
  · exact ⟨_, _, _, _, rfl, rfl, rfl, rdh h7 rfl, rdh h8 rfl⟩
  · exact ⟨_, _, _, _, rfl, rfl, rfl, rdh h10 rfl, rd0⟩
  · exact ⟨_, _, _, _, rfl, rfl, rfl, rdh h11 rfl, rd0⟩
  · exact ⟨_, _, _, _, rfl, rfl, rfl, rdh h12 rfl, rd0⟩
  · exact ⟨_, _, _, _, rfl, rfl, rfl, rdh h13 rfl, rd0⟩
end Go.Proofs.YtnpcjbdolmmaeaaGreatDoor

/-
  The chapter's example of configurations: the walk.
-/
namespace Go.Proofs.YtnpcjbdolmmaeaaGreatDoor
open Go.RowKit Go.Maps
set_option maxRecDepth 100000
theorem SetIn.cells {w : World} {B : Nat} {CA AA : Option Addr} {s : Cf.St} (h : SetIn w B CA AA s) (hn : s.configs.length ≠ 0) : ∃ g vs, CA = some ⟨g, 0, none⟩ ∧ g < w.heap.size ∧ CfsO w B s.configs vs ∧ ∀ k u, vs[k]? = some u → w.cell? ⟨g, k, none⟩ = some u := by
  obtain ⟨vs, h1, h2⟩ := h.cfg
  rcases h1.2 with ⟨_, h0⟩ | ⟨g, c, cur, hv, _⟩
  · exact absurd h0 hn
  · injection hv with hv _ _
    subst hv
    obtain ⟨b, off, e, hb, hc⟩ := h1.reads.2 (by omega)
    injection e with e
    injection e with e1 e2
    subst e1 e2
    exact ⟨g, vs, rfl, hb, h2, fun k u hk => by have := hc k u hk; rwa [Nat.zero_add] at this⟩
set_option maxHeartbeats 12800000 in
theorem lives_any (w : World) (hT : PT w) : Calls Tryz.prog 7 #[] w fun e w' => e = .returned (.bool true) ∧ Below w.heap.size w w' := by
  have LM := fun wq h => live_mem w wq h
  have HT := hid hT
  clear hT
  go_enter Tryz.func7, Tryz.ntmps7
  go_wp2_with fail
  go_at_call 26
  refine (empty_any 2 _).mono ?_
  rintro _ _ ⟨rfl, rfl⟩
  go_wp2_with fail
  go_at_call 26
  refine (empty_any 4 _).mono ?_
  rintro _ _ ⟨rfl, rfl⟩
  go_wp2_with fail
  go_at_call 26
  refine (empty_any 5 _).mono ?_
  rintro _ _ ⟨rfl, rfl⟩
  go_wp2_with fail
  go_at_call 26
  refine (empty_any 1 _).mono ?_
  rintro _ _ ⟨rfl, rfl⟩
  go_upto_region 2 with fail
  generalize hq : World.alloc _ _ = wq
  obtain ⟨hb0, hbx, hsz, hnet⟩ := LM wq hq.symm
  clear LM hq
  have x0 : wq.cell? ⟨w.heap.size + 1 + 1 + 1 + 1 + 1 + 1 + 1 + 1 + 1 + 1 + 1 + 1 + 1 + 1 + 1, 0, none⟩ = some (.slice (some ⟨w.heap.size + 1 + 1 + 1 + 1 + 1 + 1 + 1 + 1 + 1 + 1 + 1 + 1 + 1 + 1, 0, none⟩) 7 7) := by rw [Lib.cell_of_heap hbx]; rfl
  have x1 : wq.cell? ⟨w.heap.size + 1 + 1 + 1 + 1 + 1 + 1 + 1 + 1 + 1 + 1 + 1 + 1 + 1 + 1 + 1, 1, none⟩ = some (.slice (some ⟨w.heap.size, 0, none⟩) 1 1) := by rw [Lib.cell_of_heap hbx]; rfl
  have x2 : wq.cell? ⟨w.heap.size + 1 + 1 + 1 + 1 + 1 + 1 + 1 + 1 + 1 + 1 + 1 + 1 + 1 + 1 + 1, 2, none⟩ = some (.slice (some ⟨w.heap.size + 1, 0, none⟩) 1 1) := by rw [Lib.cell_of_heap hbx]; rfl
  have x3 : wq.cell? ⟨w.heap.size + 1 + 1 + 1 + 1 + 1 + 1 + 1 + 1 + 1 + 1 + 1 + 1 + 1 + 1 + 1, 3, none⟩ = some (.slice none 0 0) := by rw [Lib.cell_of_heap hbx]; rfl
  have x4 : wq.cell? ⟨w.heap.size + 1 + 1 + 1 + 1 + 1 + 1 + 1 + 1 + 1 + 1 + 1 + 1 + 1 + 1 + 1, 4, none⟩ = some (.slice (some ⟨w.heap.size + 1 + 1, 0, none⟩) 1 1) := by rw [Lib.cell_of_heap hbx]; rfl
  have hnew := new_any Cf.n14 0 1 _ _ _ _ _ 7 1 1 0 1 wq hnet ⟨by decide, by decide, by decide, by decide, by decide, by decide⟩ Cf.few14
  have HN := hid hnew
  have HB0 := hid hb0
  have HTQ := hid (HT.out.next hb0)
  clear hnew hb0 hbx hnet
  go_wp2_with fail
  go_at_call 8
  refine HN.out.mono ?_
  rintro _ w2 (⟨hno, _, _⟩ | ⟨v, V, a, hv, rfl, hva, hge, hb2⟩)
  · rw [Cf.new14] at hno; cases hno
  rw [Cf.new14] at hv
  injection hv with hv
  subst hv
  obtain ⟨hW, hd, _, he⟩ := Cf.newV_ok Cf.new14 Cf.few14
  have HB2 := hid (HB0.out.trans (hb2.mono HB0.out.size))
  have HT2 := hid (HTQ.out.next hb2)
  have hst := start_any Cf.v14 a V w2 hva hW hd he HT2.out
  have HST := hid hst
  have HVA := hid hva
  have HWW := hid hW
  clear hst hva hb2 HTQ HB0 HN x0 x1 x2 x3 x4 hsz hge hW
  dsimp only
  go_wp2_with fail
  go_at_call 12
  refine HST.out.mono ?_
  rintro _ w3 ⟨s, CA, AA, rfl, his, hsb, hin, hb3⟩
  have hs := his.unique Cf.set14
  subst hs
  clear his
  have hbx := below_new w3 (.cells #[.slice CA 2 2, .slice AA 2 2, .bool false] 43)
  have hx := heap_alloc_new w3 (.cells #[.slice CA 2 2, .slice AA 2 2, .bool false] 43)
  obtain ⟨w4, hw4⟩ : ∃ w4, Hid (w3.alloc (.cells #[.slice CA 2 2, .slice AA 2 2, .bool false] 43) = w4) := ⟨_, hid rfl⟩
  rw [hw4.out] at hbx hx
  have hb4 := hb3.trans (hbx.mono hb3.size)
  have hin4 := hin.below hbx
  have hmv := move_any Cf.v14 a V Cf.s14 0 CA AA w4 (HVA.out.next hb4) HWW.out hsb hin4.cfr (HT2.out.next hb4)
  obtain ⟨c0, c1, c2⟩ := cells3 hx
  have HIN4 := hid hin4
  have HX4 := hid hx
  have HMV := hid hmv
  have HB4 := hid (HB2.out.trans (hb4.mono HB2.out.size))
  have hl4 := heap_lt hx
  clear hbx hx hb4 hin4 hmv hin hb3 hsb
  unfold setAgg
  rw [show Cf.s14.configs.length = 2 from rfl, show Cf.s14.alts.length = 2 from rfl, show Cf.s14.over = false from rfl]
  go_wp2_with fail
  rw [hw4.out]
  go_at_call 17
  refine HMV.out.mono ?_
  rintro _ w5 ⟨t, CB, AB, rfl, hit, htb, hin5, hb5⟩
  rw [if_neg (by decide)] at hit
  have ht := hit.unique Cf.set14b
  subst ht
  clear hit
  have hbx := below_new w5 (.cells #[.slice CB 1 1, .slice AB 1 1, .bool false] 43)
  have hx := heap_alloc_new w5 (.cells #[.slice CB 1 1, .slice AB 1 1, .bool false] 43)
  obtain ⟨w6, hw6⟩ : ∃ w6, Hid (w5.alloc (.cells #[.slice CB 1 1, .slice AB 1 1, .bool false] 43) = w6) := ⟨_, hid rfl⟩
  rw [hw6.out] at hbx hx
  have hb6 := hb5.trans (hbx.mono hb5.size)
  have hinA := HIN4.out.below hb6
  have hinB := hin5.below hbx
  have hx4 := (hb6.block _ hl4).trans HX4.out
  obtain ⟨d0, d1, d2⟩ := cells3 hx4
  obtain ⟨e0, e1, e2⟩ := cells3 hx
  obtain ⟨ga, va, hCA, hga, hoa, hka⟩ := hinA.cells (by decide)
  obtain ⟨gb, vb, hCB, hgb, hob, hkb⟩ := hinB.cells (by decide)
  obtain ⟨A1, b1, ea, _, A2, b2, eb, _, _⟩ := hoa
  obtain ⟨A3, b3, ec, _, _⟩ := hob
  have ka1 := hka 1 (.int .i64 4) (by rw [ea]; rfl)
  have ka5 := hka 5 (.int .i64 1) (by rw [ea, eb]; rfl)
  have ka6 := hka 6 (.int .i64 5) (by rw [ea, eb]; rfl)
  have kb1 := hkb 1 (.int .i64 3) (by rw [ec]; rfl)
  have kb3 := hkb 3 (.bool true) (by rw [ec]; rfl)
  have kb4 := hkb 4 (.bool true) (by rw [ec]; rfl)
  have hd1 := done_any Cf.s14 CA AA w6 hinA.cfr (by decide)
  rw [Cf.done14] at hd1
  have HD1 := hid hd1
  have HIA := hid hinA
  have HIB := hid hinB
  have HB6 := hid (HB4.out.trans (hb6.mono HB4.out.size))
  subst hCA hCB
  clear hd1 hinA hinB hb6 hb5 hbx hx hx4 hin5 htb hka hkb ea eb ec c0 c1 c2 HIN4 HX4 HMV HST
  unfold setAgg
  rw [show Cf.t14.configs.length = 1 from rfl, show Cf.t14.alts.length = 1 from rfl, show Cf.t14.over = false from rfl]
  go_upto_region 5 with fail
  rw [hw6.out]
  have hsd := World.block_lt_of_cell? w6 _ d1
  have hse := World.block_lt_of_cell? w6 _ e1
  have hsg := World.block_lt_of_cell? w6 _ kb1
  dsimp only at hsd hse hsg
  go_wp2_with fail
  go_at_call 15
  refine HD1.out.mono ?_
  rintro _ w7 ⟨rfl, hb7⟩
  have hs7 := hb7.size
  have d1 := (hb7.cell (p := ⟨w3.heap.size, 1, none⟩) (by show w3.heap.size < _; omega)).trans d1
  have e0 := (hb7.cell (p := ⟨w5.heap.size, 0, none⟩) (by show w5.heap.size < _; omega)).trans e0
  have e1 := (hb7.cell (p := ⟨w5.heap.size, 1, none⟩) (by show w5.heap.size < _; omega)).trans e1
  have e2 := (hb7.cell (p := ⟨w5.heap.size, 2, none⟩) (by show w5.heap.size < _; omega)).trans e2
  have kb1 := (hb7.cell (p := ⟨gb, 1, none⟩) (by show gb < _; omega)).trans kb1
  have kb3 := (hb7.cell (p := ⟨gb, 3, none⟩) (by show gb < _; omega)).trans kb3
  have kb4 := (hb7.cell (p := ⟨gb, 4, none⟩) (by show gb < _; omega)).trans kb4
  have hbn := below_new w7 (.cells #[.int .i64 0, .int .i64 1] 3)
  have hxn := heap_alloc_new w7 (.cells #[.int .i64 0, .int .i64 1] 3)
  obtain ⟨w8, hw8⟩ : ∃ w8, Hid (w7.alloc (.cells #[.int .i64 0, .int .i64 1] 3) = w8) := ⟨_, hid rfl⟩
  rw [hw8.out] at hbn hxn
  have hb68 := hb7.trans (hbn.mono hb7.size)
  have hra := (HIA.out.below hb68).alts.reads
  have hsn := sameZ_eq AA (some ⟨w7.heap.size, 0, none⟩) 2 2 [0, 1] w8 (by decide) hra (rdh hxn rfl)
  have HSN := hid hsn
  have HB8 := hid hb68
  have e0 := (hbn.cell (p := ⟨w5.heap.size, 0, none⟩) (by show w5.heap.size < _; omega)).trans e0
  have e1 := (hbn.cell (p := ⟨w5.heap.size, 1, none⟩) (by show w5.heap.size < _; omega)).trans e1
  have e2 := (hbn.cell (p := ⟨w5.heap.size, 2, none⟩) (by show w5.heap.size < _; omega)).trans e2
  have kb1 := (hbn.cell (p := ⟨gb, 1, none⟩) (by show gb < _; omega)).trans kb1
  have kb3 := (hbn.cell (p := ⟨gb, 3, none⟩) (by show gb < _; omega)).trans kb3
  have kb4 := (hbn.cell (p := ⟨gb, 4, none⟩) (by show gb < _; omega)).trans kb4
  have hs8 := hbn.size
  clear hbn hxn hb7 hra hsn HD1 ka1 ka5 ka6 d0 d2
  go_wp2_with fail
  rw [hw8.out]
  go_at_call 27
  refine HSN.out.mono ?_
  rintro _ w9 ⟨rfl, hb9⟩
  have hb69 := HB8.out.trans (hb9.mono HB8.out.size)
  have e0 := (hb9.cell (p := ⟨w5.heap.size, 0, none⟩) (by show w5.heap.size < _; omega)).trans e0
  have e1 := (hb9.cell (p := ⟨w5.heap.size, 1, none⟩) (by show w5.heap.size < _; omega)).trans e1
  have e2 := (hb9.cell (p := ⟨w5.heap.size, 2, none⟩) (by show w5.heap.size < _; omega)).trans e2
  have kb1 := (hb9.cell (p := ⟨gb, 1, none⟩) (by show gb < _; omega)).trans kb1
  have kb3 := (hb9.cell (p := ⟨gb, 3, none⟩) (by show gb < _; omega)).trans kb3
  have kb4 := (hb9.cell (p := ⟨gb, 4, none⟩) (by show gb < _; omega)).trans kb4
  have hs9 := hb9.size
  have hd2 := done_any Cf.t14 (some ⟨gb, 0, none⟩) AB w9 (HIB.out.below hb69).cfr (by decide)
  rw [Cf.done14b] at hd2
  unfold setAgg at hd2
  have HD2 := hid hd2
  have HB9 := hid hb69
  clear hd2 hb9 hb69 HSN
  go_wp2_with fail
  go_at_call 15
  refine HD2.out.mono ?_
  rintro _ w10 ⟨rfl, hb10⟩
  have e1 := (hb10.cell (p := ⟨w5.heap.size, 1, none⟩) (by show w5.heap.size < _; omega)).trans e1
  have hbn := below_new w10 (.cells #[.int .i64 0] 3)
  have hxn := heap_alloc_new w10 (.cells #[.int .i64 0] 3)
  obtain ⟨w11, hw11⟩ : ∃ w11, Hid (w10.alloc (.cells #[.int .i64 0] 3) = w11) := ⟨_, hid rfl⟩
  rw [hw11.out] at hbn hxn
  have hb611 := HB9.out.trans ((hb10.trans (hbn.mono hb10.size)).mono HB9.out.size)
  have hra := (HIB.out.below hb611).alts.reads
  have hsn := sameZ_eq AB (some ⟨w10.heap.size, 0, none⟩) 1 1 [0] w11 (by decide) hra (rdh hxn rfl)
  have HSN := hid hsn
  have HB11 := hid hb611
  clear hbn hxn hb10 hra hsn hb611
  go_wp2_with fail
  rw [hw11.out]
  go_at_call 27
  refine HSN.out.mono ?_
  rintro _ w12 ⟨rfl, hb12⟩
  go_wp2_with fail
  go_ret
  exact ⟨rfl, HB6.out.trans ((HB11.out.trans (hb12.mono HB11.out.size)).mono HB6.out.size)⟩
end Go.Proofs.YtnpcjbdolmmaeaaGreatDoor
