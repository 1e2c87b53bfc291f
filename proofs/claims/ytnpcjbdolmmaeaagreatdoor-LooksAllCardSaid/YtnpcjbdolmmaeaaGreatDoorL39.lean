/-
  LooksBuild: the statement's walk.
-/
import Derived.Deep.CutRange
import Derived.Test.YtnpcjbdolmmaeaaGreatDoorL30
import Derived.Test.YtnpcjbdolmmaeaaGreatDoorL38
namespace Go.Proofs.YtnpcjbdolmmaeaaGreatDoor
open Go.RowKit Go.Maps
set_option maxRecDepth 100000
def errQ (q : Option (List Drv.LSt)) : Int := if q.isSome = true then 0 else 1
theorem BuP.uni {n : Drv.NNet} {d b bu tk : Int} {w w' : World} {e : Ending} (h : BuP n d b bu tk w e w') : ∃ A, e = .returned (.tuple #[.agg #[.slice A ((Cf.autoQ n d b bu tk).getD []).length ((Cf.autoQ n d b bu tk).getD []).length], .int .i64 (errQ (Cf.autoQ n d b bu tk))]) ∧ AutIn w' w.heap.size A ((Cf.autoQ n d b bu tk).getD []) ∧ ((Cf.autoQ n d b bu tk).getD []).length ≤ 4096 ∧ Below w.heap.size w w' := by
  rcases h with ⟨h1, h2, h3⟩ | ⟨l, A, h1, h2, h3, h4, h5⟩
  · rw [h1]
    exact ⟨none, h2, ⟨[], 0, ⟨rfl, .inl ⟨rfl, rfl⟩⟩, rfl⟩, Nat.zero_le _, h3⟩
  · rw [h1]
    exact ⟨A, h2, h3, h4, h5⟩
theorem RBuP.uni {n : Drv.NNet} {d b bu tk : Int} {w w' : World} {e : Ending} (h : RBuP n d b bu tk w e w') : ∃ A c, e = .returned (.tuple #[.agg #[.slice A ((Cf.autoQ n d b bu tk).getD []).length c], .int .i64 (errQ (Cf.autoQ n d b bu tk))]) ∧ AutR w' w.heap.size A c ((Cf.autoQ n d b bu tk).getD []) ∧ Cf.AutS ((Cf.autoQ n d b bu tk).getD []) ∧ Below w.heap.size w w' := by
  rcases h with ⟨h1, h2, h3⟩ | ⟨l, A, c, h1, h2, h3, h4, h5, h6⟩
  · rw [h1]
    exact ⟨none, 0, h2, ⟨[], 0, ⟨rfl, .inl ⟨rfl, rfl⟩⟩, rfl⟩, fun y hy => (by cases hy), h3⟩
  · rw [h1]
    exact ⟨A, c, h2, h3, h5, h6⟩
def AutSh (w : World) (B : Nat) (A : Option Addr) (l : List Drv.LSt) : Prop := ∃ vs, OwnC w B 69 3 (.slice A l.length l.length) l.length vs ∧ ∀ i (hi : i < l.length), ∃ AA ac EA ec, vs[i*3+1]? = some (.slice AA l[i].alts.length ac) ∧ vs[i*3+2]? = some (.slice EA l[i].edges.length ec) ∧
  (∃ xs, OwnC w B 3 1 (.slice AA l[i].alts.length ac) l[i].alts.length xs) ∧ (∃ xs, OwnC w B 71 2 (.slice EA l[i].edges.length ec) l[i].edges.length xs)
theorem AutIn.sh {w : World} {B : Nat} {A : Option Addr} {l : List Drv.LSt} (h : AutIn w B A l) : AutSh w B A l := by
  obtain ⟨vs, E, h1, h2⟩ := h
  refine ⟨vs, h1, fun i hi => ?_⟩
  obtain ⟨vx, ⟨AA, ac, EA, ec, rfl, h3, h4, _⟩, h5⟩ := h2.at i hi
  exact ⟨AA, ac, EA, ec, by rw [h5 1 (by omega)]; rfl, by rw [h5 2 (by omega)]; rfl, ⟨_, h3⟩, ⟨_, h4⟩⟩
theorem OwnC.someSet {w : World} {B s n g o : Nat} {T T' : TypeId} {V v : Value} {cs : Array Value} (hg : w.heap[g]? = some (.cells cs T' (0, 0))) (h : ∃ xs, OwnC w B T s V n xs) : ∃ xs, OwnC (w.setCell ⟨g, o, none⟩ v) B T s V n xs := by
  obtain ⟨xs, h1, h2⟩ := h
  rcases h2 with h2 | ⟨k, c, cur, hv, hk, hh, h3, h4, h5, h6⟩
  · exact ⟨xs, h1, .inl h2⟩
  · by_cases e : k = g
    · subst e
      rw [hg] at hh
      injection hh with hh
      injection hh with e1 e2 _
      subst e1 e2
      refine ⟨(cs.setIfInBounds o v).toList.take (n * s), ?_, .inr ⟨k, c, _, hv, hk, heap_setCell_same w k o _ _ v hg, h3, h4, by simpa using h5, rfl⟩⟩
      rw [List.length_take, Array.length_toList, Array.size_setIfInBounds]
      have := Nat.mul_le_mul_right s h3
      omega
    · exact ⟨xs, h1, .inr ⟨k, c, cur, hv, hk, (Below.heap_setCell w ⟨g, o, none⟩ v k (fun e' => e e')).trans hh, h3, h4, h5, h6⟩⟩
theorem AutSh.set {w : World} {B g o : Nat} {T : TypeId} {A : Option Addr} {l : List Drv.LSt} {cs : Array Value} {v : Value} (h : AutSh w B A l) (hg : w.heap[g]? = some (.cells cs T (0, 0))) (hT : 69 ≠ T) : AutSh (w.setCell ⟨g, o, none⟩ v) B A l := by
  obtain ⟨vs, h1, h2⟩ := h
  refine ⟨vs, ownC_only h1 (Only.of_set w g o v) (fun k hk e => ownC_not h1 hg hT (by rw [← e]; exact hk)), fun i hi => ?_⟩
  obtain ⟨AA, ac, EA, ec, e1, e2, h3, h4⟩ := h2 i hi
  exact ⟨AA, ac, EA, ec, e1, e2, OwnC.someSet hg h3, OwnC.someSet hg h4⟩
theorem AutSh.at {w : World} {B : Nat} {A : Option Addr} {l : List Drv.LSt} (h : AutSh w B A l) (i : Nat) (hi : i < l.length) : ∃ b o AA ac EA ec, A = some ⟨b, o, none⟩ ∧ w.cell? ⟨b, o + i * 3 + 1, none⟩ = some (.slice AA l[i].alts.length ac) ∧ w.cell? ⟨b, o + i * 3 + 2, none⟩ = some (.slice EA l[i].edges.length ec) ∧
    (∃ xs, OwnC w B 3 1 (.slice AA l[i].alts.length ac) l[i].alts.length xs) ∧ (∃ xs, OwnC w B 71 2 (.slice EA l[i].edges.length ec) l[i].edges.length xs) := by
  obtain ⟨vs, h1, h2⟩ := h
  obtain ⟨b, o, hA, hb, hc⟩ := h1.reads.2 (by omega)
  obtain ⟨AA, ac, EA, ec, e1, e2, h3, h4⟩ := h2 i hi
  exact ⟨b, o, AA, ac, EA, ec, hA, hc (i * 3 + 1) _ e1, hc (i * 3 + 2) _ e2, h3, h4⟩
theorem OwnC.cellAt {w : World} {B s n c : Nat} {T : TypeId} {A : Option Addr} (h : ∃ xs, OwnC w B T s (.slice A n c) n xs) (k : Nat) (hk : k < n * s) : ∃ g cs u, A = some ⟨g, 0, none⟩ ∧ B ≤ g ∧ w.heap[g]? = some (.cells cs T (0, 0)) ∧ w.cell? ⟨g, k, none⟩ = some u ∧ ∀ i, w.frozen? ⟨g, i, none⟩ = false := by
  obtain ⟨xs, h⟩ := h
  have h1 := h.1
  have hr := h.reads
  rcases h.2 with ⟨_, h0⟩ | ⟨g, c, cur, hv, hg, hh, _⟩
  · subst h0; omega
  · injection hv with hv _ _
    subst hv
    have hn : 0 < n := by
      rcases Nat.eq_zero_or_pos n with h0 | h0
      · subst h0; omega
      · exact h0
    obtain ⟨b, o, e, _, hc⟩ := hr.2 hn
    injection e with e
    injection e with e1 e2 _
    subst e1 e2
    have hk' : k < xs.length := by omega
    have := hc k xs[k] (List.getElem?_eq_getElem hk')
    rw [Nat.zero_add] at this
    exact ⟨g, cur, _, rfl, hg, hh, this, fun i => Lib.frozen_of_heap hh i⟩
theorem small_any (x y : Int) (w : World) : Calls Tryz.prog 19 #[.int .i64 x, .int .i64 y] w fun e w' => e = .returned (.bool (decide (x ≤ 60) && decide (y ≤ 8))) ∧ w' = w := by
  by_cases h : x ≤ 60
  · have f1 : decide (x ≤ 60) = true := decide_eq_true h
    rw [f1, Bool.true_and]
    go_enter Tryz.func19, Tryz.ntmps19
    go_wp2
    go_ret
    exact ⟨rfl, rfl⟩
  · have f1 : decide (x ≤ 60) = false := decide_eq_false h
    rw [f1, Bool.false_and]
    clear h
    go_enter Tryz.func19, Tryz.ntmps19
    go_wp2
    go_ret
    exact ⟨rfl, rfl⟩
theorem cells4L {w : World} {b : Nat} {T : TypeId} {x0 x1 x2 x3 : Value} (h : w.heap[b]? = some (.cells #[x0, x1, x2, x3] T (0, 0))) : w.cell? ⟨b, 0, none⟩ = some x0 ∧ w.cell? ⟨b, 1, none⟩ = some x1 ∧ w.cell? ⟨b, 2, none⟩ = some x2 ∧ w.cell? ⟨b, 3, none⟩ = some x3 :=
  ⟨by rw [Lib.cell_of_heap h]; rfl, by rw [Lib.cell_of_heap h]; rfl, by rw [Lib.cell_of_heap h]; rfl, by rw [Lib.cell_of_heap h]; rfl⟩
theorem cells5L {w : World} {b : Nat} {T : TypeId} {x0 x1 x2 x3 x4 : Value} (h : w.heap[b]? = some (.cells #[x0, x1, x2, x3, x4] T (0, 0))) : w.cell? ⟨b, 0, none⟩ = some x0 ∧ w.cell? ⟨b, 1, none⟩ = some x1 ∧ w.cell? ⟨b, 2, none⟩ = some x2 ∧ w.cell? ⟨b, 3, none⟩ = some x3 ∧ w.cell? ⟨b, 4, none⟩ = some x4 :=
  ⟨by rw [Lib.cell_of_heap h]; rfl, by rw [Lib.cell_of_heap h]; rfl, by rw [Lib.cell_of_heap h]; rfl, by rw [Lib.cell_of_heap h]; rfl, by rw [Lib.cell_of_heap h]; rfl⟩
end Go.Proofs.YtnpcjbdolmmaeaaGreatDoor
