/-
  A queue of numbers: a slice that lies anywhere in a block of the call's own; what is appended.
-/
import Derived.Test.YtgflanlniejflaaConz
import Derived.ArgAppend
namespace Go.Proofs.Ytgflanlniejflaa
open Go Go.RowKit
set_option maxRecDepth 100000
/-- xs lies in block g, from some place on, with room behind it -/
def QueAt (w : World) (base : Nat) (e : TypeId) (v : Value) (g : Nat) (xs : List Value) : Prop :=
  ∃ off c cur, v = .slice (some ⟨g, off, none⟩) xs.length c ∧ base ≤ g ∧ w.heap[g]? = some (.cells cur e (0, 0)) ∧ off + c ≤ cur.size ∧ xs.length ≤ c ∧ c ≤ maxLen ∧ ∀ j u, xs[j]? = some u → cur[off + j]? = some u
theorem QueAt.only {w w' : World} {base : Nat} {e : TypeId} {v : Value} {g : Nat} {xs : List Value} {S : Nat → Prop} (h : QueAt w base e v g xs) (ho : Only S w w') (hn : ¬ S g) : QueAt w' base e v g xs := by
  obtain ⟨off, c, cur, h1, h2, h3, h4⟩ := h
  exact ⟨off, c, cur, h1, h2, (ho.block g (heap_lt h3) hn).trans h3, h4⟩
theorem QueAt.lt {w : World} {base : Nat} {e : TypeId} {v : Value} {g : Nat} {xs : List Value} (h : QueAt w base e v g xs) : base ≤ g ∧ g < w.heap.size := by
  obtain ⟨off, c, cur, _, h2, h3, _⟩ := h
  exact ⟨h2, heap_lt h3⟩
/-- 'next[1:]': an empty rest keeps its place -/
theorem QueAt.rest {w : World} {base : Nat} {e : TypeId} {g off n c : Nat} {x : Value} {xs : List Value} (h : QueAt w base e (.slice (some ⟨g, off, none⟩) n c) g (x :: xs)) :
    QueAt w base e (.slice (if c = 1 then some ⟨g, off, none⟩ else some ⟨g, off + 1, none⟩) xs.length (c - 1)) g xs := by
  obtain ⟨off', c', cur, h1, h2, h3, h4, h5, h6, h7⟩ := h
  simp only [Value.slice.injEq, Option.some.injEq, Addr.mk.injEq, true_and, and_true, List.length_cons] at h1 h5
  obtain ⟨rfl, rfl, rfl⟩ := h1
  by_cases hc : c = 1
  · rw [if_pos hc]
    have hx : xs = [] := List.eq_nil_of_length_eq_zero (by omega)
    subst hx
    exact ⟨off, c - 1, cur, rfl, h2, h3, by omega, Nat.zero_le _, by omega, fun j u hu => by cases hu⟩
  · rw [if_neg hc]
    refine ⟨off + 1, c - 1, cur, rfl, h2, h3, by omega, by omega, by omega, fun j u hu => ?_⟩
    have := h7 (j + 1) u (by simpa using hu)
    rw [← this]
    congr 1
    omega
/-- the first one is taken -/
theorem QueAt.tail {w : World} {base : Nat} {e : TypeId} {g off n c : Nat} {x : Value} {xs : List Value} (h : QueAt w base e (.slice (some ⟨g, off, none⟩) n c) g (x :: xs)) : n = xs.length + 1 ∧ 1 ≤ c ∧ w.cell? ⟨g, off, none⟩ = some x ∧ QueAt w base e (.slice (some ⟨g, off + 1, none⟩) xs.length (c - 1)) g xs := by
  obtain ⟨off', c', cur, h1, h2, h3, h4, h5, h6, h7⟩ := h
  simp only [Value.slice.injEq, Option.some.injEq, Addr.mk.injEq, true_and, and_true, List.length_cons] at h1 h5
  obtain ⟨rfl, rfl, rfl⟩ := h1
  refine ⟨rfl, by omega, ?_, off + 1, c - 1, cur, rfl, h2, h3, by omega, by omega, by omega, fun j u hu => ?_⟩
  · rw [Lib.cell_of_heap h3]
    exact h7 0 x rfl
  · have := h7 (j + 1) u (by simpa using hu)
    rw [← this]
    congr 1
    omega
/-- 'next = append(next, x)' -/
theorem wpList_pushQ {P : Program} (w : World) {ops : Array Oper} {rest : List Oper} {o : Oper} {a : Act} {Q : Exit → Act → World → Prop} (hgd : o.guard = none) (s x : Operand) (t : TypeId)
    (ho : o.op = .call { callee := .builtin .append, args := #[s, x], argTypes := #[t, t] })
    (base : Nat) (e : TypeId) (i : TypeInfo) (z : Value) (bytes : Nat) (ht : P.underlying t = some (.slice e)) (hi : P.info? e = some i) (hz : i.zero = some z)
    (hsize : i.size = 1) (hby : i.bytes = bytes) (hzs : z.cells.size = 1)
    (v : Value) (g : Nat) (xs : List Value) (hs : a.eval s = v) (hq : QueAt w base e v g xs)
    (u : Value) (b : Nat) (hx : a.eval x = .slice (some ⟨b, 0, none⟩) 1 1) (hbs : b = w.heap.size) (h1 : u.oneCell' = true)
    (h63 : xs.length + 1 ≤ maxLen) (hbytes : (xs.length + 1) * bytes ≤ 140737488355328)
    (h : ∀ v' g' w', QueAt w' base e v' g' (xs ++ [u]) → (g' = g ∨ w.heap.size < g') → Only (fun k => k = g) w w' → wpList P ops Q rest (a.put o.dst v') w') : wpList P ops Q (o :: rest) a (w.alloc (.cells #[u] e)) := by
  obtain ⟨off, c, cur, rfl, hbg, hg, hoc, hxc, hcm, hcells⟩ := hq
  rw [hbs] at hx
  have hgl := heap_lt hg
  have hgW : (w.alloc (.cells #[u] e)).heap[g]? = some (.cells cur e (0, 0)) := (Below.heap_alloc w _ _ hgl).trans hg
  refine wpList_append_arg (P := P) (w.alloc (.cells #[u] e)) hgd s x t ho e i z 1 bytes ht hi hz hsize hby hzs Nat.zero_lt_one g off xs.length c xs hs (by omega)
    (fun j y hy => by rw [Lib.cell_of_heap hgW]; exact hcells j y hy) ⟨w.heap.size, 0, none⟩ 1 1 [u] hx rfl (fun j y hy => ?_) (fun y hy => by rw [List.mem_singleton] at hy; rw [hy]; exact h1)
    (fun hroom j hj => ?_) h63 hbytes (fun hroom => ?_) (fun hgrow v' w' hown hgr => ?_)
  · have hj : j < 1 := (List.getElem?_eq_some_iff.1 hy).1
    have : j = 0 := by omega
    subst this
    rw [addr_off, cell_new]
    simpa using hy
  · have hj0 : j = 0 := by simpa using hj
    subst hj0
    refine ⟨?_, Lib.frozen_of_heap hgW _⟩
    rw [Lib.cell_of_heap hgW, Array.getElem?_eq_getElem (by omega)]
    rfl
  · have hset : (w.alloc (.cells #[u] e)).setCells g (off + xs.length * 1) [u] = (w.alloc (.cells #[u] e)).setCell ⟨g, off + xs.length, none⟩ u := by
      rw [Nat.mul_one]; rfl
    rw [hset]
    refine h _ g _ ⟨off, c, cur.setIfInBounds (off + xs.length) u, by simp, hbg, heap_setCell_same _ g _ _ _ _ hgW, by simp; omega, by simp; omega, hcm, fun j y hy => ?_⟩ (.inl rfl) ?_
    · rw [Array.getElem?_setIfInBounds]
      rcases Nat.lt_or_ge j xs.length with hj | hj
      · rw [List.getElem?_append_left hj] at hy
        rw [if_neg (by omega)]
        exact hcells j y hy
      · rw [List.getElem?_append_right hj] at hy
        have hj1 : j - xs.length < 1 := (List.getElem?_eq_some_iff.1 hy).1
        have : j = xs.length := by omega
        subst this
        rw [if_pos rfl, if_pos (by omega)]
        simpa using hy
    · exact ((Only.of_below (S := fun k => k = g) (below_new w (.cells #[u] e)))).trans (Only.of_set _ g _ u) fun _ _ e => e
  · obtain ⟨hl, hv⟩ := hown
    rcases hv with ⟨_, h0⟩ | ⟨g', c', cur', rfl, hb', hh, hc', hm', hsz', htk⟩
    · omega
    · have hsz : (w.alloc (.cells #[u] e)).heap.size = w.heap.size + 1 := by simp
      refine h _ g' _ ⟨0, c', cur', by simp, by omega, hh, by omega, by simp; omega, hm', fun j y hy => ?_⟩ (.inr (by omega)) ⟨hgr.os, hgr.tape, hgr.output, by have := hgr.size; omega, fun k hk _ => ?_⟩
      · have hjl : j < (xs ++ [u]).length := (List.getElem?_eq_some_iff.1 hy).1
        rw [← htk, List.getElem?_take] at hy
        rw [Nat.zero_add]
        split at hy
        · simpa using hy
        · cases hy
      · rw [hgr.block k (by omega) (by simp)]
        exact Below.heap_alloc w _ _ hk
end Go.Proofs.Ytgflanlniejflaa
