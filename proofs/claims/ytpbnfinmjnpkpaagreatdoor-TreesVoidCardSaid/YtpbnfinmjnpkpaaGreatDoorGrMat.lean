/-
  A square of marks in memory: rows of bools, each in a block of its own; who goes on to whom.
-/
import Derived.Test.YtpbnfinmjnpkpaaGreatDoorGrRe
namespace Go.Proofs.YtpbnfinmjnpkpaaGreatDoor
open Go.RowKit
set_option maxRecDepth 100000
namespace Gr
/-- cells of marks -/
def bArr (R : Nat) (f : Nat → Bool) : Array Value := ((List.range R).map fun i => Value.bool (f i)).toArray
theorem bArr_get {R : Nat} {f : Nat → Bool} {i : Nat} (h : i < R) : (bArr R f)[i]? = some (.bool (f i)) := by
  simp [bArr, h]
theorem bArr_set (R : Nat) (f : Nat → Bool) (i : Nat) (b : Bool) : (bArr R f).setIfInBounds i (.bool b) = bArr R (fun x => if x = i then b else f x) := by
  unfold bArr
  rw [List.setIfInBounds_toArray]
  congr 1
  apply List.ext_getElem
  · simp
  · intro j h1 h2
    simp only [List.getElem_set, List.getElem_map, List.getElem_range]
    by_cases e : i = j
    · subst e; simp
    · rw [if_neg e, if_neg (fun g => e g.symm)]
theorem bArr_repl (R : Nat) : bArr R (fun _ => false) = Array.replicate R (Value.bool false) := by
  unfold bArr
  apply Array.ext
  · simp
  · intro i h1 h2; simp
theorem bArr_congr {R : Nat} {f g : Nat → Bool} (h : ∀ i, i < R → f i = g i) : bArr R f = bArr R g := by
  unfold bArr
  congr 1
  apply List.map_congr_left
  intro i hi
  rw [h i (List.mem_range.1 hi)]
/-- the rows' slices, so many made -/
def rArr (n i : Nat) (rb : Nat → Nat) : Array Value := ((List.range n).map fun j => if j < i then Value.slice (some ⟨rb j, 0, none⟩) n n else .slice none 0 0).toArray
theorem rArr_get {n i : Nat} {rb : Nat → Nat} {j : Nat} (h : j < n) (hj : j < i) : (rArr n i rb)[j]? = some (.slice (some ⟨rb j, 0, none⟩) n n) := by
  simp [rArr, h, hj]
theorem rArr_zero (n : Nat) (rb : Nat → Nat) : rArr n 0 rb = Array.replicate n (Value.slice none 0 0) := by
  unfold rArr
  apply Array.ext
  · simp
  · intro i h1 h2; simp
theorem rArr_set (n i : Nat) (rb : Nat → Nat) (x : Nat) : (rArr n i rb).setIfInBounds i (.slice (some ⟨x, 0, none⟩) n n) = rArr n (i + 1) (fun j => if j = i then x else rb j) := by
  unfold rArr
  rw [List.setIfInBounds_toArray]
  congr 1
  apply List.ext_getElem
  · simp
  · intro j h1 h2
    simp only [List.getElem_set, List.getElem_map, List.getElem_range]
    by_cases e : i = j
    · subst e
      rw [if_pos rfl, if_pos (by omega), if_pos rfl]
    · rw [if_neg e]
      by_cases h : j < i
      · rw [if_pos h, if_pos (by omega), if_neg (by omega)]
      · rw [if_neg h, if_neg (by omega)]
end Gr
/-- a square of marks in memory, so many rows made -/
structure MatM (Wb ob n i : Nat) (rb : Nat → Nat) (F : Nat → Nat → Bool) (u : World) : Prop where
  outer : u.heap[ob]? = some (.cells (Gr.rArr n i rb) 155 (0, 0))
  row : ∀ j, j < i → u.heap[rb j]? = some (.cells (Gr.bArr n (F j)) 4 (0, 0)) ∧ Wb ≤ rb j
  inj : ∀ j k, j < i → k < i → rb j = rb k → j = k
  le : i ≤ n
section
variable {Wb ob n i : Nat} {rb : Nat → Nat} {F : Nat → Nat → Bool} {u u' : World}
theorem MatM.next (h : MatM Wb ob n i rb F u) (hb : Below u.heap.size u u') : MatM Wb ob n i rb F u' :=
  ⟨(hb.block _ (heap_lt h.outer)).trans h.outer, fun j hj => ⟨(hb.block _ (heap_lt (h.row j hj).1)).trans (h.row j hj).1, (h.row j hj).2⟩, h.inj, h.le⟩
theorem MatM.only (h : MatM Wb ob n i rb F u) {S : Nat → Prop} (ho : Only S u u') (h1 : ¬ S ob) (h2 : ∀ j, j < i → ¬ S (rb j)) : MatM Wb ob n i rb F u' :=
  ⟨(ho.block _ (heap_lt h.outer) h1).trans h.outer, fun j hj => ⟨(ho.block _ (heap_lt (h.row j hj).1) (h2 j hj)).trans (h.row j hj).1, (h.row j hj).2⟩, h.inj, h.le⟩
theorem MatM.congr (h : MatM Wb ob n i rb F u) {G : Nat → Nat → Bool} (hg : ∀ j c, j < i → c < n → F j c = G j c) : MatM Wb ob n i rb G u :=
  ⟨h.outer, fun j hj => ⟨by rw [(h.row j hj).1, Gr.bArr_congr fun c hc => hg j c hj hc], (h.row j hj).2⟩, h.inj, h.le⟩
theorem MatM.ne (h : MatM Wb ob n i rb F u) {j : Nat} (hj : j < i) : rb j ≠ ob := fun e => by
  have h1 := (h.row j hj).1
  rw [e, h.outer] at h1
  injection h1 with h1
  injection h1 with _ h1
  exact absurd h1 (by decide)
/-- a block of another type is none of it -/
theorem MatM.far (h : MatM Wb ob n i rb F u) {k : Nat} {cs : Array Value} {T : TypeId} (hk : u.heap[k]? = some (.cells cs T (0, 0))) (h1 : T ≠ 155) (h2 : T ≠ 4) : ob ≠ k ∧ ∀ j, j < i → rb j ≠ k := by
  refine ⟨fun e => ?_, fun j hj e => ?_⟩
  · have h3 := h.outer
    rw [e, hk] at h3
    injection h3 with h3
    injection h3 with _ h3
    exact h1 h3
  · have h3 := (h.row j hj).1
    rw [e, hk] at h3
    injection h3 with h3
    injection h3 with _ h3
    exact h2 h3
theorem MatM.set (h : MatM Wb ob n i rb F u) {r : Nat} (hr : r < i) (q : Nat) (b : Bool) : MatM Wb ob n i rb (fun x y => if x = r ∧ y = q then b else F x y) (u.setCell ⟨rb r, q, none⟩ (.bool b)) := by
  have ho := Only.of_set u (rb r) q (.bool b)
  refine ⟨(ho.block _ (heap_lt h.outer) fun e => h.ne hr e.symm).trans h.outer, fun j hj => ⟨?_, (h.row j hj).2⟩, h.inj, h.le⟩
  by_cases e : j = r
  · subst e
    rw [heap_setCell_same u _ q _ _ (.bool b) (h.row j hj).1, Gr.bArr_set]
    congr 3
    funext x
    simp
  · rw [(ho.block _ (heap_lt (h.row j hj).1) fun e2 => e (h.inj j r hj hr e2)).trans (h.row j hj).1]
    congr 3
    funext x
    rw [if_neg (fun g => e g.1)]
/-- one row more is made -/
theorem MatM.push (h : MatM Wb ob n i rb F u) (hi : i < n) (hw : Wb ≤ u.heap.size) (hu : Below u.heap.size u u') (x : Nat) (hx : u'.heap[x]? = some (.cells (Array.replicate n (Value.bool false)) 4 (0, 0))) (hx2 : u.heap.size ≤ x) :
    MatM Wb ob n (i + 1) (fun j => if j = i then x else rb j) (fun j c => if j = i then false else F j c) (u'.setCell ⟨ob, i, none⟩ (.slice (some ⟨x, 0, none⟩) n n)) := by
  have h' := h.next hu
  have ho := Only.of_set u' ob i (.slice (some ⟨x, 0, none⟩) n n)
  have hne : x ≠ ob := fun e => by
    rw [e, h'.outer] at hx
    injection hx with hx
    injection hx with _ hx
    exact absurd hx (by decide)
  refine ⟨?_, fun j hj => ?_, fun j k hj hk e => ?_, hi⟩
  · rw [heap_setCell_same u' _ i _ _ (.slice (some ⟨x, 0, none⟩) n n) h'.outer, Gr.rArr_set]
  · by_cases e : j = i
    · subst e
      simp only [if_true]
      refine ⟨?_, by omega⟩
      rw [(ho.block _ (heap_lt hx) hne).trans hx, ← Gr.bArr_repl]
    · simp only [if_neg e]
      have hj' : j < i := by omega
      exact ⟨(ho.block _ (heap_lt (h'.row j hj').1) (h'.ne hj')).trans (h'.row j hj').1, (h'.row j hj').2⟩
  · have hlt : ∀ m, m < i → rb m < x := fun m hm => by have := heap_lt (h.row m hm).1; omega
    by_cases e1 : j = i
    · by_cases e2 : k = i
      · omega
      · rw [if_pos e1, if_neg e2] at e
        have := hlt k (by omega)
        omega
    · by_cases e2 : k = i
      · rw [if_pos e2, if_neg e1] at e
        have := hlt j (by omega)
        omega
      · rw [if_neg e1, if_neg e2] at e
        exact h.inj j k (by omega) (by omega) e
/-- one row more is made, as a world has it -/
theorem MatM.push2 (h : MatM Wb ob n i rb F u) (hi : i < n) (hw : Wb ≤ u.heap.size) (x : Nat) (hx : u'.heap[x]? = some (.cells (Array.replicate n (Value.bool false)) 4 (0, 0))) (hx2 : u.heap.size ≤ x)
    (ho : u'.heap[ob]? = some (.cells ((Gr.rArr n i rb).setIfInBounds i (.slice (some ⟨x, 0, none⟩) n n)) 155 (0, 0))) (hk : ∀ j, j < i → u'.heap[rb j]? = u.heap[rb j]?) :
    MatM Wb ob n (i + 1) (fun j => if j = i then x else rb j) (fun j c => if j = i then false else F j c) u' := by
  refine ⟨?_, fun j hj => ?_, fun j k hj hk e => ?_, hi⟩
  · rw [ho, Gr.rArr_set]
  · by_cases e : j = i
    · subst e
      simp only [if_true]
      refine ⟨?_, by omega⟩
      rw [hx, ← Gr.bArr_repl]
    · simp only [if_neg e]
      have hj' : j < i := by omega
      exact ⟨(hk j hj').trans (h.row j hj').1, (h.row j hj').2⟩
  · have hlt : ∀ m, m < i → rb m < x := fun m hm => by have := heap_lt (h.row m hm).1; omega
    by_cases e1 : j = i
    · by_cases e2 : k = i
      · omega
      · rw [if_pos e1, if_neg e2] at e
        have := hlt k (by omega)
        omega
    · by_cases e2 : k = i
      · rw [if_pos e2, if_neg e1] at e
        have := hlt j (by omega)
        omega
      · rw [if_neg e1, if_neg e2] at e
        exact h.inj j k (by omega) (by omega) e
theorem MatM.bit (h : MatM Wb ob n i rb F u) {r q : Nat} (hr : r < i) (hq : q < n) : u.cell? ⟨ob, r, none⟩ = some (.slice (some ⟨rb r, 0, none⟩) n n) ∧ u.cell? ⟨rb r, q, none⟩ = some (.bool (F r q)) ∧ u.frozen? ⟨rb r, q, none⟩ = false :=
  ⟨by rw [Lib.cell_of_heap h.outer, Gr.rArr_get (Nat.lt_of_lt_of_le hr h.le) hr], by rw [Lib.cell_of_heap (h.row r hr).1, Gr.bArr_get hq], Lib.frozen_of_heap (h.row r hr).1 q⟩
theorem MatM.start (h : u.heap[ob]? = some (.cells (Array.replicate n (Value.slice none 0 0)) 155 (0, 0))) (rb : Nat → Nat) (F : Nat → Nat → Bool) : MatM Wb ob n 0 rb F u :=
  ⟨by rw [h, Gr.rArr_zero], fun _ h => absurd h (Nat.not_lt_zero _), fun _ _ h => absurd h (Nat.not_lt_zero _), Nat.zero_le _⟩
end
theorem infoRows : (Tryz.prog.info? 155).map (fun i => (i.zero, i.size, i.bytes)) = some (some (.slice none 0 0), 1, 24) := by kernel_rfl
theorem made_rows (n : Nat) : madeCells #[Value.slice none 0 0] n = (List.replicate n (Value.slice none 0 0)).toArray := by
  apply Array.ext
  · simp [madeCells]
  · intro i h1 h2
    simp [madeCells, Nat.mod_one]
theorem mkRows (n : Nat) (hn : n ≤ 1000000) (u : World) : (Instr.makeSlice 179 (.int .i64 (n : Int)) (.int .i64 (n : Int))).run Tryz.prog u =
      .ok (.slice (some ⟨u.heap.size, 0, none⟩) n n) (u.alloc (.cells (Array.replicate n (Value.slice none 0 0)) 155)) := by
  obtain ⟨i2, hi2, hz2, hs2, hy2⟩ := info_parts infoRows
  have h := run_make (P := Tryz.prog) u 179 155 i2 (.slice none 0 0) Tryz.underlying179 hi2 hz2 .i64 .i64 (n : Int) (n : Int) (by omega) (Int.le_refl _) (by rw [hy2]; omega) (by omega)
  have e : (n : Int).toNat = n := by omega
  rw [e] at h
  rw [show Array.replicate n (Value.slice none 0 0) = madeCells #[Value.slice none 0 0] n by rw [made_rows]; simp]
  simpa [hs2, Value.cells] using h
end Go.Proofs.YtpbnfinmjnpkpaaGreatDoor
