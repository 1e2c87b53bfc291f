/-
  Blocks that are made one behind the other: where each lies. Plain lemmas.
-/
import Derived.Test.YtcbilcfieoibbaaGreatDoorLib
namespace Go.Proofs.YtcbilcfieoibbaaGreatDoor
open Go.RowKit
theorem al_size (os : List Obj) : ∀ w : World, (os.foldl World.alloc w).heap.size = w.heap.size + os.length := by
  induction os with
  | nil => intro w; rfl
  | cons o os ih =>
    intro w
    show (os.foldl World.alloc (w.alloc o)).heap.size = _
    rw [ih]
    simp
    omega
theorem al_below (os : List Obj) : ∀ w : World, Below w.heap.size w (os.foldl World.alloc w) := by
  induction os with
  | nil => intro w; exact Below.refl _ _
  | cons o os ih =>
    intro w
    exact (below_new w o).trans ((ih (w.alloc o)).mono (by simp))
theorem al_at (os : List Obj) : ∀ (w : World) (k : Nat) (o : Obj), os[k]? = some o → (os.foldl World.alloc w).heap[w.heap.size + k]? = some o := by
  induction os with
  | nil => intro w k o h; simp at h
  | cons o1 os ih =>
    intro w k o h
    show (os.foldl World.alloc (w.alloc o1)).heap[w.heap.size + k]? = _
    cases k with
    | zero =>
      have e : o1 = o := by simpa using h
      subst e
      rw [(al_below os (w.alloc o1)).block _ (by simp)]
      exact heap_alloc_new w o1
    | succ k =>
      have := ih (w.alloc o1) k o (by simpa using h)
      rwa [show (w.alloc o1).heap.size + k = w.heap.size + (k + 1) from by simp; omega] at this
end Go.Proofs.YtcbilcfieoibbaaGreatDoor
