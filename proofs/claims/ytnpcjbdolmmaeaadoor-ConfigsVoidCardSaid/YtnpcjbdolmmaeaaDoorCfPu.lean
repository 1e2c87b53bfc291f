/-
  A closing in memory that has met one more.
-/
import Derived.Test.YtnpcjbdolmmaeaaDoorCfCl
namespace Go.Proofs.YtnpcjbdolmmaeaaDoor
open Go.RowKit Go.Maps
set_option maxRecDepth 100000
theorem ClS.get {w : World} {f : ClF} {k : Nat} {u : Value} (hu : w.cell? ⟨f.C, 2, none⟩ = some u) : ClS w f k ↔ k = f.C ∨ k = f.M ∨ k = f.K ∨ u.ownBlock = some k := by
  unfold ClS
  rw [hu]
  constructor
  · rintro (h | h | h | ⟨v, h, h'⟩)
    · exact .inl h
    · exact .inr (.inl h)
    · exact .inr (.inr (.inl h))
    · injection h with h; subst h; exact .inr (.inr (.inr h'))
  · rintro (h | h | h | h)
    · exact .inl h
    · exact .inr (.inl h)
    · exact .inr (.inr (.inl h))
    · exact .inr (.inr (.inr ⟨u, rfl, h⟩))
theorem ClAt.ge_s {w : World} {f : ClF} {c : Cf.Cl} (h : ClAt w f c) {k : Nat} (hk : ClS w f k) : f.B0 ≤ k := by
  obtain ⟨g1, g2, g3⟩ := h.ge
  obtain ⟨u, vs, _, _, c2, _⟩ := h.cells
  rcases (ClS.get c2).1 hk with e | e | e | e
  · omega
  · omega
  · omega
  · exact (h.row_ne c2 e).2.2.2.1
theorem ClAt.stay {w w' : World} {f : ClF} {c : Cf.Cl} (h : ClAt w f c) (hs : Steps f w w') : Below f.B0 w w' :=
  hs.only.below' (fun _ hk => h.ge_s hk) h.hw
theorem ClAt.push {w w5 w8 : World} {f : ClF} {c : Cf.Cl} {x : Cf.Cfg} {A : Option Addr} {cx : Nat} {u : Value} {vs : List Value} {g cg nm : Nat} {D : DataW Value} (o : Bool)
    (h : ClAt w f c) (hu : w.cell? ⟨f.C, 2, none⟩ = some u) (hv : CfsV w (ClS w f) c.wait vs) (hcx : x.stack.length ≤ cx) (hx : RO w (ClS w f) 1 A x.stack.length (x.stack.map (Value.int .i64)))
    (ho5 : Only (fun k => k = f.M) w w5) (hm5 : w5.ownsMap Tryd.prog 9 asIs f.M nm D) (hnm : nm ≤ c.wait.length + 1) (hD : MetIs D (c.wait ++ [x]))
    (ho8 : Only (fun k => u.ownBlock = some k) w5 w8) (hown : w8.ownsRow f.B0 40 5 (.slice (some ⟨g, 0, none⟩) (c.wait.length + 1) cg) (c.wait.length + 1) (vs ++ cfC x A cx))
    (hg : u.ownBlock = some g ∨ w5.heap.size < g) :
    ClAt ((w8.setCell ⟨f.C, 2, none⟩ (.slice (some ⟨g, 0, none⟩) (c.wait.length + 1) cg)).setCell ⟨f.C, 4, none⟩ (.bool o)) f ⟨c.wait ++ [x], c.kept, o⟩ ∧
    Steps f w ((w8.setCell ⟨f.C, 2, none⟩ (.slice (some ⟨g, 0, none⟩) (c.wait.length + 1) cg)).setCell ⟨f.C, 4, none⟩ (.bool o)) := by
  obtain ⟨n1, n2, n3⟩ := h.ne
  have hC := h.lt
  obtain ⟨u', vs', h1, h2, h3⟩ := h.row
  have eu : u' = u := by
    have : w.cell? ⟨f.C, 2, none⟩ = some u' := by rw [Lib.cell_of_heap h1]; rfl
    rw [this] at hu
    injection hu
  subst eu
  have hne : ∀ k, u'.ownBlock = some k → k ≠ f.C ∧ k ≠ f.M ∧ k ≠ f.K ∧ f.B0 ≤ k ∧ k < w.heap.size := fun k hk => h.row_ne hu hk
  have hC5 := (ho5.block f.C hC (by simpa using n1)).trans h1
  have hC8 := (ho8.block f.C (heap_lt hC5) (fun e => (hne _ e).1 rfl)).trans hC5
  have hg8 : g < w8.heap.size := by
    rcases hown.2 with ⟨e, _⟩ | ⟨g', cap, cur, e, _, hh, _⟩
    · cases e
    · injection e with e _ _
      injection e with e
      injection e with e
      subst e
      exact heap_lt hh
  have hgC : g ≠ f.C := by
    rcases hg with e | e
    · exact (hne _ e).1
    · have := ho5.size; omega
  have q1 := heap_setCell_same w8 f.C 2 _ _ (.slice (some ⟨g, 0, none⟩) (c.wait.length + 1) cg) hC8
  have q2 := heap_setCell_same _ f.C 4 _ _ (.bool o) q1
  have hO := ((ho5.more (S' := ClS w f) (fun b _ e => by rw [show b = f.M from e]; exact .inr (.inl rfl))).trans (ho8.more (S' := fun k => u'.ownBlock = some k) (fun _ _ e => e)) (fun b _ e => .inr (.inr (.inr ⟨u', hu, e⟩)))).trans (Only.of_set w8 f.C 2 (.slice (some ⟨g, 0, none⟩) (c.wait.length + 1) cg)) (fun b _ e => .inl e)
  have hO := hO.trans (Only.of_set (w8.setCell ⟨f.C, 2, none⟩ (.slice (some ⟨g, 0, none⟩) (c.wait.length + 1) cg)) f.C 4 (.bool o)) (fun b _ e => .inl e)
  generalize hw9 : (w8.setCell ⟨f.C, 2, none⟩ (.slice (some ⟨g, 0, none⟩) (c.wait.length + 1) cg)) = w9 at q1 q2 hO ⊢
  generalize hw10 : w9.setCell ⟨f.C, 4, none⟩ (.bool o) = w10 at q2 hO ⊢
  have hu10 : w10.cell? ⟨f.C, 2, none⟩ = some (.slice (some ⟨g, 0, none⟩) (c.wait.length + 1) cg) := by rw [Lib.cell_of_heap q2]; rfl
  have hsame : ∀ b, b < w.heap.size → ClS w10 f b → ClS w f b := fun b hb hk => by
    rcases (ClS.get hu10).1 hk with e | e | e | e
    · exact .inl e
    · exact .inr (.inl e)
    · exact .inr (.inr (.inl e))
    · have e : g = b := by injection e
      subst e
      rcases hg with e | e
      · exact .inr (.inr (.inr ⟨u', hu, e⟩))
      · have := ho5.size; omega
  have hS : Steps f w w10 := ⟨hO, hsame⟩
  have hb := h.stay hS
  have h98 : Only (fun k => k = f.C) w8 w10 := by
    have := (Only.of_set w8 f.C 2 (.slice (some ⟨g, 0, none⟩) (c.wait.length + 1) cg)).trans (Only.of_set _ f.C 4 (.bool o)) (fun b _ e => e)
    rw [hw9, hw10] at this
    exact this
  obtain ⟨nk, D', k1, k2, k3⟩ := h.kept
  have hk5 := ownsMap_onlyH k2 ho5 (fun e => n3 e.symm)
  have hk8 := ownsMap_onlyH hk5 ho8 (fun e => (hne _ e).2.2.1 rfl)
  have hk10 := ownsMap_onlyH hk8 h98 (fun e => n2 e.symm)
  have hm8 := ownsMap_onlyH hm5 ho8 (fun e => (hne _ e).2.1 rfl)
  have hm10 := ownsMap_onlyH hm8 h98 (fun e => n1 e.symm)
  have hown10 := ownsRow_only hown h98 (fun k hk e => by have hk : g = k := by injection hk
                                                         exact hgC (hk.trans e))
  refine ⟨⟨⟨_, _, q2, ?_, (hv.only hO hsame).snoc ⟨A, cx, rfl, hcx, hx.only hO hsame⟩⟩, h.view.below hb, ⟨nm, D, by simpa using hnm, hm10, hD⟩, ⟨nk, D', k1, hk10, k3.only hO hsame⟩, h.pt.on hb, h.ge, h.ne, Nat.le_trans h.hw hO.size⟩, hS⟩
  simpa using hown10
end Go.Proofs.YtnpcjbdolmmaeaaDoor
