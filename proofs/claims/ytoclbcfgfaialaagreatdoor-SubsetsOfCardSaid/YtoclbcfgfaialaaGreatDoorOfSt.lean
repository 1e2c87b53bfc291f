/-
  Subsets: Of: what stands in memory amid it. Plain lemmas.
-/
import Derived.Test.YtoclbcfgfaialaaGreatDoorRow
import Derived.Test.YtoclbcfgfaialaaGreatDoorSplit2
namespace Go.Proofs.YtoclbcfgfaialaaGreatDoor
open Go.RowKit Go.Maps
set_option maxRecDepth 100000
theorem ownC_only {w w' : World} {base : Nat} {e : TypeId} {size : Nat} {v : Value} {n : Nat} {xs : List Value} {S : Nat → Prop} (h : OwnC w base e size v n xs) (ho : Only S w w') (hn : ∀ k, v.ownBlock = some k → ¬ S k) : OwnC w' base e size v n xs := by
  refine ⟨h.1, ?_⟩
  rcases h.2 with h2 | ⟨g, cap, cur, hv, hg, hh, h3⟩
  · exact .inl h2
  · refine .inr ⟨g, cap, cur, hv, hg, ?_, h3⟩
    have hlt : g < w.heap.size := by
      rcases Nat.lt_or_ge g w.heap.size with h' | h'
      · exact h'
      · rw [Array.getElem?_eq_none h'] at hh; cases hh
    rw [ho.block g hlt (hn g (by rw [hv]; rfl))]
    exact hh
theorem ownC_lt {w : World} {base : Nat} {e : TypeId} {size : Nat} {v : Value} {n : Nat} {xs : List Value} (h : OwnC w base e size v n xs) : ∀ k, v.ownBlock = some k → base ≤ k ∧ k < w.heap.size := by
  intro k hk
  rcases h.2 with ⟨h2, _⟩ | ⟨g, cap, cur, hv, hg, hh, h3⟩
  · rw [h2] at hk; cases hk
  · rw [hv] at hk
    injection hk with hk
    have hk : g = k := hk
    subst hk
    refine ⟨hg, ?_⟩
    rcases Nat.lt_or_ge g w.heap.size with h' | h'
    · exact h'
    · rw [Array.getElem?_eq_none h'] at hh; cases hh
def rowV (n g : Nat) : Value := .slice (some ⟨g, 0, none⟩) n n
/-- rows of numbers, each in a block of its own -/
structure RowsAt (w : World) (S : Nat → Prop) (base : Nat) (gs : List Nat) (rows : List (List Int)) (n : Nat) : Prop where
  len : gs.length = rows.length
  rise : gs.Pairwise (· < ·)
  each : ∀ i (h : i < rows.length), ∃ g, gs[i]? = some g ∧ base ≤ g ∧ g < w.heap.size ∧ ¬ S g ∧ rows[i].length = n ∧ w.heap[g]? = some (.cells (rows[i].map (Value.int .i64)).toArray 3 (0, 0))
theorem RowsAt.only {w w' : World} {S S' S2 : Nat → Prop} {base n : Nat} {gs : List Nat} {rows : List (List Int)} (h : RowsAt w S base gs rows n) (ho : Only S' w w') (h1 : ∀ b, b < w.heap.size → S' b → S b) (h2 : ∀ b, b < w.heap.size → S2 b → S b) : RowsAt w' S2 base gs rows n :=
  ⟨h.len, h.rise, fun i hi => by
    obtain ⟨g, e, hb, hl, hn, hr, hh⟩ := h.each i hi
    exact ⟨g, e, hb, Nat.lt_of_lt_of_le hl ho.size, fun e => hn (h2 g hl e), hr, (ho.block g hl fun e => hn (h1 g hl e)).trans hh⟩⟩
theorem RowsAt.nil (w : World) (S : Nat → Prop) (base n : Nat) : RowsAt w S base [] [] n := ⟨rfl, .nil, fun _ h => absurd h (by simp)⟩
theorem RowsAt.lt {w : World} {S : Nat → Prop} {base n : Nat} {gs : List Nat} {rows : List (List Int)} (h : RowsAt w S base gs rows n) {g : Nat} (hg : g ∈ gs) : base ≤ g ∧ g < w.heap.size := by
  obtain ⟨i, hi, rfl⟩ := List.getElem_of_mem hg
  obtain ⟨g', e, h1, h2, _⟩ := h.each i (by rw [← h.len]; exact hi)
  rw [List.getElem?_eq_getElem hi] at e
  injection e with e
  rw [e]
  exact ⟨h1, h2⟩
theorem RowsAt.push {w : World} {S : Nat → Prop} {base n g : Nat} {gs : List Nat} {rows : List (List Int)} {row : List Int} (h : RowsAt w S base gs rows n) (hlt : ∀ x ∈ gs, x < g) (hb : base ≤ g) (hg : g < w.heap.size) (hn : ¬ S g) (hr : row.length = n)
    (hh : w.heap[g]? = some (.cells (row.map (Value.int .i64)).toArray 3 (0, 0))) : RowsAt w S base (gs ++ [g]) (rows ++ [row]) n := by
  refine ⟨by simp [h.len], ?_, fun i hi => ?_⟩
  · rw [List.pairwise_append]
    exact ⟨h.rise, by simp, fun a ha b hb => by simp at hb; subst hb; exact hlt a ha⟩
  · by_cases e : i < rows.length
    · obtain ⟨g', e1, r⟩ := h.each i e
      refine ⟨g', ?_, ?_⟩
      · rw [List.getElem?_append_left (by rw [h.len]; exact e)]; exact e1
      · rw [List.getElem_append_left e]; exact r
    · have e2 : i = rows.length := by simp at hi; omega
      subst e2
      refine ⟨g, ?_, hb, hg, hn, ?_, ?_⟩
      · rw [List.getElem?_append_right (by rw [h.len]; exact Nat.le_refl _), h.len]; simp
      · simpa using hr
      · simpa using hh
theorem MkSt.push_next {c : Ctx} {v : Vr} {m : Mk} {w w' : World} {g cg k n : Nat} {els : List Value} {x : Value} (h : MkSt c v m w) (hrow : w.ownsRow c.B0 23 1 c.nx k els) (hnS : ∀ j, c.nx.ownBlock = some j → ¬ SB c v j)
    (hown : w'.ownsRow c.B0 23 1 (.slice (some ⟨g, 0, none⟩) n cg) n (els ++ [x])) (hg : c.nx.ownBlock = some g ∨ w.heap.size ≤ g) (ho : Only (fun j => c.nx.ownBlock = some j) w w') :
    MkSt { c with nx := .slice (some ⟨g, 0, none⟩) n cg } v m (w'.setCell ⟨c.M, 5, none⟩ (.slice (some ⟨g, 0, none⟩) n cg)) ∧
      Only (fun j => j = c.M ∨ c.nx.ownBlock = some j) w (w'.setCell ⟨c.M, 5, none⟩ (.slice (some ⟨g, 0, none⟩) n cg)) ∧
      (w'.setCell ⟨c.M, 5, none⟩ (.slice (some ⟨g, 0, none⟩) n cg)).ownsRow c.B0 23 1 (.slice (some ⟨g, 0, none⟩) n cg) n (els ++ [x]) ∧
      (∀ j, (Value.slice (some ⟨g, 0, none⟩) n cg).ownBlock = some j → ¬ SB c v j) ∧
      ∀ b, b < w.heap.size → SX { c with nx := .slice (some ⟨g, 0, none⟩) n cg } v b → SX c v b := by
  have hMlt := h.M_lt
  have hoM : c.nx.ownBlock ≠ some c.M := row_not_M h hrow (by decide)
  obtain ⟨els0, hvo, hov⟩ := h.own
  have hvM : v.vo.ownBlock ≠ some c.M := row_not_M h hvo (by decide)
  have heM : v.ve.ownBlock ≠ some c.M := row_not_M h h.ends (by decide)
  have hgM : (Value.slice (some ⟨g, 0, none⟩) n cg).ownBlock ≠ some c.M := by
    rcases hg with e | e
    · rw [e] at hoM; exact hoM
    · intro h2
      injection h2 with h2
      have h2 : g = c.M := h2
      omega
  have hS : Only (fun j => j = c.M ∨ c.nx.ownBlock = some j) w (w'.setCell ⟨c.M, 5, none⟩ (.slice (some ⟨g, 0, none⟩) n cg)) :=
    (ho.more (S' := fun j => j = c.M ∨ c.nx.ownBlock = some j) fun _ _ e => .inr e).trans (Only.of_set _ _ _ _) fun _ _ e => .inl e
  have hX : ∀ b, b < w.heap.size → SX { c with nx := .slice (some ⟨g, 0, none⟩) n cg } v b → SX c v b := fun b hb e => by
    rcases e with e | e | e
    · exact .inl e
    · injection e with e
      have e : g = b := e
      subst e
      rcases hg with e | e
      · exact .inr (.inl e)
      · omega
    · exact .inr (.inr e)
  have hsx : ∀ b, b < w.heap.size → (b = c.M ∨ c.nx.ownBlock = some b) → SX c v b := fun b _ e => e.elim (fun e => .inl (.inl e)) fun e => .inr (.inl e)
  have hb : Below c.B0 w (w'.setCell ⟨c.M, 5, none⟩ (.slice (some ⟨g, 0, none⟩) n cg)) := hS.below' (fun j e => by
    rcases e with e | e
    · rw [e]; exact h.hM
    · exact (hrow.lt j e).1) h.hB
  refine ⟨⟨?_, h.pls.below hb, h.fst.below hb, ⟨els0, ownsRow_only hvo hS fun j e1 e2 => ?_, hov.only hS hsx hX⟩, ownsRow_only h.ends hS fun j e1 e2 => ?_, ownsMap_only h.map hS fun e => ?_, h.names, h.n_le, h.one, h.hM, h.hbm, Nat.le_trans h.hB hS.size, h.holds.only (hS.more hsx) hX⟩, hS, keep_set hown hgM, fun j e => ?_, hX⟩
  · exact heap_setCell_same w' c.M 5 _ _ _ ((ho.block c.M hMlt hoM).trans h.blk)
  · rcases e2 with e2 | e2
    · exact hvM (by rw [e1, e2])
    · exact hnS j e2 (.inr (.inr (.inl e1)))
  · rcases e2 with e2 | e2
    · exact heM (by rw [e1, e2])
    · exact hnS j e2 (.inr (.inr (.inr e1)))
  · rcases e with e | e
    · exact h.bm_ne e.symm
    · exact hnS _ e (.inr (.inl rfl))
  · injection e with e
    have e : g = j := e
    subst e
    rcases hg with e | e
    · exact hnS g e
    · intro e2
      have := (h.SB_ge e2).2
      omega
/-- amid the classes -/
def SC (w0 : World) (vc vh : Value) (j : Nat) : Prop := j < w0.heap.size ∨ vc.ownBlock = some j ∨ vh.ownBlock = some j
def clCells (c : Ctx) (be bo : Nat) (vc vh : Value) : Array Value :=
  #[.slice c.PA c.a.places.length c.cp, .slice c.FA c.a.first.length c.cf, .int .i64 c.a.kinds, .slice c.RA c.rs.length c.rc, vc, .slice none 0 0, .slice (some ⟨be, 0, none⟩) 1 1, .slice (some ⟨bo, 0, none⟩) 1 1, .map (some c.bm), vh]
def BoolV (w : World) (S : Nat → Prop) (els : List Value) (ls : List (List Bool)) : Prop :=
  els.length = ls.length ∧ ∀ i (h : i < ls.length), ∃ Ai ci, els[i]? = some (.slice Ai ls[i].length ci) ∧ RO w S 1 Ai ls[i].length (ls[i].map Value.bool)
theorem BoolV.only {w w' : World} {S S' S2 : Nat → Prop} {els : List Value} {ls : List (List Bool)} (h : BoolV w S els ls) (ho : Only S' w w') (h1 : ∀ b, b < w.heap.size → S' b → S b) (h2 : ∀ b, b < w.heap.size → S2 b → S b) : BoolV w' S2 els ls := by
  refine ⟨h.1, fun i hi => ?_⟩
  obtain ⟨Ai, ci, e, hr⟩ := h.2 i hi
  refine ⟨Ai, ci, e, hr.1, fun hn => ?_⟩
  obtain ⟨b, off, e1, hb, hns, hc⟩ := hr.2 hn
  exact ⟨b, off, e1, Nat.lt_of_lt_of_le hb ho.size, fun e => hns (h2 b hb e), fun j u hu => (ho.cell hb fun e => hns (h1 b hb e)).trans (hc j u hu)⟩
theorem BoolV.push {w : World} {S : Nat → Prop} {els : List Value} {ls : List (List Bool)} (h : BoolV w S els ls) {o : List Bool} {A : Option Addr} {n c : Nat} (hn : o.length = n) (hr : RO w S 1 A n (o.map Value.bool)) : BoolV w S (els ++ [.slice A n c]) (ls ++ [o]) := by
  subst hn
  refine ⟨by simp [h.1], fun i hi => ?_⟩
  by_cases e : i < ls.length
  · obtain ⟨Ai, ci, e1, hr'⟩ := h.2 i e
    refine ⟨Ai, ci, ?_, ?_⟩
    · rw [List.getElem?_append_left (by rw [h.1]; exact e), List.getElem_append_left e]; exact e1
    · rw [List.getElem_append_left e]; exact hr'
  · have e2 : i = ls.length := by simp at hi; omega
    subst e2
    refine ⟨A, c, ?_, ?_⟩
    · rw [List.getElem?_append_right (by rw [h.1]; exact Nat.le_refl _), h.1]; simp
    · simpa using hr
structure Cl (c : Ctx) (be bo : Nat) (w0 : World) (kc kh : Nat) (vc vh : Value) (w : World) : Prop where
  blk : w.heap[c.M]? = some (.cells (clCells c be bo vc vh) 74 (0, 0))
  only : Only (fun j => j = c.M) w0 w
  cls : w.ownsRow w0.heap.size 3 1 vc kc ((List.range kc).map fun i : Nat => Value.int .i64 (i : Int))
  hld : ∃ hs, w.ownsRow w0.heap.size 56 1 vh kh hs ∧ BoolV w (SC w0 vc vh) hs (holdsOf c.a (c.rs.take kh))
  hM : c.M < w0.heap.size
theorem Cl.below {c : Ctx} {be bo : Nat} {w0 w w' : World} {kc kh : Nat} {vc vh : Value} (h : Cl c be bo w0 kc kh vc vh w) (hb : Below w.heap.size w w') : Cl c be bo w0 kc kh vc vh w' := by
  have ho : Only (fun _ => False) w w' := ⟨hb.os, hb.tape, hb.output, hb.size, fun k hk _ => hb.block k hk⟩
  have hs := h.only.size
  obtain ⟨hs', h1, h2⟩ := h.hld
  exact ⟨(hb.block _ (by have := h.hM; omega)).trans h.blk, h.only.trans ho fun _ _ e => e.elim, ownsRow_only h.cls ho fun _ _ e => e, ⟨hs', ownsRow_only h1 ho fun _ _ e => e, h2.only ho (fun _ _ e => e.elim) fun _ _ e => e⟩, h.hM⟩
theorem Cl.cell {c : Ctx} {be bo : Nat} {w0 w : World} {kc kh : Nat} {vc vh : Value} (h : Cl c be bo w0 kc kh vc vh w) (j : Nat) : w.cell? ⟨c.M, j, none⟩ = (clCells c be bo vc vh)[j]? := by
  rw [Lib.cell_of_heap h.blk]
theorem Cl.push_cls {c : Ctx} {be bo : Nat} {w0 w w' : World} {kc kh : Nat} {vc vh : Value} {g cg : Nat} (h : Cl c be bo w0 kc kh vc vh w)
    (hown : w'.ownsRow w0.heap.size 3 1 (.slice (some ⟨g, 0, none⟩) (kc + 1) cg) (kc + 1) (((List.range kc).map fun i : Nat => Value.int .i64 (i : Int)) ++ [.int .i64 kc]))
    (hg : vc.ownBlock = some g ∨ w.heap.size < g) (ho : Only (fun j => vc.ownBlock = some j) w w') :
    Cl c be bo w0 (kc + 1) kh (.slice (some ⟨g, 0, none⟩) (kc + 1) cg) vh (w'.setCell ⟨c.M, 4, none⟩ (.slice (some ⟨g, 0, none⟩) (kc + 1) cg)) := by
  have hM := h.hM
  have hs := h.only.size
  obtain ⟨hs', h1, h2⟩ := h.hld
  have hcM : vc.ownBlock ≠ some c.M := fun e => by have := (h.cls.lt _ e).1; omega
  have hhM : vh.ownBlock ≠ some c.M := fun e => by have := (h1.lt _ e).1; omega
  have hne := own_ne h1 h.cls (by decide)
  have hgM : (Value.slice (some ⟨g, 0, none⟩) (kc + 1) cg).ownBlock ≠ some c.M := by
    rcases hg with e | e
    · rw [e] at hcM; exact hcM
    · intro h2
      injection h2 with h2
      have h2 : g = c.M := h2
      omega
  have hS : Only (fun j => j = c.M ∨ vc.ownBlock = some j) w (w'.setCell ⟨c.M, 4, none⟩ (.slice (some ⟨g, 0, none⟩) (kc + 1) cg)) :=
    (ho.more (S' := fun j => j = c.M ∨ vc.ownBlock = some j) fun _ _ e => .inr e).trans (Only.of_set _ _ _ _) fun _ _ e => .inl e
  refine ⟨?_, h.only.trans hS fun j hj e => ?_, ?_, ⟨hs', ownsRow_only h1 hS fun j e1 e2 => ?_, h2.only hS (fun j _ e => ?_) fun j hj e => ?_⟩, hM⟩
  · exact heap_setCell_same w' c.M 4 _ _ _ ((ho.block c.M (by omega) hcM).trans h.blk)
  · rcases e with e | e
    · exact e
    · have := (h.cls.lt _ e).1; omega
  · rw [List.range_succ, List.map_append]
    exact keep_set hown hgM
  · rcases e2 with e2 | e2
    · exact hhM (by rw [e1, e2])
    · rcases hne with e | e
      · rw [e] at e1; cases e1
      · exact e (by rw [e1, e2])
  · rcases e with e | e
    · exact .inl (by omega)
    · exact .inr (.inl e)
  · rcases e with e | e | e
    · exact .inl e
    · injection e with e
      have e : g = j := e
      subst e
      rcases hg with e | e
      · exact .inr (.inl e)
      · omega
    · exact .inr (.inr e)
theorem Cl.push_hld {c : Ctx} {be bo : Nat} {w0 w w' : World} {kc kh : Nat} {vc vh : Value} {g cg : Nat} {A : Option Addr} {n ca : Nat} {hs : List Value} (h : Cl c be bo w0 kc kh vc vh w) (hk : kh < c.rs.length)
    (hrow : w.ownsRow w0.heap.size 56 1 vh kh hs) (hbv : BoolV w (SC w0 vc vh) hs (holdsOf c.a (c.rs.take kh)))
    (hn : c.a.places.length = n) (hr : RO w (SC w0 vc vh) 1 A n ((c.a.places.map fun p => hasB p.set (c.rs[kh]).1).map Value.bool))
    (hown : w'.ownsRow w0.heap.size 56 1 (.slice (some ⟨g, 0, none⟩) (kh + 1) cg) (kh + 1) (hs ++ [.slice A n ca]))
    (hg : vh.ownBlock = some g ∨ w.heap.size < g) (ho : Only (fun j => vh.ownBlock = some j) w w') :
    Cl c be bo w0 kc (kh + 1) vc (.slice (some ⟨g, 0, none⟩) (kh + 1) cg) (w'.setCell ⟨c.M, 9, none⟩ (.slice (some ⟨g, 0, none⟩) (kh + 1) cg)) := by
  have hM := h.hM
  have hs0 := h.only.size
  have hcM : vc.ownBlock ≠ some c.M := fun e => by have := (h.cls.lt _ e).1; omega
  have hhM : vh.ownBlock ≠ some c.M := fun e => by have := (hrow.lt _ e).1; omega
  have hne := own_ne h.cls hrow (by decide)
  have hgM : (Value.slice (some ⟨g, 0, none⟩) (kh + 1) cg).ownBlock ≠ some c.M := by
    rcases hg with e | e
    · rw [e] at hhM; exact hhM
    · intro h2
      injection h2 with h2
      have h2 : g = c.M := h2
      omega
  have hS : Only (fun j => j = c.M ∨ vh.ownBlock = some j) w (w'.setCell ⟨c.M, 9, none⟩ (.slice (some ⟨g, 0, none⟩) (kh + 1) cg)) :=
    (ho.more (S' := fun j => j = c.M ∨ vh.ownBlock = some j) fun _ _ e => .inr e).trans (Only.of_set _ _ _ _) fun _ _ e => .inl e
  have hht : holdsOf c.a (c.rs.take (kh + 1)) = holdsOf c.a (c.rs.take kh) ++ [c.a.places.map fun p => hasB p.set (c.rs[kh]).1] := by
    unfold holdsOf
    rw [List.take_succ_eq_append_getElem hk, List.map_append]; rfl
  refine ⟨?_, h.only.trans hS fun j hj e => ?_, ownsRow_only h.cls hS fun j e1 e2 => ?_, ⟨_, keep_set hown hgM, ?_⟩, hM⟩
  · exact heap_setCell_same w' c.M 9 _ _ _ ((ho.block c.M (by omega) hhM).trans h.blk)
  · rcases e with e | e
    · exact e
    · have := (hrow.lt _ e).1; omega
  · rcases e2 with e2 | e2
    · exact hcM (by rw [e1, e2])
    · rcases hne with e | e
      · rw [e] at e1; cases e1
      · exact e (by rw [e1, e2])
  · rw [hht]
    refine (hbv.push (c := ca) (by simpa using hn) hr).only hS (fun j _ e => ?_) fun j hj e => ?_
    · rcases e with e | e
      · exact .inl (by omega)
      · exact .inr (.inr e)
    · rcases e with e | e | e
      · exact .inl e
      · exact .inr (.inl e)
      · injection e with e
        have e : g = j := e
        subst e
        rcases hg with e | e
        · exact .inr (.inr e)
        · omega
end Go.Proofs.YtoclbcfgfaialaaGreatDoor
