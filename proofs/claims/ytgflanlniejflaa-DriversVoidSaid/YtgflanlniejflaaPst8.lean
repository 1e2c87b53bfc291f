/-
  Drivers: a parse in memory: the walk on top turned, the tree laid: plain lemmas.
-/
import Derived.Test.YtgflanlniejflaaPst7
import Derived.Laws.OwnMore
namespace Go.Proofs.Ytgflanlniejflaa
open Go.RowKit Go.Maps
set_option maxRecDepth 100000
theorem row_RO {w : World} {base n c size : Nat} {e : TypeId} {A : Option Addr} {xs : List Value} {S : Nat → Prop} (h : w.ownsRow base e size (.slice A n c) n xs) (hS : ∀ j, (Value.slice A n c).ownBlock = some j → ¬ S j) : RO w S size A n xs := by
  have hr := Reads.of_own h
  refine ⟨hr.1, fun hn => ?_⟩
  obtain ⟨b, off, rfl, hb, hc⟩ := hr.2 hn
  rcases h.2 with ⟨_, h0⟩ | ⟨g, cap, cur, hv, _⟩
  · omega
  · injection hv with hv
    injection hv with hv
    injection hv with hv1 hv2 _
    subst hv1 hv2
    exact ⟨b, 0, rfl, hb, hS b rfl, hc⟩
section
variable {w w' : World} {f : Fx} {k : Drv.Cf}
theorem PstAt.split {v : Vx} {x : Drv.Wk} {rest : List Drv.Wk} (h : PstAt w f v k) (ho : k.opn = x :: rest) : ∃ vo g gs s ss, v = ⟨vo, g :: gs, s :: ss⟩ ∧ WalkAt w (TS f v) f.B0 g s x := by
  obtain ⟨y, g, s, e0, e1, e2, hW⟩ := h.at (i := 0) (by rw [ho]; simp)
  rw [ho] at e0
  injection e0 with e0
  subst e0
  obtain ⟨vo, gs, ss⟩ := v
  cases gs with
  | nil => cases e1
  | cons g' gs =>
    cases ss with
    | nil => cases e2
    | cons s' ss =>
      injection e1 with e1
      injection e2 with e2
      subst e1 e2
      exact ⟨vo, g', gs, s', ss, rfl, hW⟩
/-- the record and its tree are turned -/
theorem PstAt.treeSet {v : Vx} {t : Drv.Tr} {r t' q : Int} {b : Bool} {s : Value} (h : PstAt w f v k) (ho : Only (fun j => j = f.P) w w')
    (hp : ParAt w' f.P f.pc ⟨k.used, k.deep, k.spec, v.vo, k.pos, (Drv.nonreal k.opn : Nat), r, t', q, b, s, k.e, k.ended⟩) (ht : TrB w (TS f v) f.B0 t [.int .i64 r, .int .i64 t', .int .i64 q, .bool b, s]) : PstAt w' f v { k with tree := t } := by
  obtain ⟨n1, n2, n3, n4⟩ := h.neP
  have ho' := ho.more (S' := TS f v) fun j _ e => .inl e
  refine ⟨⟨r, t', q, b, s, hp, TrB.only ho' (fun _ _ e => e) _ _ ht⟩, h.memo.only ho n1, h.row.only ho n2, h.gl, h.sl, ?_, h.gd, h.sd, h.ge, h.rd⟩
  intro i x g s' h1 h2 h3
  exact (h.walks i x g s' h1 h2 h3).only ho (fun j _ e => .inl e) (fun _ _ e => e) (n3 g (List.mem_of_getElem? h2)) (n4 s' (List.mem_of_getElem? h3))
/-- the walk on top is turned -/
theorem PstAt.topSet {vo s s' : Value} {g : Nat} {gs : List Nat} {ss : List Value} {x x' : Drv.Wk} {rest : List Drv.Wk} (h : PstAt w f ⟨vo, g :: gs, s :: ss⟩ k) (ho : k.opn = x :: rest) (hso : x'.sort = x.sort)
    (hw : Only (fun j => j = g ∨ s.ownBlock = some j) w w') (hs' : ∀ j, s'.ownBlock = some j → s.ownBlock = some j ∨ w.heap.size ≤ j) (hW : WalkAt w' (TS f ⟨vo, g :: gs, s' :: ss⟩) f.B0 g s' x') :
    PstAt w' f ⟨vo, g :: gs, s' :: ss⟩ { k with opn := x' :: rest } := by
  obtain ⟨n1, n2, n3, n4⟩ := h.neP
  have hgd := List.pairwise_cons.1 h.gd
  have hsd := List.pairwise_cons.1 h.sd
  have hrd := h.rd
  have hlt := h.ltTS
  obtain ⟨cg, hcg⟩ := h.gblk (g := g) (by simp)
  obtain ⟨sn, sx, hsr⟩ := h.srow (s := s) (by simp)
  have hoT := hw.more (S' := TS f ⟨vo, g :: gs, s :: ss⟩) fun j _ e => by
    rcases e with rfl | e
    · exact .inr (.inr (.inr (.inl (by simp))))
    · exact .inr (.inr (.inr (.inr ⟨s, by simp, e⟩)))
  have hT : ∀ j, j < w.heap.size → TS f ⟨vo, g :: gs, s' :: ss⟩ j → TS f ⟨vo, g :: gs, s :: ss⟩ j := fun j hj e => by
    rcases e with e | e | e | e | ⟨s1, hs1, e⟩
    · exact .inl e
    · exact .inr (.inl e)
    · exact .inr (.inr (.inl e))
    · exact .inr (.inr (.inr (.inl e)))
    · rcases List.mem_cons.1 hs1 with rfl | hs1
      · rcases hs' j e with e | e
        · exact .inr (.inr (.inr (.inr ⟨s, by simp, e⟩)))
        · omega
      · exact .inr (.inr (.inr (.inr ⟨s1, List.mem_cons_of_mem _ hs1, e⟩)))
  have hnr : Drv.nonreal (x' :: rest) = Drv.nonreal k.opn := by rw [ho, Drv.nonreal_cons, Drv.nonreal_cons, hso]
  obtain ⟨r, t, q, b, sv, hpar, htr⟩ := h.par
  have hP : ¬ (f.P = g ∨ s.ownBlock = some f.P) := fun e => by
    rcases e with e | e
    · exact n3 g (by simp) e.symm
    · exact n4 s (by simp) _ e rfl
  have hM : ∀ j, MemoS f.pc.M f.br f.bp j → ¬ (j = g ∨ s.ownBlock = some j) := fun j hj e => by
    have h1 := h.neM j hj
    rcases e with e | e
    · exact h1.2.2.1 (by rw [e]; simp)
    · exact h1.2.2.2 s (by simp) e
  have hlen : k.opn.length = rest.length + 1 := by rw [ho]; rfl
  refine ⟨⟨r, t, q, b, sv, by show ParAt w' f.P f.pc ⟨_, _, _, _, _, (Drv.nonreal (x' :: rest) : Nat), _, _, _, _, _, _, _⟩; rw [hnr]; exact hpar.next hw hP, TrB.only hoT hT _ _ htr⟩, h.memo.only hw hM, ?_, ?_, ?_, ?_, h.gd, ?_, ?_, ?_⟩
  · show OwnO w' f.B0 _ 1 vo (rest.length + 1) _
    rw [← hlen]
    exact h.row.only hw fun j e e2 => by
      rcases e2 with rfl | e2
      · exact (hrd _ e).2.2.1 (by simp)
      · exact (hrd _ e).2.2.2 s (by simp) e2
  · have := h.gl; rw [hlen] at this; exact this
  · have := h.sl; rw [hlen] at this; exact this
  · intro i y g1 s1 a0 a1 a2
    cases i with
    | zero =>
      injection a0 with a0
      injection a1 with a1
      injection a2 with a2
      subst a0 a1 a2
      exact hW
    | succ i =>
      have a0' : k.opn[i + 1]? = some y := by rw [ho]; exact a0
      have m1 : g1 ∈ gs := List.mem_of_getElem? a1
      have m2 : s1 ∈ ss := List.mem_of_getElem? a2
      obtain ⟨n1', x1', hr1⟩ := h.srow (s := s1) (List.mem_cons_of_mem _ m2)
      obtain ⟨c1', hc1'⟩ := h.gblk (g := g1) (List.mem_cons_of_mem _ m1)
      refine (h.walks (i + 1) y g1 s1 a0' a1 a2).only hw (fun j _ e => ?_) hT (fun e => ?_) (fun j hj e => ?_)
      · rcases e with rfl | e
        · exact .inr (.inr (.inr (.inl (by simp))))
        · exact .inr (.inr (.inr (.inr ⟨s, by simp, e⟩)))
      · rcases e with e | e
        · exact hgd.1 g1 m1 e.symm
        · exact row_not hsr hc1' (by decide) e
      · rcases e with rfl | e
        · exact row_not hr1 hcg (by decide) hj
        · exact hsd.1 s1 m2 j e hj
  · refine List.pairwise_cons.2 ⟨fun s1 hs1 j hj e => ?_, hsd.2⟩
    rcases hs' j hj with h1 | h1
    · exact hsd.1 s1 hs1 j h1 e
    · have := hlt j (.inr (.inr (.inr (.inr ⟨s1, List.mem_cons_of_mem _ hs1, e⟩))))
      omega
  · intro j hj
    by_cases h1 : j < w.heap.size
    · exact h.ge j (hT j h1 hj)
    · have := hlt f.P (.inl rfl); have := h.geP; omega
  · intro j hj
    have h1 := hrd j hj
    refine ⟨h1.1, h1.2.1, h1.2.2.1, fun s1 hs1 e => ?_⟩
    rcases List.mem_cons.1 hs1 with rfl | hs1
    · rcases hs' j e with e | e
      · exact h1.2.2.2 s (by simp) e
      · have := hlt j (.inr (.inr (.inl hj))); omega
    · exact h1.2.2.2 s1 (List.mem_cons_of_mem _ hs1) e
/-- the walk on top, by its cells -/
theorem topP_any (w : World) (f : Fx) (vo s : Value) (g : Nat) (gs : List Nat) (ss : List Value) (k : Drv.Cf) (x : Drv.Wk) (rest : List Drv.Wk) (h : PstAt w f ⟨vo, g :: gs, s :: ss⟩ k) (ho : k.opn = x :: rest) (hn : k.opn.length < 1000000) :
    Calls Try.prog 57 #[.pointer (some ⟨f.P, 0, none⟩)] w fun r w' => r = .returned (.pointer (some ⟨g, 0, none⟩)) ∧ Only (fun _ => False) w w' := by
  obtain ⟨r, t, q, b, sv, hpar, _⟩ := h.par
  have hrow := h.row
  have hlen : k.opn.length = rest.length + 1 := by rw [ho]; rfl
  simp only [List.reverse_cons, List.map_append, List.map_cons, List.map_nil] at hrow
  rw [hlen] at hrow
  obtain ⟨ob, oc, rfl, hoc, hob1, hob2, hxl, hcells⟩ := hrow.last
  have hc := hcells rest.length (.pointer (some ⟨g, 0, none⟩)) (by rw [List.getElem?_append_right (by omega), hxl]; simp)
  exact top_any f.P f.pc _ ob rest.length oc g w hpar rfl (by omega) hc
end
theorem set5 {m : Nat} {xs : List Value} (hl : xs.length = m) (z0 z1 z2 z3 z4 a0 a1 a2 a3 a4 : Value) :
    ((((((xs ++ [z0, z1, z2, z3, z4]).set m a0).set (m + 1) a1).set (m + 2) a2).set (m + 3) a3).set (m + 4) a4) = xs ++ [a0, a1, a2, a3, a4] := by
  subst hl
  simp
/-- the last element of a row of trees, laid -/
theorem row_last5 {w : World} {base m c g : Nat} {e : TypeId} {xs : List Value} {z0 z1 z2 z3 z4 : Value} (h : w.ownsRow base e 5 (.slice (some ⟨g, 0, none⟩) (m + 1) c) (m + 1) (xs ++ [z0, z1, z2, z3, z4])) (hl : xs.length = m * 5) (a0 a1 a2 a3 a4 : Value) :
    (((((w.setCell ⟨g, m * 5, none⟩ a0).setCell ⟨g, m * 5 + 1, none⟩ a1).setCell ⟨g, m * 5 + 2, none⟩ a2).setCell ⟨g, m * 5 + 3, none⟩ a3).setCell ⟨g, m * 5 + 4, none⟩ a4).ownsRow base e 5 (.slice (some ⟨g, 0, none⟩) (m + 1) c) (m + 1) (xs ++ [a0, a1, a2, a3, a4]) ∧
    Only (fun j => j = g) w (((((w.setCell ⟨g, m * 5, none⟩ a0).setCell ⟨g, m * 5 + 1, none⟩ a1).setCell ⟨g, m * 5 + 2, none⟩ a2).setCell ⟨g, m * 5 + 3, none⟩ a3).setCell ⟨g, m * 5 + 4, none⟩ a4) := by
  have h1 := (h.stored (m * 5) a0).1
  have h2 := (h1.stored (m * 5 + 1) a1).1
  have h3 := (h2.stored (m * 5 + 2) a2).1
  have h4 := (h3.stored (m * 5 + 3) a3).1
  have h5 := (h4.stored (m * 5 + 4) a4).1
  rw [set5 hl] at h5
  exact ⟨h5, ((((Only.of_set w g _ a0).trans (Only.of_set _ g _ a1) fun _ _ e => e).trans (Only.of_set _ g _ a2) fun _ _ e => e).trans (Only.of_set _ g _ a3) fun _ _ e => e).trans (Only.of_set _ g _ a4) fun _ _ e => e⟩
theorem infoTree : (Try.prog.info? 65).map (fun i => (i.zero, i.size, i.bytes)) = some (some (.agg #[.int .i64 0, .int .i64 0, .int .i64 0, .bool false, .slice none 0 0]), 5, 56) := by kernel_rfl
section
variable {w w' : World} {f : Fx} {k : Drv.Cf}
/-- a tree is laid behind the subtrees of the walk on top, and its state may be another one -/
theorem PstAt.pushTree {vo : Value} {g gn m xc cn : Nat} {XA : Option Addr} {gs : List Nat} {ss : List Value} {x : Drv.Wk} {rest : List Drv.Wk} {t : Drv.Tr} {a uxs : List Value} {A : Option Addr} {ca : Nat} (st : Int)
    (h : PstAt w f ⟨vo, g :: gs, .slice XA m xc :: ss⟩ k) (ho : k.opn = x :: rest)
    (h2 : RO w (TS f ⟨vo, g :: gs, .slice XA m xc :: ss⟩) 1 A x.alts.length (x.alts.map (Value.int .i64))) (h4 : TrsB w (TS f ⟨vo, g :: gs, .slice XA m xc :: ss⟩) f.B0 x.subs uxs) (hT : TrB w (TS f ⟨vo, g :: gs, .slice XA m xc :: ss⟩) f.B0 t a) (hm : x.subs.length = m) (hca : x.alts.length ≤ ca)
    (hgn : (Value.slice XA m xc).ownBlock = some gn ∨ w.heap.size ≤ gn) (hO : Only (fun j => j = g ∨ (Value.slice XA m xc).ownBlock = some j) w w')
    (hg : w'.heap[g]? = some (.cells (walkCells (x.sort : Nat) x.what x.start st x.over (.slice (some ⟨gn, 0, none⟩) (m + 1) cn) (.slice A x.alts.length ca)) 116 (0, 0)))
    (hrow : w'.ownsRow f.B0 65 5 (.slice (some ⟨gn, 0, none⟩) (m + 1) cn) (m + 1) (uxs ++ a)) :
    PstAt w' f ⟨vo, g :: gs, .slice (some ⟨gn, 0, none⟩) (m + 1) cn :: ss⟩ { k with opn := { x with subs := x.subs ++ [t], state := st } :: rest } := by
  have hs' : ∀ j, (Value.slice (some ⟨gn, 0, none⟩) (m + 1) cn).ownBlock = some j → (Value.slice XA m xc).ownBlock = some j ∨ w.heap.size ≤ j := fun j e => by
    have e : some gn = some j := e
    injection e with e
    rw [← e]
    exact hgn
  have hoT := hO.more (S' := TS f ⟨vo, g :: gs, .slice XA m xc :: ss⟩) fun j _ e => by
    rcases e with rfl | e
    · exact .inr (.inr (.inr (.inl (by simp))))
    · exact .inr (.inr (.inr (.inr ⟨_, by simp, e⟩)))
  have hS : ∀ j, j < w.heap.size → TS f ⟨vo, g :: gs, .slice (some ⟨gn, 0, none⟩) (m + 1) cn :: ss⟩ j → TS f ⟨vo, g :: gs, .slice XA m xc :: ss⟩ j := fun j hj e => by
    rcases e with e | e | e | e | ⟨s1, hs1, e⟩
    · exact .inl e
    · exact .inr (.inl e)
    · exact .inr (.inr (.inl e))
    · exact .inr (.inr (.inr (.inl e)))
    · rcases List.mem_cons.1 hs1 with rfl | hs1
      · rcases hs' j e with e | e
        · exact .inr (.inr (.inr (.inr ⟨_, by simp, e⟩)))
        · omega
      · exact .inr (.inr (.inr (.inr ⟨s1, List.mem_cons_of_mem _ hs1, e⟩)))
  refine h.topSet (x' := { x with subs := x.subs ++ [t], state := st }) ho rfl hO hs' ⟨A, ca, uxs ++ a, hg, h2.only hoT hS, ?_, TrsB.snoc (TrB.only hoT hS _ _ hT) (TrsB.only hoT hS _ _ h4), hca⟩
  have : (x.subs ++ [t]).length = m + 1 := by simp [hm]
  show w'.ownsRow f.B0 _ 5 _ (x.subs ++ [t]).length _
  rw [this]
  exact hrow
end
end Go.Proofs.Ytgflanlniejflaa
