/-
  Drivers: a parse in memory: pay, begin: the contracts.
-/
import Derived.Test.YtgflanlniejflaaPst
namespace Go.Proofs.Ytgflanlniejflaa
open Go.RowKit Go.Maps
set_option maxRecDepth 100000
theorem par_same {w : World} {P : Nat} {c : Pc} {a1 a2 a3 a4 a5 a6 : Int} {vo : Value} {r t q r1 t1 q1 : Int} {b b1 ed : Bool} {s s1 : Value}
    (h : ParAt w P c ⟨a1, a2, a3, vo, a4, a5, r, t, q, b, s, a6, ed⟩) (h1 : ParAt w P c ⟨a1, a2, a3, vo, a4, a5, r1, t1, q1, b1, s1, a6, ed⟩) : r = r1 ∧ t = t1 ∧ q = q1 ∧ b = b1 ∧ s = s1 := by
  have := h.symm.trans h1
  injection this with this
  injection this with this _ _
  simp only [parCells, Array.mk.injEq, List.cons.injEq, Value.int.injEq, Value.bool.injEq, true_and, and_true] at this
  exact this
def PayP (w : World) (f : Fx) (v : Vx) (k : Drv.Cf) (n : Int) (r : Ending) (w' : World) : Prop :=
  Below f.B0 w w' ∧ ((f.pc.fuel - k.used < n ∧ r = .returned (.bool false) ∧ PstAt w' f v (k.fin 6)) ∨ (¬ f.pc.fuel - k.used < n ∧ r = .returned (.bool true) ∧ PstAt w' f v { k with used := k.used + n }))
set_option maxHeartbeats 400000 in
theorem payP_any (w : World) (f : Fx) (v : Vx) (k : Drv.Cf) (n : Int) (h : PstAt w f v k) (h0 : 0 ≤ k.used) (h1 : k.used ≤ f.pc.fuel) (h2 : f.pc.fuel ≤ 4000000000) (h3 : 0 ≤ n) (h4 : n ≤ 4000000000) :
    Calls Try.prog 88 #[.pointer (some ⟨f.P, 0, none⟩), .int .i64 n] w (PayP w f v k n) := by
  obtain ⟨r, t, q, b, s, hpar, _⟩ := h.par
  refine (pay_any f.P f.pc _ n w hpar h0 h1 h2 h3 h4).mono ?_
  rintro r' w' (⟨e1, rfl, ho, hp⟩ | ⟨e1, rfl, ho, hp⟩)
  · refine ⟨h.below ho fun j e => by rw [e]; exact h.geP, .inl ⟨e1, rfl, h.parSet ho (k.fin 6) rfl rfl rfl (fun r1 t1 q1 b1 s1 g1 => ?_)⟩⟩
    obtain ⟨rfl, rfl, rfl, rfl, rfl⟩ := par_same hpar g1
    exact hp
  · refine ⟨h.below ho fun j e => by rw [e]; exact h.geP, .inr ⟨e1, rfl, h.parSet ho { k with used := k.used + n } rfl rfl rfl (fun r1 t1 q1 b1 s1 g1 => ?_)⟩⟩
    obtain ⟨rfl, rfl, rfl, rfl, rfl⟩ := par_same hpar g1
    exact hp
/-- a slice of a new walk's own: none of the Subs yet -/
theorem PstAt.begin {w w' : World} {f : Fx} {v : Vx} {k : Drv.Cf} {x : Drv.Wk} {A : Option Addr} {ca : Nat} (h : PstAt w f v k) (hsub : x.subs = []) (halt : RO w (TS f v) 1 A x.alts.length (x.alts.map (Value.int .i64))) (hca : x.alts.length ≤ ca)
    (hdep : f.pc.depth = (f.c.depth : Int)) {r t q : Int} {b : Bool} {s : Value} (hpar : ParAt w f.P f.pc ⟨k.used, k.deep, k.spec, v.vo, k.pos, (Drv.nonreal k.opn : Nat), r, t, q, b, s, k.e, k.ended⟩) {e : Ending}
    (hp : BeginPost f.P f.pc ⟨k.used, k.deep, k.spec, v.vo, k.pos, (Drv.nonreal k.opn : Nat), r, t, q, b, s, k.e, k.ended⟩ f.B0 k.opn.length (v.gs.reverse.map fun g => .pointer (some ⟨g, 0, none⟩)) (x.sort : Nat) x.what x.state x.over (.slice none 0 0) (.slice A x.alts.length ca) w e w') :
    e = .returned (.tuple #[]) ∧ Below f.B0 w w' ∧ ∃ v', PstAt w' f v' (Drv.beginM f.c x k) := by
  obtain ⟨rfl, hp⟩ := hp
  obtain ⟨n1, n2, n3, n4⟩ := h.neP
  have hltP := h.ltTS f.P (.inl rfl)
  have hgeP := h.geP
  refine ⟨rfl, ?_⟩
  rcases hp with ⟨hd, ho, hpp⟩ | ⟨hd, g, ob, oc, hg, hob, ho, hG, hrow, hpp⟩
  · have hb : Drv.beginM f.c x k = k.fin 7 := by unfold Drv.beginM; rw [if_pos (by omega)]
    rw [hb]
    refine ⟨h.below ho fun j e => by rw [e]; exact hgeP, v, h.parSet ho (k.fin 7) rfl rfl rfl (fun r1 t1 q1 b1 s1 g1 => ?_)⟩
    obtain ⟨rfl, rfl, rfl, rfl, rfl⟩ := par_same hpar g1
    exact hpp
  · have hb : Drv.beginM f.c x k = { k with opn := { x with start := k.pos } :: k.opn, deep := max k.deep (k.opn.length + 1 : Int), spec := if 1 < x.sort then k.spec + 1 else k.spec } := by
      unfold Drv.beginM; rw [if_neg (by omega)]
    rw [hb]
    obtain ⟨r0, t0, q0, b0, s0, hpar0, htr⟩ := h.par
    obtain ⟨rfl, rfl, rfl, rfl, rfl⟩ := par_same hpar hpar0
    have hoT := ho.more (S' := TS f v) fun j _ e => e.elim .inl fun e => .inr (.inr (.inl e))
    have hgs : ∀ g' ∈ v.gs, g' < w.heap.size := fun g' hg' => h.ltTS g' (.inr (.inr (.inr (.inl hg'))))
    have hss : ∀ s' ∈ v.ss, ∀ j, s'.ownBlock = some j → j < w.heap.size := fun s' hs' j hj => h.ltTS j (.inr (.inr (.inr (.inr ⟨s', hs', hj⟩))))
    have hT : ∀ j, j < w.heap.size → TS f ⟨.slice (some ⟨ob, 0, none⟩) (k.opn.length + 1) oc, g :: v.gs, .slice none 0 0 :: v.ss⟩ j → TS f v j := fun j hj e => by
      rcases e with e | e | e | e | ⟨s', hs', e⟩
      · exact .inl e
      · exact .inr (.inl e)
      · have e : some ob = some j := e
        injection e with e
        subst e
        rcases hob with hob | hob
        · exact .inr (.inr (.inl hob))
        · omega
      · rcases List.mem_cons.1 e with rfl | e
        · omega
        · exact .inr (.inr (.inr (.inl e)))
      · rcases List.mem_cons.1 hs' with rfl | hs'
        · cases e
        · exact .inr (.inr (.inr (.inr ⟨s', hs', e⟩)))
    have nv : ∀ j, v.vo.ownBlock = some j → j ∉ v.gs ∧ ¬ MemoS f.pc.M f.br f.bp j ∧ ∀ s' ∈ v.ss, s'.ownBlock ≠ some j := fun j hj => ⟨(h.rd j hj).2.2.1, (h.rd j hj).2.1, (h.rd j hj).2.2.2⟩
    have hwb : Below f.B0 w w' := h.below ho fun j e => by
      rcases e with e | e
      · rw [e]; exact hgeP
      · exact h.ge j (.inr (.inr (.inl e)))
    refine ⟨hwb, ⟨.slice (some ⟨ob, 0, none⟩) (k.opn.length + 1) oc, g :: v.gs, .slice none 0 0 :: v.ss⟩, ⟨r, t, q, b, s, ?_, TrB.only hoT hT _ _ htr⟩, ?_, ?_, ?_, ?_, ?_, ?_, ?_, ?_, ?_⟩
    · have e1 : (Drv.nonreal ({ x with start := k.pos } :: k.opn) : Int) = if (x.sort : Int) = 0 then (Drv.nonreal k.opn : Int) else (Drv.nonreal k.opn : Int) + 1 := by
        rw [Drv.nonreal_cons]
        by_cases h0 : x.sort = 0
        · rw [if_pos (by omega : (x.sort : Int) = 0)]; simp [h0]
        · rw [if_neg (by omega : ¬ (x.sort : Int) = 0)]; simp [h0]
      have e2 : (if 1 < (x.sort : Int) then k.spec + 1 else k.spec) = if 1 < x.sort then k.spec + 1 else k.spec := by
        by_cases h0 : 1 < x.sort
        · rw [if_pos h0, if_pos (by omega)]
        · rw [if_neg h0, if_neg (by omega)]
      simp only [e2] at hpp
      show ParAt w' f.P f.pc ⟨k.used, _, _, _, k.pos, (Drv.nonreal ({ x with start := k.pos } :: k.opn) : Int), r, t, q, b, s, k.e, k.ended⟩
      rw [e1]
      exact hpp
    · exact h.memo.only ho fun j hj e => by
        rcases e with e | e
        · exact n1 j hj e
        · exact (nv j e).2.1 hj
    · refine .inl ?_
      show w'.ownsRow f.B0 _ 1 _ (k.opn.length + 1) (((g :: v.gs).reverse).map fun g => .pointer (some ⟨g, 0, none⟩))
      rw [List.reverse_cons, List.map_append]
      exact hrow
    · show v.gs.length + 1 = k.opn.length + 1; rw [h.gl]
    · show v.ss.length + 1 = k.opn.length + 1; rw [h.sl]
    · intro i y g' s' e1 e2 e3
      cases i with
      | zero =>
        injection e1 with e1
        injection e2 with e2
        injection e3 with e3
        subst e1 e2 e3
        refine ⟨A, ca, [], hG, halt.only hoT hT, ?_, ?_, hca⟩
        · show w'.ownsRow f.B0 _ 5 (.slice none 0 0) x.subs.length []
          rw [hsub]; exact World.ownsRow_nil _ _ _ _
        · show TrsB w' _ _ x.subs []
          rw [hsub]; unfold TrsB TrsV; rfl
      | succ i =>
        have e2' : v.gs[i]? = some g' := e2
        have e3' : v.ss[i]? = some s' := e3
        refine (h.walks i y g' s' e1 e2' e3').only ho (fun j _ e => e.elim .inl fun e => .inr (.inr (.inl e))) hT (fun e => ?_) (fun j hj e => ?_)
        · rcases e with e | e
          · exact n3 g' (List.mem_of_getElem? e2') e
          · exact (nv g' e).1 (List.mem_of_getElem? e2')
        · rcases e with e | e
          · exact n4 s' (List.mem_of_getElem? e3') j hj e
          · exact (nv j e).2.2 s' (List.mem_of_getElem? e3') hj
    · exact List.pairwise_cons.2 ⟨fun g' hg' => by have := hgs g' hg'; omega, h.gd⟩
    · exact List.pairwise_cons.2 ⟨fun s' _ j hj => (by cases hj), h.sd⟩
    · intro j hj
      rcases hj with e | e | e | e | ⟨s', hs', e⟩
      · exact h.ge j (.inl e)
      · exact h.ge j (.inr (.inl e))
      · exact (hrow.lt j e).1
      · rcases List.mem_cons.1 e with rfl | e
        · omega
        · exact h.ge j (.inr (.inr (.inr (.inl e))))
      · rcases List.mem_cons.1 hs' with rfl | hs'
        · cases e
        · exact h.ge j (.inr (.inr (.inr (.inr ⟨s', hs', e⟩))))
    · intro j hj
      have hj : some ob = some j := hj
      injection hj with hj
      subst hj
      rcases hob with hob | hob
      · obtain ⟨m1, m2, m3⟩ := nv ob hob
        have hlt := h.ltTS ob (.inr (.inr (.inl hob)))
        refine ⟨n2 ob hob, m2, fun e => ?_, fun s' hs' e => ?_⟩
        · rcases List.mem_cons.1 e with e | e
          · omega
          · exact m1 e
        · rcases List.mem_cons.1 hs' with rfl | hs'
          · cases e
          · exact m3 s' hs' e
      · refine ⟨by omega, fun e => ?_, fun e => ?_, fun s' hs' e => ?_⟩
        · have := h.ltTS ob (.inr (.inl e)); omega
        · rcases List.mem_cons.1 e with e | e
          · exact row_not hrow hG (by decide) (by rw [← e]; rfl)
          · have := hgs ob e; omega
        · rcases List.mem_cons.1 hs' with rfl | hs'
          · cases e
          · have := hss s' hs' ob e; omega
end Go.Proofs.Ytgflanlniejflaa
