/-
  Drivers: a parse in memory: begin, pop: the contracts.
-/
import Derived.Test.YtgflanlniejflaaPst2
namespace Go.Proofs.Ytgflanlniejflaa
open Go.RowKit Go.Maps
set_option maxRecDepth 100000
theorem OwnO.form {w : World} {base : Nat} {e : TypeId} {size : Nat} {v : Value} {n : Nat} {xs : List Value} (h : OwnO w base e size v n xs) : ∃ A c, v = .slice A n c ∧ n ≤ c := by
  rcases h with h | ⟨g, rfl, _⟩
  · rcases h.2 with ⟨rfl, rfl⟩ | ⟨g, c, _, rfl, _, _, h3, _⟩
    · exact ⟨_, _, rfl, Nat.le_refl _⟩
    · exact ⟨_, _, rfl, h3⟩
  · exact ⟨_, _, rfl, Nat.le_refl _⟩
theorem row_not_map {w : World} {base b n m : Nat} {e : TypeId} {size : Nat} {v : Value} {xs : List Value} {F : Int → Int → Option Int} (h : w.ownsRow base e size v n xs) (hm : OwnF w b m F) : v.ownBlock ≠ some b := fun e1 => by
  rcases h.2 with ⟨rfl, _⟩ | ⟨g, c, cs, rfl, _, hh, _⟩
  · cases e1
  · have e1 : some g = some b := e1
    injection e1 with e1
    exact not_map hm hh e1.symm
/-- the last one of a stack -/
theorem OwnO.last {w : World} {base : Nat} {e : TypeId} {v : Value} {n : Nat} {xs : List Value} {p : Value} (h : OwnO w base e 1 v (n + 1) (xs ++ [p])) :
    ∃ ob oc, v = .slice (some ⟨ob, 0, none⟩) (n + 1) oc ∧ n + 1 ≤ oc ∧ base ≤ ob ∧ ob < w.heap.size ∧ xs.length = n ∧ (∀ j u, (xs ++ [p])[j]? = some u → w.cell? ⟨ob, j, none⟩ = some u) := by
  rcases h with h | ⟨g, rfl, h1, h2, h3, h4⟩
  · obtain ⟨A, c, rfl, hr, _⟩ := Reads.own h
    have hl := h.1
    obtain ⟨b, off, rfl, hb, hc⟩ := hr.2 (by omega)
    rcases h.2 with ⟨h0, _⟩ | ⟨g, cap, cur, hv, hg, _, h3, _⟩
    · cases h0
    · injection hv with hv _ hc2
      injection hv with hv
      injection hv with hv1 hv2 _
      subst hv1 hv2 hc2
      simp at hl
      exact ⟨b, c, rfl, h3, hg, hb, by omega, fun j u hu => by have := hc j u hu; rwa [Nat.zero_add] at this⟩
  · simp at h1
    exact ⟨g, n + 1, rfl, Nat.le_refl _, h2, h3, by omega, h4⟩
set_option maxHeartbeats 400000 in
theorem beginP_any (w : World) (f : Fx) (v : Vx) (k : Drv.Cf) (x : Drv.Wk) (A : Option Addr) (ca : Nat) (start : Int) (h : PstAt w f v k) (hsub : x.subs = []) (halt : RO w (TS f v) 1 A x.alts.length (x.alts.map (Value.int .i64))) (hca : x.alts.length ≤ ca) (hdep : f.pc.depth = (f.c.depth : Int))
    (hn : k.opn.length < 1000000) (hs0 : 0 ≤ k.spec) (hs1 : k.spec ≤ 4000000000) :
    Calls Try.prog 33 #[.pointer (some ⟨f.P, 0, none⟩), .agg (walkCells (x.sort : Nat) x.what start x.state x.over (.slice none 0 0) (.slice A x.alts.length ca))] w fun e w' =>
      e = .returned (.tuple #[]) ∧ Below f.B0 w w' ∧ ∃ v', PstAt w' f v' (Drv.beginM f.c x k) := by
  obtain ⟨r, t, q, b, s, hpar, _⟩ := h.par
  obtain ⟨Av, cv, hv, _⟩ := h.row.form
  have hnr : Drv.nonreal k.opn ≤ k.opn.length := List.length_filter_le _ _
  have hB := h.ltTS f.P (.inl rfl)
  have hge := h.geP
  exact (begin_any f.P f.pc _ f.B0 k.opn.length cv Av _ (x.sort : Nat) x.what start x.state x.over (.slice none 0 0) (.slice A x.alts.length ca) w hpar hv h.row hn (by omega) (fun e => (h.neP.2.1 _ e) rfl) (by simp only; omega) (by simp only; omega) hs0 hs1).mono fun e w' hp => h.begin hsub halt hca hdep hpar hp
/-- what pop leaves -/
def PopP (f : Fx) (k : Drv.Cf) (y : Drv.Wk) (rest : List Drv.Wk) (w : World) (e : Ending) (w' : World) : Prop :=
  ∃ v' g s, e = .returned (.pointer (some ⟨g, 0, none⟩)) ∧ Below f.B0 w w' ∧ PstAt w' f v' { k with opn := rest } ∧ WalkAt w' (TS f v') f.B0 g s y ∧ ¬ TS f v' g ∧ (∀ j, s.ownBlock = some j → ¬ TS f v' j) ∧ f.B0 ≤ g
set_option maxHeartbeats 800000 in
theorem popP_any (w : World) (f : Fx) (v : Vx) (k : Drv.Cf) (y : Drv.Wk) (rest : List Drv.Wk) (h : PstAt w f v k) (ho : k.opn = y :: rest) (hn : k.opn.length < 1000000) :
    Calls Try.prog 81 #[.pointer (some ⟨f.P, 0, none⟩)] w (PopP f k y rest w) := by
  obtain ⟨r, t, q, b, s, hpar, htr⟩ := h.par
  obtain ⟨y', g, sv, e0, e1, e2, hW⟩ := h.at (i := 0) (by rw [ho]; simp)
  rw [ho] at e0
  injection e0 with e0
  subst e0
  obtain ⟨vo, gs, ss⟩ := v
  cases gs with
  | nil => cases e1
  | cons g' gs =>
    cases ss with
    | nil => cases e2
    | cons s' ss =>
      injection e1 with e1
      injection e2 with e2
      subst e1 e2
      have hrow := h.row
      have hlen : k.opn.length = rest.length + 1 := by rw [ho]; rfl
      simp only [List.reverse_cons, List.map_append, List.map_cons, List.map_nil] at hrow
      rw [hlen] at hrow
      obtain ⟨ob, oc, rfl, hoc, hob1, hob2, hxl, hcells⟩ := hrow.last
      have hc := hcells rest.length (.pointer (some ⟨g', 0, none⟩)) (by rw [List.getElem?_append_right (by omega), hxl]; simp)
      obtain ⟨A, ca, xs, w1, w2, w3, w4⟩ := hW
      have hgs : w.cell? ⟨g', 0, none⟩ = some (.int .i64 (y.sort : Nat)) := by rw [Lib.cell_of_heap w1]; rfl
      obtain ⟨n1, n2, n3, n4⟩ := h.neP
      have hnr : Drv.nonreal k.opn ≤ k.opn.length := List.length_filter_le _ _
      have hgd := List.pairwise_cons.1 h.gd
      have hsd := List.pairwise_cons.1 h.sd
      have hrd := h.rd
      refine (pop_any f.P f.pc _ ob rest.length oc g' (y.sort : Nat) w hpar (by rfl) (by omega) hoc hc hgs (n3 g' (by simp)) (by simp only; omega) (by simp only; omega)).mono ?_
      rintro e w' ⟨rfl, ho', hp'⟩
      have hoT := ho'.more (S' := TS f ⟨.slice (some ⟨ob, 0, none⟩) (rest.length + 1) oc, g' :: gs, s' :: ss⟩) fun j _ e => .inl e
      have hT : ∀ j, TS f ⟨.slice (some ⟨ob, 0, none⟩) rest.length rest.length, gs, ss⟩ j → TS f ⟨.slice (some ⟨ob, 0, none⟩) (rest.length + 1) oc, g' :: gs, s' :: ss⟩ j := fun j e => by
        rcases e with e | e | e | e | ⟨s1, hs1, e⟩
        · exact .inl e
        · exact .inr (.inl e)
        · exact .inr (.inr (.inl e))
        · exact .inr (.inr (.inr (.inl (List.mem_cons_of_mem _ e))))
        · exact .inr (.inr (.inr (.inr ⟨s1, List.mem_cons_of_mem _ hs1, e⟩)))
      have hT' : ∀ j, j < w.heap.size → TS f ⟨.slice (some ⟨ob, 0, none⟩) rest.length rest.length, gs, ss⟩ j → TS f ⟨.slice (some ⟨ob, 0, none⟩) (rest.length + 1) oc, g' :: gs, s' :: ss⟩ j := fun j _ e => hT j e
      have hnl : (Drv.nonreal rest : Int) = if ((y.sort : Nat) : Int) = 0 then (Drv.nonreal k.opn : Int) else (Drv.nonreal k.opn : Int) - 1 := by
        rw [ho, Drv.nonreal_cons]
        by_cases h0 : y.sort = 0
        · rw [if_pos (by omega : ((y.sort : Nat) : Int) = 0)]; simp [h0]
        · rw [if_neg (by omega : ¬ ((y.sort : Nat) : Int) = 0)]; simp [h0]
      have hgT : ¬ TS f ⟨.slice (some ⟨ob, 0, none⟩) rest.length rest.length, gs, ss⟩ g' := fun e => by
        rcases e with e | e | e | e | ⟨s1, hs1, e⟩
        · exact n3 g' (by simp) e
        · obtain ⟨ca', ck, hm⟩ := h.memo.blk
          rcases e with e | e | e
          · exact not_cells w1 hm (by decide) e
          · exact not_map h.memo.rules w1 e.symm
          · exact not_map h.memo.picks w1 e.symm
        · have e : some ob = some g' := e
          exact (hrd g' e).2.2.1 (by simp)
        · exact hgd.1 g' e rfl
        · obtain ⟨n, xs1, hr1⟩ := h.srow (s := s1) (List.mem_cons_of_mem _ hs1)
          exact row_not hr1 w1 (by decide) e
      have hsT : ∀ j, s'.ownBlock = some j → ¬ TS f ⟨.slice (some ⟨ob, 0, none⟩) rest.length rest.length, gs, ss⟩ j := fun j hj e => by
        rcases e with e | e | e | e | ⟨s1, hs1, e⟩
        · exact n4 s' (by simp) j hj e
        · obtain ⟨ca', ck, hm⟩ := h.memo.blk
          rcases e with rfl | rfl | rfl
          · exact row_not w3 hm (by decide) hj
          · exact row_not_map w3 h.memo.rules hj
          · exact row_not_map w3 h.memo.picks hj
        · have e : some ob = some j := e
          exact (hrd j e).2.2.2 s' (by simp) hj
        · obtain ⟨cs, hg⟩ := h.gblk (g := j) (List.mem_cons_of_mem _ e)
          exact row_not w3 hg (by decide) hj
        · exact hsd.1 s1 hs1 j hj e
      refine ⟨⟨.slice (some ⟨ob, 0, none⟩) rest.length rest.length, gs, ss⟩, g', s', rfl, h.below ho' fun j e => by rw [e]; exact h.geP, ⟨⟨r, t, q, b, s, ?_, TrB.only hoT hT' _ _ htr⟩, ?_, ?_, ?_, ?_, ?_, hgd.2, hsd.2, fun j hj => h.ge j (hT j hj), ?_⟩, ?_, hgT, hsT, h.ge g' (.inr (.inr (.inr (.inl (by simp)))))⟩
      · show ParAt w' f.P f.pc ⟨k.used, k.deep, k.spec, _, k.pos, (Drv.nonreal rest : Int), r, t, q, b, s, k.e, k.ended⟩
        rw [hnl]
        exact hp'
      · exact h.memo.only ho' n1
      · refine .inr ⟨ob, rfl, by simpa using hxl, hob1, Nat.lt_of_lt_of_le hob2 ho'.size, fun j u hu => ?_⟩
        have hj : j < (gs.reverse.map fun g => Value.pointer (some ⟨g, 0, none⟩)).length := by
          rcases Nat.lt_or_ge j (gs.reverse.map fun g => Value.pointer (some ⟨g, 0, none⟩)).length with h1 | h1
          · exact h1
          · rw [List.getElem?_eq_none h1] at hu; cases hu
        exact (ho'.cell hob2 (n2 ob rfl)).trans (hcells j u (by rw [List.getElem?_append_left hj]; exact hu))
      · have := h.gl; rw [hlen] at this; simpa using this
      · have := h.sl; rw [hlen] at this; simpa using this
      · intro i z g1 s1 a0 a1 a2
        have a0' : k.opn[i + 1]? = some z := by rw [ho]; exact a0
        exact (h.walks (i + 1) z g1 s1 a0' a1 a2).only ho' (fun j _ e => .inl e) hT' (n3 g1 (List.mem_cons_of_mem _ (List.mem_of_getElem? a1))) (n4 s1 (List.mem_cons_of_mem _ (List.mem_of_getElem? a2)))
      · intro j hj
        have := hrd j hj
        exact ⟨this.1, this.2.1, fun e => this.2.2.1 (List.mem_cons_of_mem _ e), fun s1 hs1 => this.2.2.2 s1 (List.mem_cons_of_mem _ hs1)⟩
      · exact WalkAt.only (S := TS f ⟨.slice (some ⟨ob, 0, none⟩) (rest.length + 1) oc, g' :: gs, s' :: ss⟩) ⟨A, ca, xs, w1, w2, w3, w4⟩ ho' (fun j _ e => .inl e) hT' (n3 g' (by simp)) (n4 s' (by simp))
end Go.Proofs.Ytgflanlniejflaa
