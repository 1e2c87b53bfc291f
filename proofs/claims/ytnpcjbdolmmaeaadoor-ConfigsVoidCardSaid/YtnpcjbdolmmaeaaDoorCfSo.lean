/-
  slices.SortFunc by order, at a list of configurations that the call owns: by the shelf's contract.
-/
import Derived.Test.YtnpcjbdolmmaeaaDoorCfOr
namespace Go.Proofs.YtnpcjbdolmmaeaaDoor
open Go.RowKit Go.Sort
set_option maxRecDepth 100000
theorem flatK_flatG {α : Type} [Inhabited α] (enc : α → List Value) (k : Nat) (hk : ∀ x, (enc x).length = k) (h0 : 0 < k) (l : List α) : (flatK enc k l.toArray).toList = flat enc l := by
  apply List.ext_getElem?
  intro t
  by_cases h : t < l.length * k
  · have hq : t / k < l.length := Nat.div_lt_of_lt_mul (by rwa [Nat.mul_comm] at h)
    have hr : t % k < k := Nat.mod_lt _ h0
    have h1 := flat_get enc k hk l (t / k) hq (t % k) hr
    rw [show t / k * k + t % k = t by have := Nat.div_add_mod t k; rw [Nat.mul_comm] at this; exact this] at h1
    rw [h1]
    have h2 := get_flatK enc k l.toArray t (by simpa using h)
    have h3 : (flatK enc k l.toArray).toList[t]? = some ((flatK enc k l.toArray)[t]!) := by
      rw [Array.getElem?_toList, getElem!_pos _ t (by simpa using h)]
      simp [h]
    rw [h3, h2]
    have h4 : l.toArray[t / k]! = l[t / k]'hq := by rw [getElem!_pos _ _ (by simpa using hq)]; simp
    have hr' : t % k < (enc (l[t / k]'hq)).length := by rw [hk]; exact hr
    rw [h4, getElem!_pos (enc (l[t / k]'hq)) (t % k) hr', List.getElem?_eq_getElem hr']
  · rw [List.getElem?_eq_none (by simp; omega), List.getElem?_eq_none (by rw [flat_length enc k hk]; omega)]
/-- a configuration with its stack's place, which can be read -/
structure El (w : World) (S : Nat → Prop) where
  c : Cf.Cfg
  A : Option Addr
  n : Nat
  cap : c.stack.length ≤ n
  r : RO w S 1 A c.stack.length (c.stack.map (Value.int .i64))
  l : c.stack.length ≤ 1000000
def encL {w : World} {S : Nat → Prop} (x : El w S) : List Value := cfC x.c x.A x.n
theorem encL_len {w : World} {S : Nat → Prop} (x : El w S) : (encL x).length = 5 := rfl
theorem encL_one {w : World} {S : Nat → Prop} (x : El w S) : ∀ v ∈ encL x, v.oneCell' = true := by
  intro v hv
  unfold encL cfC at hv
  simp only [List.mem_cons, List.mem_nil_iff, or_false] at hv
  rcases hv with rfl | rfl | rfl | rfl | rfl <;> rfl
theorem cfs_els {w : World} {S : Nat → Prop} : ∀ {l : List Cf.Cfg} {vs : List Value}, CfsV w S l vs → (∀ x ∈ l, x.stack.length ≤ 1000000) → ∃ es : List (El w S), es.map El.c = l ∧ vs = flat encL es
  | [], _, h, _ => ⟨[], rfl, h⟩
  | x :: l, _, h, hl => by
    obtain ⟨a, b, e, ⟨A, c, ea, hc, r⟩, h2⟩ := h
    obtain ⟨es, h3, h4⟩ := cfs_els h2 (fun y hy => hl y (by simp [hy]))
    exact ⟨⟨x, A, c, hc, r, hl x (by simp)⟩ :: es, by rw [List.map_cons, h3], by rw [e, ea, h4, flat_cons]; rfl⟩
theorem els_cfs {w : World} {S : Nat → Prop} : ∀ es : List (El w S), CfsV w S (es.map El.c) (flat encL es)
  | [] => rfl
  | x :: es => ⟨encL x, flat encL es, rfl, ⟨x.A, x.n, rfl, x.cap, x.r⟩, els_cfs es⟩
theorem swoOrd {w : World} {S : Nat → Prop} : SWO (ltOf fun x y : El w S => ordZ x.c y.c) := by
  have key : ∀ x y : El w S, ltOf (fun x y : El w S => ordZ x.c y.c) x y = decide (Cf.ord x.c y.c = 0) := fun x y => by
    show decide (ordZ x.c y.c < 0) = _
    rw [ordZ_eq]
    have := Cf.ord_cmp.le x.c y.c
    congr 1
    exact propext ⟨fun h => by omega, fun h => by omega⟩
  refine ⟨fun x => ?_, fun x y z h1 h2 => ?_, fun x y z h1 h2 => ?_⟩
  · rw [key]; exact decide_eq_false (Cf.ord_irr _)
  · rw [key] at h1 h2 ⊢
    exact decide_eq_true (Cf.ord_trans (of_decide_eq_true h1) (of_decide_eq_true h2))
  · rw [key] at h1 h2 ⊢
    have h1 := of_decide_eq_false h1
    have h2 := of_decide_eq_false h2
    refine decide_eq_false fun h => ?_
    have l1 := Cf.ord_cmp.le x.c y.c
    have l2 := Cf.ord_cmp.le y.c z.c
    have f1 := Cf.ord_cmp.flip x.c y.c
    have f2 := Cf.ord_cmp.flip y.c z.c
    have f3 := Cf.ord_cmp.flip x.c z.c
    by_cases e1 : Cf.ord x.c y.c = 1
    · have := Cf.ord_cmp.cl _ _ z.c e1; omega
    · by_cases e2 : Cf.ord y.c z.c = 1
      · have := Cf.ord_cmp.cr _ _ x.c e2; omega
      · have := Cf.ord_trans (show Cf.ord z.c y.c = 0 by omega) (show Cf.ord y.c x.c = 0 by omega)
        omega
theorem order_enters : ∀ args w, (callFunc 24 args).run Tryd.prog w = .ok (.enter 24 args) w := fun _ _ => by kernel_rfl
theorem aCf : ∀ w, (isAgg 40).run Tryd.prog w = .ok true w := fun _ => by kernel_rfl
theorem zCf : ∀ w, (Go.sizeOf 40).run Tryd.prog w = .ok 5 w := fun _ => by kernel_rfl
/-- what a sort leaves -/
def SoP (base : Nat) (v : Value) (S : Nat → Prop) (l : List Cf.Cfg) (vs : List Value) (w : World) (e : Ending) (w' : World) : Prop :=
  e = .returned (.tuple #[]) ∧ ∃ es es' : List (El w S), es.map El.c = l ∧ vs = flat encL es ∧ es'.Perm es ∧ ((es'.map El.c).Pairwise fun a b => Cf.ord a b ≠ 2) ∧ w'.ownsRow base 40 5 v l.length (flat encL es') ∧ Only (fun k => v.ownBlock = some k) w w'
theorem sort_only {α : Type} (enc : α → List Value) [Inhabited α] (k : Nat) (w : World) (g m : Nat) (dk : Array α) (os : Array Obj) : Only (fun b => b = g) w (sortWorldK enc k w g 0 m dk os) := by
  refine ⟨rfl, rfl, rfl, by simp [sortWorldK, putRowK], fun b hb hn => ?_⟩
  unfold sortWorldK
  rw [heap_grow_old _ _ (by simpa [putRowK] using hb)]
  simp only [putRowK, putRow, mapBlock, Array.getElem?_modify]
  rw [if_neg (fun e => hn e.symm)]
  rfl
set_option maxHeartbeats 1000000 in
theorem sortC_any (base : Nat) (v : Value) (S : Nat → Prop) (l : List Cf.Cfg) (vs : List Value) (w : World) (hm : l.length ≤ 10000000) (hown : w.ownsRow base 40 5 v l.length vs) (hv : CfsV w S l vs) (hS : ∀ k, v.ownBlock = some k → S k) (hl : ∀ x ∈ l, x.stack.length ≤ 1000000) :
    Calls Tryd.prog 23 #[v, .func (.func 24) #[] #[]] w (SoP base v S l vs w) := by
  by_cases h0 : l.length = 0
  · have hl0 : l = [] := List.eq_nil_of_length_eq_zero h0
    subst hl0
    obtain ⟨A, c, rfl, _, _⟩ := Reads.own hown
    exact (Tryd.slices_SortFunc_none (α := Nat) A c _ w).mono fun e w' ⟨he, hw⟩ => ⟨he, [], [], rfl, hv, List.Perm.refl _, List.Pairwise.nil, by rw [hw]; rw [show vs = [] from hv] at hown; exact hown, by rw [hw]; exact Only.refl _ _⟩
  · obtain ⟨es, hes, hvs⟩ := cfs_els hv hl
    have hle : es.length = l.length := by rw [← hes, List.length_map]
    subst hvs
    rw [← hle] at hown h0
    obtain ⟨hlen, h2⟩ := hown
    have : Inhabited (El w S) := ⟨es[0]'(by omega)⟩
    rcases h2 with ⟨_, h⟩ | ⟨g, cap, cur, rfl, hg, hh, hnc, hcm, hcs, htk⟩
    · exact absurd h h0
    · have hlt : g < w.heap.size := heap_lt hh
      have hH : HoldsK encL 5 w g 0 es.toArray := by
        intro j hj
        rw [size_flatK] at hj
        have hj' : j < es.length * 5 := by simpa using hj
        refine ⟨?_, by simp [World.frozen?, hh]⟩
        have e1 : (flatK encL 5 es.toArray)[j]! = (flatK encL 5 es.toArray)[j]'(by simpa using hj') := getElem!_pos _ j _
        have e2 : (flat encL es)[j]? = some ((flatK encL 5 es.toArray)[j]'(by simpa using hj')) := by
          rw [← flatK_flatG encL 5 encL_len (by decide), Array.getElem?_toList]; simp [hj']
        rw [← htk, List.getElem?_take, if_pos hj'] at e2
        simp only [World.cell?, hh]
        simpa [e1] using e2
      have hcmp : CmpLays Tryd.prog 24 #[] encL 5 (fun x y : El w S => ordZ x.c y.c) g 0 es.toArray.size w := fun m os dk _ x y => by
        have ho : Only S w (sortWorldK encL 5 w g 0 m dk os) := (sort_only encL 5 w g m dk os).more (fun b _ e => hS b (by rw [e]; rfl))
        have r1 := (x.r.only (S' := S) ho (fun _ _ e => e)).reads
        have r2 := (y.r.only (S' := S) ho (fun _ _ e => e)).reads
        exact order_any x.c y.c x.A y.A x.n y.n _ x.l r1 r2
      refine (Tryd.slices_SortFunc 5 aCf zCf encL encL_len encL_one (fun x y : El w S => ordZ x.c y.c) swoOrd 24 #[] g 0 cap es.toArray w order_enters hcmp hH hlt (by simp; omega)).mono ?_
      rintro e w' ⟨he, d', n, os, ⟨hp1, _, hp3⟩, hs, hw⟩
      have hd : d'.size = es.length := by simpa using hp1
      have hperm : d'.toList.Perm es := by
        have := hp3
        rw [show es.toArray.size = d'.size by simpa using hp1.symm, Array.extract_size] at this
        rw [show d'.size = es.toArray.size by simpa using hp1, Array.extract_size] at this
        simpa using this
      refine ⟨he, es, d'.toList, hes, rfl, hperm, ?_, ?_, ?_⟩
      · rw [List.pairwise_map, List.pairwise_iff_getElem]
        intro i j hi hj hij
        have := hs i j (Nat.zero_le _) hij (by simpa [hd] using hj)
        rw [getElem!_pos d' j (by simpa using hj), getElem!_pos d' i (by simpa using hi)] at this
        rw [Array.getElem_toList, Array.getElem_toList]
        have h7 : ¬ (ordZ (d'[j]'(by simpa using hj)).c (d'[i]'(by simpa using hi)).c < 0) := of_decide_eq_false this
        rw [ordZ_eq] at h7
        have h8 := Cf.ord_cmp.flip (d'[j]'(by simpa using hj)).c (d'[i]'(by simpa using hi)).c
        have h9 := Cf.ord_cmp.le (d'[j]'(by simpa using hj)).c (d'[i]'(by simpa using hi)).c
        omega
      · refine ⟨by rw [flat_length encL 5 encL_len]; simp [hd, hle], .inr ⟨g, cap, putCells id 0 (flatK encL 5 d') cur, by simp [hle], hg, ?_, by omega, hcm, by simp [putCells, hcs], ?_⟩⟩
        · rw [hw]
          unfold sortWorldK
          rw [heap_grow_old _ _ (by simpa [putRowK] using hlt)]
          simp only [putRowK, putRow, mapBlock, Array.getElem?_modify]
          rw [if_pos trivial]
          show Option.map _ (w.heap[g]?) = _
          rw [hh]
          rfl
        · have hff := flatK_flatG encL 5 encL_len (by decide) d'.toList
          rw [Array.toArray_toList] at hff
          rw [← hff]
          have hsz : (flatK encL 5 d').size ≤ cur.size := by
            rw [size_flatK, hcs, hd]; exact Nat.mul_le_mul_right _ hnc
          apply List.ext_getElem?
          intro t
          rw [List.getElem?_take]
          by_cases ht : t < l.length * 5
          · rw [if_pos ht]
            have ht' : t < (flatK encL 5 d').size := by rw [size_flatK, hd, hle]; exact ht
            have htc : t < cur.size := by omega
            rw [Array.getElem?_toList, Array.getElem?_toList, Array.getElem?_eq_getElem ht', putCells, Array.getElem?_mapIdx, Array.getElem?_eq_getElem htc]
            simp only [Option.map_some]
            rw [if_pos (by omega), getElem!_pos _ _ (by simpa using ht')]
            simp
          · rw [if_neg ht, List.getElem?_eq_none (by simp [hd, hle] at ht ⊢; omega)]
      · rw [hw]
        exact (sort_only encL 5 w g n d' os).more (fun b _ e => by rw [e]; rfl)
end Go.Proofs.YtnpcjbdolmmaeaaDoor
