/-
  Joined texts: TtAl, TtEn, TtSz, TtMp.
-/
import Derived.Test.YtpbnfinmjnpkpaaGreatDoorTvC
import Derived.Test.YtpbnfinmjnpkpaaGreatDoorGrRq
import Derived.Test.YtpbnfinmjnpkpaaGreatDoorTvB
import Derived.Deep.QuietTactic
import Derived.Maps.OwnOps
import Derived.Maps.OwnSet
/-
  The ways to all parts of a rule (trees.All): the walk.
-/
namespace Go.Proofs.YtpbnfinmjnpkpaaGreatDoor
open Go.RowKit Go.Shelf
set_option maxRecDepth 100000
attribute [local go_sem] Oper.semAt_some
/-! ## a region that draws its order, in a round -/
theorem uponIn_of_upon {l0 n : Nat} {P : Program} {o : Oper} {a : Act} {K : Act → World → Prop} {Q : Exit → Act → World → Prop} {r : Result Next} (h : o.upon P a K Q r) : o.uponIn (Fence.wide.inRound l0) n P a K Q r := by
  cases r with
  | ok x w' =>
    cases x with
    | value v => exact h
    | skip => exact h
    | defer d => exact h
    | enter f args => exact ⟨(fun e => by cases e), CallsIn.inRound l0 (callsIn_wide.2 h)⟩
    | row r args => exact ⟨(fun e => by cases e), fun c cs _ => by obtain ⟨v, w', h1, h2⟩ := h c cs; exact ⟨v, w', h1, stepsIn_wide.2 h2⟩⟩
    | _ => exact h.elim
  | halt x w' => cases x <;> exact h
theorem wpOpIn_of {l0 n : Nat} {P : Program} {ops : Array Oper} {Q : Exit → Act → World → Prop} {i : Nat} {K K' : Act → World → Prop} {a : Act} {w : World} (hnd : ∀ (j : Nat) o, ops[j]? = some o → ∀ c, o.op ≠ .defer c) (hlo : ∀ a w, ¬ Q .outgrown a w) (hK : ∀ a w, K a w → K' a w)
    (h : wpOp P ops Q i K a w) : wpOpIn (Fence.wide.inRound l0) n P ops Q i K' a w := by
  unfold wpOp at h
  unfold wpOpIn
  split
  · rename_i ho; simp only [ho] at h; exact hK _ _ h
  · rename_i o ho
    simp only [ho] at h
    split
    · rename_i hw
      simp only [hw, if_true] at h
      rcases h with h | ⟨_, a', w', h⟩
      · refine Oper.wpIn_mono hK ⟨fun _ _ => trivial, ?_⟩
        rw [Oper.semAt_plain _ _ _ (hnd i o ho)]
        exact uponIn_of_upon h
      · exact (hlo _ _ h).elim
    · rename_i hw
      simp only [hw] at h
      exact ⟨fun _ _ => trivial, hK _ _ h⟩
theorem wpAnyIn_of {l0 n : Nat} {P : Program} {md : Region.Mode} {ops : Array Oper} {Q : Exit → Act → World → Prop} (hnd : ∀ (j : Nat) o, ops[j]? = some o → ∀ c, o.op ≠ .defer c) (hlo : ∀ a w, ¬ Q .outgrown a w) :
    ∀ (fuel : Nat) (listed : Array Bool) (a : Act) (w : World), wpAny P md ops Q fuel listed a w → wpAnyIn (Fence.wide.inRound l0) n P md ops Q fuel listed a w
  | 0, _, _, _, h => h
  | fuel + 1, _, _, _, h => ⟨h.1, fun i hi => wpOpIn_of hnd hlo (fun a w h => wpAnyIn_of hnd hlo fuel _ a w h) (h.2 i hi)⟩
/-- loads first ahead of a last store, in a round -/
theorem wpIn_region_last {l0 n l : Nat} {P : Program} {S : World → Prop} {id : Nat} {Q : Exit → Act → World → Prop} {a : Act} {w : World} {ops : List Oper} (hm : P.follows .mixedOrders = true) (hnd : noDefer ops = true) (hlo : ∀ a w, ¬ Q .outgrown a w) (hS : S w.drew)
    (h : S w.drew → wpAnyE P .any ops.toArray Q S l ops.toArray.size (Array.replicate ops.toArray.size false) a w.drew) : (Code.region id ops.toArray true).wpIn (Fence.wide.inRound l0) n P Q a w :=
  wpIn_region_any hm (wpAnyIn_of (noDefer_of hnd) hlo _ _ _ _ (wpAny_of_last _ _ _ _ (h hS)))
/-! ## ways in new memory -/
def WaysR (n0 : Nat) (W : World) : List Value → List (List Int) → Prop
  | [], [] => True
  | v :: vs, x :: xs => (∃ A c, v = .slice A x.length x.length ∧ W.ownsRow n0 3 1 (.slice A x.length c) x.length (x.map (Value.int .i64))) ∧ WaysR n0 W vs xs
  | _, _ => False
theorem WaysR.map {n0 : Nat} {W W' : World} (h : ∀ (v : Value) (n : Nat) (xs : List Value), W.ownsRow n0 3 1 v n xs → W'.ownsRow n0 3 1 v n xs) : ∀ {vs : List Value} {xs : List (List Int)}, WaysR n0 W vs xs → WaysR n0 W' vs xs
  | [], [], _ => trivial
  | _ :: _, _ :: _, ⟨⟨A, c, h1, h2⟩, h3⟩ => ⟨⟨A, c, h1, h _ _ _ h2⟩, WaysR.map h h3⟩
  | [], _ :: _, h => h
  | _ :: _, [], h => h
theorem WaysR.snoc {n0 : Nat} {W : World} {x : List Int} {A : Option Addr} {c : Nat} (h : W.ownsRow n0 3 1 (.slice A x.length c) x.length (x.map (Value.int .i64))) : ∀ {vs : List Value} {xs : List (List Int)}, WaysR n0 W vs xs → WaysR n0 W (vs ++ [.slice A x.length x.length]) (xs ++ [x])
  | [], [], _ => ⟨⟨A, c, rfl, h⟩, trivial⟩
  | _ :: _, _ :: _, ⟨h1, h3⟩ => ⟨h1, WaysR.snoc h h3⟩
  | [], _ :: _, h => h.elim
  | _ :: _, [], h => h.elim
theorem WaysR.len {n0 : Nat} {W : World} : ∀ {vs : List Value} {xs : List (List Int)}, WaysR n0 W vs xs → vs.length = xs.length
  | [], [], _ => rfl
  | _ :: _, _ :: _, ⟨_, h3⟩ => by rw [List.length_cons, List.length_cons, WaysR.len h3]
  | [], _ :: _, h => h.elim
  | _ :: _, [], h => h.elim
theorem WaysR.at {n0 : Nat} {W : World} : ∀ {vs : List Value} {xs : List (List Int)}, WaysR n0 W vs xs → ∀ (i : Nat) (h : i < xs.length), ∃ A c, vs[i]? = some (.slice A xs[i].length xs[i].length) ∧ W.ownsRow n0 3 1 (.slice A xs[i].length c) xs[i].length (xs[i].map (Value.int .i64))
  | _ :: _, _ :: _, ⟨⟨A, c, h1, h2⟩, _⟩, 0, _ => ⟨A, c, by rw [h1]; rfl, h2⟩
  | _ :: _, _ :: _, ⟨_, h3⟩, i + 1, hi => WaysR.at h3 i (by simpa using hi)
  | [], [], _, _, hi => by simp at hi
  | [], _ :: _, h, _, _ => h.elim
  | _ :: _, [], h, _, _ => h.elim
theorem own_kept_nc {X Y : World} {n0 size n : Nat} {e : TypeId} {v : Value} {xs : List Value} {row : Option Nat} (hr : X.ownsRow n0 e size v n xs) (hg : X.grownBy Y row) (hrow : ∀ r, row = some r → ∃ o : Obj, X.heap[r]? = some o ∧ o.isCells = false) : Y.ownsRow n0 e size v n xs := by
  refine hr.kept hg ?_
  rcases hr.2 with ⟨h0, _⟩ | ⟨g, cap, cur, h0, _, hgb, _⟩
  · exact .inl (by rw [h0]; rfl)
  · refine .inr fun e' => ?_
    obtain ⟨o, ho, hc⟩ := hrow g (by rw [← e', h0]; rfl)
    rw [hgb] at ho; cases ho; cases hc
def selT (r : Int) (x : List Int × Rp.Tr) : Bool := Tt.ruleT x.2 == r && decide (0 ≤ r)
def waysOf (r : Int) (l : List (List Int × Rp.Tr)) : List (List Int) := (l.filter (selT r)).map (·.1)
theorem waysOf_hit (r : Int) (l : List (List Int × Rp.Tr)) {x : List Int × Rp.Tr} (h : selT r x = true) : waysOf r (l ++ [x]) = waysOf r l ++ [x.1] := by simp [waysOf, h]
theorem waysOf_miss (r : Int) (l : List (List Int × Rp.Tr)) {x : List Int × Rp.Tr} (h : selT r x = false) : waysOf r (l ++ [x]) = waysOf r l := by simp [waysOf, h]
/-- the box of the result, amid the walk -/
def AllI (n0 ob : Nat) (l : List (List Int)) (W : World) : Prop := ∃ v vs, Boxed W ob 45 v ∧ W.ownsRow n0 25 1 v l.length vs ∧ WaysR n0 W vs l
theorem allI_own {β : Type} (n0 ob : Nat) (f : β → List (List Int)) : Own (fun s W => AllI n0 ob (f s) W) := by
  rintro s X Y row ⟨v, vs, hv, hr, hw⟩ hg hrow
  refine ⟨v, vs, hv.kept hg (fun e' => ?_), own_kept_nc hr hg hrow, hw.map fun _ _ _ h => own_kept_nc h hg hrow⟩
  obtain ⟨o, ho, hc⟩ := hrow ob e'.symm
  rw [show X.heap[ob]? = _ from hv] at ho; cases ho; cases hc
theorem AllI.below {n0 ob : Nat} {l : List (List Int)} {W W' : World} (h : AllI n0 ob l W) (hb : Below W.heap.size W W') : AllI n0 ob l W' := by
  obtain ⟨v, vs, hv, hr, hw⟩ := h
  exact ⟨v, vs, hv.kept (grown_of hb) (by simp), ownsRow_below hr hb (Nat.le_refl _), hw.map fun _ _ _ h => ownsRow_below h hb (Nat.le_refl _)⟩
def AllP (l : List (List Int)) (w : World) (e : Ending) (W' : World) : Prop := (∃ A vs, e = .returned (.slice A l.length l.length) ∧ RO W' (fun b => b < w.heap.size) 1 A l.length vs ∧ WaysR w.heap.size W' vs l) ∧ Below w.heap.size w W'
theorem infoZZ : (Tryz.prog.info? 25).map (fun i => (i.zero, i.size, i.bytes)) = some (some (.slice none 0 0), 1, 24) := by kernel_rfl
theorem clipZZ_any (A : Option Addr) (n c : Nat) (w : World) (hc : n ≤ c) : Calls Tryz.prog 52 #[.slice A n c] w fun e w' => e = .returned (.slice A n n) ∧ w = w' := by
  go_enter Tryz.func52, Tryz.ntmps52
  go_wp2
  go_ret
  exact ⟨rfl, rfl⟩
/-- what a way more turns -/
theorem all_push {B n0 ob k m gg cg : Nat} {S : Nat → Prop} {W W3 w4 : World} {A8 A5 : Option Addr} {c8 c5 : Nat} {vs : List Value} {ls : List (List Int)} {x : List Int} (hB : B ≤ n0) (hn : n0 ≤ W.heap.size) (hob : n0 ≤ ob) (hS : S ob) (hv : Boxed W ob 45 (.slice A8 k c8))
    (hrow : W.ownsRow n0 25 1 (.slice A8 k c8) k vs) (hws : WaysR n0 W vs ls) (hb3 : Below W.heap.size W W3) (hv3 : Boxed W3 ob 45 (.slice A8 k c8)) (hown5 : W3.ownsRow W.heap.size 3 1 (.slice A5 m c5) m (x.map (Value.int .i64))) (hm : x.length = m)
    (own4 : w4.ownsRow n0 25 1 (.slice (some ⟨gg, 0, none⟩) (k + 1) cg) (k + 1) (vs ++ [.slice A5 m m])) (hgg : (Value.slice A8 k c8).ownBlock = some gg ∨ W3.heap.size < gg) (ho : Only (fun j => (Value.slice A8 k c8).ownBlock = some j) W3 w4) :
    KeepsOthers W (w4.setCell ⟨ob, 0, none⟩ (.slice (some ⟨gg, 0, none⟩) (k + 1) cg)) ∧ KpW B S ob W (w4.setCell ⟨ob, 0, none⟩ (.slice (some ⟨gg, 0, none⟩) (k + 1) cg)) ∧ Below n0 W (w4.setCell ⟨ob, 0, none⟩ (.slice (some ⟨gg, 0, none⟩) (k + 1) cg)) ∧
      Boxed (w4.setCell ⟨ob, 0, none⟩ (.slice (some ⟨gg, 0, none⟩) (k + 1) cg)) ob 45 (.slice (some ⟨gg, 0, none⟩) (k + 1) cg) ∧ (w4.setCell ⟨ob, 0, none⟩ (.slice (some ⟨gg, 0, none⟩) (k + 1) cg)).ownsRow n0 25 1 (.slice (some ⟨gg, 0, none⟩) (k + 1) cg) (k + 1) (vs ++ [.slice A5 m m]) ∧
      WaysR n0 (w4.setCell ⟨ob, 0, none⟩ (.slice (some ⟨gg, 0, none⟩) (k + 1) cg)) (vs ++ [.slice A5 m m]) (ls ++ [x]) ∧ ∀ b T v, b ≠ ob → T ≠ 25 → Boxed W b T v → Boxed (w4.setCell ⟨ob, 0, none⟩ (.slice (some ⟨gg, 0, none⟩) (k + 1) cg)) b T v := by
  have hrow3 := ownsRow_below hrow hb3 (Nat.le_refl _)
  have hos := Only.of_set w4 ob 0 (.slice (some ⟨gg, 0, none⟩) (k + 1) cg)
  have hnv := hv3.not_row (by decide) hrow3
  have hv4 : Boxed w4 ob 45 (.slice A8 k c8) := (ho.block _ hv3.lt (fun e => hnv e.symm)).trans hv3
  have hvf := hv4.set (.slice (some ⟨gg, 0, none⟩) (k + 1) cg)
  have hng := hv4.not_row (by decide) own4
  have hlt := hrow3.lt
  have hoall : Only (fun j => (Value.slice A8 k c8).ownBlock = some j ∨ j = ob) W3 (w4.setCell ⟨ob, 0, none⟩ (.slice (some ⟨gg, 0, none⟩) (k + 1) cg)) := (ho.more fun b _ e => (.inl e : _ ∨ b = ob)).trans (hos.more fun b _ e => (.inr e : (Value.slice A8 k c8).ownBlock = some b ∨ _)) fun _ _ e => e
  have hint : ∀ (v : Value) (n : Nat) (xs : List Value), W3.ownsRow n0 3 1 v n xs → (w4.setCell ⟨ob, 0, none⟩ (.slice (some ⟨gg, 0, none⟩) (k + 1) cg)).ownsRow n0 3 1 v n xs := fun v n xs h => by
    refine ownsRow_only h hoall fun j e hj => ?_
    rcases hj with hj | hj
    · rcases own_ne h hrow3 (by decide) with h0 | h0
      · rw [h0] at e; cases e
      · exact h0 (e.trans hj.symm)
    · subst hj
      exact (hv3.not_row (by decide) h) e.symm
  have hbox : ∀ b T v, b ≠ ob → T ≠ 25 → Boxed W b T v → Boxed (w4.setCell ⟨ob, 0, none⟩ (.slice (some ⟨gg, 0, none⟩) (k + 1) cg)) b T v := fun b T v hb hT h => by
    have h3 : Boxed W3 b T v := h.kept (grown_of hb3) (by simp)
    refine (hoall.block b h3.lt fun e => ?_).trans h3
    rcases e with e | e
    · exact (h3.not_row hT hrow3) e.symm
    · exact hb e
  have hk3 : KpW B S ob W W3 := KpW.of hb3 (Nat.le_trans hB hn) hv.lt
  have hkf : KpW B S ob W3 (w4.setCell ⟨ob, 0, none⟩ (.slice (some ⟨gg, 0, none⟩) (k + 1) cg)) := by
    refine ⟨hoall.below' (fun j e => ?_) (Nat.le_trans (Nat.le_trans hB hn) hb3.size), fun j cs T e hc => (hoall.block j (heap_lt e) fun e2 => ?_).trans e, fun j e => ?_⟩
    · rcases e with e | e
      · have := (hlt j e).1; omega
      · omega
    · rcases e2 with e2 | e2
      · exact hc (.inr ⟨_, _, hv3, e2⟩)
      · exact hc (.inl (e2 ▸ hS))
    · rcases e with e | ⟨v2, T, e, hb⟩
      · exact .inl (.inl e)
      · rw [show (w4.setCell ⟨ob, 0, none⟩ (.slice (some ⟨gg, 0, none⟩) (k + 1) cg)).heap[ob]? = _ from hvf] at e
        injection e with e
        injection e with e
        have e : #[Value.slice (some ⟨gg, 0, none⟩) (k + 1) cg] = #[v2] := e
        injection e with e
        injection e with e
        subst e
        have hb : some gg = some j := hb
        injection hb with hb
        subst hb
        rcases hgg with h | h
        · exact .inl (.inr ⟨_, _, hv3, h⟩)
        · exact .inr (Nat.le_of_lt h)
  refine ⟨?_, hk3.trans hkf, ?_, hvf, ownsRow_only own4 hos (fun j hj e => hng (by rw [← e]; exact hj.symm)), ?_, hbox⟩
  · refine ⟨Nat.le_trans hb3.size hoall.size, fun j o hj hc => ?_⟩
    have h3 := (hb3.block j (heap_lt hj)).trans hj
    refine (hoall.block j (heap_lt h3) fun e => ?_).trans h3
    rcases e with e | e
    · rcases hrow3.2 with ⟨h0, _⟩ | ⟨g', cap, cur, h0, _, hgb, _⟩
      · rw [h0] at e; cases e
      · rw [h0] at e
        have e : some g' = some j := e
        injection e with e
        subst e
        rw [hgb] at h3
        cases h3
        cases hc
    · subst e
      rw [show W3.heap[j]? = _ from hv3] at h3
      cases h3
      cases hc
  · exact (hb3.mono hn).trans (hoall.below' (fun j e => by
      rcases e with e | e
      · exact (hlt j e).1
      · omega) (Nat.le_trans hn hb3.size))
  · have h5 := hint _ _ _ (own_lower hown5 hn)
    rw [← hm] at h5 ⊢
    exact WaysR.snoc h5 ((hws.map fun _ _ _ h => ownsRow_below h hb3 (Nat.le_refl _)).map hint)
section
variable {w0 : World} {B : Nat}
set_option maxHeartbeats 16000000 in
theorem all_any (t : Rp.Tr) (cs : List Value) (rule : Int) (w : World) (hn : TrR w0 B t cs) (hok : Rp.okT t) (hsz : Rp.szT t ≤ 1000000000) (hb : Below B w0 w) (hB : B ≤ w.heap.size) :
    Calls Tryz.prog 15 #[.agg cs.toArray, .int .i64 rule] w (AllP (Tt.allT t rule) w) := by
  obtain ⟨u0, u1, u2, u3, u4, rfl⟩ : ∃ u0 u1 u2 u3 u4, cs = [u0, u1, u2, u3, u4] := by
    have := hn.len
    match cs, this with
    | [u0, u1, u2, u3, u4], _ => exact ⟨_, _, _, _, _, rfl⟩
  refine (callsIn_wide (n := 5)).1 ?_
  refine callsIn_of_wp_marks Tryz.func15 rfl trivial ?_ rfl
  simp only [Tryz.ntmps15, List.size_toArray, List.length_cons, List.length_nil, Nat.reduceAdd, Nat.reduceSub, Array.replicate_succ, Array.replicate_zero, List.push_toArray, List.append_toArray, List.nil_append, List.cons_append]
  gi_wp2_with fail
  refine ⟨trivial, (callsIn_wide.2 (trees_parts _ u0 u1 u2 u3 u4 rfl _)).mono ?_⟩
  rintro _ w' ⟨rfl, rfl⟩
  gi_wp2_with fail
  have bP := ((Boxed.new (w.alloc (.cells #[u0, u1, u2, u3, u4] 24)) 3 (.int .i64 rule)).alloc (.cells #[.slice none 0 0] 45)).alloc (.cells #[u0, u1, u2, u3, u4] 24)
  have bO := (Boxed.new ((w.alloc (.cells #[u0, u1, u2, u3, u4] 24)).alloc (.cells #[.int .i64 rule] 3)) 45 (.slice none 0 0)).alloc (.cells #[u0, u1, u2, u3, u4] 24)
  have bX := heap_alloc_new (((w.alloc (.cells #[u0, u1, u2, u3, u4] 24)).alloc (.cells #[.int .i64 rule] 3)).alloc (.cells #[.slice none 0 0] 45)) (.cells #[u0, u1, u2, u3, u4] 24)
  simp only [World.size_alloc] at bP bO bX
  have hB0 : Below w.heap.size w ((((w.alloc (.cells #[u0, u1, u2, u3, u4] 24)).alloc (.cells #[.int .i64 rule] 3)).alloc (.cells #[.slice none 0 0] 45)).alloc (.cells #[u0, u1, u2, u3, u4] 24)) :=
    ((((Below.refl _ w).alloc (Nat.le_refl _) _).alloc (by simp) _).alloc (by simp; omega) _).alloc (by simp; omega) _
  have hsz0 : ((((w.alloc (.cells #[u0, u1, u2, u3, u4] 24)).alloc (.cells #[.int .i64 rule] 3)).alloc (.cells #[.slice none 0 0] 45)).alloc (.cells #[u0, u1, u2, u3, u4] 24)).heap.size = w.heap.size + 4 := by simp
  obtain ⟨W0, hW0⟩ : ∃ W0, (((w.alloc (.cells #[u0, u1, u2, u3, u4] 24)).alloc (.cells #[.int .i64 rule] 3)).alloc (.cells #[.slice none 0 0] 45)).alloc (.cells #[u0, u1, u2, u3, u4] 24) = W0 := ⟨_, rfl⟩
  rw [hW0] at bP bO bX hB0 hsz0 ⊢
  clear hW0
  refine range_rd (by omega) (gf := 83) (lb := #[.pointer (some ⟨w.heap.size + 1 + 1 + 1, 0, none⟩)]) rfl (enters_of Tryz.func83 (by kernel_rfl) rfl) (B := B) (S := fun k => k = w.heap.size + 1 + 1) (ob := w.heap.size + 1 + 1) (by omega) (by omega)
    (parts_stops (w0 := w0) (B := B) (fun k => k = w.heap.size + 1 + 1) (w.heap.size + 1 + 1) t _ W0 (w.heap.size + 1 + 1 + 1) hn hok hsz (hb.trans (hB0.mono hB)) (by omega) bX (by omega)) (Below.refl _ _) (fun _ => rfl)
    (fun pre W => (AllI w.heap.size (w.heap.size + 1 + 1) (waysOf rule (projT pre)) W ∧ Boxed W (w.heap.size + 1) 3 (.int .i64 rule)) ∧ Below w.heap.size w W)
    (fun _ _ => False)
    (OwnFrom.and (OwnFrom.and (Own.from (allI_own w.heap.size (w.heap.size + 1 + 1) (fun pre => waysOf rule (projT pre))) _) (Own.from (boxed_own _ _ _) _)) (ownFrom_below (Nat.le_refl _) (by omega)))
    (fun _ _ _ _ h _ _ => h)
    (fun pre W h k hk => by obtain ⟨⟨⟨v, vs, h1, h2, _⟩, _⟩, _⟩ := h; exact cw_lt h1 h2 (fun j e => by subst e; exact h1.lt) hk)
    ⟨⟨⟨_, [], bO, World.ownsRow_nil _ _ _ _, trivial⟩, bP⟩, hB0⟩
    (fun x a' W => ∃ Bx, w.heap.size + 1 + 1 < Bx ∧ (W.heap[Bx]? = some (.cells x.cs.toArray 24 (0, 0)) ∧ Reads W W.heap.size 1 x.A x.way.length (x.way.map (Value.int .i64))) ∧ (x.way.length ≤ x.c ∧ x.way.length ≤ 1000000000) ∧ a' = { tmps := #[.agg #[u0, u1, u2, u3, u4], .int .i64 rule, .pointer (some ⟨w.heap.size, 0, none⟩), .pointer (some ⟨w.heap.size + 1, 0, none⟩), .pointer (some ⟨w.heap.size + 1 + 1, 0, none⟩), .slice x.A x.way.length x.c, .pointer (some ⟨Bx, 0, none⟩), .agg #[u0, u1, u2, u3, u4], .func (.func 83) #[] #[.pointer (some ⟨w.heap.size + 1 + 1 + 1, 0, none⟩)], .slice x.A x.way.length x.c, .agg x.cs.toArray, undef, undef, undef, undef, undef, undef, undef, undef, undef, undef, undef, undef, undef, undef, undef, undef], defers := [] })
    (fun x a' _ X Y row hs hg hr => by obtain ⟨Bx, e1, ⟨e2, e3⟩, e4⟩ := hs; exact ⟨Bx, e1, ⟨cells_own Bx (fun (_ : Unit) => x.cs.toArray) _ () X Y row e2 hg (fun r e => (hr r e).2), reads_own _ () X Y row e3 hg hr⟩, e4⟩)
    ?assign ?body ?done ?stop
  case assign =>
    rintro l pre ⟨way, A, c, xt, xcs, xh, xok⟩ W K ⟨⟨hv, hp⟩, hB1⟩ hrd hK
    obtain ⟨xr, xk, xd, xe, xA, xn, xc, rfl⟩ := xh.form
    have HK := hid hK
    clear hK
    simp only [TrAt.enc]
    gi_wp2_with fail
    have hob : w.heap.size + 1 + 1 < W.heap.size := by obtain ⟨v, vs, h1, _⟩ := hv; exact h1.lt
    refine HK.out _ _ ((KeepsOthers.alloc _ _).from _) (KpW.of (below_new W _) (Nat.le_trans hB hB1.size) hob) ⟨⟨hv.below (below_new W _), hp.alloc _⟩, hB1.alloc hB1.size _⟩ ⟨W.heap.size, by omega, ⟨heap_alloc_new W _, reads_next hrd.1.reads (below_new W _)⟩, ⟨hrd.1.1, by have := hrd.2; dsimp only at this ⊢; omega⟩, ?_⟩
    rfl
  case body =>
    rintro l pre x a' W hl ⟨r, hr⟩ ⟨⟨hv, hp⟩, hB1⟩ ⟨Bx, hBx, ⟨bX1, hrd⟩, ⟨hcap, hwl⟩, rfl⟩ hlt
    obtain ⟨xr, xk, xd, xe, xL, xA, xc, hxt, hxc⟩ := x.open
    obtain ⟨xn, hxn⟩ : ∃ n, xL.length = n := ⟨_, rfl⟩
    obtain ⟨m, hm⟩ : ∃ m, x.way.length = m := ⟨_, rfl⟩
    rw [hxc, hxn] at bX1
    rw [hm] at hrd hcap hwl
    simp only [hxc, hxn, hm]
    have k0 : W.cell? ⟨Bx, 0, none⟩ = some (.int .i64 xr) := by rw [Lib.cell_of_heap bX1]; rfl
    have cP := hp.cell
    have HH : Hid (selT rule (x.way, x.t) = (xr == rule && decide (0 ≤ rule))) := hid (by unfold selT; dsimp only; rw [hxt]; rfl)
    have HM := hid hm
    have HWL := hid hwl
    have hpl : (waysOf rule (projT pre)).length < 1000000000 := by
      have h1 : (waysOf rule (projT pre)).length ≤ pre.length := by
        unfold waysOf projT
        rw [List.length_map]
        exact Nat.le_trans (List.length_filter_le _ _) (by simp)
      have h2 : (Tt.partsT [] t).length ≤ 1000000000 := by rw [Tt.partsT_len]; exact hsz
      omega
    have HI := hid (And.intro hv (And.intro hp (And.intro hB1 (And.intro hrd (And.intro hpl hr)))))
    clear hxn hxc hxt hm hv hp hB1 bX1 hrd hr hwl hpl hlt
    have hmiss : (xr == rule && decide (0 ≤ rule)) = false → Hid ((AllI w.heap.size (w.heap.size + 1 + 1) (waysOf rule (projT (pre ++ [x]))) W ∧ Boxed W (w.heap.size + 1) 3 (.int .i64 rule)) ∧ Below w.heap.size w W) := fun h => by
      obtain ⟨hv, hp, hB1, hrd, hpl, hr⟩ := HI.out
      refine hid ⟨⟨?_, hp⟩, hB1⟩
      rw [projT_append, projT_one, waysOf_miss _ _ (by rw [HH.out, h])]
      exact hv
    by_cases hq : xr = rule
    · by_cases hz : (0 : Int) ≤ rule
      · have hqe : (xr == rule) = true := by simp [hq]
        have HSEL := hid (show selT rule (x.way, x.t) = true by rw [HH.out, hqe, decide_eq_true hz]; rfl)
        clear hmiss hq HH
        gi_wp2_with fail
        obtain ⟨⟨v, vs, hv, hrow, hws⟩, hp, hB1, hrd, hpl, hr⟩ := HI.out
        obtain ⟨k, hk⟩ : ∃ k, (waysOf rule (projT pre)).length = k := ⟨_, rfl⟩
        rw [hk] at hrow hpl
        obtain ⟨A8, c8, rfl⟩ := row_form hrow
        have cO := hv.cell
        obtain ⟨zi, hz0, hz1, hz2, hz3⟩ := info_of infoZZ
        have HCL := hid (cloneZ_any x.A m x.c W.heap.size _ W.drew HWL.out hrd (by intro v hv; obtain ⟨y, _, rfl⟩ := List.mem_map.1 hv; rfl))
        have HK := hid hk
        have HV := hid hv
        have HRW := hid hrow
        have HWS := hid hws
        have HJ := hid (And.intro hp (And.intro hB1 hr))
        have hmx : k + 1 ≤ maxLen := by simp only [maxLen]; omega
        have hmy : (k + 1) * 24 ≤ 140737488355328 := by omega
        have hneb := hv.not_row (by decide) hrow
        have HNB := hid hneb
        clear hv hrow hws hp hB1 hr hrd hk k0 cP HI hneb
        refine wpIn_region_last (l := 6) (S := fun w' => w'.cell? ⟨w.heap.size + 1 + 1, 0, none⟩ = some (.slice A8 k c8)) (by kernel_rfl) (by kernel_rfl) (fun _ _ h => h) cO (fun hHeld => ?_)
        refine wpAnyE_take (i := 0) (.slice A8 k c8) rfl (by kernel_rfl) (by kernel_rfl) (by kernel_rfl) (by kernel_rfl) (fun _ _ _ h => h) hHeld (by rfl) (fun w' hSw => ?_) ?_
        · go_simp
        try simp only [Act.put, List.getElem_toArray, List.getElem_cons_zero, List.setIfInBounds_toArray, List.set_cons_zero, List.set_cons_succ]
        refine wpAnyE_take (i := 1) (.slice x.A m x.c) rfl (by kernel_rfl) (by kernel_rfl) (by kernel_rfl) (by kernel_rfl) (fun _ _ _ h => h) hHeld (by rfl) (fun w' hSw => ?_) ?_
        · go_simp
        try simp only [Act.put, List.getElem_toArray, List.getElem_cons_zero, List.getElem_cons_succ, List.setIfInBounds_toArray, List.set_cons_zero, List.set_cons_succ]
        clear hHeld
        refine wpAnyE_step 2 (by kernel_rfl) rfl (fun K hK => ?_)
        go_simp
        go_at_call 49
        refine HCL.out.mono ?_
        rintro _ W3 ⟨A5, c5, rfl, hown5, hb3⟩
        have HO5 := hid hown5
        have hb3 : Below W.heap.size W W3 := ⟨hb3.os, hb3.tape, hb3.output, hb3.size, hb3.block⟩
        have HB3 := hid hb3
        have HRW3 := hid (ownsRow_below HRW.out hb3 (Nat.le_refl _))
        have bx3 : Boxed W3 (w.heap.size + 1 + 1) 45 (.slice A8 k c8) := HV.out.kept (grown_of hb3) (by simp)
        have HX3 := hid bx3
        have c3 := bx3.cell
        have HC5 := hid (own_cap hown5)
        clear hown5 hb3 bx3
        go_simp
        refine hK.out _ _ c3 (fun hHeld => ?_)
        clear hK K hHeld
        try simp only [Act.put, List.getElem_toArray, List.getElem_cons_zero, List.getElem_cons_succ, List.setIfInBounds_toArray, List.set_cons_zero, List.set_cons_succ]
        refine wpAnyE_step 3 (by kernel_rfl) rfl (fun K hK => ?_)
        go_simp
        go_at_call 48
        refine (clipZ_any A5 m c5 W3 HC5.out).mono ?_
        rintro _ _ ⟨rfl, rfl⟩
        go_simp
        refine hK.out _ _ c3 (fun hHeld => ?_)
        clear hK K hHeld
        try simp only [Act.put, List.getElem_toArray, List.getElem_cons_zero, List.getElem_cons_succ, List.setIfInBounds_toArray, List.set_cons_zero, List.set_cons_succ]
        refine wpAnyE_step 4 (by kernel_rfl) rfl (fun K hK => ?_)
        go_simp
        have c4 := (HX3.out.alloc (.cells #[.slice A5 m m] 25)).cell
        refine hK.out _ _ c4 (fun hHeld => ?_)
        clear hK K hHeld c4
        try simp only [Act.put, List.getElem_toArray, List.getElem_cons_zero, List.getElem_cons_succ, List.setIfInBounds_toArray, List.set_cons_zero, List.set_cons_succ]
        refine wpAnyE_step 5 (by kernel_rfl) rfl (fun K hK => ?_)
        refine step_push4 W3 rfl _ _ 45 rfl w.heap.size 25 zi _ 1 24 Tryz.underlying45 hz0 hz1 hz2 hz3 rfl (by omega) (.slice A8 k c8) k vs rfl HRW3.out [.slice A5 m m] 1 W3.heap.size rfl rfl rfl (by simp [Value.oneCell']) Nat.zero_lt_one hmx hmy (Nat.le_trans HJ.out.2.1.size HB3.out.size) ?_
        intro gg cg w4 own4 hgg ho4
        have bx4 : Boxed w4 (w.heap.size + 1 + 1) 45 (.slice A8 k c8) := (ho4.block _ HX3.out.lt (fun e => HNB.out e.symm)).trans HX3.out
        have c4 := bx4.cell
        have f4 := bx4.frozen
        have HFIN := hid (all_push (B := B) (S := fun j => j = w.heap.size + 1 + 1) hB HJ.out.2.1.size (by omega) rfl HV.out HRW.out HWS.out HB3.out HX3.out HO5.out HM.out own4 hgg ho4)
        refine hK.out _ _ c4 (fun hHeld => ?_)
        clear hK K own4 hgg ho4 bx4 c3
        try simp only [Act.put, List.getElem_toArray, List.getElem_cons_zero, List.getElem_cons_succ, List.setIfInBounds_toArray, List.set_cons_zero, List.set_cons_succ]
        clear hHeld
        refine wpAnyE_end (by kernel_rfl) rfl (by kernel_rfl) (fun K hK => ?_)
        go_simp
        refine hK.out _ _ ?_
        clear hK K
        obtain ⟨h1, h2, h3, h4, h5, h6, h7⟩ := HFIN.out
        refine ⟨h1.from _, h2, ⟨⟨⟨_, vs ++ [.slice A5 m m], h4, ?_, ?_⟩, h7 _ _ _ (by omega) (by decide) HJ.out.1⟩, HJ.out.2.1.trans h3⟩⟩
        · rw [projT_append, projT_one, waysOf_hit _ _ HSEL.out, List.length_append, HK.out]
          exact h5
        · rw [projT_append, projT_one, waysOf_hit _ _ HSEL.out]
          exact h6
      · have hqe : (xr == rule) = true := by simp [hq]
        have HMI := hmiss (by rw [hqe, decide_eq_false hz]; rfl)
        clear hmiss hq
        gi_wp2_with fail
        exact ⟨KeepsFrom.refl _ _, KpW.refl _ _ _ _, HMI.out⟩
    · have hqe : (xr == rule) = false := by simp [hq]
      have HMI := hmiss (by rw [hqe]; rfl)
      clear hmiss hq
      gi_wp2_with fail
      exact ⟨KeepsFrom.refl _ _, KpW.refl _ _ _ _, HMI.out⟩
  case done =>
    rintro D ys W hD hys ⟨⟨hv, hp⟩, hB1⟩ hK
    obtain ⟨v, vs, hv, hrow, hws⟩ := hv
    have hl : waysOf rule (projT ys) = Tt.allT t rule := by rw [hys]; rfl
    rw [hl] at hrow hws
    obtain ⟨A8, c8, rfl⟩ := row_form hrow
    obtain ⟨m, hm⟩ : ∃ m, (Tt.allT t rule).length = m := ⟨_, rfl⟩
    have hmc : m ≤ c8 := by rw [← hm]; exact own_cap hrow
    have cO := hv.cell
    have fO := hv.frozen
    rw [hm] at cO
    have HI := hid (And.intro hv (And.intro hrow (And.intro hB1 (And.intro hm (And.intro hK hws)))))
    clear hv hrow hB1 hm hK hys hl hws hp
    gi_wp2_with fail
    refine ⟨trivial, (callsIn_wide.2 (clipZZ_any A8 m c8 W hmc)).mono ?_⟩
    rintro _ _ ⟨rfl, rfl⟩
    gi_wp2_with fail
    obtain ⟨hv, hrow, hB1, hm, hK, hws⟩ := HI.out
    have hK' := (KeepsOthers.setCell W ⟨w.heap.size + 1 + 1, 0, none⟩ (.slice A8 m m)).same D _ hK rfl
    refine ⟨by simp, .inl ⟨_, _, rfl, run_takeDeferred hK', ?_⟩⟩
    have hc5 := cell_kept (hv.set (.slice A8 m m)).cell (grownBy_putObj' _ D (.deferred none)) (fun r e => by cases e; exact ⟨_, hK', rfl⟩)
    have hbl : Below w.heap.size W ((W.setCell ⟨w.heap.size + 1 + 1, 0, none⟩ (.slice A8 m m)).putObj D (.deferred none)) := ((Below.refl _ W).setCell (p := ⟨w.heap.size + 1 + 1, 0, none⟩) (by simp; omega) _).trans (belowK_b (w := w) (Nat.le_refl _) _ D _ _ (by omega) hK' rfl rfl)
    have hne := hv.not_row (by decide) hrow
    have hmv : ∀ {n size : Nat} {T : TypeId} {v : Value} {xs : List Value}, T ≠ 45 → W.ownsRow w.heap.size T size v n xs → ((W.setCell ⟨w.heap.size + 1 + 1, 0, none⟩ (.slice A8 m m)).putObj D (.deferred none)).ownsRow w.heap.size T size v n xs := fun hT h =>
      ownsRow_putObj (h.kept (grownBy_setCell' W (w.heap.size + 1 + 1) _) (.inr (hv.not_row hT.symm h).symm)) _ hK' rfl
    refine ⟨.slice A8 m m, ?_, ⟨A8, vs, by rw [hm], RO.of_own0 (hmv (by decide) hrow) (fun b e => e), hws.map fun _ _ _ h => hmv (by decide) h⟩, hB1.trans hbl⟩
    simp [results, Tryz.f15, go_sem, hc5]
  case stop =>
    rintro D pre W hD hpre h hK
    exact h.elim
end
end Go.Proofs.YtpbnfinmjnpkpaaGreatDoor
/-
  Where something may end among a list of trees (trees.ends): plain law; with, step: the walks.
-/
namespace Go.Proofs.YtpbnfinmjnpkpaaGreatDoor
open Go.RowKit
set_option maxRecDepth 100000
namespace Tt
def withE (a b : List Bool) : List Bool := List.zipWith (fun x y => x || y) a b
def stepE (fits : Rp.Tr → Bool) (fr : List Bool) (l : List Rp.Tr) : List Bool := false :: List.zipWith (fun b t => b && !errT t && fits t) fr l
theorem stepE_len (fits : Rp.Tr → Bool) (fr : List Bool) (l : List Rp.Tr) (h : fr.length = l.length + 1) : (stepE fits fr l).length = fr.length := by
  unfold stepE
  rw [List.length_cons, List.length_zipWith]
  omega
theorem withE_len (a b : List Bool) (h : b.length = a.length) : (withE a b).length = a.length := by
  unfold withE
  rw [List.length_zipWith]
  omega
end Tt
theorem infoBe : (Tryz.prog.info? 4).map (fun i => (i.zero, i.size, i.bytes)) = some (some (.bool false), 1, 1) := by kernel_rfl
theorem mkEnds (n : Nat) (hn : n ≤ 1000000000) (u : World) : (Instr.makeSlice 156 (.int .i64 (n : Int)) (.int .i64 (n : Int))).run Tryz.prog u =
      .ok (.slice (some ⟨u.heap.size, 0, none⟩) n n) (u.alloc (.cells (Array.replicate n (Value.bool false)) 4)) := by
  obtain ⟨i2, hi2, hz2, hs2, hy2⟩ := info_of infoBe
  have h := run_make (P := Tryz.prog) u 156 4 i2 (.bool false) Tryz.underlying156 hi2 hz2 .i64 .i64 (n : Int) (n : Int) (by omega) (Int.le_refl _) (by rw [hy2]; omega) (by omega)
  have e : (n : Int).toNat = n := by omega
  rw [e] at h
  rw [show Array.replicate n (Value.bool false) = madeCells #[Value.bool false] n by rw [made_boolZ]; simp]
  simpa [hs2, Value.cells] using h
/-- a row of marks that is read -/
def EnR (W : World) (A : Option Addr) (bs : List Bool) : Prop := Reads W W.heap.size 1 A bs.length (bs.map Value.bool)
theorem EnR.next {W W' : World} {A : Option Addr} {bs : List Bool} (h : EnR W A bs) (hb : Below W.heap.size W W') : EnR W' A bs := reads_next h hb
/-- marks that a call answers -/
def EnP (bs : List Bool) (w : World) (e : Ending) (W' : World) : Prop := ∃ A c, e = .returned (.slice A bs.length c) ∧ EnR W' A bs ∧ Below w.heap.size w W'
/-- marks that are written: so many are told, what stands behind them is as it was -/
def EnW (W : World) (g : Nat) (bs : List Bool) (rest : List Value) : Prop := W.heap[g]? = some (.cells (bs.map Value.bool ++ rest).toArray 4 (0, 0))
theorem EnW.cell {W : World} {g : Nat} {bs : List Bool} {rest : List Value} (h : EnW W g bs rest) (i : Nat) (hi : i < bs.length) : W.cell? ⟨g, i, none⟩ = some (.bool bs[i]) := by
  rw [Lib.cell_of_heap h]
  simp [List.getElem?_append_left, hi]
theorem EnW.set {W : World} {g : Nat} {bs : List Bool} {rest : List Value} (h : EnW W g bs rest) (i : Nat) (hi : i < bs.length) (b : Bool) : EnW (W.setCell ⟨g, i, none⟩ (.bool b)) g (bs.set i b) rest := by
  have h2 := heap_setCell_same W g i _ _ (.bool b) h
  unfold EnW
  rw [h2]
  simp only [List.setIfInBounds_toArray, List.set_append, List.length_map, hi, if_true, List.map_set]
theorem EnW.next {W W' : World} {g : Nat} {bs : List Bool} {rest : List Value} (h : EnW W g bs rest) (hb : Below W.heap.size W W') : EnW W' g bs rest := (hb.block _ (heap_lt h)).trans h
theorem EnW.reads {W : World} {g : Nat} {bs : List Bool} {rest : List Value} (h : EnW W g bs rest) : EnR W (some ⟨g, 0, none⟩) bs := by
  refine ⟨by simp, fun _ => ⟨g, 0, rfl, heap_lt h, fun j u hu => ?_⟩⟩
  have hj : j < bs.length := by
    rcases Nat.lt_or_ge j bs.length with e | e
    · exact e
    · rw [List.getElem?_eq_none (by simpa using e)] at hu; cases hu
  rw [Nat.zero_add, h.cell j hj]
  rw [List.getElem?_map, List.getElem?_eq_getElem hj] at hu
  exact hu
theorem EnR.cell {W : World} {A : Option Addr} {bs : List Bool} (h : EnR W A bs) (hn : 0 < bs.length) : ∃ b o, A = some ⟨b, o, none⟩ ∧ b < W.heap.size ∧ ∀ i (hi : i < bs.length), W.cell? ⟨b, o + i, none⟩ = some (.bool bs[i]) := by
  obtain ⟨b, o, hA, hb, hc⟩ := h.2 hn
  exact ⟨b, o, hA, hb, fun i hi => hc i _ (by rw [List.getElem?_map, List.getElem?_eq_getElem hi]; rfl)⟩
set_option maxHeartbeats 2000000 in
theorem cloneE_any (A : Option Addr) (n c B : Nat) (xs : List Value) (w : World) (hn : n ≤ 1000000000) (hr : Reads w B 1 A n xs) (h1 : ∀ u ∈ xs, u.oneCell' = true) :
    Calls Tryz.prog 140 #[.slice A n c] w (CloneP 4 1 n xs w) := by
  obtain ⟨i0, hi, hz0, hz1, hz2⟩ := info_of infoBe
  have q22 : ∀ (w : World) (a : Option Addr) (n c n' c' : Nat), (binOp .eql 156 (.slice a n c) (.slice none n' c')).run Tryz.prog w = .ok (.bool a.isNone) w := fun w a n c n' c' => Lib.run_eql_slice_nil w _ _ a n c n' c' Tryz.underlying156
  cases A with
  | none =>
    have hn0 : n = 0 := by
      rcases Nat.eq_zero_or_pos n with e | e
      · exact e
      · obtain ⟨b, off, e, _⟩ := hr.2 e; cases e
    subst hn0
    have hx : xs = [] := List.length_eq_zero_iff.1 (by rw [hr.1, Nat.zero_mul])
    subst hx
    clear hr h1
    go_enter Tryz.func140, Tryz.ntmps140
    go_wp2
    go_ret
    exact ⟨none, 0, rfl, World.ownsRow_nil _ _ _ _, Below.refl _ _⟩
  | some a =>
    have hcell := reads_some hr (by decide)
    have HLn := hid hr.1
    clear hr
    have HC := hid hcell
    clear hcell
    go_enter Tryz.func140, Tryz.ntmps140
    go_wp2_with (at_builtin; refine wpList_append_own _ rfl _ _ 156 rfl w.heap.size 4 i0 _ 1 1 Tryz.underlying156 hi hz0 hz1 hz2 rfl (by decide) _ _ _ rfl (World.ownsRow_made w #[] 0 (Nat.le_refl _) (Nat.zero_le _) rfl) a n c xs rfl ?qc1 ?qc2 ?qc3 ?qc4 ?qc5 ?qc6 ?_)
    case qc1 => exact HLn.out
    case qc2 =>
      intro j u hj
      exact Lib.cell?_alloc_some _ (HC.out j u hj)
    case qc3 => exact h1
    case qc4 => unfold maxLen; omega
    case qc5 => omega
    case qc6 => simp
    intro v' w1 hown hgrow hnil
    go_wp2
    go_ret
    have hown : w1.ownsRow w.heap.size 4 1 v' n xs := by simpa using hown
    obtain ⟨A', c', rfl⟩ := row_form hown
    exact ⟨A', c', rfl, hown, ((Below.refl _ w).alloc (Nat.le_refl _) _).grown hgrow (by simp) (by intro k hk; simp [Value.ownBlock] at hk; omega)⟩
/-- what a clone is, as marks that may be written -/
theorem EnW.of_own {w : World} {base n : Nat} {A : Option Addr} {c : Nat} {bs : List Bool} (h : w.ownsRow base 4 1 (.slice A n c) n (bs.map Value.bool)) (hn : n = bs.length) (h0 : 0 < n) : ∃ g rest, A = some ⟨g, 0, none⟩ ∧ base ≤ g ∧ EnW w g bs rest := by
  obtain ⟨h1, ⟨hv, hz⟩ | ⟨g, c', cur, hv, hb, hh, hcap, _, _, htk⟩⟩ := h
  · omega
  · injection hv with e1 e2 e3
    subst e1
    refine ⟨g, cur.toList.drop n, rfl, hb, ?_⟩
    unfold EnW
    rw [hh]
    congr 2
    rw [← htk, Nat.mul_one, List.take_append_drop]
theorem withE_set (a b : List Bool) (h : b.length = a.length) (i : Nat) (hi : i < a.length) : (Tt.withE (a.take i) (b.take i) ++ a.drop i).set i ((a[i]'hi) || (b[i]'(by omega))) = Tt.withE (a.take (i + 1)) (b.take (i + 1)) ++ a.drop (i + 1) := by
  have hib : i < b.length := by omega
  have hl : (Tt.withE (a.take i) (b.take i)).length = i := by unfold Tt.withE; simp; omega
  rw [List.set_append_right _ _ (by omega), hl, Nat.sub_self, List.drop_eq_getElem_cons hi, List.set_cons_zero, List.take_succ_eq_append_getElem hi, List.take_succ_eq_append_getElem hib]
  unfold Tt.withE
  rw [List.zipWith_append (by simp; omega), List.append_assoc]
  rfl
set_option maxHeartbeats 8000000 in
theorem with_any (A B : Option Addr) (c d : Nat) (a b : List Bool) (w : World) (hl : b.length = a.length) (h0 : 0 < a.length) (hn : a.length ≤ 1000000000) (hA : EnR w A a) (hB : EnR w B b) :
    Calls Tryz.prog 119 #[.slice A a.length c, .slice B b.length d] w (EnP (Tt.withE a b) w) := by
  have HCL := hid (cloneE_any A a.length c w.heap.size _ w hn hA (by intro v hv; obtain ⟨y, _, rfl⟩ := List.mem_map.1 hv; rfl))
  have HB := hid hB
  have HA := hid hA
  obtain ⟨n, hnn⟩ : ∃ n, a.length = n := ⟨_, rfl⟩
  have HN := hid hnn
  have HL := hid hl
  rw [hl]
  rw [hnn] at HCL h0 hn ⊢
  clear hA hB hl hnn
  go_enter Tryz.func119, Tryz.ntmps119
  go_wp2_with (go_at_call 140; refine HCL.out.mono ?_; rintro _ w1 ⟨A1, c1, rfl, hown1, hb1⟩; obtain ⟨g, rest, rfl, hbg, hw1⟩ := EnW.of_own hown1 HN.out.symm h0; have hgc := own_cap hown1; have HW1 := hid hw1; have HB1 := hid hb1; have HBG := hid hbg; clear hown1 hw1 hb1 hbg)
  have hgcI : (n : Int) ≤ (c1 : Int) := by omega
  obtain ⟨sb, so, hBe, hsb, hcell⟩ := HB.out.cell (by have := HL.out; have := HN.out; omega)
  have HCE := hid hcell
  have HSB := hid hsb
  subst hBe
  clear hcell hsb
  go_loopw [6, 7, 12] (fun _ _ iv wr => ∃ (i : Nat), i ≤ n ∧ iv = .int .i64 (i : Int) ∧ Hid (EnW wr g (Tt.withE (a.take i) (b.take i) ++ a.drop i) rest ∧ Below w.heap.size w wr)) (fun _ _ iv _ => n - (intOf iv).toNat)
  case atStart => exact ⟨0, Nat.zero_le _, rfl, hid ⟨by simpa [Tt.withE] using HW1.out, HB1.out⟩⟩
  case round =>
    obtain ⟨i, hi, rfl, HI⟩ := hrel
    have hwi : IntKind.i64.wrap ((i : Int) + 1) = (i : Int) + 1 := w64 (by omega) (by omega)
    by_cases hlt : i < n
    · have hia : i < a.length := by have := HN.out; omega
      have hib : i < b.length := by have := HN.out; have := HL.out; omega
      have hltI : (i : Int) < (n : Int) := by omega
      have c0 := (HI.out.2.cell (p := ⟨sb, so + i, none⟩) HSB.out).trans (HCE.out i hib)
      have hlen : i < (Tt.withE (a.take i) (b.take i) ++ a.drop i).length := by unfold Tt.withE; simp; omega
      have c2 := HI.out.1.cell i hlen
      have hce : (Tt.withE (a.take i) (b.take i) ++ a.drop i)[i] = a[i] := by
        have hl2 : (Tt.withE (a.take i) (b.take i)).length = i := by unfold Tt.withE; simp; omega
        rw [List.getElem_append_right (by omega)]
        simp [hl2]
      rw [hce] at c2
      have f2 := Lib.frozen_of_heap HI.out.1 i
      have HS1 := hid (HI.out.1.set i hlen (a[i] || b[i]))
      rw [withE_set a b HL.out i hia] at HS1
      have HO := hid (Only.of_set wr g i (.bool (a[i] || b[i])))
      obtain ⟨x, hx⟩ : ∃ x, a[i] = x := ⟨_, rfl⟩
      obtain ⟨y, hy⟩ : ∃ y, b[i] = y := ⟨_, rfl⟩
      rw [hx] at c2
      rw [hy] at c0
      rw [hx, hy] at HS1 HO
      clear hlen hce hx hy
      have HFIN := hid (show Below w.heap.size w (wr.setCell ⟨g, i, none⟩ (.bool (x || y))) from HO.out.below (fun k e => by have := HBG.out; omega) HI.out.2 HI.out.2.size)
      cases x
      · simp only [Bool.false_or] at HS1 HFIN
        go_wp2_with fail
        go_roundw
        case rel => exact ⟨i + 1, hlt, by go_num, hid ⟨HS1.out, HFIN.out⟩⟩
        case measure => simp only [intOf]; omega
      · simp only [Bool.true_or] at HS1 HFIN
        go_wp2_with fail
        go_roundw
        case rel => exact ⟨i + 1, hlt, by go_num, hid ⟨HS1.out, HFIN.out⟩⟩
        case measure => simp only [intOf]; omega
    · have hie : i = n := by omega
      subst hie
      clear hlt
      go_wp2_with fail
      go_ret
      have hw := HI.out.1
      rw [← HN.out, List.take_length, show b.take a.length = b by rw [← HL.out, List.take_length], List.drop_length, List.append_nil] at hw
      refine ⟨some ⟨g, 0, none⟩, c1, ?_, hw.reads, HI.out.2⟩
      rw [Tt.withE_len _ _ HL.out, HN.out]
      rfl
/-- one tree's turn -/
theorem stepE_set (fits : Rp.Tr → Bool) (fr : List Bool) (l : List Rp.Tr) (h : fr.length = l.length + 1) (i : Nat) (hi : i < l.length) :
    (Tt.stepE fits (fr.take i) (l.take i) ++ List.replicate (l.length - i) false).set (i + 1) (fr[i]'(by omega) && !Tt.errT l[i] && fits l[i]) = Tt.stepE fits (fr.take (i + 1)) (l.take (i + 1)) ++ List.replicate (l.length - (i + 1)) false := by
  have hif : i < fr.length := by omega
  have hl : (Tt.stepE fits (fr.take i) (l.take i)).length = i + 1 := by unfold Tt.stepE; simp; omega
  rw [List.set_append_right _ _ (by omega), hl, Nat.sub_self, show l.length - i = (l.length - (i + 1)) + 1 by omega, List.replicate_succ, List.set_cons_zero, List.take_succ_eq_append_getElem hi, List.take_succ_eq_append_getElem hif]
  unfold Tt.stepE
  rw [List.zipWith_append (by simp; omega), List.cons_append, List.cons_append, List.append_assoc]
  rfl
theorem stepE_full (fits : Rp.Tr → Bool) (fr : List Bool) (l : List Rp.Tr) (h : fr.length = l.length + 1) : Tt.stepE fits (fr.take l.length) l = Tt.stepE fits fr l := by
  unfold Tt.stepE
  congr 1
  apply List.ext_getElem (by simp; omega)
  intro i h1 h2
  simp
theorem stepE_start (fits : Rp.Tr → Bool) (l : List Rp.Tr) : Tt.stepE fits [] [] ++ List.replicate l.length false = List.replicate (l.length + 1) false := rfl
theorem errT_of {w : World} {B : Nat} {t : Rp.Tr} {u0 u1 u2 u4 : Value} {e : Bool} (h : TrR w B t [u0, u1, u2, .bool e, u4]) : Tt.errT t = e := by
  cases t with
  | node r tk k e' l =>
    unfold TrR at h
    obtain ⟨A, c, xs, h, _⟩ := h
    injection h with _ h
    injection h with _ h
    injection h with _ h
    injection h with h _
    injection h with h
    exact h.symm
section
variable {w0 : World} {B : Nat}
set_option maxHeartbeats 8000000 in
theorem step_any (fits : Rp.Tr → Bool) (gf : Nat) (lb : Array Value) (eg : ∀ args w, (callFunc gf args).run Tryz.prog w = .ok (.enter gf args) w) (A : Option Addr) (c : Nat) (fr : List Bool) (L : List Rp.Tr) (TA : Option Addr) (tc : Nat) (xs : List Value) (w : World)
    (hl : fr.length = L.length + 1) (hn : fr.length ≤ 1000000000) (hA : EnR w A fr) (hr : Reads w0 B 5 TA L.length xs) (hv : TrsR w0 B L xs) (hb : Below B w0 w) (hB : B ≤ w.heap.size)
    (hg : ∀ i (hi : i < L.length) (cs : List Value) (W1 : World), TrR w0 B L[i] cs → Below w.heap.size w W1 → Calls Tryz.prog gf (#[.agg cs.toArray] ++ lb) W1 fun e W2 => e = .returned (.bool (fits L[i])) ∧ Below W1.heap.size W1 W2) :
    Calls Tryz.prog 116 #[.slice A fr.length c, .slice TA L.length tc, .func (.func gf) #[] lb] w (EnP (Tt.stepE fits fr L) w) := by
  have HA := hid hA
  have HR := hid hr
  have HV := hid hv
  have HB := hid hb
  have HG := hid hg
  have HBW := hid hB
  obtain ⟨n, hnn⟩ : ∃ n, L.length = n := ⟨_, rfl⟩
  have HN := hid hnn
  have HL := hid hl
  have HFN := hid (show fr.length = n + 1 by omega)
  rw [HFN.out]
  rw [hnn]
  have hn1 : n + 1 ≤ 1000000000 := by omega
  have hmk : ∀ u : World, (Instr.makeSlice 156 (.int .i64 ((n : Int) + 1)) (.int .i64 ((n : Int) + 1))).run Tryz.prog u = .ok (.slice (some ⟨u.heap.size, 0, none⟩) (n + 1) (n + 1)) (u.alloc (.cells (Array.replicate (n + 1) (Value.bool false)) 4)) := fun u => by
    have h := mkEnds (n + 1) hn1 u
    rw [show ((n + 1 : Nat) : Int) = (n : Int) + 1 by omega] at h
    exact h
  clear hA hr hv hb hg hB hl hnn hn
  go_enter Tryz.func116, Tryz.ntmps116
  go_upto_region 2 with fail
  have hb1 := below_new w (.cells (Array.replicate (n + 1) (Value.bool false)) 4)
  have h1 := heap_alloc_new w (.cells (Array.replicate (n + 1) (Value.bool false)) 4)
  generalize w.alloc (.cells (Array.replicate (n + 1) (Value.bool false)) 4) = w1 at hb1 h1 ⊢
  have hw1 : EnW w1 w.heap.size (Tt.stepE fits (fr.take 0) (L.take 0) ++ List.replicate (L.length - 0) false) [] := by
    unfold EnW
    rw [h1, List.take_zero, List.take_zero, Nat.sub_zero, stepE_start, HN.out, List.append_nil, List.map_replicate]
    simp
  have HW1 := hid hw1
  have HB1 := hid hb1
  clear hw1 hb1 h1 hmk
  obtain ⟨ab, ao, hAe, hab, hacell⟩ := HA.out.cell (by have := HFN.out; omega)
  have HAC := hid hacell
  have HAB := hid hab
  subst hAe
  clear hacell hab
  go_wp2_with fail
  go_loopw [8, 9, 15] (fun _ _ iv wr => ∃ (i : Nat), i ≤ n ∧ iv = .int .i64 (i : Int) ∧ Hid (EnW wr w.heap.size (Tt.stepE fits (fr.take i) (L.take i) ++ List.replicate (L.length - i) false) [] ∧ Below w.heap.size w wr)) (fun _ _ iv _ => n - (intOf iv).toNat)
  case atStart => exact ⟨0, Nat.zero_le _, rfl, hid ⟨HW1.out, HB1.out⟩⟩
  case round =>
    obtain ⟨i, hi, rfl, HI⟩ := hrel
    have hwi : IntKind.i64.wrap ((i : Int) + 1) = (i : Int) + 1 := w64 (by omega) (by omega)
    by_cases hlt : i < n
    · have hil : i < L.length := by have := HN.out; omega
      have hif : i < fr.length := by have := HFN.out; omega
      have hltI : (i : Int) < (n : Int) := by omega
      have hbr := HB.out.trans (HI.out.2.mono HBW.out)
      obtain ⟨b, o, u0, u1, u2, u3, u4, hUA, hbB, hnd, c0, c1, c2, c3, c4⟩ := readsTr HR.out HV.out i hil
      have HND := hid hnd
      obtain ⟨xr, xk, xd, xe, xA, xn, xc, hv⟩ := hnd.form
      cases hv
      have e0 := (hbr.cell (p := ⟨b, o + i * 5, none⟩) hbB).trans c0
      have e1 := (hbr.cell (p := ⟨b, o + i * 5 + 1, none⟩) hbB).trans c1
      have e2 := (hbr.cell (p := ⟨b, o + i * 5 + 2, none⟩) hbB).trans c2
      have e3 := (hbr.cell (p := ⟨b, o + i * 5 + 3, none⟩) hbB).trans c3
      have e4 := (hbr.cell (p := ⟨b, o + i * 5 + 4, none⟩) hbB).trans c4
      subst hUA
      clear hnd c0 c1 c2 c3 c4 hbr
      go_upto_region 5 with fail
      have h5 := heap_alloc_new wr (.cells #[.int .i64 xr, .int .i64 xk, .int .i64 xd, .bool xe, .slice xA xn xc] 24)
      have hb5 := below_new wr (.cells #[.int .i64 xr, .int .i64 xk, .int .i64 xd, .bool xe, .slice xA xn xc] 24)
      generalize wr.alloc (.cells #[.int .i64 xr, .int .i64 xk, .int .i64 xd, .bool xe, .slice xA xn xc] 24) = W5 at h5 hb5 ⊢
      have hbw5 := HI.out.2.trans (hb5.mono HI.out.2.size)
      have hlen : i + 1 < (Tt.stepE fits (fr.take i) (L.take i) ++ List.replicate (L.length - i) false).length := by unfold Tt.stepE; simp; omega
      have hw5 := HI.out.1.next hb5
      have ca := (hbw5.cell (p := ⟨ab, ao + i, none⟩) HAB.out).trans (HAC.out i hif)
      have co := hw5.cell (i + 1) hlen
      obtain ⟨oldv, holdv⟩ : ∃ v, (Tt.stepE fits (fr.take i) (L.take i) ++ List.replicate (L.length - i) false)[i + 1] = v := ⟨_, rfl⟩
      rw [holdv] at co
      have fo := Lib.frozen_of_heap hw5 (i + 1)
      have k0 : W5.cell? ⟨wr.heap.size, 0, none⟩ = some (.int .i64 xr) := by rw [Lib.cell_of_heap h5]; rfl
      have k1 : W5.cell? ⟨wr.heap.size, 1, none⟩ = some (.int .i64 xk) := by rw [Lib.cell_of_heap h5]; rfl
      have k2 : W5.cell? ⟨wr.heap.size, 2, none⟩ = some (.int .i64 xd) := by rw [Lib.cell_of_heap h5]; rfl
      have k3 : W5.cell? ⟨wr.heap.size, 3, none⟩ = some (.bool xe) := by rw [Lib.cell_of_heap h5]; rfl
      have k4 : W5.cell? ⟨wr.heap.size, 4, none⟩ = some (.slice xA xn xc) := by rw [Lib.cell_of_heap h5]; rfl
      have HGI := hid (HG.out i hil _ W5 HND.out hbw5)
      have hxe : Tt.errT L[i] = xe := errT_of HND.out
      obtain ⟨x, hx⟩ : ∃ x, fr[i] = x := ⟨_, rfl⟩
      obtain ⟨q, hq⟩ : ∃ q, fits L[i] = q := ⟨_, rfl⟩
      have hset := stepE_set fits fr L (by rw [HFN.out, HN.out]) i hil
      rw [hx, hxe, hq] at hset
      rw [hx] at ca
      rw [hq] at HGI
      have HW5 := hid hw5
      have HBW5 := hid hbw5
      have HSET := hid hset
      have HLEN := hid hlen
      have HFIN := hid (fun (u : World) (hb : Below W5.heap.size W5 u) (z : Bool) (hz : (x && !xe && q) = z) => (show EnW (u.setCell ⟨w.heap.size, i + 1, none⟩ (.bool z)) w.heap.size (Tt.stepE fits (fr.take (i + 1)) (L.take (i + 1)) ++ List.replicate (L.length - (i + 1)) false) [] ∧ Below w.heap.size w (u.setCell ⟨w.heap.size, i + 1, none⟩ (.bool z)) from by
        refine ⟨?_, (Only.of_set u w.heap.size (i + 1) (.bool z)).below (fun k e => by omega) (hbw5.trans (hb.mono hbw5.size)) (Nat.le_trans hbw5.size hb.size)⟩
        have h9 := (hw5.next hb).set (i + 1) hlen z
        rw [← hz, hset] at h9
        rw [← hz]
        exact h9))
      clear hw5 hbw5 hset hlen holdv hx hq hxe h5 hb5 e0 e1 e2 e3 e4
      have hwi2 : IntKind.i64.wrap ((i : Int) + 1) = ((i + 1 : Nat) : Int) := by rw [hwi]; omega
      cases x
      · have HF := hid (HFIN.out W5 (Below.refl _ _) false (by simp))
        clear HFIN HGI k0 k1 k2 k3 k4
        go_wp2_with fail
        go_roundw
        case rel => exact ⟨i + 1, hlt, by go_num, HF⟩
        case measure => simp only [intOf]; omega
      · cases xe
        · go_wp2_with fail
          refine HGI.out.mono ?_
          rintro _ W6 ⟨rfl, hb6⟩
          have HF := hid (HFIN.out W6 hb6 q (by simp))
          have co := (HW5.out.next hb6).cell (i + 1) HLEN.out
          obtain ⟨oldv2, holdv2⟩ : ∃ v, (Tt.stepE fits (fr.take i) (L.take i) ++ List.replicate (L.length - i) false)[i + 1]'HLEN.out = v := ⟨_, rfl⟩
          rw [holdv2] at co
          have fo := Lib.frozen_of_heap (HW5.out.next hb6) (i + 1)
          clear HFIN HGI k0 k1 k2 k3 k4 ca holdv2 hb6
          go_wp2_with fail
          go_roundw
          case rel => exact ⟨i + 1, hlt, by go_num, HF⟩
          case measure => simp only [intOf]; omega
        · have HF := hid (HFIN.out W5 (Below.refl _ _) false (by simp))
          clear HFIN HGI
          go_wp2_with fail
          go_roundw
          case rel => exact ⟨i + 1, hlt, by go_num, HF⟩
          case measure => simp only [intOf]; omega
    · have hie : i = n := by omega
      subst hie
      clear hlt
      go_wp2_with fail
      go_ret
      have hw := HI.out.1
      have hz := stepE_full fits fr L (by rw [HFN.out, HN.out])
      rw [← HN.out, List.take_length, Nat.sub_self, List.replicate_zero, List.append_nil, hz] at hw
      refine ⟨some ⟨w.heap.size, 0, none⟩, i + 1, ?_, hw.reads, HI.out.2⟩
      rw [Tt.stepE_len _ _ _ (by rw [HFN.out, HN.out]), HFN.out]
      rfl
end
end Go.Proofs.YtpbnfinmjnpkpaaGreatDoor
/-
  Are two lists of numbers the same (harbingerlaw01.SameNums), where they are: the walk.
-/
namespace Go.Proofs.YtpbnfinmjnpkpaaGreatDoor
open Go.RowKit
set_option maxRecDepth 100000
theorem reads_atZ {w : World} {B n : Nat} {A : Option Addr} {l : List Int} (h : Reads w B 1 A n (l.map (Value.int .i64))) (i : Nat) (hi : i < l.length) : ∃ b off, A = some ⟨b, off, none⟩ ∧ b < B ∧ w.cell? ⟨b, off + i, none⟩ = some (.int .i64 l[i]) := by
  have h0 := h.1
  rw [List.length_map] at h0
  obtain ⟨b, off, hA, hb, hc⟩ := h.2 (by omega)
  exact ⟨b, off, hA, hb, hc i _ (by rw [List.getElem?_map, List.getElem?_eq_getElem hi]; rfl)⟩
set_option maxHeartbeats 1600000 in
theorem sameZ1_any (A B : Option Addr) (c d : Nat) (a : List Int) (w : World) (hm : a.length ≤ 1000000000000) (hra : Reads w w.heap.size 1 A a.length (a.map (Value.int .i64))) (hrb : Reads w w.heap.size 1 B a.length (a.map (Value.int .i64))) :
    Calls Tryz.prog 82 #[.slice A a.length c, .slice B a.length d] w fun e w' => e = .returned (.bool true) ∧ Below w.heap.size w w' := by
  go_enter Tryz.func82, Tryz.ntmps82
  go_wp2
  go_loopw [5] (fun i wr => ∃ k : Nat, k ≤ a.length ∧ i = .int .i64 k ∧ Below w.heap.size w wr) (fun i _ => a.length - (intOf i).toNat)
  case atStart => exact ⟨0, Nat.zero_le _, rfl, Below.refl _ _⟩
  case round =>
    obtain ⟨k, hk, rfl, hb⟩ := hrel
    by_cases hlt : k < a.length
    · obtain ⟨b, off, rfl, hbl, c0⟩ := reads_atZ (hra.below hb) k hlt
      obtain ⟨b', off', rfl, hbl', c1⟩ := reads_atZ (hrb.below hb) k hlt
      generalize a[k] = x at c0 c1
      have hx : (x == x) = true := by simp
      have hx' : (x != x) = false := by simp
      go_wp2_with fail
      go_quiet (fail)
      go_wp2
      go_roundw
      case rel => exact ⟨k + 1, by omega, by go_num, below_drewN hb _⟩
      case measure => simp [intOf]; omega
    · go_wp2
      go_ret
      exact ⟨rfl, hb⟩
theorem sameZ_eq (A B : Option Addr) (c d : Nat) (a : List Int) (w : World) (hm : a.length ≤ 1000000000000) (hra : Reads w w.heap.size 1 A a.length (a.map (Value.int .i64))) (hrb : Reads w w.heap.size 1 B a.length (a.map (Value.int .i64))) :
    Calls Tryz.prog 44 #[.slice A a.length c, .slice B a.length d] w fun e w' => e = .returned (.bool true) ∧ Below w.heap.size w w' := by
  go_enter Tryz.func44, Tryz.ntmps44
  go_wp2_with fail
  refine (sameZ1_any A B c d a w hm hra hrb).mono ?_
  rintro e w1 ⟨rfl, hb⟩
  go_wp2_with fail
  go_ret
  exact ⟨rfl, hb⟩
end Go.Proofs.YtpbnfinmjnpkpaaGreatDoor
/-
  Maps of names to numbers, and a checker, as they lie in memory.
-/
namespace Go.Proofs.YtpbnfinmjnpkpaaGreatDoor
open Go.RowKit Go.Maps Go.WideMaps
set_option maxRecDepth 100000
theorem lawTs : Keyed Tryz.prog 9 := string_keyed Tryz.underlying9
theorem keyTs (s : List UInt8) (h : s.length ≤ maxLen) : keyOf Tryz.prog 9 (.string ⟨s.toArray⟩) = some (.string s) := by
  have := keyOf_string_mk (P := Tryz.prog) (k := 9) (s := ⟨s.toArray⟩) Tryz.underlying9 (by simpa [ByteArray.size] using h)
  exact this
def asV (v : Value) : Option (DataW Value × List MemPlace) := some (.held v, [])
theorem zeroTi (w : World) : (zeroValue 3).run Tryz.prog w = .ok (.int .i64 0) w := by kernel_rfl
/-- the names that are told, and what -/
structure NamI (D : DataW Value) (f : List UInt8 → Option Int) : Prop where
  tidy : Tidy D
  at_ : ∀ s t zd, f s = some t → D.atKey (.string s) zd = .held (.int .i64 t)
def upN (f : List UInt8 → Option Int) (s : List UInt8) (t : Int) : List UInt8 → Option Int := fun s' => if s' = s then some t else f s'
theorem NamI.start : NamI (.map []) (fun _ => none) := ⟨tidy_empty, fun _ _ _ h => by cases h⟩
theorem NamI.put {D : DataW Value} {f : List UInt8 → Option Int} (h : NamI D f) (s : List UInt8) (t : Int) : NamI (D.put (.string s) (.held (.int .i64 t))) (upN f s t) := by
  refine ⟨h.tidy.put (by trivial) _, fun s' t' zd he => ?_⟩
  unfold upN at he
  by_cases e : s' = s
  · rw [if_pos e] at he
    injection he with he
    rw [e, he, atKey_put_same h.tidy.isMap (by trivial)]
  · rw [if_neg e] at he
    rw [atKey_put_other (fun e2 => e (by injection e2))]
    exact h.at_ s' t' zd he
/-- a map of names in memory -/
def NamM (W : World) (b n : Nat) (f : List UInt8 → Option Int) : Prop := ∃ D, W.ownsMap Tryz.prog 9 asV b n D ∧ NamI D f
theorem ownsMap_onlyT {H : Type} {P : Program} {k : TypeId} {R : Value → Option (DataW H × List MemPlace)} {w w' : World} {b n : Nat} {D : DataW H} {S : Nat → Prop} (h : w.ownsMap P k R b n D) (ho : Only S w w') (hn : ¬ S b) : w'.ownsMap P k R b n D := by
  have hlt := h.lt
  obtain ⟨es, cl, hb, r⟩ := h
  exact ⟨es, cl, (ho.block b hlt hn).trans hb, r⟩
theorem NamM.only {W W' : World} {b n : Nat} {f : List UInt8 → Option Int} {S : Nat → Prop} (h : NamM W b n f) (ho : Only S W W') (hn : ¬ S b) : NamM W' b n f := by
  obtain ⟨D, h1, h2⟩ := h
  exact ⟨D, ownsMap_onlyT h1 ho hn, h2⟩
theorem NamM.next {W W' : World} {b n : Nat} {f : List UInt8 → Option Int} (h : NamM W b n f) (hb : Below W.heap.size W W') : NamM W' b n f := h.only (Only.of_below (S := fun _ => False) hb) (fun e => e)
theorem NamM.lt {W : World} {b n : Nat} {f : List UInt8 → Option Int} (h : NamM W b n f) : b < W.heap.size := by
  obtain ⟨D, h1, _⟩ := h
  exact h1.lt
theorem NamM.look {W : World} {b n : Nat} {f : List UInt8 → Option Int} (h : NamM W b n f) (s : List UInt8) (t : Int) (hs : s.length ≤ maxLen) (ht : f s = some t) : (Instr.lookup 30 (.map (some b)) (.string ⟨s.toArray⟩) false).run Tryz.prog W = .ok (.int .i64 t) W := by
  obtain ⟨D, h1, h2⟩ := h
  obtain ⟨v, ps, hr, hv⟩ := h1.lookup lawTs Tryz.underlying30 (zeroTi W) (show asV (.int .i64 0) = some (.held (.int .i64 0), []) from rfl) (keyTs s hs)
  rw [h2.at_ s t _ ht] at hv
  unfold asV at hv
  injection hv with hv
  injection hv with hv _
  injection hv with hv
  rw [hr, hv]
/-- a checker in memory -/
structure ChkAt (W : World) (cb br bt : Nat) (BA : Option Addr) (bc : Nat) (tok rul : List UInt8 → Option Int) (bodies : List Gr.Nd) (xs : List Value) : Prop where
  box : W.heap[cb]? = some (.cells #[.map (some br), .map (some bt), .slice BA bodies.length bc] 33 (0, 0))
  mr : ∃ n, NamM W br n rul
  mt : ∃ n, NamM W bt n tok
  rows : Reads W W.heap.size 5 BA bodies.length xs
  nds : NdsR W W.heap.size bodies xs
theorem ChkAt.next {W W' : World} {cb br bt : Nat} {BA : Option Addr} {bc : Nat} {tok rul : List UInt8 → Option Int} {bodies : List Gr.Nd} {xs : List Value} (h : ChkAt W cb br bt BA bc tok rul bodies xs) (hb : Below W.heap.size W W') : ChkAt W' cb br bt BA bc tok rul bodies xs :=
  ⟨(hb.block _ (heap_lt h.box)).trans h.box, h.mr.imp fun _ h => h.next hb, h.mt.imp fun _ h => h.next hb, reads_next h.rows hb, NdsR.keep hb hb.size _ _ h.nds⟩
namespace Tt
/-- a tree that is a token of kind k; a tree of rule r -/
def fitTok (k : Int) (t : Rp.Tr) : Bool := ruleT t == -1 && kindT t == k
def fitRul (r : Int) (t : Rp.Tr) : Bool := ruleT t == r
mutual
/-- where a node may end, among a list of trees (nodes without '?', '*', '+') -/
def nodeE (tok rul : List UInt8 → Option Int) (l : List Rp.Tr) : Gr.Nd → List Bool → List Bool
  | .mk k nm _ _ subs, fr => if k = 6 then stepE (fitTok ((tok nm).getD 0)) fr l else if k = 5 then stepE (fitRul ((rul nm).getD 0)) fr l else if k = 1 then seqE tok rul l subs fr else altsE tok rul l subs fr (List.replicate fr.length false)
def seqE (tok rul : List UInt8 → Option Int) (l : List Rp.Tr) : List Gr.Nd → List Bool → List Bool
  | [], fr => fr
  | x :: r, fr => seqE tok rul l r (nodeE tok rul l x fr)
def altsE (tok rul : List UInt8 → Option Int) (l : List Rp.Tr) : List Gr.Nd → List Bool → List Bool → List Bool
  | [], _, out => out
  | x :: r, fr, out => altsE tok rul l r fr (withE out (nodeE tok rul l x fr))
end
mutual
/-- a node without '?', '*', '+', all of whose names are told -/
def starless (tok rul : List UInt8 → Option Int) : Gr.Nd → Prop
  | .mk k nm _ _ subs => ((k = 6 ∧ nm.length ≤ maxLen ∧ (tok nm).isSome = true) ∨ (k = 5 ∧ nm.length ≤ maxLen ∧ (rul nm).isSome = true) ∨ k = 1 ∨ k = 0) ∧ subs.length ≤ 1000000 ∧ starlessL tok rul subs
def starlessL (tok rul : List UInt8 → Option Int) : List Gr.Nd → Prop
  | [] => True
  | x :: r => starless tok rul x ∧ starlessL tok rul r
end
mutual
theorem nodeE_len (tok rul : List UInt8 → Option Int) (l : List Rp.Tr) : ∀ (nd : Gr.Nd) (fr : List Bool), fr.length = l.length + 1 → (nodeE tok rul l nd fr).length = fr.length
  | .mk k nm t s subs, fr, h => by
    rw [nodeE]
    split
    · exact stepE_len _ _ _ h
    · split
      · exact stepE_len _ _ _ h
      · split
        · exact seqE_len tok rul l subs fr h
        · rw [altsE_len tok rul l subs fr _ h (by simp)]
          simp
theorem seqE_len (tok rul : List UInt8 → Option Int) (l : List Rp.Tr) : ∀ (subs : List Gr.Nd) (fr : List Bool), fr.length = l.length + 1 → (seqE tok rul l subs fr).length = fr.length
  | [], fr, _ => by rw [seqE]
  | x :: r, fr, h => by rw [seqE, seqE_len tok rul l r _ (by rw [nodeE_len tok rul l x fr h, h]), nodeE_len tok rul l x fr h]
theorem altsE_len (tok rul : List UInt8 → Option Int) (l : List Rp.Tr) : ∀ (subs : List Gr.Nd) (fr out : List Bool), fr.length = l.length + 1 → out.length = fr.length → (altsE tok rul l subs fr out).length = out.length
  | [], fr, out, _, _ => by rw [altsE]
  | x :: r, fr, out, h, ho => by
    rw [altsE]
    have h1 := withE_len out (nodeE tok rul l x fr) (by rw [nodeE_len tok rul l x fr h, ho])
    rw [altsE_len tok rul l r fr _ h (by rw [h1, ho]), h1]
end
theorem seqE_snoc (tok rul : List UInt8 → Option Int) (l : List Rp.Tr) (x : Gr.Nd) : ∀ (a : List Gr.Nd) (fr : List Bool), seqE tok rul l (a ++ [x]) fr = nodeE tok rul l x (seqE tok rul l a fr)
  | [], fr => by rw [List.nil_append, seqE, seqE, seqE]
  | y :: a, fr => by rw [List.cons_append, seqE, seqE, seqE_snoc tok rul l x a]
theorem altsE_snoc (tok rul : List UInt8 → Option Int) (l : List Rp.Tr) (x : Gr.Nd) : ∀ (a : List Gr.Nd) (fr out : List Bool), altsE tok rul l (a ++ [x]) fr out = withE (altsE tok rul l a fr out) (nodeE tok rul l x fr)
  | [], fr, out => by rw [List.nil_append, altsE, altsE, altsE]
  | y :: a, fr, out => by rw [List.cons_append, altsE, altsE, altsE_snoc tok rul l x a]
theorem starlessL_at {tok rul : List UInt8 → Option Int} : ∀ {l : List Gr.Nd}, starlessL tok rul l → ∀ (i : Nat) (h : i < l.length), starless tok rul l[i]
  | x :: l, h, 0, _ => by rw [starlessL] at h; exact h.1
  | x :: l, h, i + 1, hi => by rw [starlessL] at h; exact starlessL_at h.2 i (by simpa using hi)
  | [], _, _, hi => by simp at hi
end Tt
section
variable {w0 : World} {B : Nat}
theorem fitTok_any (k : Int) (kb : Nat) (t : Rp.Tr) (cs : List Value) (W : World) (hn : TrR w0 B t cs) (hk : W.heap[kb]? = some (.cells #[.int .i64 k] 3 (0, 0))) :
    Calls Tryz.prog 117 (#[.agg cs.toArray] ++ #[.pointer (some ⟨kb, 0, none⟩)]) W fun e W' => e = .returned (.bool (Tt.fitTok k t)) ∧ Below W.heap.size W W' := by
  obtain ⟨r, tk, kd, er, l⟩ := t
  unfold TrR at hn
  obtain ⟨A, c, xs, rfl, _⟩ := hn
  show Calls Tryz.prog 117 #[.agg #[.int .i64 r, .int .i64 tk, .int .i64 kd, .bool er, .slice A l.length c], .pointer (some ⟨kb, 0, none⟩)] W _
  have hb1 := below_new W (.cells #[.int .i64 r, .int .i64 tk, .int .i64 kd, .bool er, .slice A l.length c] 24)
  have h1 := heap_alloc_new W (.cells #[.int .i64 r, .int .i64 tk, .int .i64 kd, .bool er, .slice A l.length c] 24)
  obtain ⟨W1, hW1⟩ : ∃ W1, Hid (W.alloc (.cells #[.int .i64 r, .int .i64 tk, .int .i64 kd, .bool er, .slice A l.length c] 24) = W1) := ⟨_, hid rfl⟩
  rw [hW1.out] at hb1 h1
  have c0 : W1.cell? ⟨W.heap.size, 0, none⟩ = some (.int .i64 r) := by rw [Lib.cell_of_heap h1]; rfl
  have c2 : W1.cell? ⟨W.heap.size, 2, none⟩ = some (.int .i64 kd) := by rw [Lib.cell_of_heap h1]; rfl
  have ck : W1.cell? ⟨kb, 0, none⟩ = some (.int .i64 k) := by rw [Lib.cell_of_heap ((hb1.block _ (heap_lt hk)).trans hk)]; rfl
  have HB1 := hid hb1
  have HQ := hid (show Tt.fitTok k (.node r tk kd er l) = (r == -1 && kd == k) from rfl)
  rw [HQ.out]
  generalize l.length = n at *
  clear hb1 h1 hk
  go_enter Tryz.func117, Tryz.ntmps117
  go_upto_region 1 with fail
  rw [hW1.out]
  clear hW1
  by_cases hr : r = -1
  · subst hr
    go_wp2_with fail
    go_ret
    exact ⟨by simp, HB1.out⟩
  · go_wp2_with fail
    go_ret
    exact ⟨by simp [hr], HB1.out⟩
theorem fitRul_any (k : Int) (kb : Nat) (t : Rp.Tr) (cs : List Value) (W : World) (hn : TrR w0 B t cs) (hk : W.heap[kb]? = some (.cells #[.int .i64 k] 3 (0, 0))) :
    Calls Tryz.prog 118 (#[.agg cs.toArray] ++ #[.pointer (some ⟨kb, 0, none⟩)]) W fun e W' => e = .returned (.bool (Tt.fitRul k t)) ∧ Below W.heap.size W W' := by
  obtain ⟨r, tk, kd, er, l⟩ := t
  unfold TrR at hn
  obtain ⟨A, c, xs, rfl, _⟩ := hn
  show Calls Tryz.prog 118 #[.agg #[.int .i64 r, .int .i64 tk, .int .i64 kd, .bool er, .slice A l.length c], .pointer (some ⟨kb, 0, none⟩)] W _
  have hb1 := below_new W (.cells #[.int .i64 r, .int .i64 tk, .int .i64 kd, .bool er, .slice A l.length c] 24)
  have h1 := heap_alloc_new W (.cells #[.int .i64 r, .int .i64 tk, .int .i64 kd, .bool er, .slice A l.length c] 24)
  obtain ⟨W1, hW1⟩ : ∃ W1, Hid (W.alloc (.cells #[.int .i64 r, .int .i64 tk, .int .i64 kd, .bool er, .slice A l.length c] 24) = W1) := ⟨_, hid rfl⟩
  rw [hW1.out] at hb1 h1
  have c0 : W1.cell? ⟨W.heap.size, 0, none⟩ = some (.int .i64 r) := by rw [Lib.cell_of_heap h1]; rfl
  have ck : W1.cell? ⟨kb, 0, none⟩ = some (.int .i64 k) := by rw [Lib.cell_of_heap ((hb1.block _ (heap_lt hk)).trans hk)]; rfl
  have HB1 := hid hb1
  have HQ := hid (show Tt.fitRul k (.node r tk kd er l) = (r == k) from rfl)
  rw [HQ.out]
  generalize l.length = n at *
  clear hb1 h1 hk
  go_enter Tryz.func118, Tryz.ntmps118
  go_upto_region 1 with fail
  rw [hW1.out]
  clear hW1
  go_wp2_with fail
  go_ret
  exact ⟨rfl, HB1.out⟩
end
end Go.Proofs.YtpbnfinmjnpkpaaGreatDoor
