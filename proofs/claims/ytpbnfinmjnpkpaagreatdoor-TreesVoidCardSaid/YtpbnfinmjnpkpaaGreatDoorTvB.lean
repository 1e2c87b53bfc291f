/-
  Joined texts: Last, Late, PushO, GrNo, CfSk, GrCl, GrCo.
-/
import Derived.Deep.RegionHeld
import Derived.StillTail
import Derived.Test.YtpbnfinmjnpkpaaGreatDoorGrAll
import Derived.Test.YtpbnfinmjnpkpaaGreatDoorGrLv
import Derived.Test.YtpbnfinmjnpkpaaGreatDoorDBase
import Derived.Test.YtpbnfinmjnpkpaaGreatDoorShelf
/-
  A region that draws its order, whose last operation (behind all the others) may turn a cell that the region loads: loads are taken first by a condition that need not hold behind that one.
-/
namespace Go.Proofs.YtpbnfinmjnpkpaaGreatDoor
open Go
section
variable {P : Program} {ops : Array Oper} {Q : Exit → Act → World → Prop} {md : Region.Mode} {S : World → Prop} {l : Nat}
/-- whatever order is picked from here on; S holds behind each operation but number l -/
def wpAnyE (P : Program) (md : Region.Mode) (ops : Array Oper) (Q : Exit → Act → World → Prop) (S : World → Prop) (l : Nat) : Nat → Array Bool → Act → World → Prop
  | 0, listed, a, w => Region.ready md ops listed = [] ∧ Q .normal a w
  | fuel + 1, listed, a, w =>
    (Region.ready md ops listed = [] → Q .normal a w) ∧
    ∀ i ∈ Region.ready md ops listed, wpOp P ops Q i (fun a' w' => (i ≠ l → S w') ∧ wpAnyE P md ops Q S l fuel (listed.setIfInBounds i true) a' w') a w
theorem wpAny_of_last : ∀ (fuel : Nat) (listed : Array Bool) (a : Act) (w : World), wpAnyE P md ops Q S l fuel listed a w → wpAny P md ops Q fuel listed a w
  | 0, _, _, _, h => h
  | fuel + 1, _, _, _, h => ⟨h.1, fun i hi => wpOp_mono (fun a' w' h' => wpAny_of_last fuel _ a' w' h'.2) (h.2 i hi)⟩
theorem not_waits {i : Nat} {listed : Array Bool} (hl : Region.waitsFor md ops l i = true) (hi : i ∈ Region.ready md ops listed) {j : Nat} (hj : j ∈ Region.ready md ops listed) : j ≠ l := by
  intro e
  subst e
  obtain ⟨oj, hoj, e, he, hb, hon⟩ := Region.waitsFor_spec hl
  obtain ⟨_, o2, ho2, hall⟩ := mem_ready.1 hj
  rw [hoj] at ho2
  injection ho2 with ho2
  subst ho2
  have h1 := hall e he hb
  have h0 := (mem_ready.1 hi).1
  rw [hon] at h1
  rcases Nat.lt_or_ge i listed.size with h' | h'
  · simp [h'] at h0 h1; rw [h0] at h1; cases h1
  · simp [Array.getElem?_eq_none h'] at h1
theorem wpAnyE_first {i : Nat} {oi : Oper} {v : Value} (hi : ops[i]? = some oi) (hsel : ∀ (j : Nat) (o : Oper) cs b, ops[j]? = some o → o.op ≠ .select cs b)
    (hQ : ∀ c a w, Q (.panic c) (a.put oi.dst v) w → Q (.panic c) a w) (hl : Region.waitsFor md ops l i = true) :
    ∀ (fuel : Nat) (listed : Array Bool) (a : Act) (w : World),
      (∀ j oj, ops[j]? = some oj → j ≠ i → listed.getD j true = false → (∀ e ∈ oj.after, Region.binds md e = true → e.on ≠ i) → oi.apart ops oj = true) →
      i ∈ Region.ready md ops listed → YieldsIf P ops S oi v a → S w →
      wpAnyE P md ops Q S l fuel (listed.setIfInBounds i true) (a.put oi.dst v) w → wpAnyE P md ops Q S l (fuel + 1) listed a w := by
  intro fuel
  induction fuel with
  | zero =>
    intro listed a w _ hr hy hS H
    refine ⟨fun h => (by rw [h] at hr; cases hr), fun j hj => ?_⟩
    by_cases hji : j = i
    · subst hji; exact hy.wpOp hi hS ⟨fun _ => hS, H⟩
    · have := ready_mono hj hji
      rw [H.1] at this
      cases this
  | succ fuel ih =>
    intro listed a w hfree hr hy hS H
    refine ⟨fun h => (by rw [h] at hr; cases hr), fun j hj => ?_⟩
    by_cases hji : j = i
    · subst hji; exact hy.wpOp hi hS ⟨fun _ => hS, H⟩
    · have hjl := not_waits hl hr hj
      have h1 := H.2 j (ready_mono hj hji)
      obtain ⟨hjun, oj, hoj, hall⟩ := mem_ready.1 hj
      have hnot : ∀ e ∈ oj.after, Region.binds md e = true → e.on ≠ i := fun e he hb heq => by
        have h1 := hall e he hb
        have h0 := (mem_ready.1 hr).1
        rw [heq] at h1
        rcases Nat.lt_or_ge i listed.size with h' | h'
        · simp [h'] at h0 h1; rw [h0] at h1; cases h1
        · simp [Array.getElem?_eq_none h'] at h1
      have h2 := wpOp_putIf hoj (hfree j oj hoj hji hjun hnot) (fun cs b => hsel i oi cs b hi) (fun cs b => hsel j oj cs b hoj) hQ hy h1
      have hfree' : ∀ k ok, ops[k]? = some ok → k ≠ i → (listed.setIfInBounds j true).getD k true = false →
          (∀ e ∈ ok.after, Region.binds md e = true → e.on ≠ i) → oi.apart ops ok = true := fun k ok hk hki hun hno => by
        refine hfree k ok hk hki ?_ hno
        by_cases hjk : j = k
        · subst hjk; exact hjun
        · rw [getD_set_ne true hjk] at hun; exact hun
      refine wpOp_mono (fun a' w' h3 => ⟨h3.2.1, ih (listed.setIfInBounds j true) a' w' hfree' (ready_mono hr (Ne.symm hji)) h3.1 (h3.2.1 hjl) ?_⟩) h2
      rw [Array.setIfInBounds_comm _ _ hji]
      exact h3.2.2
/-- number i is taken first -/
theorem wpAnyE_take {i : Nat} {oi : Oper} {fuel : Nat} {listed : Array Bool} {a : Act} {w : World} (v : Value) (hi : ops[i]? = some oi)
    (hs : Region.noSelect ops = true) (hf : Region.free md ops listed i = true) (hr : (Region.ready md ops listed).contains i = true) (hl : Region.waitsFor md ops l i = true)
    (hQ : ∀ c a w, Q (.panic c) (a.put oi.dst v) w → Q (.panic c) a w) (hS : S w) (hw : Region.wanted oi (yielded ops a.tmps) = true) (hy : ∀ w, S w → (execOp a.eval oi).run P w = .ok (.value v) w)
    (h : wpAnyE P md ops Q S l fuel (listed.setIfInBounds i true) (a.put oi.dst v) w) : wpAnyE P md ops Q S l (fuel + 1) listed a w :=
  wpAnyE_first hi (Region.noSelect_spec hs) hQ hl fuel listed a w (Region.free_spec hi hf) (by simpa using hr) (.inl ⟨hw, hy⟩) hS h
/-- number i alone may come up -/
theorem wpAnyE_step (i : Nat) {o : Oper} {fuel : Nat} {listed : Array Bool} {a : Act} {w : World} (hr : Region.ready md ops listed = [i]) (ho : ops[i]? = some o)
    (h : ∀ K' : Act → World → Prop, Shut (∀ a w, S w → (S w → wpAnyE P md ops Q S l fuel (listed.setIfInBounds i true) a w) → K' a w) → if Region.wanted o (yielded ops a.tmps) = true then Oper.wp P o a w K' Q else K' (a.put o.dst undef) w) :
    wpAnyE P md ops Q S l (fuel + 1) listed a w :=
  ⟨fun h0 => (by rw [hr] at h0; cases h0), fun j hj => by
    rw [hr] at hj
    rcases List.mem_cons.1 hj with rfl | hj
    · exact wpOp_step ho (fun K' hK => h K' (fun a w hS hW => hK a w ⟨fun _ => hS, hW hS⟩))
    · cases hj⟩
/-- the last one -/
theorem wpAnyE_end {o : Oper} {fuel : Nat} {listed : Array Bool} {a : Act} {w : World} (hr : Region.ready md ops listed = [l]) (ho : ops[l]? = some o) (hd : Region.ready md ops (listed.setIfInBounds l true) = [])
    (h : ∀ K' : Act → World → Prop, Shut (∀ a w, Q .normal a w → K' a w) → if Region.wanted o (yielded ops a.tmps) = true then Oper.wp P o a w K' Q else K' (a.put o.dst undef) w) :
    wpAnyE P md ops Q S l (fuel + 1) listed a w :=
  ⟨fun h0 => (by rw [hr] at h0; cases h0), fun j hj => by
    rw [hr] at hj
    rcases List.mem_cons.1 hj with rfl | hj
    · refine wpOp_step ho (fun K' hK => h K' (fun a w hW => hK a w ⟨fun e => absurd rfl e, ?_⟩))
      cases fuel with
      | zero => exact ⟨hd, hW⟩
      | succ f => exact ⟨fun _ => hW, fun i hi => (by rw [hd] at hi; cases hi)⟩
    · cases hj⟩
theorem wp_region_last {id : Nat} {a : Act} {w : World} (hm : P.follows .mixedOrders = true) (hS : S w.drew)
    (h : S w.drew → wpAnyE P .any ops Q S l ops.size (Array.replicate ops.size false) a w.drew) : (Code.region id ops true).wp P Q a w :=
  wp_region_any hm (wpAny_of_last _ _ _ _ (h hS))
end
end Go.Proofs.YtpbnfinmjnpkpaaGreatDoor
/-
  A region that draws its order: its operations number l and later wait for all ahead; those ahead of them are taken first by a condition that need not hold behind the later ones.
-/
namespace Go.Proofs.YtpbnfinmjnpkpaaGreatDoor
open Go
section
variable {P : Program} {ops : Array Oper} {Q : Exit → Act → World → Prop} {md : Region.Mode} {S : World → Prop} {l : Nat}
/-- whatever order is picked from here on; S holds behind each operation ahead of number l -/
def wpAnyF (P : Program) (md : Region.Mode) (ops : Array Oper) (Q : Exit → Act → World → Prop) (S : World → Prop) (l : Nat) : Nat → Array Bool → Act → World → Prop
  | 0, listed, a, w => Region.ready md ops listed = [] ∧ Q .normal a w
  | fuel + 1, listed, a, w =>
    (Region.ready md ops listed = [] → Q .normal a w) ∧
    ∀ i ∈ Region.ready md ops listed, wpOp P ops Q i (fun a' w' => (i < l → S w') ∧ wpAnyF P md ops Q S l fuel (listed.setIfInBounds i true) a' w') a w
theorem wpAny_of_late : ∀ (fuel : Nat) (listed : Array Bool) (a : Act) (w : World), wpAnyF P md ops Q S l fuel listed a w → wpAny P md ops Q fuel listed a w
  | 0, _, _, _, h => h
  | fuel + 1, _, _, _, h => ⟨h.1, fun i hi => wpOp_mono (fun a' w' h' => wpAny_of_late fuel _ a' w' h'.2) (h.2 i hi)⟩
/-- all from number l on wait for number i -/
def allWait (md : Region.Mode) (ops : Array Oper) (l i : Nat) : Bool := (List.range ops.size).all fun j => decide (j < l) || Region.waitsFor md ops j i
theorem late_not {i : Nat} {listed : Array Bool} (hl : allWait md ops l i = true) (hi : i ∈ Region.ready md ops listed) {j : Nat} (hj : j ∈ Region.ready md ops listed) : j < l := by
  rcases Nat.lt_or_ge j l with h | h
  · exact h
  · exfalso
    have hjs : j < ops.size := by
      obtain ⟨_, o, ho, _⟩ := mem_ready.1 hj
      exact (Array.getElem?_eq_some_iff.1 ho).1
    have := List.all_eq_true.1 hl j (List.mem_range.2 hjs)
    have hw : Region.waitsFor md ops j i = true := by
      simp only [Bool.or_eq_true, decide_eq_true_eq] at this
      rcases this with h' | h'
      · omega
      · exact h'
    exact not_waits hw hi hj rfl
theorem wpAnyF_first {i : Nat} {oi : Oper} {v : Value} (hi : ops[i]? = some oi) (hsel : ∀ (j : Nat) (o : Oper) cs b, ops[j]? = some o → o.op ≠ .select cs b)
    (hQ : ∀ c a w, Q (.panic c) (a.put oi.dst v) w → Q (.panic c) a w) (hl : allWait md ops l i = true) :
    ∀ (fuel : Nat) (listed : Array Bool) (a : Act) (w : World),
      (∀ j oj, ops[j]? = some oj → j ≠ i → listed.getD j true = false → (∀ e ∈ oj.after, Region.binds md e = true → e.on ≠ i) → oi.apart ops oj = true) →
      i ∈ Region.ready md ops listed → YieldsIf P ops S oi v a → S w →
      wpAnyF P md ops Q S l fuel (listed.setIfInBounds i true) (a.put oi.dst v) w → wpAnyF P md ops Q S l (fuel + 1) listed a w := by
  intro fuel
  induction fuel with
  | zero =>
    intro listed a w _ hr hy hS H
    refine ⟨fun h => (by rw [h] at hr; cases hr), fun j hj => ?_⟩
    by_cases hji : j = i
    · subst hji; exact hy.wpOp hi hS ⟨fun _ => hS, H⟩
    · have := ready_mono hj hji
      rw [H.1] at this
      cases this
  | succ fuel ih =>
    intro listed a w hfree hr hy hS H
    refine ⟨fun h => (by rw [h] at hr; cases hr), fun j hj => ?_⟩
    by_cases hji : j = i
    · subst hji; exact hy.wpOp hi hS ⟨fun _ => hS, H⟩
    · have hjl := late_not hl hr hj
      have h1 := H.2 j (ready_mono hj hji)
      obtain ⟨hjun, oj, hoj, hall⟩ := mem_ready.1 hj
      have hnot : ∀ e ∈ oj.after, Region.binds md e = true → e.on ≠ i := fun e he hb heq => by
        have h1 := hall e he hb
        have h0 := (mem_ready.1 hr).1
        rw [heq] at h1
        rcases Nat.lt_or_ge i listed.size with h' | h'
        · simp [h'] at h0 h1; rw [h0] at h1; cases h1
        · simp [Array.getElem?_eq_none h'] at h1
      have h2 := wpOp_putIf hoj (hfree j oj hoj hji hjun hnot) (fun cs b => hsel i oi cs b hi) (fun cs b => hsel j oj cs b hoj) hQ hy h1
      have hfree' : ∀ k ok, ops[k]? = some ok → k ≠ i → (listed.setIfInBounds j true).getD k true = false →
          (∀ e ∈ ok.after, Region.binds md e = true → e.on ≠ i) → oi.apart ops ok = true := fun k ok hk hki hun hno => by
        refine hfree k ok hk hki ?_ hno
        by_cases hjk : j = k
        · subst hjk; exact hjun
        · rw [getD_set_ne true hjk] at hun; exact hun
      refine wpOp_mono (fun a' w' h3 => ⟨h3.2.1, ih (listed.setIfInBounds j true) a' w' hfree' (ready_mono hr (Ne.symm hji)) h3.1 (h3.2.1 hjl) ?_⟩) h2
      rw [Array.setIfInBounds_comm _ _ hji]
      exact h3.2.2
/-- number i is taken first -/
theorem wpAnyF_take {i : Nat} {oi : Oper} {fuel : Nat} {listed : Array Bool} {a : Act} {w : World} (v : Value) (hi : ops[i]? = some oi)
    (hs : Region.noSelect ops = true) (hf : Region.free md ops listed i = true) (hr : (Region.ready md ops listed).contains i = true) (hl : allWait md ops l i = true)
    (hQ : ∀ c a w, Q (.panic c) (a.put oi.dst v) w → Q (.panic c) a w) (hS : S w) (hw : Region.wanted oi (yielded ops a.tmps) = true) (hy : ∀ w, S w → (execOp a.eval oi).run P w = .ok (.value v) w)
    (h : wpAnyF P md ops Q S l fuel (listed.setIfInBounds i true) (a.put oi.dst v) w) : wpAnyF P md ops Q S l (fuel + 1) listed a w :=
  wpAnyF_first hi (Region.noSelect_spec hs) hQ hl fuel listed a w (Region.free_spec hi hf) (by simpa using hr) (.inl ⟨hw, hy⟩) hS h
/-- number i alone may come up -/
theorem wpAnyF_step (i : Nat) {o : Oper} {fuel : Nat} {listed : Array Bool} {a : Act} {w : World} (hr : Region.ready md ops listed = [i]) (ho : ops[i]? = some o)
    (h : ∀ K' : Act → World → Prop, Shut (∀ a w, S w → (S w → wpAnyF P md ops Q S l fuel (listed.setIfInBounds i true) a w) → K' a w) → if Region.wanted o (yielded ops a.tmps) = true then Oper.wp P o a w K' Q else K' (a.put o.dst undef) w) :
    wpAnyF P md ops Q S l (fuel + 1) listed a w :=
  ⟨fun h0 => (by rw [hr] at h0; cases h0), fun j hj => by
    rw [hr] at hj
    rcases List.mem_cons.1 hj with rfl | hj
    · exact wpOp_step ho (fun K' hK => h K' (fun a w hS hW => hK a w ⟨fun _ => hS, hW hS⟩))
    · cases hj⟩
/-- all ahead of number l are listed: from here on no condition is kept -/
theorem wpAnyF_of : ∀ (fuel : Nat) (listed : Array Bool) (a : Act) (w : World), (∀ j, j < l → listed.getD j true = true) → wpAny P md ops Q fuel listed a w → wpAnyF P md ops Q S l fuel listed a w
  | 0, _, _, _, _, h => h
  | fuel + 1, listed, _, _, hall, h => by
    refine ⟨h.1, fun j hj => ?_⟩
    have hnl : ¬ j < l := fun hlt => by
      have := (mem_ready.1 hj).1
      rw [hall j hlt] at this
      cases this
    refine wpOp_mono (fun a' w' h' => ⟨fun hlt => absurd hlt hnl, wpAnyF_of fuel _ a' w' (fun k hk => ?_) h'⟩) (h.2 j hj)
    have hjk : j ≠ k := fun e => hnl (e ▸ hk)
    rw [getD_set_ne true hjk]
    exact hall k hk
/-- number i alone may come up, and it is the last one ahead of number l -/
theorem wpAnyF_turn (i : Nat) {o : Oper} {fuel : Nat} {listed : Array Bool} {a : Act} {w : World} (hr : Region.ready md ops listed = [i]) (ho : ops[i]? = some o) (hil : ¬ i < l) (hall : ∀ j, j < l → (listed.setIfInBounds i true).getD j true = true)
    (h : ∀ K' : Act → World → Prop, Shut (∀ a w, wpAny P md ops Q fuel (listed.setIfInBounds i true) a w → K' a w) → if Region.wanted o (yielded ops a.tmps) = true then Oper.wp P o a w K' Q else K' (a.put o.dst undef) w) :
    wpAnyF P md ops Q S l (fuel + 1) listed a w :=
  ⟨fun h0 => (by rw [hr] at h0; cases h0), fun j hj => by
    rw [hr] at hj
    rcases List.mem_cons.1 hj with rfl | hj
    · exact wpOp_step ho (fun K' hK => h K' (fun a w hW => hK a w ⟨fun e => absurd e hil, wpAnyF_of _ _ _ _ hall hW⟩))
    · cases hj⟩
theorem wp_region_late {id : Nat} {a : Act} {w : World} (hm : P.follows .mixedOrders = true) (hS : S w.drew)
    (h : S w.drew → wpAnyF P .any ops Q S l ops.size (Array.replicate ops.size false) a w.drew) : (Code.region id ops true).wp P Q a w :=
  wp_region_any hm (wpAny_of_late _ _ _ _ (h hS))
end
end Go.Proofs.YtpbnfinmjnpkpaaGreatDoor

/-
  A region that draws its order: its operations number l and later wait, one behind the other, for all ahead; those ahead of them are taken first by a condition that need not hold behind the later ones.
-/
namespace Go.Proofs.YtpbnfinmjnpkpaaGreatDoor
open Go
section
variable {P : Program} {ops : Array Oper} {Q : Exit → Act → World → Prop} {md : Region.Mode} {S : World → Prop} {l : Nat}
/-- number l waits for all ahead, each later one for one of those from l on -/
def tailB2 (md : Region.Mode) (ops : Array Oper) (l : Nat) : Bool :=
  decide (l < ops.size) && Region.sinkB md ops l && (List.range ops.size).all fun t => decide (t ≤ l) || (List.range t).any fun u => decide (l ≤ u) && Region.waitsFor md ops t u
def closedB (md : Region.Mode) (ops : Array Oper) (l : Nat) (listed : Array Bool) : Bool :=
  decide (listed.size = ops.size) && ((List.range ops.size).all fun j => !listed.getD j false || (match ops[j]? with | some o => o.after.all fun e => !Region.binds md e || listed.getD e.on false | none => true)) &&
    (List.range ops.size).all fun t => decide (t < l) || !listed.getD t true
theorem closedB_inv {listed : Array Bool} (h : closedB md ops l listed = true) : HeadInv md ops l listed := by
  unfold closedB at h
  simp only [Bool.and_eq_true, decide_eq_true_eq, List.all_eq_true, List.mem_range, Bool.or_eq_true, Bool.not_eq_true'] at h
  obtain ⟨⟨h1, h2⟩, h3⟩ := h
  refine ⟨h1, fun j oj hj hl e he hb => ?_, fun t ht ht' => ?_⟩
  · have hjs : j < ops.size := (Array.getElem?_eq_some_iff.1 hj).1
    rcases h2 j hjs with h4 | h4
    · rw [hl] at h4; cases h4
    · rw [hj] at h4
      simp only at h4
      have h5 := Array.all_eq_true'.1 h4 e he
      simp only [Bool.or_eq_true, Bool.not_eq_true'] at h5
      rcases h5 with h5 | h5
      · rw [hb] at h5; cases h5
      · exact h5
  · rcases h3 t ht' with h4 | h4
    · omega
    · exact h4
theorem tail_waits2 {listed : Array Bool} (hT : tailB2 md ops l = true) (inv : HeadInv md ops l listed) :
    ∀ (d i : Nat), l - i = d → i < l → listed.getD i true = false → ∀ t, l ≤ t → t ∉ Region.ready md ops listed := by
  unfold tailB2 at hT
  simp only [Bool.and_eq_true, decide_eq_true_eq] at hT
  obtain ⟨⟨hn, hs⟩, hc⟩ := hT
  intro d
  induction d using Nat.strongRecOn with
  | _ d ih =>
    intro i hd hi hun t ht hr
    obtain ⟨_, ot, hot, hall⟩ := mem_ready.1 hr
    have htlt : t < ops.size := (Array.getElem?_eq_some_iff.1 hot).1
    by_cases htn : t = l
    · subst htn
      have h1 := List.all_eq_true.1 hs i (List.mem_range.2 hi)
      obtain ⟨j, hj, hj2⟩ := List.any_eq_true.1 h1
      simp only [Bool.and_eq_true, decide_eq_true_eq] at hj2
      obtain ⟨oj, hoj, e, he, hb, hon⟩ := Region.waitsFor_spec hj2.2
      have hjle : j ≤ t := by have := List.mem_range.1 hj; omega
      by_cases hjt : j = t
      · subst hjt
        have : oj = ot := Option.some.inj (hoj.symm.trans hot)
        subst this
        have h2 := hall e he hb
        rw [hon, getD_both hun] at h2
        cases h2
      · cases hl : listed.getD j false with
        | true =>
          have h2 := inv.closed j oj hoj hl e he hb
          rw [hon, getD_both hun] at h2
          cases h2
        | false =>
          have hjs : j < listed.size := by rw [inv.size]; omega
          exact ih (t - j) (by omega) j rfl (by omega) (getD_in hjs hl) t (Nat.le_refl _) hr
    · have h1 := List.all_eq_true.1 hc t (List.mem_range.2 htlt)
      simp only [Bool.or_eq_true, decide_eq_true_eq] at h1
      rcases h1 with h1 | h1
      · omega
      · obtain ⟨u, hu, hu2⟩ := List.any_eq_true.1 h1
        simp only [Bool.and_eq_true, decide_eq_true_eq] at hu2
        obtain ⟨o', ho', e, he, hb, hon⟩ := Region.waitsFor_spec hu2.2
        have : o' = ot := Option.some.inj (ho'.symm.trans hot)
        subst this
        have h2 := hall e he hb
        have hut := List.mem_range.1 hu
        rw [hon, getD_both (inv.tail u hu2.1 (by omega))] at h2
        cases h2
theorem wpAnyF_first2 {i : Nat} {oi : Oper} {v : Value} (hi : ops[i]? = some oi) (hil : i < l) (hsel : ∀ (j : Nat) (o : Oper) cs b, ops[j]? = some o → o.op ≠ .select cs b)
    (hQ : ∀ c a w, Q (.panic c) (a.put oi.dst v) w → Q (.panic c) a w) (hT : tailB2 md ops l = true) :
    ∀ (fuel : Nat) (listed : Array Bool) (a : Act) (w : World), HeadInv md ops l listed →
      (∀ j oj, ops[j]? = some oj → j ≠ i → listed.getD j true = false → (∀ e ∈ oj.after, Region.binds md e = true → e.on ≠ i) → oi.apart ops oj = true) →
      i ∈ Region.ready md ops listed → YieldsIf P ops S oi v a → S w →
      wpAnyF P md ops Q S l fuel (listed.setIfInBounds i true) (a.put oi.dst v) w → wpAnyF P md ops Q S l (fuel + 1) listed a w := by
  intro fuel
  induction fuel with
  | zero =>
    intro listed a w inv hfree hr hy hS H
    refine ⟨fun h => (by rw [h] at hr; cases hr), fun j hj => ?_⟩
    by_cases hji : j = i
    · subst hji; exact hy.wpOp hi hS ⟨fun _ => hS, H⟩
    · have := ready_mono hj hji
      rw [H.1] at this
      cases this
  | succ fuel ih =>
    intro listed a w inv hfree hr hy hS H
    refine ⟨fun h => (by rw [h] at hr; cases hr), fun j hj => ?_⟩
    by_cases hji : j = i
    · subst hji; exact hy.wpOp hi hS ⟨fun _ => hS, H⟩
    · have hun := (mem_ready.1 hr).1
      have hjl : j < l := by
        rcases Nat.lt_or_ge j l with h | h
        · exact h
        · exact absurd hj (tail_waits2 hT inv _ i rfl hil hun j h)
      have h1 := H.2 j (ready_mono hj hji)
      obtain ⟨hjun, oj, hoj, hall⟩ := mem_ready.1 hj
      have hnot : ∀ e ∈ oj.after, Region.binds md e = true → e.on ≠ i := fun e he hb heq => by
        have h1 := hall e he hb
        have h0 := (mem_ready.1 hr).1
        rw [heq] at h1
        rcases Nat.lt_or_ge i listed.size with h' | h'
        · simp [h'] at h0 h1; rw [h0] at h1; cases h1
        · simp [Array.getElem?_eq_none h'] at h1
      have h2 := wpOp_putIf hoj (hfree j oj hoj hji hjun hnot) (fun cs b => hsel i oi cs b hi) (fun cs b => hsel j oj cs b hoj) hQ hy h1
      have hfree' : ∀ k ok, ops[k]? = some ok → k ≠ i → (listed.setIfInBounds j true).getD k true = false →
          (∀ e ∈ ok.after, Region.binds md e = true → e.on ≠ i) → oi.apart ops ok = true := fun k ok hk hki hun hno => by
        refine hfree k ok hk hki ?_ hno
        by_cases hjk : j = k
        · subst hjk; exact hjun
        · rw [getD_set_ne true hjk] at hun; exact hun
      refine wpOp_mono (fun a' w' h3 => ⟨h3.2.1, ih (listed.setIfInBounds j true) a' w' (inv.set hj hjl) hfree' (ready_mono hr (Ne.symm hji)) h3.1 (h3.2.1 hjl) ?_⟩) h2
      rw [Array.setIfInBounds_comm _ _ hji]
      exact h3.2.2
/-- number i is taken first -/
theorem wpAnyF_take2 {i : Nat} {oi : Oper} {fuel : Nat} {listed : Array Bool} {a : Act} {w : World} (v : Value) (hT : tailB2 md ops l = true) (hi : ops[i]? = some oi) (hil : i < l)
    (hs : Region.noSelect ops = true) (hf : Region.free md ops listed i = true) (hr : (Region.ready md ops listed).contains i = true) (hC : closedB md ops l listed = true)
    (hQ : ∀ c a w, Q (.panic c) (a.put oi.dst v) w → Q (.panic c) a w) (hS : S w) (hw : Region.wanted oi (yielded ops a.tmps) = true) (hy : ∀ w, S w → (execOp a.eval oi).run P w = .ok (.value v) w)
    (h : wpAnyF P md ops Q S l fuel (listed.setIfInBounds i true) (a.put oi.dst v) w) : wpAnyF P md ops Q S l (fuel + 1) listed a w :=
  wpAnyF_first2 hi hil (Region.noSelect_spec hs) hQ hT fuel listed a w (closedB_inv hC) (Region.free_spec hi hf) (by simpa using hr) (.inl ⟨hw, hy⟩) hS h
end
end Go.Proofs.YtpbnfinmjnpkpaaGreatDoor

/-
  A region that draws its order: two operations may come up.
-/
namespace Go.Proofs.YtpbnfinmjnpkpaaGreatDoor
open Go
section
variable {P : Program} {ops : Array Oper} {Q : Exit → Act → World → Prop} {md : Region.Mode} {S : World → Prop} {l : Nat}
theorem wpAnyF_two (i j : Nat) {o p : Oper} {fuel : Nat} {listed : Array Bool} {a : Act} {w : World} (hr : Region.ready md ops listed = [i, j]) (ho : ops[i]? = some o) (hp : ops[j]? = some p)
    (h : ∀ K' : Act → World → Prop, Shut (∀ a w, S w → (S w → wpAnyF P md ops Q S l fuel (listed.setIfInBounds i true) a w) → K' a w) → if Region.wanted o (yielded ops a.tmps) = true then Oper.wp P o a w K' Q else K' (a.put o.dst undef) w)
    (g : ∀ K' : Act → World → Prop, Shut (∀ a w, S w → (S w → wpAnyF P md ops Q S l fuel (listed.setIfInBounds j true) a w) → K' a w) → if Region.wanted p (yielded ops a.tmps) = true then Oper.wp P p a w K' Q else K' (a.put p.dst undef) w) :
    wpAnyF P md ops Q S l (fuel + 1) listed a w :=
  ⟨fun h0 => (by rw [hr] at h0; cases h0), fun k hk => by
    rw [hr] at hk
    rcases List.mem_cons.1 hk with rfl | hk
    · exact wpOp_step ho (fun K' hK => h K' (fun a w hS hW => hK a w ⟨fun _ => hS, hW hS⟩))
    · rcases List.mem_cons.1 hk with rfl | hk
      · exact wpOp_step hp (fun K' hK => g K' (fun a w hS hW => hK a w ⟨fun _ => hS, hW hS⟩))
      · cases hk⟩
end
end Go.Proofs.YtpbnfinmjnpkpaaGreatDoor

/-
  A region that draws its order: three operations may come up.
-/
namespace Go.Proofs.YtpbnfinmjnpkpaaGreatDoor
open Go
section
variable {P : Program} {ops : Array Oper} {Q : Exit → Act → World → Prop} {md : Region.Mode} {S : World → Prop} {l : Nat}
theorem wpAnyF_three (i j m : Nat) {o p q : Oper} {fuel : Nat} {listed : Array Bool} {a : Act} {w : World} (hr : Region.ready md ops listed = [i, j, m]) (ho : ops[i]? = some o) (hp : ops[j]? = some p) (hq : ops[m]? = some q)
    (h : ∀ K' : Act → World → Prop, Shut (∀ a w, S w → (S w → wpAnyF P md ops Q S l fuel (listed.setIfInBounds i true) a w) → K' a w) → if Region.wanted o (yielded ops a.tmps) = true then Oper.wp P o a w K' Q else K' (a.put o.dst undef) w)
    (g : ∀ K' : Act → World → Prop, Shut (∀ a w, S w → (S w → wpAnyF P md ops Q S l fuel (listed.setIfInBounds j true) a w) → K' a w) → if Region.wanted p (yielded ops a.tmps) = true then Oper.wp P p a w K' Q else K' (a.put p.dst undef) w)
    (f : ∀ K' : Act → World → Prop, Shut (∀ a w, S w → (S w → wpAnyF P md ops Q S l fuel (listed.setIfInBounds m true) a w) → K' a w) → if Region.wanted q (yielded ops a.tmps) = true then Oper.wp P q a w K' Q else K' (a.put q.dst undef) w) :
    wpAnyF P md ops Q S l (fuel + 1) listed a w :=
  ⟨fun h0 => (by rw [hr] at h0; cases h0), fun k hk => by
    rw [hr] at hk
    rcases List.mem_cons.1 hk with rfl | hk
    · exact wpOp_step ho (fun K' hK => h K' (fun a w hS hW => hK a w ⟨fun _ => hS, hW hS⟩))
    · rcases List.mem_cons.1 hk with rfl | hk
      · exact wpOp_step hp (fun K' hK => g K' (fun a w hS hW => hK a w ⟨fun _ => hS, hW hS⟩))
      · rcases List.mem_cons.1 hk with rfl | hk
        · exact wpOp_step hq (fun K' hK => f K' (fun a w hS hW => hK a w ⟨fun _ => hS, hW hS⟩))
        · cases hk⟩
end
end Go.Proofs.YtpbnfinmjnpkpaaGreatDoor
/-
  One more element behind a slice that is full (cut out of Par2): memory alone.
-/
namespace Go.Proofs.YtpbnfinmjnpkpaaGreatDoor
open Go.RowKit Go.Maps
open Go.Sort (grow)
set_option maxRecDepth 100000
theorem addr0 (b j : Nat) : (⟨b, 0, none⟩ : Addr).add j = ⟨b, j, none⟩ := by
  unfold Addr.add; by_cases h : j = 0 <;> simp [h]
/-- a slice that has no room: what is appended goes to a new block -/
theorem run_push_full {P : Program} (w : World) (base : Nat) (t ty e : TypeId) (i : TypeInfo) (z : Value) (size bytes : Nat) (ht : P.underlying t = some (.slice e)) (hi : P.info? e = some i) (hz : i.zero = some z)
    (hsize : i.size = size) (hby : i.bytes = bytes) (hzs : z.cells.size = size) (g n : Nat) (xs : List Value) (hl : xs.length = n * size) (hg : ∀ j u, xs[j]? = some u → w.cell? ⟨g, j, none⟩ = some u) (hgl : g < w.heap.size)
    (cs : List Value) (m : Nat) (hcs : cs.length = m * size) (hm : 0 < m) (h63 : n + m ≤ maxLen) (hbytes : (n + m) * bytes ≤ 140737488355328) (hbase : base ≤ w.heap.size) :
    ∃ c w', (Builtin.append_ #[t, t] ty #[.slice (some ⟨g, 0, none⟩) n n, .slice (some ⟨w.heap.size, 0, none⟩) m m]).run P (w.alloc (.cells cs.toArray e)) = .ok (.slice (some ⟨w.heap.size + 1, 0, none⟩) (n + m) c) w' ∧
      w'.ownsRow base e size (.slice (some ⟨w.heap.size + 1, 0, none⟩) (n + m) c) (n + m) (xs ++ cs) ∧ Only (fun _ => False) w w' := by
  subst hsize hby
  have hsz : (w.alloc (.cells cs.toArray e)).heap.size = w.heap.size + 1 := by simp
  have hsmall : ((n + m : Nat) : Int) ≤ 9223372036854775807 := by simp only [maxLen] at h63; omega
  have holds : ∀ j u, xs[j]? = some u → (w.alloc (.cells cs.toArray e)).cell? ((⟨g, 0, none⟩ : Addr).add j) = some u := fun j u hu => by
    rw [addr0]
    exact ((below_new w _).cell (p := ⟨g, j, none⟩) hgl).trans (hg j u hu)
  have hnews : ∀ j u, cs[j]? = some u → (w.alloc (.cells cs.toArray e)).cell? ((⟨w.heap.size, 0, none⟩ : Addr).add j) = some u := fun j u hu => by
    rw [addr0, cell_new]
    simpa using hu
  have hr := run_append_grow (P := P) (w.alloc (.cells cs.toArray e)) t ty e i z ht hi hz ⟨g, 0, none⟩ n n xs hl holds ⟨w.heap.size, 0, none⟩ m m cs hcs hnews (by omega) hsmall (growslice_fits (by omega) hbytes)
  rw [hsz] at hr
  have hlen : (xs ++ cs).length = (n + m) * i.size := by rw [List.length_append, hl, hcs, Nat.add_mul]
  have hge := grownCap_ge (w.alloc (.cells cs.toArray e)) (n + m) n e
  have hcm : grownCap (w.alloc (.cells cs.toArray e)) (n + m) n e ≤ maxLen := grownCap_le_maxLen _ (n + m) n e h63
  have hh := heap_alloc_new (w.alloc (.cells cs.toArray e)).drew (.cells (xs.toArray ++ cs.toArray ++ Builtin.zeroCells z.cells (grownCap (w.alloc (.cells cs.toArray e)) (n + m) n e - (n + m))) e)
  have hd : (w.alloc (.cells cs.toArray e)).drew.heap.size = w.heap.size + 1 := hsz
  rw [hd] at hh
  refine ⟨_, _, hr, ⟨hlen, .inr ⟨w.heap.size + 1, _, _, rfl, by omega, hh, hge, hcm, ?_, ?_⟩⟩, ?_⟩
  · simp only [Array.size_append, List.size_toArray, size_zeroCells, hzs, hl, hcs, ← Nat.add_mul]
    congr 1
    omega
  · simp only [Array.toList_append, List.append_assoc]
    rw [← List.append_assoc, ← hlen]
    exact List.take_left
  · refine ⟨rfl, rfl, rfl, by simp; omega, fun k hk _ => ?_⟩
    rw [Below.heap_alloc _ _ _ (by show k < (w.alloc _).heap.size; simp; omega)]
    exact Below.heap_alloc w _ _ hk
/-- a slice of the call's own, or one that has no room, in whatever block -/
def OwnO (w : World) (base : Nat) (e : TypeId) (size : Nat) (v : Value) (n : Nat) (xs : List Value) : Prop :=
  w.ownsRow base e size v n xs ∨ ∃ g, v = .slice (some ⟨g, 0, none⟩) n n ∧ xs.length = n * size ∧ base ≤ g ∧ g < w.heap.size ∧ ∀ j u, xs[j]? = some u → w.cell? ⟨g, j, none⟩ = some u
theorem OwnO.only {w w' : World} {base : Nat} {e : TypeId} {size : Nat} {v : Value} {n : Nat} {xs : List Value} {S : Nat → Prop} (h : OwnO w base e size v n xs) (ho : Only S w w') (hn : ∀ k, v.ownBlock = some k → ¬ S k) : OwnO w' base e size v n xs := by
  rcases h with h | ⟨g, rfl, h1, h2, h3, h4⟩
  · exact .inl (ownsRow_only h ho hn)
  · exact .inr ⟨g, rfl, h1, h2, Nat.lt_of_lt_of_le h3 ho.size, fun j u hu => (ho.cell h3 (hn g rfl)).trans (h4 j u hu)⟩
theorem OwnO.lt {w : World} {base : Nat} {e : TypeId} {size : Nat} {v : Value} {n : Nat} {xs : List Value} (h : OwnO w base e size v n xs) : ∀ k, v.ownBlock = some k → base ≤ k ∧ k < w.heap.size := fun k e => by
  rcases h with h | ⟨g, rfl, _, h2, h3, _⟩
  · exact h.lt k e
  · have e : some g = some k := e
    injection e with e
    omega
theorem wpList_pushO {P : Program} (w : World) {ops : Array Oper} {rest : List Oper} {o : Oper} {a : Act} {Q : Exit → Act → World → Prop} (hgd : o.guard = none) (s x : Operand) (t : TypeId)
    (ho : o.op = .call { callee := .builtin .append, args := #[s, x], argTypes := #[t, t] })
    (base : Nat) (e : TypeId) (i : TypeInfo) (z : Value) (size bytes : Nat) (ht : P.underlying t = some (.slice e)) (hi : P.info? e = some i) (hz : i.zero = some z)
    (hsize : i.size = size) (hby : i.bytes = bytes) (hzs : z.cells.size = size) (hsz : 0 < size)
    (v : Value) (n : Nat) (xs : List Value) (hs : a.eval s = v) (hown : OwnO w base e size v n xs)
    (cs : List Value) (m : Nat) (b : Nat) (hx : a.eval x = .slice (some ⟨b, 0, none⟩) m m) (hbs : b = w.heap.size) (hl : cs.length = m * size) (h1 : ∀ u ∈ cs, u.oneCell' = true) (hm : 0 < m)
    (h63 : n + m ≤ maxLen) (hbytes : (n + m) * bytes ≤ 140737488355328) (hbase : base ≤ w.heap.size)
    (h : ∀ g c w', w'.ownsRow base e size (.slice (some ⟨g, 0, none⟩) (n + m) c) (n + m) (xs ++ cs) → (v.ownBlock = some g ∨ w.heap.size < g) → Only (fun k => v.ownBlock = some k) w w' → wpList P ops Q rest (a.put o.dst (.slice (some ⟨g, 0, none⟩) (n + m) c)) w') :
    wpList P ops Q (o :: rest) a (w.alloc (.cells cs.toArray e)) := by
  rcases hown with hown | ⟨g, rfl, q1, q2, q3, q4⟩
  · exact wpList_push4 w hgd s x t ho base e i z size bytes ht hi hz hsize hby hzs hsz v n xs hs hown cs m b hx hbs hl h1 hm h63 hbytes hbase h
  · rw [hbs] at hx
    refine wpList_plain hgd fun K hK => ?_
    obtain ⟨c, w', hr, h2, h3⟩ := run_push_full (P := P) w base t o.type e i z size bytes ht hi hz hsize hby hzs g n xs q1 q4 q3 cs m hl hm h63 hbytes hbase
    unfold Oper.wp execOp
    simp only [ho, resolve, invoke, builtin, Sem.run_bind, Sem.run_pure, Result.andThen_ok, List.map_toArray, List.map_cons, List.map_nil, hs, hx, hr]
    exact hK _ _ (h (w.heap.size + 1) c w' h2 (.inr (by omega)) (h3.more fun _ _ e => e.elim))
/-- the same at whatever world -/
theorem run_push_fullG {P : Program} (w : World) (base : Nat) (t ty e : TypeId) (i : TypeInfo) (z : Value) (size bytes : Nat) (ht : P.underlying t = some (.slice e)) (hi : P.info? e = some i) (hz : i.zero = some z)
    (hsize : i.size = size) (hby : i.bytes = bytes) (hzs : z.cells.size = size) (g n : Nat) (xs : List Value) (hl : xs.length = n * size) (hg : ∀ j u, xs[j]? = some u → w.cell? ⟨g, j, none⟩ = some u)
    (cs : List Value) (m b : Nat) (hcs : cs.length = m * size) (hnews : ∀ (j : Nat) (u : Value), cs[j]? = some u → w.cell? ((⟨b, 0, none⟩ : Addr).add j) = some u) (hm : 0 < m) (h63 : n + m ≤ maxLen) (hbytes : (n + m) * bytes ≤ 140737488355328) (hbase : base ≤ w.heap.size) :
    ∃ c w', (Builtin.append_ #[t, t] ty #[.slice (some ⟨g, 0, none⟩) n n, .slice (some ⟨b, 0, none⟩) m m]).run P w = .ok (.slice (some ⟨w.heap.size, 0, none⟩) (n + m) c) w' ∧
      w'.ownsRow base e size (.slice (some ⟨w.heap.size, 0, none⟩) (n + m) c) (n + m) (xs ++ cs) ∧ Only (fun _ => False) w w' := by
  subst hsize hby
  have hsmall : ((n + m : Nat) : Int) ≤ 9223372036854775807 := by simp only [maxLen] at h63; omega
  have holds : ∀ j u, xs[j]? = some u → w.cell? ((⟨g, 0, none⟩ : Addr).add j) = some u := fun j u hu => by
    rw [addr0]
    exact hg j u hu
  have hr := run_append_grow (P := P) w t ty e i z ht hi hz ⟨g, 0, none⟩ n n xs hl holds ⟨b, 0, none⟩ m m cs hcs hnews (by omega) hsmall (growslice_fits (by omega) hbytes)
  have hlen : (xs ++ cs).length = (n + m) * i.size := by rw [List.length_append, hl, hcs, Nat.add_mul]
  have hge := grownCap_ge w (n + m) n e
  have hcm : grownCap w (n + m) n e ≤ maxLen := grownCap_le_maxLen _ (n + m) n e h63
  have hh := heap_alloc_new w.drew (.cells (xs.toArray ++ cs.toArray ++ Builtin.zeroCells z.cells (grownCap w (n + m) n e - (n + m))) e)
  have hd : w.drew.heap.size = w.heap.size := rfl
  rw [hd] at hh
  refine ⟨_, _, hr, ⟨hlen, .inr ⟨w.heap.size, _, _, rfl, hbase, hh, hge, hcm, ?_, ?_⟩⟩, ?_⟩
  · simp only [Array.size_append, List.size_toArray, size_zeroCells, hzs, hl, hcs, ← Nat.add_mul]
    congr 1
    omega
  · simp only [Array.toList_append, List.append_assoc]
    rw [← List.append_assoc, ← hlen]
    exact List.take_left
  · refine ⟨rfl, rfl, rfl, Nat.le_of_lt (heap_lt hh), fun k hk _ => ?_⟩
    rw [Below.heap_alloc _ _ _ (by exact hk)]
    rfl
/-- the step at one operation, at whatever world -/
theorem step_pushO {P : Program} (w : World) {ops : Array Oper} {o : Oper} {a : Act} {K : Act → World → Prop} {Q : Exit → Act → World → Prop} {E : Prop} (hgd : o.guard = none) (s x : Operand) (t : TypeId)
    (ho : o.op = .call { callee := .builtin .append, args := #[s, x], argTypes := #[t, t] })
    (base : Nat) (e : TypeId) (i : TypeInfo) (z : Value) (size bytes : Nat) (ht : P.underlying t = some (.slice e)) (hi : P.info? e = some i) (hz : i.zero = some z)
    (hsize : i.size = size) (hby : i.bytes = bytes) (hzs : z.cells.size = size) (hsz : 0 < size)
    (v : Value) (n : Nat) (xs : List Value) (hs : a.eval s = v) (hown : OwnO w base e size v n xs)
    (cs : List Value) (m : Nat) (b : Nat) (hx : a.eval x = .slice (some ⟨b, 0, none⟩) m m) (hl : cs.length = m * size) (hnews : ∀ (j : Nat) (u : Value), cs[j]? = some u → w.cell? ((⟨b, 0, none⟩ : Addr).add j) = some u) (h1 : ∀ u ∈ cs, u.oneCell' = true) (hm : 0 < m)
    (h63 : n + m ≤ maxLen) (hbytes : (n + m) * bytes ≤ 140737488355328) (hbase : base ≤ w.heap.size)
    (h : ∀ g c w', w'.ownsRow base e size (.slice (some ⟨g, 0, none⟩) (n + m) c) (n + m) (xs ++ cs) → (v.ownBlock = some g ∨ w.heap.size ≤ g) → Only (fun k => v.ownBlock = some k) w w' → K (a.put o.dst (.slice (some ⟨g, 0, none⟩) (n + m) c)) w') : if Region.wanted o (yielded ops a.tmps) = true then Oper.wp P o a w K Q else E := by
  have hw : Region.wanted o (yielded ops a.tmps) = true := by simp [Region.wanted, hgd]
  rw [if_pos hw]
  rcases hown with hown | ⟨g, rfl, q1, q2, q3, q4⟩
  · obtain ⟨v', w', hr, ho', hg, _, hblk⟩ := run_append_own_at (P := P) w base t o.type e i z size bytes ht hi hz hsize hby hzs hsz v n xs hown ⟨b, 0, none⟩ m m cs hl hnews h1 h63 hbytes hbase
    unfold Oper.wp execOp
    simp only [ho, resolve, invoke, builtin, Sem.run_bind, Sem.run_pure, Result.andThen_ok, List.map_toArray, List.map_cons, List.map_nil, hs, hx, hr]
    rcases ho'.2 with ⟨_, h0⟩ | ⟨g, c, cur, hv, hrest⟩
    · omega
    · subst hv
      refine h g c w' ho' ?_ ⟨hg.os, hg.tape, hg.output, hg.size, fun k hk hn => hg.block k hk (fun e => hn e.symm)⟩
      rcases hblk with h2 | h2
      · exact .inl (by rw [← h2]; rfl)
      · refine .inr ?_
        have h2 : some g = some w.heap.size := h2
        injection h2 with h2
        rw [h2]
        exact Nat.le_refl _
  · obtain ⟨c, w', hr, h2, h3⟩ := run_push_fullG (P := P) w base t o.type e i z size bytes ht hi hz hsize hby hzs g n xs q1 q4 cs m b hl hnews hm h63 hbytes hbase
    unfold Oper.wp execOp
    simp only [ho, resolve, invoke, builtin, Sem.run_bind, Sem.run_pure, Result.andThen_ok, List.map_toArray, List.map_cons, List.map_nil, hs, hx, hr]
    exact h w.heap.size c w' h2 (.inr (Nat.le_refl _)) (h3.more fun _ _ e => e.elim)
/-- a slice without room: nothing that lay is written -/
def FullS (w : World) (base : Nat) (size : Nat) (v : Value) (n : Nat) (xs : List Value) : Prop :=
  (v = .slice none 0 0 ∧ n = 0 ∧ xs = []) ∨ ∃ g, v = .slice (some ⟨g, 0, none⟩) n n ∧ xs.length = n * size ∧ base ≤ g ∧ g < w.heap.size ∧ ∀ j u, xs[j]? = some u → w.cell? ⟨g, j, none⟩ = some u
theorem step_pushF {P : Program} (w : World) {ops : Array Oper} {o : Oper} {a : Act} {K : Act → World → Prop} {Q : Exit → Act → World → Prop} {E : Prop} (hgd : o.guard = none) (s x : Operand) (t : TypeId)
    (ho : o.op = .call { callee := .builtin .append, args := #[s, x], argTypes := #[t, t] })
    (base : Nat) (e : TypeId) (i : TypeInfo) (z : Value) (size bytes : Nat) (ht : P.underlying t = some (.slice e)) (hi : P.info? e = some i) (hz : i.zero = some z)
    (hsize : i.size = size) (hby : i.bytes = bytes) (hzs : z.cells.size = size) (hsz : 0 < size)
    (v : Value) (n : Nat) (xs : List Value) (hs : a.eval s = v) (hown : FullS w base size v n xs)
    (cs : List Value) (m : Nat) (b : Nat) (hx : a.eval x = .slice (some ⟨b, 0, none⟩) m m) (hl : cs.length = m * size) (hnews : ∀ (j : Nat) (u : Value), cs[j]? = some u → w.cell? ((⟨b, 0, none⟩ : Addr).add j) = some u) (h1 : ∀ u ∈ cs, u.oneCell' = true) (hm : 0 < m)
    (h63 : n + m ≤ maxLen) (hbytes : (n + m) * bytes ≤ 140737488355328) (hbase : base ≤ w.heap.size)
    (h : ∀ g c w', w'.ownsRow base e size (.slice (some ⟨g, 0, none⟩) (n + m) c) (n + m) (xs ++ cs) → w.heap.size ≤ g → Below w.heap.size w w' → K (a.put o.dst (.slice (some ⟨g, 0, none⟩) (n + m) c)) w') : if Region.wanted o (yielded ops a.tmps) = true then Oper.wp P o a w K Q else E := by
  have hb : ∀ {S : Nat → Prop} {w' : World}, (∀ k, ¬ S k) → Only S w w' → Below w.heap.size w w' := fun hS h => h.below' (fun b e => (hS b e).elim) (Nat.le_refl _)
  rcases hown with ⟨rfl, rfl, rfl⟩ | ⟨g, rfl, q1, q2, q3, q4⟩
  · refine step_pushO w hgd s x t ho base e i z size bytes ht hi hz hsize hby hzs hsz _ 0 [] hs (.inl (World.ownsRow_nil _ _ _ _)) cs m b hx hl hnews h1 hm h63 hbytes hbase fun g c w' h2 h3 h4 => h g c w' h2 ?_ (hb (fun k e => by cases e) h4)
    rcases h3 with h3 | h3
    · cases h3
    · exact h3
  · have hw : Region.wanted o (yielded ops a.tmps) = true := by simp [Region.wanted, hgd]
    rw [if_pos hw]
    obtain ⟨c, w', hr, h2, h3⟩ := run_push_fullG (P := P) w base t o.type e i z size bytes ht hi hz hsize hby hzs g n xs q1 q4 cs m b hl hnews hm h63 hbytes hbase
    unfold Oper.wp execOp
    simp only [ho, resolve, invoke, builtin, Sem.run_bind, Sem.run_pure, Result.andThen_ok, List.map_toArray, List.map_cons, List.map_nil, hs, hx, hr]
    exact h w.heap.size c w' h2 (Nat.le_refl _) (hb (fun k e => e) h3)
end Go.Proofs.YtpbnfinmjnpkpaaGreatDoor
/-
  Nodes in memory, outside of the blocks that are written meanwhile (for nodes.Copy).
-/
namespace Go.Proofs.YtpbnfinmjnpkpaaGreatDoor
open Go.RowKit
set_option maxRecDepth 100000
mutual
def NdO (w : World) (S : Nat → Prop) : Gr.Nd → List Value → Prop
  | .mk k n t s l, vs => ∃ SA sc UA uc xs, vs = [.int .u8 (k : Int), Gr.strV n, Gr.strV t, .slice SA s.length sc, .slice UA l.length uc] ∧ RO w S 2 SA s.length (flat Gr.encR2 s) ∧ RO w S 5 UA l.length xs ∧ NdsO w S l xs ∧ l.length ≤ uc
def NdsO (w : World) (S : Nat → Prop) : List Gr.Nd → List Value → Prop
  | [], vs => vs = []
  | x :: l, vs => ∃ a b, vs = a ++ b ∧ NdO w S x a ∧ NdsO w S l b
end
mutual
theorem NdO.only {w w' : World} {S S' : Nat → Prop} (ho : Only S w w') (hS : ∀ b, b < w.heap.size → S' b → S b) : ∀ (t : Gr.Nd) (vs : List Value), NdO w S t vs → NdO w' S' t vs
  | .mk _ _ _ _ l, _, h => by
    unfold NdO at h ⊢
    obtain ⟨SA, sc, UA, uc, xs, h1, h2, h3, h4, h5⟩ := h
    exact ⟨SA, sc, UA, uc, xs, h1, h2.only ho hS, h3.only ho hS, NdsO.only ho hS l xs h4, h5⟩
theorem NdsO.only {w w' : World} {S S' : Nat → Prop} (ho : Only S w w') (hS : ∀ b, b < w.heap.size → S' b → S b) : ∀ (l : List Gr.Nd) (vs : List Value), NdsO w S l vs → NdsO w' S' l vs
  | [], _, h => by unfold NdsO at h ⊢; exact h
  | t :: l, _, h => by
    unfold NdsO at h ⊢
    obtain ⟨a, b, h1, h2, h3⟩ := h
    exact ⟨a, b, h1, NdO.only ho hS t a h2, NdsO.only ho hS l b h3⟩
end
mutual
theorem NdO.toNd {w : World} {S : Nat → Prop} : ∀ (t : Gr.Nd) (vs : List Value), NdO w S t vs → NdR w w.heap.size t vs
  | .mk _ _ _ _ l, _, h => by
    unfold NdO at h
    unfold NdR
    obtain ⟨SA, sc, UA, uc, xs, h1, h2, h3, h4, h5⟩ := h
    exact ⟨SA, sc, UA, uc, xs, h1, h2.reads, h3.reads, NdsO.toNds l xs h4, h5⟩
theorem NdsO.toNds {w : World} {S : Nat → Prop} : ∀ (l : List Gr.Nd) (vs : List Value), NdsO w S l vs → NdsR w w.heap.size l vs
  | [], _, h => by unfold NdsO at h; unfold NdsR; exact h
  | t :: l, _, h => by
    unfold NdsO at h
    unfold NdsR
    obtain ⟨a, b, h1, h2, h3⟩ := h
    exact ⟨a, b, h1, NdO.toNd t a h2, NdsO.toNds l b h3⟩
end
theorem NdsO.snoc {w : World} {S : Nat → Prop} {x : Gr.Nd} {b : List Value} (hb : NdO w S x b) : ∀ (l : List Gr.Nd) (a : List Value), NdsO w S l a → NdsO w S (l ++ [x]) (a ++ b)
  | [], a, h => by
    unfold NdsO at h
    subst h
    rw [List.nil_append, List.nil_append, NdsO]
    exact ⟨b, [], (List.append_nil b).symm, hb, by rw [NdsO]⟩
  | y :: l, a, h => by
    unfold NdsO at h
    obtain ⟨c, d, rfl, h2, h3⟩ := h
    rw [List.cons_append, NdsO]
    exact ⟨c, d ++ b, List.append_assoc _ _ _, h2, NdsO.snoc hb l d h3⟩
end Go.Proofs.YtpbnfinmjnpkpaaGreatDoor
/-
  slices.Clone at int: the walk.
-/
namespace Go.Proofs.YtpbnfinmjnpkpaaGreatDoor
open Go.RowKit
set_option maxRecDepth 100000
theorem infoZ : (Tryz.prog.info? 3).map (fun i => (i.zero, i.size, i.bytes)) = some (some (.int .i64 0), 1, 8) := by kernel_rfl
theorem info_of {P : Program} {T : TypeId} {z : Value} {s b : Nat} (h : (P.info? T).map (fun i => (i.zero, i.size, i.bytes)) = some (some z, s, b)) : ∃ i, P.info? T = some i ∧ i.zero = some z ∧ i.size = s ∧ i.bytes = b := by
  cases hi : P.info? T with
  | none => rw [hi] at h; cases h
  | some i =>
    rw [hi] at h
    simp only [Option.map_some, Option.some.injEq, Prod.mk.injEq] at h
    exact ⟨i, rfl, h.1, h.2.1, h.2.2⟩
/-- what a clone is -/
def CloneP (T : TypeId) (size n : Nat) (xs : List Value) (w : World) (e : Ending) (w' : World) : Prop :=
  ∃ A c, e = .returned (.slice A n c) ∧ w'.ownsRow w.heap.size T size (.slice A n c) n xs ∧ Below w.heap.size w w'
theorem addr_off (b off j : Nat) : (⟨b, off, none⟩ : Addr).add j = ⟨b, off + j, none⟩ := by
  unfold Addr.add
  by_cases h : j = 0 <;> simp [h]
theorem reads_some {w : World} {B size n : Nat} {a : Addr} {xs : List Value} (h : Reads w B size (some a) n xs) (_ : 0 < size) : ∀ j u, xs[j]? = some u → w.cell? (a.add j) = some u := by
  intro j u hu
  have hj : j < xs.length := (List.getElem?_eq_some_iff.1 hu).1
  have hn : 0 < n := by
    rcases Nat.eq_zero_or_pos n with e | e
    · rw [h.1, e] at hj; omega
    · exact e
  obtain ⟨b, off, e, _, hc⟩ := h.2 hn
  injection e with e
  rw [e, addr_off]
  exact hc j u hu
set_option maxHeartbeats 2000000 in
theorem cloneZ_any (A : Option Addr) (n c B : Nat) (xs : List Value) (w : World) (hn : n ≤ 1000000000) (hr : Reads w B 1 A n xs) (h1 : ∀ u ∈ xs, u.oneCell' = true) :
    Calls Tryz.prog 49 #[.slice A n c] w (CloneP 3 1 n xs w) := by
  obtain ⟨i0, hi, hz0, hz1, hz2⟩ := info_of infoZ
  have q22 : ∀ (w : World) (a : Option Addr) (n c n' c' : Nat), (binOp .eql 25 (.slice a n c) (.slice none n' c')).run Tryz.prog w = .ok (.bool a.isNone) w := fun w a n c n' c' => Lib.run_eql_slice_nil w _ _ a n c n' c' Tryz.underlying25
  cases A with
  | none =>
    have hn0 : n = 0 := by
      rcases Nat.eq_zero_or_pos n with e | e
      · exact e
      · obtain ⟨b, off, e, _⟩ := hr.2 e; cases e
    subst hn0
    have hx : xs = [] := List.length_eq_zero_iff.1 (by rw [hr.1, Nat.zero_mul])
    subst hx
    clear hr h1
    go_enter Tryz.func49, Tryz.ntmps49
    go_wp2
    go_ret
    exact ⟨none, 0, rfl, World.ownsRow_nil _ _ _ _, Below.refl _ _⟩
  | some a =>
    have hcell := reads_some hr (by decide)
    have HLn := hid hr.1
    clear hr
    have HC := hid hcell
    clear hcell
    go_enter Tryz.func49, Tryz.ntmps49
    go_wp2_with (at_builtin; refine wpList_append_own _ rfl _ _ 25 rfl w.heap.size 3 i0 _ 1 8 Tryz.underlying25 hi hz0 hz1 hz2 rfl (by decide) _ _ _ rfl (World.ownsRow_made w #[] 0 (Nat.le_refl _) (Nat.zero_le _) rfl) a n c xs rfl ?qc1 ?qc2 ?qc3 ?qc4 ?qc5 ?qc6 ?_)
    case qc1 => exact HLn.out
    case qc2 =>
      intro j u hj
      exact Lib.cell?_alloc_some _ (HC.out j u hj)
    case qc3 => exact h1
    case qc4 => unfold maxLen; omega
    case qc5 => omega
    case qc6 => simp
    intro v' w1 hown hgrow hnil
    go_wp2
    go_ret
    have hown : w1.ownsRow w.heap.size 3 1 v' n xs := by simpa using hown
    obtain ⟨A', c', rfl⟩ := row_form hown
    exact ⟨A', c', rfl, hown, ((Below.refl _ w).alloc (Nat.le_refl _) _).grown hgrow (by simp) (by intro k hk; simp [Value.ownBlock] at hk; omega)⟩
end Go.Proofs.YtpbnfinmjnpkpaaGreatDoor
/-
  slices.Clone at ranges, slices.Clip at ranges and at nodes (for nodes.Copy): the walks.
-/
namespace Go.Proofs.YtpbnfinmjnpkpaaGreatDoor
open Go.RowKit
set_option maxRecDepth 100000
theorem infoR2 : (Tryz.prog.info? 200).map (fun i => (i.zero, i.size, i.bytes)) = some (some (.agg #[.int .i32 0, .int .i32 0]), 2, 8) := by kernel_rfl
set_option maxHeartbeats 2000000 in
theorem cloneR2_any (A : Option Addr) (n c B : Nat) (xs : List Value) (w : World) (hn : n ≤ 1000000000) (hr : Reads w B 2 A n xs) (h1 : ∀ u ∈ xs, u.oneCell' = true) :
    Calls Tryz.prog 114 #[.slice A n c] w (CloneP 200 2 n xs w) := by
  obtain ⟨i0, hi, hz0, hz1, hz2⟩ := info_of infoR2
  have q22 : ∀ (w : World) (a : Option Addr) (n c n' c' : Nat), (binOp .eql 72 (.slice a n c) (.slice none n' c')).run Tryz.prog w = .ok (.bool a.isNone) w := fun w a n c n' c' => Lib.run_eql_slice_nil w _ _ a n c n' c' Tryz.underlying72
  cases A with
  | none =>
    have hn0 : n = 0 := by
      rcases Nat.eq_zero_or_pos n with e | e
      · exact e
      · obtain ⟨b, off, e, _⟩ := hr.2 e; cases e
    subst hn0
    have hx : xs = [] := List.length_eq_zero_iff.1 (by rw [hr.1, Nat.zero_mul])
    subst hx
    clear hr h1
    go_enter Tryz.func114, Tryz.ntmps114
    go_wp2
    go_ret
    exact ⟨none, 0, rfl, World.ownsRow_nil _ _ _ _, Below.refl _ _⟩
  | some a =>
    have hcell := reads_some hr (by decide)
    have HLn := hid hr.1
    clear hr
    have HC := hid hcell
    clear hcell
    go_enter Tryz.func114, Tryz.ntmps114
    go_wp2_with (at_builtin; refine wpList_append_own _ rfl _ _ 72 rfl w.heap.size 200 i0 _ 2 8 Tryz.underlying72 hi hz0 hz1 hz2 rfl (by decide) _ _ _ rfl (World.ownsRow_made w #[] 0 (Nat.le_refl _) (Nat.zero_le _) rfl) a n c xs rfl ?qc1 ?qc2 ?qc3 ?qc4 ?qc5 ?qc6 ?_)
    case qc1 => exact HLn.out
    case qc2 =>
      intro j u hj
      exact Lib.cell?_alloc_some _ (HC.out j u hj)
    case qc3 => exact h1
    case qc4 => unfold maxLen; omega
    case qc5 => omega
    case qc6 => simp
    intro v' w1 hown hgrow hnil
    go_wp2
    go_ret
    have hown : w1.ownsRow w.heap.size 200 2 v' n xs := by simpa using hown
    obtain ⟨A', c', rfl⟩ := row_form hown
    exact ⟨A', c', rfl, hown, ((Below.refl _ w).alloc (Nat.le_refl _) _).grown hgrow (by simp) (by intro k hk; simp [Value.ownBlock] at hk; omega)⟩
theorem clipR2_any (A : Option Addr) (n c : Nat) (w : World) (hc : n ≤ c) : Calls Tryz.prog 113 #[.slice A n c] w fun e w' => e = .returned (.slice A n n) ∧ w = w' := by
  go_enter Tryz.func113, Tryz.ntmps113
  go_wp2
  go_ret
  exact ⟨rfl, rfl⟩
theorem clipNd_any (A : Option Addr) (n c : Nat) (w : World) (hc : n ≤ c) : Calls Tryz.prog 115 #[.slice A n c] w fun e w' => e = .returned (.slice A n n) ∧ w = w' := by
  go_enter Tryz.func115, Tryz.ntmps115
  go_wp2
  go_ret
  exact ⟨rfl, rfl⟩
end Go.Proofs.YtpbnfinmjnpkpaaGreatDoor
/-
  A node in new memory (nodes.Copy): the walk. UNDER WAY.
-/
namespace Go.Proofs.YtpbnfinmjnpkpaaGreatDoor
open Go.RowKit
set_option maxRecDepth 100000
section
variable {w0 : World} {B : Nat}
theorem infoNd : (Tryz.prog.info? 74).map (fun i => (i.zero, i.size, i.bytes)) = some (some (.agg #[.int .u8 0, .string ⟨#[]⟩, .string ⟨#[]⟩, .slice none 0 0, .slice none 0 0]), 5, 88) := by kernel_rfl
def CopyP (n : Gr.Nd) (W : World) (e : Ending) (W' : World) : Prop := ∃ cs, e = .returned (.agg cs) ∧ NdO W' (fun b => b < W.heap.size) n cs.toList ∧ Below W.heap.size W W'
/-- how far the copy is -/
structure CoI (W : World) (g rb b2 sl : Nat) (kz : Int) (nm t : ByteArray) (A3 : Option Addr) (s : List (Int × Int)) (l : List Gr.Nd) (j : Nat) (v : Value) (u : World) : Prop where
  box : u.heap[g]? = some (.cells #[.int .u8 kz, .string nm, .string t, .slice A3 sl sl, v] 74 (0, 0))
  res : u.heap[rb]? = some (.cells #[.int .u8 0, .string ⟨#[]⟩, .string ⟨#[]⟩, .slice none 0 0, .slice none 0 0] 74 (0, 0))
  row : ∃ xs, u.ownsRow b2 74 5 v j xs ∧ NdsO u (fun b => b < b2 ∨ v.ownBlock = some b) (l.take j) xs
  set : RO u (fun b => b < b2 ∨ v.ownBlock = some b) 2 A3 sl (flat Gr.encR2 s)
  below : Below W.heap.size W u
  size : b2 ≤ u.heap.size
theorem CoI.step {W wr w9 w10 : World} {g rb b2 sl : Nat} {kz : Int} {nm t : ByteArray} {A3 : Option Addr} {s : List (Int × Int)} {l : List Gr.Nd} {j : Nat} {v : Value} {xs cs9 : List Value} {m8 gg c : Nat} (HI : CoI W g rb b2 sl kz nm t A3 s l j v wr) (hj : j < l.length)
    (hg : g < rb) (hrb : rb < b2) (hW : W.heap.size ≤ g) (hown : wr.ownsRow b2 74 5 v j xs) (hnds : NdsO wr (fun b => b < b2 ∨ v.ownBlock = some b) (l.take j) xs) (h9 : Below wr.heap.size wr w9) (hn9 : NdO w9 (fun b => b < m8) l[j] cs9) (hm8 : wr.heap.size ≤ m8)
    (h10 : w10.ownsRow b2 74 5 (.slice (some ⟨gg, 0, none⟩) (j + 1) c) (j + 1) (xs ++ cs9)) (hgg : v.ownBlock = some gg ∨ w9.heap.size < gg) (ho : Only (fun k => v.ownBlock = some k) w9 w10) :
    CoI W g rb b2 sl kz nm t A3 s l (j + 1) (.slice (some ⟨gg, 0, none⟩) (j + 1) c) (w10.setCell ⟨g, 4, none⟩ (.slice (some ⟨gg, 0, none⟩) (j + 1) c)) := by
  have hlt : ∀ k, v.ownBlock = some k → b2 ≤ k ∧ k < wr.heap.size := fun k e => hown.lt k e
  have hbox9 := (h9.block _ (heap_lt HI.box)).trans HI.box
  have hres9 := (h9.block _ (heap_lt HI.res)).trans HI.res
  have hbox10 := (ho.block _ (heap_lt hbox9) (fun e => by have := (hlt _ e).1; omega)).trans hbox9
  have hres10 := (ho.block _ (heap_lt hres9) (fun e => by have := (hlt _ e).1; omega)).trans hres9
  have hs := heap_setCell_same w10 g 4 _ _ (.slice (some ⟨gg, 0, none⟩) (j + 1) c) hbox10
  simp only [List.setIfInBounds_toArray, List.set_cons_succ, List.set_cons_zero] at hs
  have hos := Only.of_set w10 g 4 (.slice (some ⟨gg, 0, none⟩) (j + 1) c)
  have hg10 := (h10.lt gg rfl).1
  have hsz9 := h9.size
  have hsz10 := ho.size
  have hS : ∀ b, b < wr.heap.size → (b < b2 ∨ (Value.slice (some ⟨gg, 0, none⟩) (j + 1) c).ownBlock = some b) → (b < b2 ∨ v.ownBlock = some b) := by
    rintro b hb (e | e)
    · exact .inl e
    · rcases hgg with h | h
      · have e : gg = b := by injection e
        exact .inr (e ▸ h)
      · have e : gg = b := by injection e
        omega
  have ho9 : Only (fun b => b < b2 ∨ v.ownBlock = some b) wr w10 := (Only.of_below h9).trans (ho.more fun b _ e => .inr e) (fun _ _ e => e)
  have ho11 : Only (fun b => b < b2 ∨ v.ownBlock = some b) wr (w10.setCell ⟨g, 4, none⟩ (.slice (some ⟨gg, 0, none⟩) (j + 1) c)) := ho9.trans (hos.more fun b _ e => (.inl (by omega) : b < b2 ∨ v.ownBlock = some b)) (fun _ _ e => e)
  refine ⟨hs, (hos.block _ (heap_lt hres10) (by omega)).trans hres10, ⟨xs ++ cs9, ownsRow_only h10 hos (fun k hk e => by have := (h10.lt k hk).1; omega), ?_⟩, HI.set.only ho11 hS, ?_, ?_⟩
  · rw [List.take_succ_eq_append_getElem hj]
    refine NdsO.snoc ?_ _ _ (NdsO.only ho11 hS _ _ hnds)
    have hon : Only (fun b => b < m8) w9 (w10.setCell ⟨g, 4, none⟩ (.slice (some ⟨gg, 0, none⟩) (j + 1) c)) := by
      have hgw := heap_lt HI.box
      exact Only.trans (ho.more fun b _ e => (by have := (hlt b e).2; omega : b < m8)) (hos.more fun b _ e => (by omega : b < m8)) (fun _ _ e => e)
    refine NdO.only hon ?_ _ _ hn9
    rintro b hb (e | e)
    · have := HI.size; omega
    · have e : gg = b := by injection e
      rcases hgg with h | h
      · have := (hlt gg h).2; omega
      · omega
  · exact hos.below (fun b e => by omega) (ho.below (fun b e => by have := (hlt b e).1; omega) (HI.below.trans (h9.mono HI.below.size)) (Nat.le_trans HI.below.size hsz9)) (Nat.le_trans (Nat.le_trans HI.below.size hsz9) hsz10)
  · exact Nat.le_trans (Nat.le_trans (Nat.le_trans HI.size hsz9) hsz10) hos.size
set_option maxHeartbeats 8000000 in
theorem copy_step (k : Nat) (nm t : List UInt8) (s : List (Int × Int)) (l : List Gr.Nd) (vs : List Value) (W : World) (hn : NdR w0 B (.mk k nm t s l) vs) (hb : Below B w0 W) (hB : B ≤ W.heap.size) (hs : s.length ≤ 1000000) (hl : l.length ≤ 1000000)
    (ih : ∀ x ∈ l, ∀ (cs : List Value) (u : World), NdR w0 B x cs → Below B w0 u → B ≤ u.heap.size → Calls Tryz.prog 81 #[.agg cs.toArray] u (CopyP x u)) :
    Calls Tryz.prog 81 #[.agg vs.toArray] W (CopyP (.mk k nm t s l) W) := by
  unfold NdR at hn
  obtain ⟨SA, sc, UA, uc, xs, rfl, hS, hU, hnx, huc⟩ := hn
  obtain ⟨kz, hkz⟩ : ∃ z : Int, (k : Int) = z := ⟨_, rfl⟩
  have HKZ := hid hkz
  rw [hkz]
  clear hkz
  have HCL := hid (fun (u : World) (hu : Below B w0 u) (hBu : B ≤ u.heap.size) => cloneR2_any SA s.length sc u.heap.size (flat Gr.encR2 s) u (by omega) ((hS.below hu).more hBu) (by
    intro v hv
    unfold flat at hv
    obtain ⟨p, _, hp⟩ := List.mem_flatMap.1 hv
    obtain ⟨p1, p2⟩ := p
    simp [Gr.encR2] at hp
    rcases hp with rfl | rfl <;> rfl))
  obtain ⟨sl, hsl⟩ : ∃ q, s.length = q := ⟨_, rfl⟩
  obtain ⟨n, hnl⟩ : ∃ q, l.length = q := ⟨_, rfl⟩
  have HSL := hid hsl
  have HNL := hid hnl
  rw [hsl] at HCL ⊢
  rw [hnl] at huc ⊢
  unfold Gr.strV at *
  have HU := hid hU
  have HX := hid hnx
  have HB := hid (And.intro hb hB)
  have IH := hid ih
  have HSS := hid (And.intro hs hl)
  clear hS hU hnx hb hB ih hs hl hsl hnl
  have h1 := heap_alloc_new W (.cells #[.int .u8 kz, .string ⟨nm.toArray⟩, .string ⟨t.toArray⟩, .slice SA sl sc, .slice UA n uc] 74)
  have hb1 := below_new W (.cells #[.int .u8 kz, .string ⟨nm.toArray⟩, .string ⟨t.toArray⟩, .slice SA sl sc, .slice UA n uc] 74)
  obtain ⟨W1, hW1⟩ : ∃ W1, Hid (W.alloc (.cells #[.int .u8 kz, .string ⟨nm.toArray⟩, .string ⟨t.toArray⟩, .slice SA sl sc, .slice UA n uc] 74) = W1) := ⟨_, hid rfl⟩
  rw [hW1.out] at h1 hb1
  go_enter Tryz.func81, Tryz.ntmps81
  go_upto_region 1 with fail
  have hz1 : W1.heap.size = W.heap.size + 1 := by rw [← hW1.out]; simp
  rw [hW1.out]
  clear hW1
  have h2 := heap_alloc_new W1 (.cells #[.int .u8 0, .string ⟨#[]⟩, .string ⟨#[]⟩, .slice none 0 0, .slice none 0 0] 74)
  have hb2 := below_new W1 (.cells #[.int .u8 0, .string ⟨#[]⟩, .string ⟨#[]⟩, .slice none 0 0, .slice none 0 0] 74)
  have hg2 := (hb2.block _ (heap_lt h1)).trans h1
  generalize W1.alloc (.cells #[.int .u8 0, .string ⟨#[]⟩, .string ⟨#[]⟩, .slice none 0 0, .slice none 0 0] 74) = W2 at h2 hb2 hg2 ⊢
  rw [hz1] at h2
  obtain ⟨rb, hrb⟩ : ∃ q, W.heap.size + 1 = q := ⟨_, rfl⟩
  rw [hrb] at h2 ⊢
  have hlt1 : W.heap.size < rb := by omega
  have hWb2 : Below W.heap.size W W2 := hb1.trans (hb2.mono hb1.size)
  have hcl := HCL.out W2 (HB.out.1.trans (hWb2.mono HB.out.2)) (Nat.le_trans HB.out.2 hWb2.size)
  have HC2 := hid hcl
  have HG2 := hid hg2
  have HR2 := hid h2
  have HW2 := hid hWb2
  have HLT := hid hlt1
  have g3 : W2.cell? ⟨W.heap.size, 3, none⟩ = some (.slice SA sl sc) := by rw [Lib.cell_of_heap hg2]; rfl
  clear hcl hg2 h2 hWb2 hlt1 hb2 hrb h1 hb1 HCL hz1
  go_upto_region 2 with (first
    | (go_at_call 114; refine HC2.out.mono ?_; rintro _ W3 ⟨A3, c3, rfl, ho3, hb3⟩; have HO3 := hid ho3; have HB3 := hid hb3; have hc3 : sl ≤ c3 := (by obtain ⟨A', c', hv, _, h9⟩ := Reads.own ho3; injection hv with _ _ hv; omega); have HCP := hid (clipR2_any A3 sl c3 W3 hc3); have q3 := (hb3.block _ (heap_lt HG2.out)).trans HG2.out; have HQ3 := hid q3; have q4 : ∃ v, W3.cell? ⟨W.heap.size, 3, none⟩ = some v := ⟨_, by rw [Lib.cell_of_heap q3]; rfl⟩; obtain ⟨v4, q4⟩ := q4; have q5 := Lib.frozen_of_heap q3 3; clear ho3 hb3 hc3 q3 g3)
    | (go_at_call 113; refine HCP.out.mono ?_; rintro _ w4 ⟨rfl, rfl⟩))
  have hh4 := heap_setCell_same W3 W.heap.size 3 _ _ (.slice A3 sl sl) HQ3.out
  simp only [List.setIfInBounds_toArray, List.set_cons_succ, List.set_cons_zero] at hh4
  have ho4 := Only.of_set W3 W.heap.size 3 (.slice A3 sl sl)
  generalize W3.setCell ⟨W.heap.size, 3, none⟩ (.slice A3 sl sl) = W4 at hh4 ho4 ⊢
  have HO4 := hid ho4
  have HH4 := hid hh4
  have c4 : W4.cell? ⟨W.heap.size, 4, none⟩ = some (.slice UA n uc) := by rw [Lib.cell_of_heap hh4]; rfl
  have f4 := Lib.frozen_of_heap hh4 4
  clear q4 q5 hh4 ho4
  go_upto_region 4 with fail
  have hh5 := heap_setCell_same W4 W.heap.size 4 _ _ (.slice none 0 0) HH4.out
  simp only [List.setIfInBounds_toArray, List.set_cons_succ, List.set_cons_zero] at hh5
  have ho5 := Only.of_set W4 W.heap.size 4 (.slice none 0 0)
  generalize W4.setCell ⟨W.heap.size, 4, none⟩ (.slice none 0 0) = W5 at hh5 ho5 ⊢
  have hgb : W.heap.size < W2.heap.size := heap_lt HG2.out
  have hrs : RO W3 (fun b => b < W2.heap.size ∨ (Value.slice none 0 0).ownBlock = some b) 2 A3 sl (flat Gr.encR2 s) := by
    have h2 := RO.of_reads (S := fun _ => False) (Reads.of_own HO3.out) (Nat.le_refl _) (fun _ e => e.elim)
    refine ⟨h2.1, fun hn => ?_⟩
    obtain ⟨b, off, e, hb, _, hc⟩ := h2.2 hn
    subst e
    refine ⟨b, off, rfl, hb, fun hs => ?_, hc⟩
    rcases hs with hs | hs
    · have := (ownC_lt (OwnC.of HO3.out) b rfl).1
      omega
    · cases hs
  have hco : CoI W W.heap.size rb W2.heap.size sl kz ⟨nm.toArray⟩ ⟨t.toArray⟩ A3 s l 0 (.slice none 0 0) W5 := by
    have hS : ∀ b, b = W.heap.size → (b < W2.heap.size ∨ (Value.slice none 0 0).ownBlock = some b) := fun b e => .inl (by omega)
    refine ⟨hh5, ?_, ⟨[], World.ownsRow_nil _ _ _ _, by rw [List.take_zero, NdsO]⟩, ?_, ?_, ?_⟩
    · rw [ho5.block rb (Nat.lt_of_lt_of_le (Nat.lt_of_lt_of_le (heap_lt HR2.out) HB3.out.size) HO4.out.size) (by have := HLT.out; omega), HO4.out.block rb (Nat.lt_of_lt_of_le (heap_lt HR2.out) HB3.out.size) (by have := HLT.out; omega), HB3.out.block rb (heap_lt HR2.out)]
      exact HR2.out
    · exact (hrs.only (HO4.out.more fun b _ e => hS b e) fun _ _ e => e).only (ho5.more fun b _ e => hS b e) fun _ _ e => e
    · exact (ho5.below (fun b e => by omega) ((HO4.out.below (fun b e => by omega) (HW2.out.trans (HB3.out.mono HW2.out.size)) (Nat.le_trans HW2.out.size HB3.out.size))) (Nat.le_trans (Nat.le_trans HW2.out.size HB3.out.size) HO4.out.size))
    · exact Nat.le_trans (Nat.le_trans HB3.out.size HO4.out.size) ho5.size
  have HCO := hid hco
  have hb20 : rb < W2.heap.size := heap_lt HR2.out
  generalize W2.heap.size = b2 at HCO hb20
  have HGB := hid (And.intro HLT.out hb20)
  clear hco hrs hgb hh5 ho5 c4 f4 HH4 HO4 HQ3 HO3 HB3 HCP HC2 HG2 HR2 HW2 HLT hb20
  go_upto_region 5 with fail
  go_loopw [5, 16] (fun _ iv wr => ∃ (j : Nat), j ≤ n ∧ iv = .int .i64 (j : Int) ∧ ∃ v, Hid (CoI W W.heap.size rb b2 sl kz ⟨nm.toArray⟩ ⟨t.toArray⟩ A3 s l j v wr)) (fun _ iv _ => n - (intOf iv).toNat)
  case atStart => exact ⟨0, Nat.zero_le _, rfl, _, HCO⟩
  case round =>
    clear HCO
    obtain ⟨j, hj, rfl, v, HI⟩ := hrel
    by_cases hlt : j < n
    · have hjl : j < l.length := by have := HNL.out; omega
      have hU2 : Reads w0 B 5 UA l.length xs := HU.out
      obtain ⟨xs2, hown2, hnds2⟩ := HI.out.row
      obtain ⟨A8, c8, rfl⟩ := row_form hown2
      have HOWN := hid hown2
      have HNDS := hid hnds2
      clear hown2 hnds2
      obtain ⟨b, o, u0, u1, u2, u3, u4, rfl, hbB, hnd, c0, c1, c2, c3, c4⟩ := readsNd hU2 HX.out j hjl
      obtain ⟨xk, xm, xt, xSA, xa, xsc, xUA, xb, xuc, hv⟩ := hnd.form
      cases hv
      have hbw : Below B w0 wr := HB.out.1.trans (HI.out.below.mono HB.out.2)
      have c0 := (hbw.cell (p := ⟨b, o + j * 5, none⟩) hbB).trans c0
      have c1 := (hbw.cell (p := ⟨b, o + j * 5 + 1, none⟩) hbB).trans c1
      have c2 := (hbw.cell (p := ⟨b, o + j * 5 + 2, none⟩) hbB).trans c2
      have c3 := (hbw.cell (p := ⟨b, o + j * 5 + 3, none⟩) hbB).trans c3
      have c4 := (hbw.cell (p := ⟨b, o + j * 5 + 4, none⟩) hbB).trans c4
      have HND := hid hnd
      clear hnd hU2 hbw
      go_upto_region 7 with fail
      have h8 := heap_alloc_new wr (.cells #[.int .u8 xk, .string xm, .string xt, .slice xSA xa xsc, .slice xUA xb xuc] 74)
      have hb8 := below_new wr (.cells #[.int .u8 xk, .string xm, .string xt, .slice xSA xa xsc, .slice xUA xb xuc] 74)
      generalize wr.alloc (.cells #[.int .u8 xk, .string xm, .string xt, .slice xSA xa xsc, .slice xUA xb xuc] 74) = W8 at h8 hb8 ⊢
      obtain ⟨i0, hi0, hz0, hsz0, hy0⟩ := info_of infoNd
      have hmx : j + 1 ≤ maxLen := by have := HSS.out.2; simp only [maxLen]; omega
      have hmy : (j + 1) * 88 ≤ 140737488355328 := by have := HSS.out.2; omega
      have hw8 : Below W.heap.size W W8 := HI.out.below.trans (hb8.mono HI.out.below.size)
      have IHJ := hid (IH.out l[j] (List.getElem_mem hjl) _ W8.drew HND.out (HB.out.1.trans (hw8.mono HB.out.2)).drew (Nat.le_trans HB.out.2 hw8.size))
      have hq8 := (hb8.block _ (heap_lt HI.out.box)).trans HI.out.box
      have HB8 := hid hb8
      have HQ8 := hid hq8
      have HH8 := hid h8
      have HST := hid (fun (w' : World) (hb : w'.heap[W.heap.size]? = some (.cells #[.int .u8 kz, .string ⟨nm.toArray⟩, .string ⟨t.toArray⟩, .slice A3 sl sl, .slice A8 j c8] 74 (0, 0))) (hx : w'.heap[wr.heap.size]? = some (.cells #[.int .u8 xk, .string xm, .string xt, .slice xSA xa xsc, .slice xUA xb xuc] 74 (0, 0))) =>
        (show w'.cell? ⟨W.heap.size, 4, none⟩ = some (.slice A8 j c8) ∧ w'.cell? ⟨wr.heap.size, 0, none⟩ = some (.int .u8 xk) ∧ w'.cell? ⟨wr.heap.size, 1, none⟩ = some (.string xm) ∧ w'.cell? ⟨wr.heap.size, 2, none⟩ = some (.string xt) ∧ w'.cell? ⟨wr.heap.size, 3, none⟩ = some (.slice xSA xa xsc) ∧ w'.cell? ⟨wr.heap.size, 4, none⟩ = some (.slice xUA xb xuc) from by
          rw [Lib.cell_of_heap hb, Lib.cell_of_heap hx, Lib.cell_of_heap hx, Lib.cell_of_heap hx, Lib.cell_of_heap hx, Lib.cell_of_heap hx]
          exact ⟨rfl, rfl, rfl, rfl, rfl, rfl⟩))
      have hS8 := HST.out W8 hq8 h8
      obtain ⟨i0, hi0, hz0, hsz0, hy0⟩ := info_of infoNd
      have hmx : j + 1 ≤ maxLen := by have := HSS.out.2; simp only [maxLen]; omega
      have hmy : (j + 1) * 88 ≤ 140737488355328 := by have := HSS.out.2; omega
      have hzz := heap_lt h8
      have hzb := heap_lt hq8
      clear hw8 hq8 h8 hb8 c0 c1 c2 c3 c4
      refine wp_region_last (l := 7) (S := fun w' => w'.cell? ⟨W.heap.size, 4, none⟩ = some (.slice A8 j c8) ∧ w'.cell? ⟨wr.heap.size, 0, none⟩ = some (.int .u8 xk) ∧ w'.cell? ⟨wr.heap.size, 1, none⟩ = some (.string xm) ∧ w'.cell? ⟨wr.heap.size, 2, none⟩ = some (.string xt) ∧ w'.cell? ⟨wr.heap.size, 3, none⟩ = some (.slice xSA xa xsc) ∧ w'.cell? ⟨wr.heap.size, 4, none⟩ = some (.slice xUA xb xuc)) (by kernel_rfl) hS8 (fun hHeld => ?_)
      refine wpAnyE_take (i := 0) (.pointer (some ⟨W.heap.size, 4, none⟩)) rfl (by kernel_rfl) (by kernel_rfl) (by kernel_rfl) (by kernel_rfl) (fun _ _ _ h => h) hHeld (by rfl) (fun w' hSw => ?_) ?_
      · obtain ⟨s4, t0, t1, t2, t3, t4⟩ := hSw; go_simp
      try simp only [Act.put, List.getElem_toArray, List.getElem_cons_zero, List.setIfInBounds_toArray, List.set_cons_zero, List.set_cons_succ]
      refine wpAnyE_take (i := 1) (.slice A8 j c8) rfl (by kernel_rfl) (by kernel_rfl) (by kernel_rfl) (by kernel_rfl) (fun _ _ _ h => h) hHeld (by rfl) (fun w' hSw => ?_) ?_
      · obtain ⟨s4, t0, t1, t2, t3, t4⟩ := hSw; go_simp
      try simp only [Act.put, List.getElem_toArray, List.getElem_cons_zero, List.getElem_cons_succ, List.setIfInBounds_toArray, List.set_cons_zero, List.set_cons_succ]
      refine wpAnyE_take (i := 2) (.agg #[.int .u8 xk, .string xm, .string xt, .slice xSA xa xsc, .slice xUA xb xuc]) rfl (by kernel_rfl) (by kernel_rfl) (by kernel_rfl) (by kernel_rfl) (fun _ _ _ h => h) hHeld (by rfl) (fun w' hSw => ?_) ?_
      · obtain ⟨s4, t0, t1, t2, t3, t4⟩ := hSw; go_simp
      try simp only [Act.put, List.getElem_toArray, List.getElem_cons_zero, List.getElem_cons_succ, List.setIfInBounds_toArray, List.set_cons_zero, List.set_cons_succ]
      clear hHeld
      refine wpAnyE_step 3 (by kernel_rfl) rfl (fun K hK => ?_)
      go_simp
      go_at_call 81
      refine IHJ.out.mono ?_
      rintro _ w9 ⟨cs9, rfl, hn9, hb9⟩
      obtain ⟨yk, ym, yt, ySA, ya, ysc, yUA, yb, yuc, hv9⟩ := (NdO.toNd _ _ hn9).form
      obtain rfl : cs9 = #[.int .u8 yk, .string ym, .string yt, .slice ySA ya ysc, .slice yUA yb yuc] := (Array.toList_inj.1 hv9)
      clear hv9
      have p9 := (hb9.block _ hzb).trans HQ8.out
      have r9 := (hb9.block _ hzz).trans HH8.out
      have HO9 := hid (ownsRow_below HOWN.out ((HB8.out.drew).trans (hb9.mono HB8.out.size)) (Nat.le_refl _))
      have HP9 := hid p9
      have HR9 := hid r9
      have HN9 := hid hn9
      have HB9 := hid hb9
      clear p9 r9 hn9 hb9
      go_simp
      refine hK.out _ _ (HST.out w9 HP9.out HR9.out) (fun hHeld => ?_)
      clear hK K hHeld
      try simp only [Act.put, List.getElem_toArray, List.getElem_cons_zero, List.getElem_cons_succ, List.setIfInBounds_toArray, List.set_cons_zero, List.set_cons_succ]
      refine wpAnyE_step 4 (by kernel_rfl) rfl (fun K hK => ?_)
      go_simp
      refine hK.out _ _ (HST.out _ ((Below.heap_alloc w9 _ _ (heap_lt HP9.out)).trans HP9.out) ((Below.heap_alloc w9 _ _ (heap_lt HR9.out)).trans HR9.out)) (fun hHeld => ?_)
      clear hK K hHeld
      try simp only [Act.put, List.getElem_toArray, List.getElem_cons_zero, List.getElem_cons_succ, List.setIfInBounds_toArray, List.set_cons_zero, List.set_cons_succ]
      refine wpAnyE_step 5 (by kernel_rfl) rfl (fun K hK => ?_)
      refine step_push4 w9 rfl _ _ 31 rfl b2 74 i0 _ 5 88 Tryz.underlying31 hi0 hz0 hsz0 hy0 rfl (by omega) (.slice A8 j c8) j xs2 rfl HO9.out [.int .u8 yk, .string ym, .string yt, .slice ySA ya ysc, .slice yUA yb yuc] 1 w9.heap.size rfl rfl rfl (by simp [Value.oneCell']) Nat.zero_lt_one hmx hmy (Nat.le_trans HI.out.size (Nat.le_trans HB8.out.size HB9.out.size)) ?_
      intro gg cg w10 h10 hgg ho10
      have p10 := (ho10.block _ (heap_lt HP9.out) (fun e => by have := (HOWN.out.lt _ e).1; have := HGB.out; omega)).trans HP9.out
      have r10 := (ho10.block _ (heap_lt HR9.out) (fun e => by have := (HOWN.out.lt _ e).2; omega)).trans HR9.out
      have q10 : w10.cell? ⟨W.heap.size, 4, none⟩ = some (.slice A8 j c8) := by rw [Lib.cell_of_heap p10]; rfl
      have z10 := Lib.frozen_of_heap p10 4
      have H10 := hid h10
      have HGG := hid hgg
      have HO10 := hid ho10
      refine hK.out _ _ (HST.out w10 p10 r10) (fun hHeld => ?_)
      clear hK K h10 hgg ho10 p10 r10
      try simp only [Act.put, List.getElem_toArray, List.getElem_cons_zero, List.getElem_cons_succ, List.setIfInBounds_toArray, List.set_cons_zero, List.set_cons_succ]
      refine wpAnyE_take (i := 6) (.pointer (some ⟨W.heap.size, 4, none⟩)) rfl (by kernel_rfl) (by kernel_rfl) (by kernel_rfl) (by kernel_rfl) (fun _ _ _ h => h) hHeld (by rfl) (fun w' hSw => ?_) ?_
      · obtain ⟨s4, t0, t1, t2, t3, t4⟩ := hSw; go_simp
      try simp only [Act.put, List.getElem_toArray, List.getElem_cons_zero, List.getElem_cons_succ, List.setIfInBounds_toArray, List.set_cons_zero, List.set_cons_succ]
      clear hHeld
      refine wpAnyE_end (by kernel_rfl) rfl (by kernel_rfl) (fun K hK => ?_)
      go_simp
      refine hK.out _ _ ?_
      clear hK K
      try simp only [Act.put, List.getElem_toArray, List.getElem_cons_zero, List.getElem_cons_succ, List.setIfInBounds_toArray, List.set_cons_zero, List.set_cons_succ]
      have hfin := CoI.step HI.out hjl HGB.out.1 HGB.out.2 (Nat.le_refl _) HOWN.out HNDS.out ((HB8.out.drew).trans (HB9.out.mono HB8.out.size)) HN9.out HB8.out.size H10.out HGG.out HO10.out
      have HFIN := hid hfin
      clear hfin
      go_wp2
      go_roundw
      case rel => exact ⟨j + 1, hlt, by go_num, _, HFIN⟩
      case measure => simp only [intOf]; omega
    · have hje : j = n := by omega
      subst hje
      obtain ⟨xs2, hown, hnds⟩ := HI.out.row
      obtain ⟨A8, c8, rfl⟩ := row_form hown
      have hlc : j ≤ c8 := by
        obtain ⟨A', c', hv, _, h9⟩ := Reads.own hown
        injection hv with _ _ hv
        omega
      have hb0 := HI.out.box
      have d4 : wr.cell? ⟨W.heap.size, 4, none⟩ = some (.slice A8 j c8) := by rw [Lib.cell_of_heap hb0]; rfl
      have f4 := Lib.frozen_of_heap hb0 4
      have HCP := hid (clipNd_any A8 j c8 wr hlc)
      have HLC := hid hlc
      clear hown hnds hlc hb0
      go_upto_region 10 with (go_at_call 115; refine HCP.out.mono ?_; rintro _ w4 ⟨rfl, rfl⟩)
      have hh6 := heap_setCell_same wr W.heap.size 4 _ _ (.slice A8 j j) HI.out.box
      simp only [List.setIfInBounds_toArray, List.set_cons_succ, List.set_cons_zero] at hh6
      have ho6 := Only.of_set wr W.heap.size 4 (.slice A8 j j)
      have hr6 := (ho6.block rb (heap_lt HI.out.res) (by have := HGB.out; omega)).trans HI.out.res
      generalize wr.setCell ⟨W.heap.size, 4, none⟩ (.slice A8 j j) = W6 at hh6 ho6 hr6 ⊢
      have k0 : W6.cell? ⟨W.heap.size, 0, none⟩ = some (.int .u8 kz) := by rw [Lib.cell_of_heap hh6]; rfl
      have k1 : W6.cell? ⟨W.heap.size, 1, none⟩ = some (.string ⟨nm.toArray⟩) := by rw [Lib.cell_of_heap hh6]; rfl
      have k2 : W6.cell? ⟨W.heap.size, 2, none⟩ = some (.string ⟨t.toArray⟩) := by rw [Lib.cell_of_heap hh6]; rfl
      have k3 : W6.cell? ⟨W.heap.size, 3, none⟩ = some (.slice A3 sl sl) := by rw [Lib.cell_of_heap hh6]; rfl
      have k4 : W6.cell? ⟨W.heap.size, 4, none⟩ = some (.slice A8 j j) := by rw [Lib.cell_of_heap hh6]; rfl
      have r0 : W6.cell? ⟨rb, 0, none⟩ = some (.int .u8 0) := by rw [Lib.cell_of_heap hr6]; rfl
      have r1 : W6.cell? ⟨rb, 1, none⟩ = some (.string ⟨#[]⟩) := by rw [Lib.cell_of_heap hr6]; rfl
      have r2 : W6.cell? ⟨rb, 2, none⟩ = some (.string ⟨#[]⟩) := by rw [Lib.cell_of_heap hr6]; rfl
      have r3 : W6.cell? ⟨rb, 3, none⟩ = some (.slice none 0 0) := by rw [Lib.cell_of_heap hr6]; rfl
      have r4 : W6.cell? ⟨rb, 4, none⟩ = some (.slice none 0 0) := by rw [Lib.cell_of_heap hr6]; rfl
      have e0 := Lib.frozen_of_heap hr6 0
      have e1 := Lib.frozen_of_heap hr6 1
      have e2 := Lib.frozen_of_heap hr6 2
      have e3 := Lib.frozen_of_heap hr6 3
      have e4 := Lib.frozen_of_heap hr6 4
      have HH6 := hid hh6
      have HO6 := hid ho6
      have HR6 := hid hr6
      clear hh6 ho6 hr6 d4 f4
      go_wp2_with fail
      have p0 := heap_setCell_same W6 rb 0 _ _ (.int .u8 kz) HR6.out
      have p1 := heap_setCell_same _ rb 1 _ _ (.string ⟨nm.toArray⟩) p0
      have p2 := heap_setCell_same _ rb 2 _ _ (.string ⟨t.toArray⟩) p1
      have p3 := heap_setCell_same _ rb 3 _ _ (.slice A3 sl sl) p2
      have p4 := heap_setCell_same _ rb 4 _ _ (.slice A8 j j) p3
      have q0 := Only.of_set W6 rb 0 (.int .u8 kz)
      have q1 := q0.trans (Only.of_set _ rb 1 (.string ⟨nm.toArray⟩)) (fun _ _ e => e)
      have q2 := q1.trans (Only.of_set _ rb 2 (.string ⟨t.toArray⟩)) (fun _ _ e => e)
      have q3 := q2.trans (Only.of_set _ rb 3 (.slice A3 sl sl)) (fun _ _ e => e)
      have q4 := q3.trans (Only.of_set _ rb 4 (.slice A8 j j)) (fun _ _ e => e)
      simp only [List.setIfInBounds_toArray, List.set_cons_succ, List.set_cons_zero] at p4
      generalize ((((W6.setCell ⟨rb, 0, none⟩ (.int .u8 kz)).setCell ⟨rb, 1, none⟩ (.string ⟨nm.toArray⟩)).setCell ⟨rb, 2, none⟩ (.string ⟨t.toArray⟩)).setCell ⟨rb, 3, none⟩ (.slice A3 sl sl)).setCell ⟨rb, 4, none⟩ (.slice A8 j j) = W7 at p4 q4 ⊢
      clear p0 p1 p2 p3 q0 q1 q2 q3
      have l0 : W7.cell? ⟨rb, 0, none⟩ = some (.int .u8 kz) := by rw [Lib.cell_of_heap p4]; rfl
      have l1 : W7.cell? ⟨rb, 1, none⟩ = some (.string ⟨nm.toArray⟩) := by rw [Lib.cell_of_heap p4]; rfl
      have l2 : W7.cell? ⟨rb, 2, none⟩ = some (.string ⟨t.toArray⟩) := by rw [Lib.cell_of_heap p4]; rfl
      have l3 : W7.cell? ⟨rb, 3, none⟩ = some (.slice A3 sl sl) := by rw [Lib.cell_of_heap p4]; rfl
      have l4 : W7.cell? ⟨rb, 4, none⟩ = some (.slice A8 j j) := by rw [Lib.cell_of_heap p4]; rfl
      obtain ⟨xs2, hown, hnds⟩ := HI.out.row
      have hfin : CopyP (.mk k nm t s l) W (.returned (.agg #[.int .u8 kz, .string ⟨nm.toArray⟩, .string ⟨t.toArray⟩, .slice A3 sl sl, .slice A8 j j])) W7 := by
        have hg1 := HGB.out
        have hS1 : ∀ b, b = W.heap.size → (b < b2 ∨ (Value.slice A8 j c8).ownBlock = some b) := fun b e => .inl (by omega)
        have hS2 : ∀ b, b = rb → (b < b2 ∨ (Value.slice A8 j c8).ownBlock = some b) := fun b e => .inl (by omega)
        have hrow : RO wr (fun b => b < b2) 5 A8 j xs2 := by
          have h2 := RO.of_reads (S := fun _ => False) (Reads.of_own hown) (Nat.le_refl _) (fun _ e => e.elim)
          refine ⟨h2.1, fun hn => ?_⟩
          obtain ⟨b, off, e, hb, _, hc⟩ := h2.2 hn
          subst e
          exact ⟨b, off, rfl, hb, fun hs => by have := (ownC_lt (OwnC.of hown) b rfl).1; omega, hc⟩
        refine ⟨_, rfl, ?_, ?_⟩
        · unfold NdO
          refine ⟨A3, sl, A8, j, xs2, ?_, ?_, ?_, ?_, by rw [HNL.out]; exact Nat.le_refl _⟩
          · rw [HSL.out, HNL.out, HKZ.out]; rfl
          · rw [HSL.out]
            exact (HI.out.set.only (HO6.out.more fun b _ e => hS1 b e) fun _ _ e => e).only (q4.more fun b _ e => hS2 b e) fun _ _ e => .inl (by have : _ < W.heap.size := e; omega)
          · rw [HNL.out]
            exact (hrow.only (HO6.out.more fun b _ e => (by omega : b < b2)) fun _ _ e => e).only (q4.more fun b _ e => (by omega : b < b2)) fun _ _ e => (by have : _ < W.heap.size := e; omega)
          · have h9 := NdsO.only (q4.more fun b _ e => hS2 b e) (fun _ _ e => e) _ _ (NdsO.only (HO6.out.more fun b _ e => hS1 b e) (fun _ _ e => e) _ _ hnds)
            rw [← HNL.out, List.take_length] at h9
            exact NdsO.only (Only.refl _ _) (fun b _ e => .inl (by have : b < W.heap.size := e; omega)) _ _ h9
        · exact q4.below (fun b e => by omega) (HO6.out.below (fun b e => by omega) HI.out.below HI.out.below.size) (Nat.le_trans HI.out.below.size HO6.out.size)
      have HFIN := hid hfin
      clear hfin p4 q4 k0 k1 k2 k3 k4 r0 r1 r2 r3 r4 e0 e1 e2 e3 e4
      simp [bodyPost, results, Tryz.results81, go_sem, l0, l1, l2, l3, l4]
      exact HFIN.out
end
namespace Gr
mutual
/-- no list of a node is longer than a million -/
def smN : Nd → Prop
  | .mk _ _ _ s l => s.length ≤ 1000000 ∧ l.length ≤ 1000000 ∧ smNs l
def smNs : List Nd → Prop
  | [] => True
  | x :: l => smN x ∧ smNs l
end
end Gr
section
variable {w0 : World} {B : Nat}
mutual
theorem copy_any : ∀ (nd : Gr.Nd) (cs : List Value) (W : World), Gr.smN nd → NdR w0 B nd cs → Below B w0 W → B ≤ W.heap.size → Calls Tryz.prog 81 #[.agg cs.toArray] W (CopyP nd W)
  | .mk k nm t s l, cs, W, hs, hn, hb, hB => by
    unfold Gr.smN at hs
    exact copy_step k nm t s l cs W hn hb hB hs.1 hs.2.1 fun x hx cs u h1 h2 h3 => copies_any l hs.2.2 x hx cs u h1 h2 h3
theorem copies_any : ∀ (l : List Gr.Nd), Gr.smNs l → ∀ x ∈ l, ∀ (cs : List Value) (W : World), NdR w0 B x cs → Below B w0 W → B ≤ W.heap.size → Calls Tryz.prog 81 #[.agg cs.toArray] W (CopyP x W)
  | [], _, _, hx, _, _, _, _, _ => by cases hx
  | y :: l, hs, x, hx, cs, W, hn, hb, hB => by
    unfold Gr.smNs at hs
    rcases List.mem_cons.1 hx with e | e
    · rw [e] at hn ⊢
      exact copy_any y cs W hs.1 hn hb hB
    · exact copies_any l hs.2 x e cs W hn hb hB
end
end
end Go.Proofs.YtpbnfinmjnpkpaaGreatDoor
