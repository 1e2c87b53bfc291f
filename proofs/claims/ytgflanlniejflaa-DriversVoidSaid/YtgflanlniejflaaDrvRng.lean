/-
  Drivers: what may be leads nowhere else: the ranges of a net that may be. Plain law, no program in sight.
-/
import Derived.Test.YtgflanlniejflaaDrvInv
namespace Go.Proofs.Ytgflanlniejflaa
namespace Drv
theorem risingL_len {most : Int} : ∀ {least : Int} {l : List Int}, risingL most least l = true → (l.length : Int) ≤ most - least ∨ l = []
  | _, [], _ => .inr rfl
  | least, n :: r, h => by
    unfold risingL at h
    simp only [Bool.and_eq_true, decide_eq_true_eq] at h
    rcases risingL_len h.2 with h1 | h1
    · left; simp only [List.length_cons]; omega
    · subst h1; left; simp; omega
theorem runL_alts {a : List LSt} {toks : List Int} {alts : Int} (ha : ∀ s ∈ a, risingL alts 0 s.alts = true) (h0 : 0 ≤ alts) (n : Nat) (s : Int) (pos : Nat) : ((runL a toks n s pos).2.1.length : Int) ≤ alts := by
  induction n generalizing s pos with
  | zero => unfold runL; exact h0
  | succ n ih =>
    unfold runL
    split
    · exact h0
    · rename_i hs
      simp only
      split
      · have hm : a.getD s.toNat ⟨0, [], []⟩ ∈ a := by
          rw [List.getD_eq_getElem?_getD, List.getElem?_eq_getElem (by omega)]
          exact List.getElem_mem _
        show (((a.getD s.toNat ⟨0, [], []⟩).alts.length : Nat) : Int) ≤ alts
        rcases risingL_len (ha _ hm) with h1 | h1
        · omega
        · rw [h1]; exact h0
      · generalize (if pos < toks.length then toks.getD pos 0 else -1) = tok
        split
        · exact h0
        · split
          · exact h0
          · exact ih _ _
theorem rng_mk {n : NNet} {autos : List (List LSt)} (hn : mayNet n = true) (hl : autos.length = n.decs.length) (ha : ∀ d (h : d < autos.length), mayAuto autos[d] (altsOf n d) 64 = true) (h32 : ∀ d, d < autos.length → altsOf n d ≤ 32) (w : List Int) (fuel : Int) (depth : Nat) :
    Rng (mkDC n autos w fuel depth) := by
  have hn' := hn
  unfold mayNet at hn'
  simp only [Bool.and_eq_true, beq_iff_eq, List.all_eq_true, decide_eq_true_eq] at hn'
  obtain ⟨⟨⟨⟨⟨hss, hsts⟩, hstp⟩, hpr⟩, hst⟩, hdec⟩ := hn'
  have inB : ∀ i, stateB n i = true → InR n.states.length i := fun i h => by
    unfold stateB at h
    simp only [Bool.and_eq_true, decide_eq_true_eq] at h
    exact h
  have at0_mem : ∀ (l : List Int) (i : Int), InR l.length i → at0 l i ∈ l := fun l i h => by
    have h1 := h.1
    have h2 := h.2
    unfold at0
    rw [List.getD_eq_getElem?_getD, List.getElem?_eq_getElem (by omega)]
    exact List.getElem_mem _
  have hSt : ∀ i, (((mkDC n autos w fuel depth).st i).edges = [] ∧ ((mkDC n autos w fuel depth).st i).ends = []) ∨ ∃ s ∈ n.states, (mkDC n autos w fuel depth).st i = s := fun i => by
    unfold DC.st
    split
    · exact .inl ⟨rfl, rfl⟩
    · by_cases h : i.toNat < n.states.length
      · refine .inr ⟨n.states[i.toNat], List.getElem_mem h, ?_⟩
        show n.states.getD i.toNat _ = _
        rw [List.getD_eq_getElem?_getD, List.getElem?_eq_getElem h]; rfl
      · refine .inl ?_
        show (n.states.getD i.toNat _).edges = [] ∧ (n.states.getD i.toNat _).ends = []
        rw [List.getD_eq_getElem?_getD, List.getElem?_eq_none (by omega)]
        exact ⟨rfl, rfl⟩
  have hmem : ∀ i, ((mkDC n autos w fuel depth).st i).ends.length ≠ 0 → i ∈ n.decs := fun i h => by
    obtain ⟨h0, h1, h2⟩ := st_ne h
    rw [h2] at h
    rw [← hdec]
    exact decsOf_mem.2 ⟨h0, h1, h⟩
  have hv := val_mk hn hl ha w fuel depth
  have hix : ∀ i, ((mkDC n autos w fuel depth).st i).ends.length ≠ 0 → (decIx n i).toNat < autos.length ∧ InR n.decs.length (decIx n i) := fun i h => by
    have hlt := List.idxOf_lt_length_iff.2 (hmem i h)
    unfold decIx InR
    simp only [Int.toNat_natCast]
    omega
  refine ⟨fun i e he => ?_, fun r hr => ?_, fun q hq => ?_, fun i e he => ?_, fun i hi => ?_, fun i hi => (hix i hi).2, fun d pos => ?_⟩
  · rcases hSt i with ⟨h1, _⟩ | ⟨s, hs, h1⟩
    · rw [h1] at he; cases he
    · rw [h1] at he
      have h2 := (hst s hs).1.1
      unfold stMay at h2
      simp only [Bool.and_eq_true, List.all_eq_true] at h2
      have h3 := h2.1 e he
      unfold edgeB at h3
      simp only [Bool.and_eq_true, Bool.or_eq_true, decide_eq_true_eq, beq_iff_eq] at h3
      obtain ⟨⟨⟨_, h4⟩, h5⟩, h6⟩ := h3
      refine ⟨inB _ h6, fun hk => ⟨h4, ?_⟩, fun hk => ⟨h4, ?_⟩⟩
      · rcases h5 with h5 | h5
        · omega
        · rw [if_pos hk] at h5; exact h5
      · rcases h5 with h5 | h5
        · omega
        · rw [if_neg (by omega), if_pos hk] at h5; exact h5
  · have hr : InR n.starts.length r := hr
    exact ⟨inB _ (hsts _ (at0_mem _ _ hr)), inB _ (hstp _ (at0_mem _ _ (by unfold InR at hr ⊢; omega)))⟩
  · have hq : InR n.preds.length q := hq
    have := hpr _ (at0_mem _ _ hq)
    show InR n.states.length (at0 n.preds q) ∧ InR n.states.length (at0 n.preds q + 1)
    unfold InR
    omega
  · rcases hSt i with ⟨_, h1⟩ | ⟨s, hs, h1⟩
    · rw [h1] at he; cases he
    · rw [h1] at he
      have h2 := (hst s hs).1.1
      unfold stMay at h2
      simp only [Bool.and_eq_true, List.all_eq_true, Bool.or_eq_true, beq_iff_eq] at h2
      rcases h2.2 with h3 | h3
      · have : s.ends = [] := List.eq_nil_of_length_eq_zero h3
        rw [this] at he; cases he
      · exact inB _ (h3.2 e he)
  · rcases hSt i with ⟨_, h1⟩ | ⟨s, hs, h1⟩
    · rw [h1] at hi; exact absurd rfl hi
    · have h2 := (hst s hs).1.1
      unfold stMay at h2
      simp only [Bool.and_eq_true, Bool.or_eq_true, beq_iff_eq] at h2
      have h4 : s.ends.length = s.edges.length := by
        rcases h2.2 with h3 | h3
        · rw [h1] at hi; exact absurd h3 hi
        · exact h3.1.1.1
      refine ⟨by rw [h1]; exact h4, ?_⟩
      have h5 := h32 _ (hix i hi).1
      have h6 := hv.dec i hi
      have e1 : (((decIx n i).toNat : Nat) : Int) = decIx n i := by unfold decIx; simp
      have h6 : at0 n.decs (decIx n i) = i := h6
      unfold altsOf at h5
      rw [e1, h6] at h5
      obtain ⟨h0, hlt, hse⟩ := st_ne hi
      have hlt : i.toNat < n.states.length := hlt
      rw [List.getD_eq_getElem?_getD, List.getElem?_eq_getElem hlt] at h5
      have hse : (mkDC n autos w fuel depth).st i = n.states[i.toNat] := hse
      rw [hse]
      have h7 : n.states[i.toNat].ends.length = n.states[i.toNat].edges.length := by rw [← hse, h1]; exact h4
      simp only [Option.getD_some] at h5
      omega
  · show ((runA (autos.getD d.toNat []) (w.drop pos.toNat)).2.1.length) ≤ 32
    by_cases hd : d.toNat < autos.length
    · have h1 := ha _ hd
      unfold mayAuto at h1
      simp only [Bool.and_eq_true, List.all_eq_true] at h1
      have h2 : ∀ s ∈ autos[d.toNat], risingL (altsOf n d.toNat) 0 s.alts = true := fun s hs => by
        have := h1.2 s hs
        unfold fineL at this
        simp only [Bool.and_eq_true] at this
        exact this.1.1.2
      have h3 := h32 _ hd
      have h4 := runL_alts h2 (by unfold altsOf; omega) ((w.drop pos.toNat).length + 2) 0 0 (toks := w.drop pos.toNat)
      have e2 : autos.getD d.toNat [] = autos[d.toNat] := by rw [List.getD_eq_getElem?_getD, List.getElem?_eq_getElem hd]; rfl
      rw [e2]
      unfold runA
      omega
    · have e2 : autos.getD d.toNat [] = [] := by rw [List.getD_eq_getElem?_getD, List.getElem?_eq_none (by omega)]; rfl
      rw [e2]
      have h4 := runL_alts (a := []) (toks := w.drop pos.toNat) (alts := 0) (fun s hs => by cases hs) (by decide) ((w.drop pos.toNat).length + 2) 0 0
      unfold runA
      omega
end Drv
end Go.Proofs.Ytgflanlniejflaa
