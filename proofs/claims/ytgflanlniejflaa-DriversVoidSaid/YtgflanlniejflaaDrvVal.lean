/-
  Drivers: nets and automata that may be; what an automaton tells; they make a parse that may be. Plain law, no program in sight.
-/
import Derived.Test.YtgflanlniejflaaDrvLaw
namespace Go.Proofs.Ytgflanlniejflaa
namespace Drv
structure LSt where
  kind : Int
  alts : List Int
  edges : List (Int × Int)
structure NNet where
  states : List NSt
  starts : List Int
  stops : List Int
  preds : List Int
  decs : List Int
def runL (a : List LSt) (toks : List Int) : Nat → Int → Nat → Int × List Int × Int
  | 0, _, pos => (2, [], pos)
  | n + 1, s, pos =>
    if s < 0 ∨ (a.length : Int) ≤ s then (2, [], pos)
    else
      let x := a.getD s.toNat ⟨0, [], []⟩
      if x.kind ≠ 0 then (x.kind, x.alts, pos)
      else
        let tok := if pos < toks.length then toks.getD pos 0 else -1
        match x.edges.find? (fun e => e.1 == tok) with
        | none => (2, [], pos)
        | some e => if toks.length < pos ∨ (pos < toks.length ∧ tok < 0) then (2, [], pos) else runL a toks n e.2 (pos + 1)
def runA (a : List LSt) (toks : List Int) : Int × List Int × Int := runL a toks (toks.length + 2) 0 0
def risingL (most : Int) : Int → List Int → Bool
  | _, [] => true
  | least, n :: r => decide (least ≤ n) && decide (n < most) && risingL most (n + 1) r
def kindL (s : LSt) : Bool :=
  if s.kind = 0 then s.alts.length == 0 else if s.kind = 1 then s.alts.length == 1 && s.edges.length == 0
  else if s.kind = 3 then decide (1 < s.alts.length) && s.edges.length == 0 else s.kind == 2 && s.alts.length == 0 && s.edges.length == 0
def fineL (s : LSt) (states alts tokens : Int) : Bool :=
  s.edges.all (fun e => decide (0 ≤ e.2) && decide (e.2 < states)) && risingL alts 0 s.alts && risingL tokens (-1) (s.edges.map (·.1)) && kindL s
def mayAuto (a : List LSt) (alts tokens : Int) : Bool := decide (1 ≤ a.length) && decide (a.length ≤ 4096) && a.all fun s => fineL s a.length alts tokens
def stateB (n : NNet) (i : Int) : Bool := decide (0 ≤ i) && decide (i < n.states.length)
def edgeB (n : NNet) (e : Ed) : Bool :=
  decide (0 ≤ e.kind) && decide (e.kind ≤ 3) && decide (0 ≤ e.what) && (e.kind == 1 || decide (e.what < (if e.kind = 2 then (n.starts.length : Int) else if e.kind = 3 then (n.preds.length : Int) else 1))) && stateB n e.to
def stMay (n : NNet) (s : NSt) : Bool :=
  s.edges.all (edgeB n) && (s.ends.length == 0 || (s.ends.length == s.edges.length && decide (2 ≤ s.ends.length) && s.edges.all (fun e => e.kind == 0) && s.ends.all (stateB n)))
def decsOf (l : List NSt) : List Int := (l.zipIdx.filter fun p => p.1.ends.length != 0).map fun p => (p.2 : Int)
def mayNet (n : NNet) : Bool :=
  n.starts.length == n.stops.length && n.starts.all (stateB n) && n.stops.all (stateB n) && n.preds.all (fun i => decide (0 ≤ i) && decide (i < (n.states.length : Int) - 1)) &&
  n.states.all (fun s => stMay n s && decide (0 ≤ s.rule) && decide (s.rule < n.starts.length)) && decsOf n.states == n.decs
def decIx (n : NNet) (i : Int) : Int := (n.decs.idxOf i : Int)
def mkDC (n : NNet) (autos : List (List LSt)) (w : List Int) (fuel : Int) (depth : Nat) : DC :=
  { states := n.states, starts := n.starts, stops := n.stops, preds := n.preds, decs := n.decs, w := w, fuel := fuel, depth := depth, dec := decIx n, run := fun d pos => runA (autos.getD d.toNat []) (w.drop pos.toNat) }
theorem risingL_mem {most : Int} : ∀ {least : Int} {l : List Int}, risingL most least l = true → ∀ x ∈ l, least ≤ x ∧ x < most
  | _, [], _, _, h => by cases h
  | least, n :: r, h, x, hx => by
    unfold risingL at h
    simp only [Bool.and_eq_true, decide_eq_true_eq] at h
    rcases List.mem_cons.1 hx with rfl | hx
    · exact ⟨h.1.1, h.1.2⟩
    · have := risingL_mem h.2 x hx
      exact ⟨by omega, this.2⟩
theorem runL_kind {a : List LSt} {toks : List Int} : ∀ (n : Nat) (s : Int) (pos : Nat), (runL a toks n s pos).1 = 2 ∨ ∃ x ∈ a, (runL a toks n s pos).1 = x.kind ∧ (runL a toks n s pos).2.1 = x.alts
  | 0, _, _ => .inl rfl
  | n + 1, s, pos => by
    unfold runL
    split
    · exact .inl rfl
    · rename_i h
      simp only
      split
      · refine .inr ⟨a.getD s.toNat ⟨0, [], []⟩, ?_, rfl, rfl⟩
        rw [List.getD_eq_getElem?_getD, List.getElem?_eq_getElem (by omega)]
        exact List.getElem_mem _
      · generalize (if pos < toks.length then toks.getD pos 0 else -1) = tok
        split
        · exact .inl rfl
        · split
          · exact .inl rfl
          · exact runL_kind n _ _
theorem runL_pos {a : List LSt} {toks : List Int} : ∀ (n : Nat) (s : Int) (pos : Nat), 0 ≤ (runL a toks n s pos).2.2
  | 0, _, pos => by unfold runL; exact Int.natCast_nonneg pos
  | n + 1, s, pos => by
    unfold runL
    split
    · exact Int.natCast_nonneg pos
    · simp only
      split
      · exact Int.natCast_nonneg pos
      · generalize (if pos < toks.length then toks.getD pos 0 else -1) = tok
        split
        · exact Int.natCast_nonneg pos
        · split
          · exact Int.natCast_nonneg pos
          · exact runL_pos n _ _
theorem decsOf_mem {l : List NSt} {i : Int} : i ∈ decsOf l ↔ 0 ≤ i ∧ ∃ h : i.toNat < l.length, l[i.toNat].ends.length ≠ 0 := by
  unfold decsOf
  simp only [List.mem_map, List.mem_filter, bne_iff_ne]
  constructor
  · rintro ⟨⟨s, j⟩, ⟨hm, hne⟩, rfl⟩
    have hm := List.mem_zipIdx hm
    refine ⟨by simp, ?_⟩
    obtain ⟨h1, h2, h3⟩ := hm
    simp only [Nat.zero_add, Nat.sub_zero] at h2 h3
    refine ⟨by simpa using h2, ?_⟩
    simp only [Int.toNat_natCast]
    rw [← h3]
    exact hne
  · rintro ⟨h0, h, hne⟩
    refine ⟨(l[i.toNat], i.toNat), ⟨?_, hne⟩, by simp only; omega⟩
    rw [List.mem_zipIdx_iff_getElem?]
    exact List.getElem?_eq_getElem h
theorem st_ne {c : DC} {i : Int} (h : (c.st i).ends.length ≠ 0) : 0 ≤ i ∧ ∃ hl : i.toNat < c.states.length, c.st i = c.states[i.toNat] := by
  unfold DC.st at h ⊢
  by_cases hi : i < 0
  · rw [if_pos hi] at h
    exact absurd rfl h
  · rw [if_neg hi] at h ⊢
    by_cases hl : i.toNat < c.states.length
    · exact ⟨by omega, hl, by rw [List.getD_eq_getElem?_getD, List.getElem?_eq_getElem hl]; rfl⟩
    · rw [List.getD_eq_getElem?_getD, List.getElem?_eq_none (by omega)] at h
      exact absurd rfl h
/-- how many alternatives a decision's automaton tells of -/
def altsOf (n : NNet) (d : Nat) : Int := ((n.states.getD (at0 n.decs d).toNat ⟨0, [], []⟩).ends.length : Int)
theorem val_mk {n : NNet} {autos : List (List LSt)} (hn : mayNet n = true) (hl : autos.length = n.decs.length) (ha : ∀ d (h : d < autos.length), mayAuto autos[d] (altsOf n d) 64 = true) (w : List Int) (fuel : Int) (depth : Nat) :
    Val (mkDC n autos w fuel depth) := by
  unfold mayNet at hn
  simp only [Bool.and_eq_true, beq_iff_eq, List.all_eq_true, decide_eq_true_eq] at hn
  obtain ⟨⟨⟨⟨⟨_, _⟩, _⟩, _⟩, hst⟩, hdec⟩ := hn
  have hmem : ∀ i, ((mkDC n autos w fuel depth).st i).ends.length ≠ 0 → i ∈ n.decs := fun i h => by
    obtain ⟨h0, h1, h2⟩ := st_ne h
    rw [h2] at h
    rw [← hdec]
    exact decsOf_mem.2 ⟨h0, h1, h⟩
  have hix : ∀ i, ((mkDC n autos w fuel depth).st i).ends.length ≠ 0 → at0 n.decs (decIx n i) = i ∧ (decIx n i).toNat < autos.length := fun i h => by
    have hm := hmem i h
    have hlt := List.idxOf_lt_length_iff.2 hm
    refine ⟨?_, by unfold decIx; simp only [Int.toNat_natCast]; rw [hl]; exact hlt⟩
    unfold at0 decIx
    simp only [Int.toNat_natCast]
    rw [List.getD_eq_getElem?_getD, List.getElem?_eq_getElem hlt]
    exact List.getElem_idxOf hlt
  have hed : ∀ i, ((mkDC n autos w fuel depth).st i).ends.length ≠ 0 → ((mkDC n autos w fuel depth).st i).ends.length = ((mkDC n autos w fuel depth).st i).edges.length ∧ altsOf n (decIx n i).toNat = ((mkDC n autos w fuel depth).st i).ends.length := fun i h => by
    obtain ⟨h0, h1, h2⟩ := st_ne h
    have hx := hix i h
    refine ⟨?_, ?_⟩
    · have h9 := (hst _ (List.getElem_mem h1)).1.1
      rw [h2] at h ⊢
      unfold stMay at h9
      simp only [Bool.and_eq_true, Bool.or_eq_true, beq_iff_eq] at h9
      rcases h9.2 with h9 | h9
      · exact absurd h9 h
      · exact h9.1.1.1
    · unfold altsOf
      have e1 : (((decIx n i).toNat : Nat) : Int) = decIx n i := by unfold decIx; simp
      rw [e1, hx.1, h2, List.getD_eq_getElem?_getD]
      have h1' : i.toNat < n.states.length := h1
      rw [List.getElem?_eq_getElem h1']
      rfl
  have hrun : ∀ i pos, ((mkDC n autos w fuel depth).st i).ends.length ≠ 0 → ((mkDC n autos w fuel depth).run (decIx n i) pos).1 = 2 ∨ ∃ x : LSt, fineL x (autos[(decIx n i).toNat]?.getD []).length (((mkDC n autos w fuel depth).st i).edges.length : Int) 64 = true ∧ ((mkDC n autos w fuel depth).run (decIx n i) pos).1 = x.kind ∧ ((mkDC n autos w fuel depth).run (decIx n i) pos).2.1 = x.alts := fun i pos h => by
    have hx := hix i h
    have he := hed i h
    have h9 := ha _ hx.2
    rw [he.2, he.1] at h9
    unfold mayAuto at h9
    simp only [Bool.and_eq_true, List.all_eq_true] at h9
    have e2 : autos.getD (decIx n i).toNat [] = autos[(decIx n i).toNat] := by rw [List.getD_eq_getElem?_getD, List.getElem?_eq_getElem hx.2]; rfl
    rcases runL_kind (a := autos.getD (decIx n i).toNat []) (toks := w.drop pos.toNat) ((w.drop pos.toNat).length + 2) 0 0 with h1 | ⟨x, h1, h2, h3⟩
    · exact .inl h1
    · refine .inr ⟨x, ?_, h2, h3⟩
      rw [e2] at h1
      rw [List.getElem?_eq_getElem hx.2]
      exact h9.2 x h1
  refine ⟨fun i h => (hix i h).1, fun i pos h h1 => ?_, fun i pos h h3 => ?_, fun d pos => runL_pos _ _ _⟩
  · have h1 : ((mkDC n autos w fuel depth).run (decIx n i) pos).1 = 1 := h1
    show 0 ≤ ((mkDC n autos w fuel depth).run (decIx n i) pos).2.1.headD 0 ∧ ((mkDC n autos w fuel depth).run (decIx n i) pos).2.1.headD 0 < _
    rcases hrun i pos h with h2 | ⟨x, hf, h4, h5⟩
    · omega
    · rw [h5]
      unfold fineL kindL at hf
      rw [if_neg (by omega), if_pos (by omega)] at hf
      simp only [Bool.and_eq_true, beq_iff_eq] at hf
      obtain ⟨a, ha⟩ := List.length_eq_one_iff.1 hf.2.1
      have := risingL_mem hf.1.1.2 a (by rw [ha]; simp)
      rw [ha]
      exact this
  · have h3 : ((mkDC n autos w fuel depth).run (decIx n i) pos).1 = 3 := h3
    show ((mkDC n autos w fuel depth).run (decIx n i) pos).2.1 ≠ [] ∧ ∀ a ∈ ((mkDC n autos w fuel depth).run (decIx n i) pos).2.1, _
    rcases hrun i pos h with h2 | ⟨x, hf, h4, h5⟩
    · omega
    · rw [h5]
      unfold fineL kindL at hf
      rw [if_neg (by omega), if_neg (by omega), if_pos (by omega)] at hf
      simp only [Bool.and_eq_true, beq_iff_eq, decide_eq_true_eq] at hf
      refine ⟨fun e => by rw [e] at hf; simp at hf, risingL_mem hf.1.1.2⟩
end Drv
end Go.Proofs.Ytgflanlniejflaa

/-
  Drivers: how much a rule does without a token. Plain law, no program in sight.
-/
namespace Go.Proofs.Ytgflanlniejflaa
namespace Drv
/-- state s is come to in rule r without a token -/
inductive InS (n : NNet) : Int → Int → Prop where
  | start (r : Int) : InS n r (at0 n.starts r)
  | step (r s : Int) (e : Ed) : InS n r s → e ∈ (n.states.getD s.toNat ⟨0, [], []⟩).edges → e.kind ≠ 1 → (e.kind = 2 → InS n e.what (at0 n.stops e.what)) → InS n r e.to
def Emp (n : NNet) (r : Int) : Prop := InS n r (at0 n.stops r)
/-- rule r begins rule q ahead of any token -/
def Dir (n : NNet) (r q : Int) : Prop := ∃ s e, InS n r s ∧ e ∈ (n.states.getD s.toNat ⟨0, [], []⟩).edges ∧ e.kind = 2 ∧ e.what = q
inductive Rch (n : NNet) : Int → Int → Prop where
  | one {r q : Int} : Dir n r q → Rch n r q
  | more {r q t : Int} : Dir n r q → Rch n q t → Rch n r t
theorem Rch.trans {n : NNet} {r q t : Int} (h : Rch n r q) (g : Rch n q t) : Rch n r t := by
  induction h with
  | one h => exact .more h g
  | more h _ ih => exact .more h (ih g)
def most40 (x : Int) : Int := min x 1099511627776
/-- what a rule does by itself, by how much others do -/
def ownE (rules : Int → Bool) (was : Int → Int) : List Ed → Int → Int
  | [], sum => sum
  | e :: r, sum => ownE rules was r (if e.kind = 2 ∧ rules e.what = true then most40 (sum + was e.what) else sum)
def ownS (r : Int) (rules : Int → Bool) (was : Int → Int) : List NSt → Int → Int
  | [], sum => sum
  | s :: l, sum => ownS r rules was l (if s.rule = r then ownE rules was s.edges (sum + 1) else sum)
def ownN (n : NNet) (rules : Int → Int → Bool) : Nat → Int → Int
  | 0, _ => 0
  | k + 1, r => ownS r (rules r) (ownN n rules k) n.states 0
theorem ownE_congr {rules : Int → Bool} {was was' : Int → Int} (h : ∀ q, rules q = true → was q = was' q) : ∀ (l : List Ed) (sum : Int), ownE rules was l sum = ownE rules was' l sum
  | [], _ => rfl
  | e :: r, sum => by
    unfold ownE
    rw [ownE_congr h r]
    congr 1
    by_cases g : e.kind = 2 ∧ rules e.what = true
    · rw [if_pos g, if_pos g, h _ g.2]
    · rw [if_neg g, if_neg g]
theorem ownS_congr {r : Int} {rules : Int → Bool} {was was' : Int → Int} (h : ∀ q, rules q = true → was q = was' q) : ∀ (l : List NSt) (sum : Int), ownS r rules was l sum = ownS r rules was' l sum
  | [], _ => rfl
  | s :: l, sum => by
    unfold ownS
    rw [ownS_congr h l, ownE_congr h]
/-- how many rules are reached from a rule -/
def hgt (R : Nat) (rules : Int → Int → Bool) (r : Int) : Nat := ((List.range R).filter fun q : Nat => rules r q).length
theorem filter_lt {l : List Nat} {p q : Nat → Bool} (h : ∀ x ∈ l, p x = true → q x = true) {y : Nat} (hy : y ∈ l) (h1 : p y = false) (h2 : q y = true) : (l.filter p).length < (l.filter q).length := by
  induction l with
  | nil => cases hy
  | cons a l ih =>
    have hle : (l.filter p).length ≤ (l.filter q).length := by
      clear ih hy
      induction l with
      | nil => exact Nat.le_refl _
      | cons b l ih2 =>
        have ih2 := ih2 (fun x hx => h x (by rcases List.mem_cons.1 hx with rfl | hx <;> simp [*]))
        by_cases pb : p b = true
        · rw [List.filter_cons_of_pos pb, List.filter_cons_of_pos (h b (by simp) pb)]; simp; exact ih2
        · rw [List.filter_cons_of_neg pb]
          by_cases qb : q b = true
          · rw [List.filter_cons_of_pos qb]; simp; omega
          · rw [List.filter_cons_of_neg qb]; exact ih2
    rcases List.mem_cons.1 hy with rfl | hy
    · rw [List.filter_cons_of_neg (by simp [h1]), List.filter_cons_of_pos h2]; simp; omega
    · have ih := ih (fun x hx => h x (List.mem_cons_of_mem _ hx)) hy
      by_cases pa : p a = true
      · rw [List.filter_cons_of_pos pa, List.filter_cons_of_pos (h a (by simp) pa)]; simp; exact ih
      · rw [List.filter_cons_of_neg pa]
        by_cases qa : q a = true
        · rw [List.filter_cons_of_pos qa]; simp; omega
        · rw [List.filter_cons_of_neg qa]; exact ih
theorem hgt_lt {R : Nat} {rules : Int → Int → Bool} (ht : ∀ a b c, rules a b = true → rules b c = true → rules a c = true) (hi : ∀ a, rules a a = false) {r : Int} {q : Nat} (hq : q < R) (h : rules r q = true) : hgt R rules q < hgt R rules r :=
  filter_lt (fun x _ hx => ht r q x h hx) (List.mem_range.2 hq) (hi q) h
/-- nothing changes any more -/
theorem ownN_stable (n : NNet) {R : Nat} {rules : Int → Int → Bool} (ht : ∀ a b c, rules a b = true → rules b c = true → rules a c = true) (hi : ∀ a, rules a a = false) (hR : ∀ a b, rules a b = true → ∃ q : Nat, q < R ∧ b = q) :
    ∀ (m : Nat) (r : Int), hgt R rules r < m → ∀ k, m ≤ k → ownN n rules k r = ownN n rules m r
  | 0, r, h, _, _ => by omega
  | m + 1, r, h, 0, hk => by omega
  | m + 1, r, h, k + 1, hk => by
    unfold ownN
    refine ownS_congr (fun q hq => ?_) _ _
    obtain ⟨q', hq', rfl⟩ := hR r q hq
    have := hgt_lt ht hi hq' hq
    exact ownN_stable n ht hi hR m q' (by omega) k (by omega)
end Drv
end Go.Proofs.Ytgflanlniejflaa
