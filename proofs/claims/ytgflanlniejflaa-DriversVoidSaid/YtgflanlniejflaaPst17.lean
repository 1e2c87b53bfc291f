/-
  Drivers: a driver in memory; the parse that begins; steps counted. Plain lemmas.
-/
import Derived.Test.YtgflanlniejflaaPst16
import Derived.Test.YtgflanlniejflaaDrvRng
namespace Go.Proofs.Ytgflanlniejflaa
open Go.RowKit Go.Maps
open Go.Sort (grow)
set_option maxRecDepth 100000
namespace Drv
/-- so many steps -/
inductive RN (c : DC) : Nat → Cf → Cf → Prop where
  | refl (k) : RN c 0 k k
  | step {n k k'} : k.ended = false → RN c n (stepM c k) k' → RN c (n + 1) k k'
theorem Reach.rn {c : DC} {k k' : Cf} (h : Reach c k k') : ∃ n, RN c n k k' := by
  induction h with
  | refl _ => exact ⟨0, .refl _⟩
  | step he _ ih =>
    obtain ⟨n, hn⟩ := ih
    exact ⟨n + 1, .step he hn⟩
theorem RN.zero {c : DC} {n : Nat} {k k' : Cf} (h : RN c n k k') (he : k.ended = true) : k = k' := by
  cases h with
  | refl _ => rfl
  | step h1 _ => rw [he] at h1; cases h1
theorem RN.next {c : DC} {n : Nat} {k k' : Cf} (h : RN c n k k') (he : k.ended = false) (hk : k'.ended = true) : ∃ m, n = m + 1 ∧ RN c m (stepM c k) k' := by
  cases h with
  | refl _ => rw [he] at hk; cases hk
  | step _ h2 => exact ⟨_, rfl, h2⟩
theorem Reach.det {c : DC} {k a b : Cf} (h : Reach c k a) (ha : a.ended = true) (g : Reach c k b) (hb : b.ended = true) : a = b := by
  induction h with
  | refl k =>
    cases g with
    | refl _ => rfl
    | step h1 _ => rw [ha] at h1; cases h1
  | step he _ ih =>
    cases g with
    | refl _ => rw [hb] at he; cases he
    | step _ g2 => exact ih ha g2
theorem cok0 {c : DC} (hf : 0 ≤ c.fuel) : COk c cf0 :=
  ⟨Int.le_refl _, Int.natCast_nonneg _, Int.le_refl _, hf, fun _ h => (by cases h), fun _ h => (by cases h), fun _ h => (by cases h), .nil, Nat.zero_le _, Int.le_refl _, fun _ h => (by cases h), fun _ h => (by cases h)⟩
theorem sok0 : SOk cf0 := ⟨Int.le_refl _, Int.le_refl _⟩
theorem begin0 {c : DC} (hf : 0 ≤ c.fuel) (hg : Rng c) (h1 : 1 ≤ c.starts.length) : COk c (beginM c (top0 c) cf0) ∧ SOk (beginM c (top0 c) cf0) ∧ BOk (beginM c (top0 c) cf0) := by
  unfold beginM
  split
  · exact ⟨⟨Int.le_refl _, Int.natCast_nonneg _, Int.le_refl _, hf, fun _ h => (by cases h), fun _ h => (by cases h), fun _ h => (by cases h), .nil, Nat.zero_le _, Int.le_refl _, fun _ h => (by cases h), fun _ h => (by cases h)⟩, sok0, .inl rfl⟩
  · rename_i hd
    have hs := hg.starts 0 ⟨Int.le_refl _, by omega⟩
    refine ⟨⟨Int.le_refl _, Int.natCast_nonneg _, Int.le_refl _, hf, fun _ h => (by cases h), ?_, ?_, ?_, ?_, Int.le_refl _, ?_, fun _ h => (by cases h)⟩, ⟨Int.le_refl _, Int.le_refl _⟩, .inr rfl⟩
    · intro x hx
      have hx : x ∈ [{ top0 c with start := cf0.pos }] := hx
      rw [List.mem_singleton] at hx
      subst hx
      exact ⟨hs.1, hs.2, Int.le_refl _, Int.natCast_nonneg _, .inl ⟨Nat.zero_le _, Int.le_refl _, by show (0 : Int) < _; omega⟩⟩
    · intro x hx
      have hx : x ∈ [{ top0 c with start := cf0.pos }] := hx
      rw [List.mem_singleton] at hx
      subst hx
      exact Int.le_refl _
    · exact List.pairwise_singleton _ _
    · show 1 ≤ c.depth
      have h0 : cf0.opn.length = 0 := rfl
      rw [h0] at hd
      omega
    · intro x hx
      have hx : x ∈ [{ top0 c with start := cf0.pos }] := hx
      rw [List.mem_singleton] at hx
      subst hx
      exact Int.le_refl _
/-- nets and automata by which there is a driver -/
structure OkNet (n : NNet) (au : List (List LSt)) : Prop where
  may : mayNet n = true
  len : au.length = n.decs.length
  autos : ∀ d (h : d < au.length), mayAuto au[d] (altsOf n d) 64 = true
  alts : ∀ d, d < au.length → altsOf n d ≤ 32
  starts1 : 1 ≤ n.starts.length
  starts : n.starts.length ≤ 64
  picks : n.decs.length + n.preds.length ≤ 65536
  states : n.states.length ≤ 1000000
  edges : ∀ s ∈ n.states, s.edges.length ≤ 1000000
  small : ∀ a ∈ au, a.length ≤ 1000000 ∧ ∀ s ∈ a, s.alts.length ≤ 1000000 ∧ s.edges.length ≤ 1000000
theorem OkNet.stops {n : NNet} {au : List (List LSt)} (h : OkNet n au) : n.stops.length = n.starts.length := by
  have := h.may
  unfold mayNet at this
  simp only [Bool.and_eq_true, beq_iff_eq] at this
  exact this.1.1.1.1.1.symm
theorem OkNet.pick {n : NNet} {au : List (List LSt)} (h : OkNet n au) : ∀ a ∈ au, ∀ s ∈ a, s.kind = 1 → s.alts ≠ [] := fun a ha s hs hk e => by
  obtain ⟨d, hd, rfl⟩ := List.mem_iff_getElem.1 ha
  have h1 := h.autos d hd
  unfold mayAuto at h1
  simp only [Bool.and_eq_true, List.all_eq_true] at h1
  have h2 := h1.2 s hs
  unfold fineL at h2
  simp only [Bool.and_eq_true] at h2
  have h3 := h2.2
  unfold kindL at h3
  rw [if_neg (by omega), if_pos hk, e] at h3
  simp at h3
end Drv
/-- a driver in memory -/
structure DrvAt (w : World) (D B : Nat) (n : Drv.NNet) (au : List (List Drv.LSt)) (wd : Int) : Prop where
  dlt : D < B
  states : ∃ A c, w.cell? ⟨D, 0, none⟩ = some (.slice A n.states.length c) ∧ StsR w B A n.states
  starts : NumsAt w D B 1 n.starts
  stops : NumsAt w D B 2 n.stops
  preds : NumsAt w D B 3 n.preds
  decs : NumsAt w D B 4 n.decs
  autos : ∃ A c vs, w.cell? ⟨D, 5, none⟩ = some (.slice A au.length c) ∧ Reads w B 1 A au.length vs ∧ ∀ i (h : i < au.length), ∃ Ai ci, vs[i]? = some (.slice Ai au[i].length ci) ∧ AutR w B Ai au[i]
  place : ∃ pl, NumsAt w D B 6 pl ∧ pl.length = n.states.length ∧ ∀ i (h : i < n.states.length) (h' : i < pl.length), n.states[i].ends.length ≠ 0 → pl[i] = Drv.decIx n i
  wide : w.cell? ⟨D, 7, none⟩ = some (.int .i64 wd)
theorem DrvAt.below {w w' : World} {D B : Nat} {n : Drv.NNet} {au : List (List Drv.LSt)} {wd : Int} (h : DrvAt w D B n au wd) (hb : Below B w w') : DrvAt w' D B n au wd := by
  obtain ⟨A, c, h1, h2⟩ := h.states
  obtain ⟨A', c', vs, g1, g2, g3⟩ := h.autos
  obtain ⟨pl, p1, p2, p3⟩ := h.place
  have hd := h.dlt
  refine ⟨hd, ⟨A, c, (hb.cell (p := ⟨D, 0, none⟩) hd).trans h1, h2.below hb⟩, h.starts.below hd hb, h.stops.below hd hb, h.preds.below hd hb, h.decs.below hd hb, ⟨A', c', vs, (hb.cell (p := ⟨D, 5, none⟩) hd).trans g1, g2.below hb, fun i hi => ?_⟩, ⟨pl, p1.below hd hb, p2, p3⟩, (hb.cell (p := ⟨D, 7, none⟩) hd).trans h.wide⟩
  obtain ⟨Ai, ci, e1, e2⟩ := g3 i hi
  exact ⟨Ai, ci, e1, e2.below hb⟩
theorem NumsAt.more {w : World} {D B B' j : Nat} {l : List Int} (h : NumsAt w D B j l) (hB : B ≤ B') : NumsAt w D B' j l := by
  obtain ⟨A, c, h1, h2⟩ := h
  exact ⟨A, c, h1, h2.more hB⟩
theorem DrvAt.more {w : World} {D B B' : Nat} {n : Drv.NNet} {au : List (List Drv.LSt)} {wd : Int} (h : DrvAt w D B n au wd) (hB : B ≤ B') : DrvAt w D B' n au wd := by
  obtain ⟨A, c, h1, vs0, h2, h2'⟩ := h.states
  obtain ⟨A', c', vs, g1, g2, g3⟩ := h.autos
  obtain ⟨pl, p1, p2, p3⟩ := h.place
  have hd := h.dlt
  refine ⟨by omega, ⟨A, c, h1, vs0, h2.more hB, fun i hi => ?_⟩, h.starts.more hB, h.stops.more hB, h.preds.more hB, h.decs.more hB, ⟨A', c', vs, g1, g2.more hB, fun i hi => ?_⟩, ⟨pl, p1.more hB, p2, p3⟩, h.wide⟩
  · obtain ⟨EA, ec, XA, xc, e0, e1, e2, r0, r1⟩ := h2' i hi
    exact ⟨EA, ec, XA, xc, e0, e1, e2, r0.more hB, r1.more hB⟩
  · obtain ⟨Ai, ci, e1, vs1, k1, k2⟩ := g3 i hi
    refine ⟨Ai, ci, e1, vs1, k1.more hB, fun j hj => ?_⟩
    obtain ⟨AA, ac, EA, ec, e0, e1, e2, r0, r1⟩ := k2 j hj
    exact ⟨AA, ac, EA, ec, e0, e1, e2, r0.more hB, r1.more hB⟩
theorem place_some {w : World} {B : Nat} {PA : Option Addr} {n : Drv.NNet} {au : List (List Drv.LSt)} {pl : List Int} (hok : Drv.OkNet n au) (rp : Reads w B 1 PA pl.length (pl.map (Value.int .i64))) (hpl : pl.length = n.states.length) : PA.isNone = false := by
  have h1 := hok.starts1
  have hsl : 0 < pl.length := by
    have h2 := ((Drv.rng_mk hok.may hok.len hok.autos hok.alts [] 0 0).starts 0 ⟨Int.le_refl _, by show (0 : Int) < (n.starts.length : Nat); omega⟩).1
    have h3 : (0 : Int) < ((Drv.mkDC n au [] 0 0).states.length : Nat) := by have := h2.1; have := h2.2; omega
    have h4 : (Drv.mkDC n au [] 0 0).states.length = n.states.length := rfl
    omega
  obtain ⟨b, o, e, _⟩ := rp.2 hsl
  rw [e]; rfl
theorem DrvAt.auts {w : World} {D B P M br bp : Nat} {n : Drv.NNet} {au : List (List Drv.LSt)} {wd : Int} (h : DrvAt w D B n au wd) (hok : Drv.OkNet n au) {WA : Option Addr} {wc : Nat} {toks : List Int} (hW : Reads w B 1 WA toks.length (toks.map (Value.int .i64)))
    (hwc : toks.length ≤ wc) (hwn : WA = none → wc = 0) (fuel : Int) (depth : Nat) :
    Auts w ⟨B, P, ⟨D, WA, toks.length, wc, M, fuel, depth⟩, br, bp, Drv.mkDC n au toks fuel depth⟩ au := by
  obtain ⟨pl, p1, p2, p3⟩ := h.place
  refine ⟨⟨h.dlt, h.states, h.starts, h.stops, h.preds, h.decs, rfl, hW⟩, h.autos, hok.len, fun _ _ => rfl, hok.small, ⟨pl, p1, p2, fun i hi he => ?_⟩, hok.pick, hwc, hwn⟩
  have hin : i < n.states.length := by rw [← p2]; exact hi
  have hst : (Drv.mkDC n au toks fuel depth).st (i : Int) = n.states[i] := st_at (c := Drv.mkDC n au toks fuel depth) hin
  rw [hst] at he
  exact p3 i hin hi he
/-- a parse begins -/
theorem PstAt.start {w : World} {f : Fx} (hpar : ParAt w f.P f.pc ⟨0, 0, 0, .slice none 0 0, 0, 0, 0, 0, 0, false, .slice none 0 0, 0, false⟩)
    (hm : MemoAt w f.pc.M f.br f.bp 0 f.c.starts.length (f.c.decs.length + f.c.preds.length : Nat) f.c.w.length (fun _ _ => none) (fun _ _ => none)) (hP : f.B0 ≤ f.P) (hM : ∀ j, MemoS f.pc.M f.br f.bp j → f.B0 ≤ j) :
    PstAt w f ⟨.slice none 0 0, [], []⟩ Drv.cf0 := by
  have hf1 : fRules [] = fun _ _ => none := rfl
  have hf2 : fPicks f.c.decs.length [] = fun _ _ => none := by
    funext a b
    unfold fPicks
    split <;> rfl
  refine ⟨⟨0, 0, 0, false, .slice none 0 0, hpar, ?_⟩, ?_, .inl (World.ownsRow_nil _ _ _ _), rfl, rfl, ?_, .nil, .nil, ?_, ?_⟩
  · show TrB w _ _ (.node 0 0 0 false []) _
    unfold TrB TrV
    exact ⟨none, 0, [], rfl, ⟨rfl, fun h => absurd h (Nat.lt_irrefl 0)⟩, by unfold TrsV; rfl⟩
  · show MemoAt w f.pc.M f.br f.bp 0 _ _ _ (fRules []) (fPicks f.c.decs.length [])
    rw [hf1, hf2]
    exact hm
  · intro i x g s h1
    have h1 : ([] : List Drv.Wk)[i]? = some x := h1
    rw [List.getElem?_nil] at h1
    cases h1
  · intro j hj
    rcases hj with h | h | h | h | ⟨s, hs, _⟩
    · rw [h]; exact hP
    · exact hM j h
    · have h : (none : Option Nat) = some j := h
      cases h
    · cases h
    · cases hs
  · intro j hj
    have h : (none : Option Nat) = some j := hj
    cases h
end Go.Proofs.Ytgflanlniejflaa
