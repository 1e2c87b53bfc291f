/-
  Configs: plain law of the document's closing: a step of it; what is kept, made one; alternatives.
-/
import Derived.Test.YtnpcjbdolmmaeaaDoorCfRef
namespace Go.Proofs.YtnpcjbdolmmaeaaDoor
namespace Cf
open Drv
/-- the document's kept ones are the closing's -/
structure KT (K kept : List Cfg) : Prop where
  srt : Srt kept
  dst : Dst kept
  mem : ∀ x, x ∈ kept ↔ x ∈ K
theorem KT.start : KT [] [] := ⟨List.Pairwise.nil, List.Pairwise.nil, fun _ => Iff.rfl⟩
theorem KT.put {K kept : List Cfg} (h : KT K kept) (x : Cfg) : KT (K ++ [x]) (putL kept x).1 := by
  refine ⟨putL_srt _ _ h.srt, putL_dst _ _ h.srt h.dst, fun y => ?_⟩
  cases hp : (putL kept x).2 with
  | true => rw [putL_mem kept x y hp, h.mem y]; simp
  | false =>
    have hm := (putL_no kept x h.srt).1 hp
    rw [putL_same h.srt hm, h.mem y]
    simp
    intro e; subst e; exact (h.mem y).1 hm
theorem KT.eqm {K K' kept : List Cfg} (h : KT K kept) (hm : ∀ y, y ∈ K ↔ y ∈ K') : KT K' kept := ⟨h.srt, h.dst, fun x => (h.mem x).trans (hm x)⟩
/-- one of the closing's, as the document takes it up -/
def turnR (v : Vw) (x : Cfg) : Cfg := if x.ended = false ∧ ends1 v x = true then ⟨x.alt, x.state, x.stack, x.exact, true⟩ else x
theorem turnR_ended (v : Vw) (x : Cfg) : (turnR v x).ended = (x.ended || ends1 v x) := by
  unfold turnR
  by_cases h1 : x.ended = true
  · rw [if_neg (fun e => by rw [h1] at e; cases e.1), h1]; rfl
  · have h1 : x.ended = false := by simpa using h1
    by_cases h2 : ends1 v x = true
    · rw [if_pos ⟨h1, h2⟩, h1, h2]; rfl
    · have h2' : ends1 v x = false := by simpa using h2
      rw [if_neg (fun e => h2 e.2), h1, h2']; rfl
theorem step_end {v : Vw} {c : Cl} {at0 : Nat} {met q kept : List Cfg} {x : Cfg} (h : Tells c at0 met (x :: q)) (hk : KT c.kept kept) (ho : c.over = false) (he : (turnR v x).ended = true) :
    Tells (close1 v c x) (at0 + 1) met q ∧ KT (close1 v c x).kept (putL kept (turnR v x)).1 ∧ (close1 v c x).over = false := by
  unfold close1
  unfold turnR at he ⊢
  by_cases h1 : x.ended = true
  · rw [if_pos h1, if_neg (fun e => by rw [h1] at e; cases e.1)]
    exact ⟨⟨h.next.srt, h.next.mem, h.next.len, h.next.q, h.next.at0⟩, hk.put x, ho⟩
  · have h1' : x.ended = false := by simpa using h1
    rw [if_neg h1]
    by_cases h2 : ends1 v x = true
    · rw [if_pos h2, if_pos ⟨h1', h2⟩]
      exact ⟨⟨h.next.srt, h.next.mem, h.next.len, h.next.q, h.next.at0⟩, hk.put _, ho⟩
    · rw [if_neg (fun e => h2 e.2)] at he; exact absurd he h1
theorem step_no {v : Vw} {c : Cl} {x : Cfg} (he : (turnR v x).ended = false) : turnR v x = x ∧ close1 v c x = back1 v ((stOf v x).edges.foldl (by1 v x (decide ((stOf v x).ends.length = 0))) c) x := by
  rw [turnR_ended] at he
  simp only [Bool.or_eq_false_iff] at he
  refine ⟨?_, ?_⟩
  · unfold turnR; rw [if_neg (fun e => by rw [he.2] at e; cases e.2)]
  · unfold close1
    rw [if_neg (by rw [he.1]; decide), if_neg (by rw [he.2]; decide)]
theorem step_full {v : Vw} {c : Cl} {x : Cfg} (he : (turnR v x).ended = false) (hf : fullOf v x = true) : (close1 v c x).over = true := by
  rw [(step_no (c := c) he).2]
  refine back_over x (edges_full v x _ _ _ (.inr ?_))
  unfold fullOf at hf
  rw [List.any_eq_true] at hf
  obtain ⟨e, he, h⟩ := hf
  simp at h
  exact ⟨e, he, h⟩
theorem step_more {v : Vw} {c : Cl} {at0 : Nat} {met q kept : List Cfg} {x : Cfg} (h : Tells c at0 met (x :: q)) (hk : KT c.kept kept) (ho : c.over = false) (hl : c.wait.length ≤ 2000) (he : (turnR v x).ended = false) (hf : fullOf v x = false) :
    Tells (close1 v c x) (at0 + 1) ((comeOf v x).foldl (pushR v) (met, q)).1 ((comeOf v x).foldl (pushR v) (met, q)).2 ∧
    KT (close1 v c x).kept (if staysOf v x = true then (putL kept x).1 else kept) ∧ (close1 v c x).over = decide (2000 < ((comeOf v x).foldl (pushR v) (met, q)).1.length) := by
  have hn : ∀ e ∈ (stOf v x).edges, ¬ (e.kind = 2 ∧ v.bound ≤ x.stack.count e.to) := by
    intro e he hh
    unfold fullOf at hf
    rw [List.any_eq_false] at hf
    have := hf e he
    simp at this
    have := this hh.1
    omega
  have h1 := edges_eqw v x (stOf v x).edges c c hn ⟨rfl, rfl⟩
  have h2 : Eqw (close1 v c x) ((comeOf v x).foldl (meet v) c) := by
    rw [(step_no (c := c) he).2]
    unfold comeOf
    rw [List.foldl_append, ← backs_eq]
    exact h1.meets _
  have h3 := h.next.pushes (v := v) (comeOf v x)
  have h4 := meets_over v (comeOf v x) c (by rw [ho]; exact (decide_eq_false (by omega)).symm)
  refine ⟨⟨h3.srt, fun y => by rw [h3.mem, h2.1], by rw [h3.len, h2.1], by rw [h3.q, h2.1], by rw [h2.1]; exact h3.at0⟩, ?_, ?_⟩
  · have hkk : ∀ y, y ∈ (close1 v c x).kept ↔ y ∈ c.kept ∨ (y = x ∧ staysOf v x = true) := by
      intro y
      rw [(step_no (c := c) he).2]
      have : (back1 v ((stOf v x).edges.foldl (by1 v x (decide ((stOf v x).ends.length = 0))) c) x).kept = ((stOf v x).edges.foldl (by1 v x (decide ((stOf v x).ends.length = 0))) c).kept := by
        unfold back1; split
        · rfl
        · exact meet_kept _ _ _
      rw [this]
      exact edges_kept v x _ _ c y
    by_cases hs : staysOf v x = true
    · rw [if_pos hs]
      refine (hk.put x).eqm fun y => ?_
      rw [hkk y]; simp [hs]
    · rw [if_neg hs]
      refine hk.eqm fun y => ?_
      rw [hkk y]; simp [hs]
  · rw [h2.2, h4, h3.len]
/-! ## the least alternative that surely ended -/
theorem minf_spec (f : Cfg → Int) : ∀ (l : List Cfg) (i : Int), (l.foldl (fun m x => min m (f x)) i ≤ i) ∧ (∀ x ∈ l, l.foldl (fun m x => min m (f x)) i ≤ f x) ∧ (l.foldl (fun m x => min m (f x)) i = i ∨ ∃ x ∈ l, l.foldl (fun m x => min m (f x)) i = f x)
  | [], i => ⟨Int.le_refl _, fun _ h => (by cases h), .inl rfl⟩
  | y :: l, i => by
    obtain ⟨h1, h2, h3⟩ := minf_spec f l (min i (f y))
    rw [List.foldl_cons]
    refine ⟨by omega, fun x hx => ?_, ?_⟩
    · rcases List.mem_cons.1 hx with rfl | hx
      · omega
      · exact h2 x hx
    · rcases h3 with h3 | ⟨x, hx, h3⟩
      · rcases Int.le_total i (f y) with q | q
        · left; rw [h3]; omega
        · right; exact ⟨y, by simp, by rw [h3]; omega⟩
      · right; exact ⟨x, by simp [hx], h3⟩
theorem sureOf_eqm {v : Vw} {K L : List Cfg} (h : ∀ x, (x ∈ K ∧ x.ended = true ∧ x.exact = true → ∃ y ∈ L, y.alt = x.alt ∧ y.ended = true ∧ y.exact = true)) (k : ∀ x, (x ∈ L ∧ x.ended = true ∧ x.exact = true → ∃ y ∈ K, y.alt = x.alt ∧ y.ended = true ∧ y.exact = true)) : sureOf v K = sureOf v L := by
  have half : ∀ {K L : List Cfg}, (∀ x, (x ∈ L ∧ x.ended = true ∧ x.exact = true → ∃ y ∈ K, y.alt = x.alt ∧ y.ended = true ∧ y.exact = true)) → sureOf v K ≤ sureOf v L := by
    intro K L k
    unfold sureOf
    obtain ⟨a1, a2, a3⟩ := minf_spec (fun x => x.alt) (K.filter fun x => x.ended && x.exact) v.d.ends.length
    obtain ⟨b1, b2, b3⟩ := minf_spec (fun x => x.alt) (L.filter fun x => x.ended && x.exact) v.d.ends.length
    rcases b3 with b3 | ⟨x, hx, b3⟩
    · rw [b3]; exact a1
    · rw [b3]
      have hx := List.mem_filter.1 hx
      simp at hx
      obtain ⟨y, hy, e1, e2, e3⟩ := k x ⟨hx.1, hx.2.1, hx.2.2⟩
      have := a2 y (List.mem_filter.2 ⟨hy, by simp [e2, e3]⟩)
      rw [← e1]; exact this
  exact Int.le_antisymm (half k) (half h)
theorem KT.sure {v : Vw} {K kept : List Cfg} (h : KT K kept) : sureOf v kept = sureOf v K :=
  sureOf_eqm (fun x hx => ⟨x, (h.mem x).1 hx.1, rfl, hx.2.1, hx.2.2⟩) (fun x hx => ⟨x, (h.mem x).2 hx.1, rfl, hx.2.1, hx.2.2⟩)
/-! ## those that are alike, made one -/
def exq (y : Cfg) : Cfg := ⟨y.alt, y.state, y.stack, true, y.ended⟩
def outStep (sure : Int) (acc : List Cfg) (x : Cfg) : List Cfg :=
  if sure < x.alt then acc else match acc.getLast? with
    | none => acc ++ [x]
    | some y => if ord y x = 1 then acc.dropLast ++ [exq y] else acc ++ [x]
theorem getLast_split {l : List Cfg} {y : Cfg} (h : l.getLast? = some y) : l = l.dropLast ++ [y] := by
  have hne : l ≠ [] := by intro e; rw [e] at h; cases h
  rw [List.getLast?_eq_some_getLast hne] at h
  injection h with h
  rw [← h]; exact (List.dropLast_concat_getLast hne).symm
theorem like_exq (y : Cfg) : Like (exq y) y := ⟨rfl, rfl, rfl, rfl⟩
theorem out_step {sure : Int} {p : List Cfg} {acc : List Cfg} {x : Cfg} (hs : Srt (p ++ [x])) (hd : Dst (p ++ [x])) (h : Canon (p.filter fun x => decide (x.alt ≤ sure)) acc) :
    Canon ((p ++ [x]).filter fun x => decide (x.alt ≤ sure)) (outStep sure acc x) := by
  have hps : ∀ a ∈ p, ord a x ≠ 2 := fun a ha => (List.pairwise_append.1 hs).2.2 a ha x (by simp)
  have hpd : ∀ a ∈ p, a ≠ x := fun a ha => (List.pairwise_append.1 hd).2.2 a ha x (by simp)
  rw [List.filter_append]
  unfold outStep
  by_cases hx : sure < x.alt
  · rw [if_pos hx]
    have : [x].filter (fun x => decide (x.alt ≤ sure)) = [] := by simp; omega
    rw [this, List.append_nil]; exact h
  · rw [if_neg hx]
    have : [x].filter (fun x => decide (x.alt ≤ sure)) = [x] := by simp; omega
    rw [this]
    have hax : ∀ a ∈ acc, ord a x ≠ 2 := by
      intro a ha
      obtain ⟨y, hy, hl⟩ := h.of a ha
      rw [like_ord hl]
      exact hps y (List.mem_filter.1 hy).1
    have new : (∀ a ∈ acc, ord a x = 0) → Canon (p.filter (fun x => decide (x.alt ≤ sure)) ++ [x]) (acc ++ [x]) := by
      intro h0
      refine ⟨?_, ?_, ?_, ?_⟩
      · unfold Rise
        rw [List.pairwise_append]
        exact ⟨h.rise, by simp, fun a ha b hb => by
          have : b = x := by simpa using hb
          rw [this]; exact h0 a ha⟩
      · intro z hz
        rcases List.mem_append.1 hz with hz | hz
        · obtain ⟨y, hy, hl⟩ := h.of z hz
          exact ⟨y, List.mem_append_left _ hy, hl⟩
        · have : z = x := by simpa using hz
          exact ⟨x, by simp, by rw [this]; exact Like.refl x⟩
      · intro y hy
        rcases List.mem_append.1 hy with hy | hy
        · obtain ⟨z, hz, hl⟩ := h.has y hy
          exact ⟨z, List.mem_append_left _ hz, hl⟩
        · have : y = x := by simpa using hy
          exact ⟨x, by simp, by rw [this]; exact Like.refl x⟩
      · intro z hz
        rcases List.mem_append.1 hz with hz | hz
        · rw [h.ex z hz]
          constructor
          · rintro ⟨y, hy, e1, e2⟩; exact ⟨y, List.mem_append_left _ hy, e1, e2⟩
          · rintro ⟨y, hy, e1, e2⟩
            rcases List.mem_append.1 hy with hy | hy
            · exact ⟨y, hy, e1, e2⟩
            · have : y = x := by simpa using hy
              rw [this] at e1
              have := h0 z hz
              rw [(ord_one z x).2 e1] at this; cases this
        · have hzx : z = x := by simpa using hz
          subst hzx
          constructor
          · intro e; exact ⟨z, by simp, Like.refl z, e⟩
          · rintro ⟨y, hy, e1, e2⟩
            rcases List.mem_append.1 hy with hy | hy
            · obtain ⟨u, hu, hl⟩ := h.has y hy
              have := h0 u hu
              rw [(ord_one u z).2 (hl.trans e1.symm)] at this; cases this
            · have : y = z := by simpa using hy
              rw [← this]; exact e2
    cases hl : acc.getLast? with
    | none =>
      have : acc = [] := by simpa using hl
      subst this
      exact new (by simp)
    | some y =>
      have hsp := getLast_split hl
      have hya : y ∈ acc := by rw [hsp]; simp
      dsimp only
      have hrise := h.rise
      by_cases hyx : ord y x = 1
      · rw [if_pos hyx]
        have hlk := (ord_one y x).1 hyx
        have hlast : ∀ a ∈ acc.dropLast, ord a y = 0 := by
          intro a ha
          rw [hsp] at hrise
          exact (List.pairwise_append.1 hrise).2.2 a ha y (by simp)
        obtain ⟨u, hu, hul⟩ := h.of y hya
        refine ⟨?_, ?_, ?_, ?_⟩
        · unfold Rise
          rw [List.pairwise_append]
          refine ⟨?_, by simp, fun a ha b hb => ?_⟩
          · rw [hsp] at hrise; exact (List.pairwise_append.1 hrise).1
          · have : b = exq y := by simpa using hb
            rw [this, like_ord2 (like_exq y)]
            exact hlast a ha
        · intro z hz
          rcases List.mem_append.1 hz with hz | hz
          · obtain ⟨w, hw, hl⟩ := h.of z (List.dropLast_subset _ hz)
            exact ⟨w, List.mem_append_left _ hw, hl⟩
          · have : z = exq y := by simpa using hz
            exact ⟨x, by simp, by rw [this]; exact (like_exq y).trans hlk⟩
        · intro w hw
          have key : ∀ a ∈ acc, Like a w → ∃ z ∈ acc.dropLast ++ [exq y], Like z w := by
            intro a ha hl
            rw [hsp] at ha
            rcases List.mem_append.1 ha with ha | ha
            · exact ⟨a, List.mem_append_left _ ha, hl⟩
            · have : a = y := by simpa using ha
              exact ⟨exq y, by simp, (like_exq y).trans (this ▸ hl)⟩
          rcases List.mem_append.1 hw with hw | hw
          · obtain ⟨a, ha, hl⟩ := h.has w hw
            exact key a ha hl
          · have : w = x := by simpa using hw
            exact key y hya (this ▸ hlk)
        · intro z hz
          rcases List.mem_append.1 hz with hz | hz
          · have hza := List.dropLast_subset _ hz
            rw [h.ex z hza]
            constructor
            · rintro ⟨w, hw, e1, e2⟩; exact ⟨w, List.mem_append_left _ hw, e1, e2⟩
            · rintro ⟨w, hw, e1, e2⟩
              rcases List.mem_append.1 hw with hw | hw
              · exact ⟨w, hw, e1, e2⟩
              · have : w = x := by simpa using hw
                have h0 := hlast z hz
                rw [(ord_one z y).2 (e1.trans (this ▸ hlk.symm))] at h0; cases h0
          · have hzy : z = exq y := by simpa using hz
            subst hzy
            refine ⟨fun _ => ?_, fun _ => rfl⟩
            by_cases hxe : x.exact = true
            · exact ⟨x, by simp, (like_exq y).trans hlk, hxe⟩
            · have hux : u ≠ x := hpd u (List.mem_filter.1 hu).1
              have hue : u.exact = true := by
                cases hue : u.exact with
                | true => rfl
                | false =>
                  have hxe' : x.exact = false := by simpa using hxe
                  exact absurd ((hul.symm.trans hlk).eq (by rw [hue, hxe'])) hux
              exact ⟨u, List.mem_append_left _ hu, (like_exq y).trans hul, hue⟩
      · rw [if_neg hyx]
        have hy0 : ord y x = 0 := by have := ord_01 y x; have := hax y hya; omega
        refine new fun a ha => ?_
        rw [hsp] at ha hrise
        rcases List.mem_append.1 ha with ha | ha
        · exact ord_trans ((List.pairwise_append.1 hrise).2.2 a ha y (by simp)) hy0
        · have : a = y := by simpa using ha
          rw [this]; exact hy0
def outR (sure : Int) (l : List Cfg) : List Cfg := l.foldl (outStep sure) []
theorem outR_snoc (sure : Int) (l : List Cfg) (i : Nat) (h : i < l.length) : outR sure (l.take (i + 1)) = outStep sure (outR sure (l.take i)) l[i] := by
  unfold outR
  rw [List.take_succ_eq_append_getElem h, List.foldl_append]
  rfl
theorem outR_canon {sure : Int} {l : List Cfg} (hs : Srt l) (hd : Dst l) : ∀ i, i ≤ l.length → Canon ((l.take i).filter fun x => decide (x.alt ≤ sure)) (outR sure (l.take i)) := by
  intro i
  induction i with
  | zero => intro _; rw [List.take_zero]; exact ⟨List.Pairwise.nil, fun _ h => (by cases h), fun _ h => (by cases h), fun _ h => (by cases h)⟩
  | succ i ih =>
    intro hi
    rw [outR_snoc sure l i hi, List.take_succ_eq_append_getElem hi]
    have hsub : (l.take i ++ [l[i]]).Sublist l := by rw [← List.take_succ_eq_append_getElem hi]; exact List.take_sublist _ _
    exact out_step (List.Pairwise.sublist hsub hs) (List.Pairwise.sublist hsub hd) (ih (by omega))
theorem Canon.eqm {K K' L : List Cfg} (h : Canon K L) (hm : ∀ y, y ∈ K ↔ y ∈ K') : Canon K' L :=
  ⟨h.rise, fun x hx => by obtain ⟨y, hy, e⟩ := h.of x hx; exact ⟨y, (hm y).1 hy, e⟩, fun y hy => h.has y ((hm y).2 hy), fun x hx => by
    rw [h.ex x hx]
    exact ⟨fun ⟨y, hy, e⟩ => ⟨y, (hm y).1 hy, e⟩, fun ⟨y, hy, e⟩ => ⟨y, (hm y).2 hy, e⟩⟩⟩
theorem KT.canon {K kept : List Cfg} (h : KT K kept) (sure : Int) : Canon (K.filter fun x => decide (x.alt ≤ sure)) (outR sure kept) := by
  have := outR_canon (sure := sure) h.srt h.dst kept.length (Nat.le_refl _)
  rw [List.take_length] at this
  refine this.eqm fun y => ?_
  rw [List.mem_filter, List.mem_filter, h.mem y]
end Cf
end Go.Proofs.YtnpcjbdolmmaeaaDoor
