/-
  Configs: plain law of the document's closing: lists in order.
-/
import Derived.Test.YtnpcjbdolmmaeaaGreatDoorL01
namespace Go.Proofs.YtnpcjbdolmmaeaaGreatDoor
namespace Cf
open Drv
def Srt (l : List Cfg) : Prop := l.Pairwise fun a b => ord a b ≠ 2
def Dst (l : List Cfg) : Prop := l.Pairwise fun a b => a ≠ b
def likeHas (l : List Cfg) (c : Cfg) : Bool := (l.takeWhile fun x => decide (ord x c = 1)).any fun x => x.exact == c.exact
def putL : List Cfg → Cfg → List Cfg × Bool
  | [], c => ([c], true)
  | x :: r, c => if ord x c = 0 then (x :: (putL r c).1, (putL r c).2) else if likeHas (x :: r) c = true then (x :: r, false) else (c :: x :: r, true)
def ahead (l : List Cfg) (c : Cfg) : Nat := (l.takeWhile fun x => decide (ord x c = 0)).length
theorem ahead_le (l : List Cfg) (c : Cfg) : ahead l c ≤ l.length := by
  unfold ahead
  exact (List.takeWhile_prefix _).length_le
theorem putL_ix : ∀ (l : List Cfg) (c : Cfg), putL l c = if likeHas (l.drop (ahead l c)) c = true then (l, false) else (l.take (ahead l c) ++ c :: l.drop (ahead l c), true)
  | [], c => by simp [putL, ahead, likeHas]
  | x :: r, c => by
    unfold putL
    by_cases h : ord x c = 0
    · have ha : ahead (x :: r) c = ahead r c + 1 := by unfold ahead; rw [List.takeWhile_cons_of_pos (by simpa using h)]; rfl
      rw [if_pos h, ha, List.drop_succ_cons, List.take_succ_cons, putL_ix r c]
      split <;> rfl
    · have ha : ahead (x :: r) c = 0 := by unfold ahead; rw [List.takeWhile_cons_of_neg (by simpa using h)]; rfl
      rw [if_neg h, ha, List.drop_zero, List.take_zero]
      rfl
theorem ord_01 (a b : Cfg) : ord a b = 0 ∨ ord a b = 1 ∨ ord a b = 2 := by have := ord_cmp.le a b; omega
theorem likeHas_iff : ∀ (l : List Cfg) (c : Cfg), Srt l → (∀ y ∈ l, ord y c ≠ 0) → (likeHas l c = true ↔ c ∈ l)
  | [], c, _, _ => by simp [likeHas]
  | y :: r, c, hs, hn => by
    have hs1 := List.pairwise_cons.1 hs
    have ih := likeHas_iff r c hs1.2 fun z hz => hn z (by simp [hz])
    by_cases h : ord y c = 1
    · unfold likeHas at ih ⊢
      rw [List.takeWhile_cons_of_pos (by simpa using h), List.any_cons, Bool.or_eq_true, ih, List.mem_cons]
      have hl := (ord_one y c).1 h
      constructor
      · rintro (e | e)
        · exact .inl (hl.eq (by simpa using e)).symm
        · exact .inr e
      · rintro (e | e)
        · exact .inl (by simp [e])
        · exact .inr e
    · unfold likeHas
      rw [List.takeWhile_cons_of_neg (by simpa using h)]
      have h2 : ord y c = 2 := by have := ord_01 y c; have := hn y (by simp); omega
      constructor
      · intro e; simp at e
      · intro e
        rcases List.mem_cons.1 e with e | e
        · rw [e] at h; exact absurd ((ord_one y y).2 (Like.refl y)) h
        · exact absurd h2 (hs1.1 c e)
theorem not_ahead {x c : Cfg} {r : List Cfg} (hs : Srt (x :: r)) (h : ord x c ≠ 0) : ∀ y ∈ x :: r, ord y c ≠ 0 := by
  have hs1 := List.pairwise_cons.1 hs
  intro y hy
  rcases List.mem_cons.1 hy with rfl | hy
  · exact h
  · intro e
    have h1 := hs1.1 y hy
    rcases ord_01 x y with q | q | q
    · exact h (ord_cmp.tr _ _ _ q e)
    · exact h ((ord_cmp.cl x y c q).trans e)
    · exact h1 q
theorem putL_no : ∀ (l : List Cfg) (c : Cfg), Srt l → ((putL l c).2 = false ↔ c ∈ l)
  | [], c, _ => by simp [putL]
  | x :: r, c, hs => by
    have hs1 := List.pairwise_cons.1 hs
    unfold putL
    by_cases h : ord x c = 0
    · rw [if_pos h]
      show (putL r c).2 = false ↔ _
      rw [putL_no r c hs1.2, List.mem_cons]
      constructor
      · exact .inr
      · rintro (e | e)
        · rw [e] at h; exact absurd h (ord_irr x)
        · exact e
    · rw [if_neg h]
      have hk := likeHas_iff (x :: r) c hs (not_ahead hs h)
      by_cases e : likeHas (x :: r) c = true
      · rw [if_pos e]; simp [hk.1 e]
      · rw [if_neg e]
        constructor
        · intro q; cases q
        · intro q; exact absurd (hk.2 q) e
theorem putL_same {l : List Cfg} {c : Cfg} (hs : Srt l) (h : c ∈ l) : putL l c = (l, false) := by
  have h1 := (putL_no l c hs).2 h
  rw [putL_ix] at h1 ⊢
  split
  · rfl
  · next e => rw [if_neg e] at h1; cases h1
theorem putL_mem : ∀ (l : List Cfg) (c x : Cfg), (putL l c).2 = true → (x ∈ (putL l c).1 ↔ x ∈ l ∨ x = c)
  | [], c, x, _ => by simp [putL]
  | y :: r, c, x, h => by
    unfold putL at h ⊢
    by_cases e : ord y c = 0
    · rw [if_pos e] at h ⊢
      show x ∈ y :: (putL r c).1 ↔ _
      rw [List.mem_cons, putL_mem r c x h, List.mem_cons]
      constructor
      · rintro (q | q | q)
        · exact .inl (.inl q)
        · exact .inl (.inr q)
        · exact .inr q
      · rintro ((q | q) | q)
        · exact .inl q
        · exact .inr (.inl q)
        · exact .inr (.inr q)
    · rw [if_neg e] at h ⊢
      split at h
      · cases h
      · next e2 =>
        rw [if_neg e2]
        show x ∈ c :: y :: r ↔ _
        rw [List.mem_cons]
        constructor
        · rintro (q | q)
          · exact .inr q
          · exact .inl q
        · rintro (q | q)
          · exact .inr q
          · exact .inl q
theorem putL_len : ∀ (l : List Cfg) (c : Cfg), (putL l c).2 = true → (putL l c).1.length = l.length + 1
  | l, c, h => by
    rw [putL_ix] at h ⊢
    have := ahead_le l c
    split
    · next e => rw [if_pos e] at h; cases h
    · simp; omega
theorem putL_srt : ∀ (l : List Cfg) (c : Cfg), Srt l → Srt (putL l c).1
  | [], c, _ => by simp [putL, Srt]
  | x :: r, c, hs => by
    have hs1 := List.pairwise_cons.1 hs
    unfold putL
    by_cases h : ord x c = 0
    · rw [if_pos h]
      show Srt (x :: (putL r c).1)
      refine List.pairwise_cons.2 ⟨fun z hz => ?_, putL_srt r c hs1.2⟩
      cases hp : (putL r c).2 with
      | true =>
        rcases (putL_mem r c z hp).1 hz with q | q
        · exact hs1.1 z q
        · rw [q, h]; decide
      | false =>
        rw [putL_same hs1.2 ((putL_no r c hs1.2).1 hp)] at hz
        exact hs1.1 z hz
    · rw [if_neg h]
      split
      · exact hs
      · refine List.pairwise_cons.2 ⟨fun z hz => ?_, hs⟩
        have h1 := not_ahead hs h z hz
        have h2 := ord_cmp.flip z c
        rw [h2]; omega
theorem putL_dst : ∀ (l : List Cfg) (c : Cfg), Srt l → Dst l → Dst (putL l c).1
  | [], c, _, _ => by simp [putL, Dst]
  | x :: r, c, hs, hd => by
    have hs1 := List.pairwise_cons.1 hs
    have hd1 := List.pairwise_cons.1 hd
    unfold putL
    by_cases h : ord x c = 0
    · rw [if_pos h]
      show Dst (x :: (putL r c).1)
      refine List.pairwise_cons.2 ⟨fun z hz => ?_, putL_dst r c hs1.2 hd1.2⟩
      cases hp : (putL r c).2 with
      | true =>
        rcases (putL_mem r c z hp).1 hz with q | q
        · exact hd1.1 z q
        · rw [q]; intro e; rw [e] at h; exact ord_irr c h
      | false =>
        rw [putL_same hs1.2 ((putL_no r c hs1.2).1 hp)] at hz
        exact hd1.1 z hz
    · rw [if_neg h]
      have hk := likeHas_iff (x :: r) c hs (not_ahead hs h)
      split
      · exact hd
      · next e =>
        refine List.pairwise_cons.2 ⟨fun z hz => ?_, hd⟩
        intro q; rw [← q] at hz; exact e (hk.2 hz)
def fullOf (v : Vw) (x : Cfg) : Bool := (stOf v x).edges.any fun e => decide (e.kind = 2) && decide (v.bound ≤ x.stack.count e.to)
def comeE (v : Vw) (x : Cfg) (e : Ed) : List Cfg :=
  if e.kind = 0 then [atC x e.to x.stack (decide ((stOf v x).ends.length = 0))] else if e.kind = 3 then [atC x e.to x.stack false] else if e.kind = 2 then [atC x (v.n.starts.getD e.what.toNat 0) (x.stack ++ [e.to]) true] else []
def backs (v : Vw) (x : Cfg) : List Cfg := v.n.stops.flatMap fun s => if x.stack ≠ [] ∧ s = x.state then [atC x (x.stack.getLastD 0) x.stack.dropLast true] else []
def comeOf (v : Vw) (x : Cfg) : List Cfg := (stOf v x).edges.flatMap (comeE v x) ++ backs v x
def staysOf (v : Vw) (x : Cfg) : Bool := (stOf v x).edges.any fun e => decide (e.kind = 1)
def pushR (v : Vw) (p : List Cfg × List Cfg) (x : Cfg) : List Cfg × List Cfg :=
  if has v x = false then p else ((putL p.1 x).1, if (putL p.1 x).2 = true then p.2 ++ [x] else p.2)
structure Tells (c : Cl) (at0 : Nat) (met q : List Cfg) : Prop where
  srt : Srt met
  mem : ∀ x, x ∈ met ↔ x ∈ c.wait
  len : met.length = c.wait.length
  q : q = c.wait.drop at0
  at0 : at0 ≤ c.wait.length
theorem Tells.push {v : Vw} {c : Cl} {at0 : Nat} {met q : List Cfg} (h : Tells c at0 met q) (x : Cfg) : Tells (meet v c x) at0 (pushR v (met, q) x).1 (pushR v (met, q) x).2 := by
  unfold pushR meet
  by_cases hx : has v x = false
  · rw [if_pos hx, if_pos (.inr hx)]; exact h
  · rw [if_neg hx]
    dsimp only
    by_cases hm : x ∈ c.wait
    · rw [if_pos (.inl hm), putL_same h.srt ((h.mem x).2 hm)]
      exact ⟨h.srt, h.mem, h.len, by simpa using h.q, h.at0⟩
    · rw [if_neg (by rintro (e | e); exact hm e; exact hx e)]
      have hp : (putL met x).2 = true := by
        cases hq : (putL met x).2 with
        | true => rfl
        | false => exact absurd ((h.mem x).1 ((putL_no met x h.srt).1 hq)) hm
      rw [if_pos hp]
      refine ⟨putL_srt _ _ h.srt, fun y => ?_, ?_, ?_, ?_⟩
      · rw [putL_mem met x y hp, h.mem y]; simp
      · rw [putL_len met x hp, h.len]; simp
      · rw [h.q, List.drop_append_of_le_length h.at0]
      · have := h.at0; simp; omega
theorem Tells.pushes {v : Vw} : ∀ (l : List Cfg) {c : Cl} {at0 : Nat} {met q : List Cfg}, Tells c at0 met q → Tells (l.foldl (meet v) c) at0 (l.foldl (pushR v) (met, q)).1 (l.foldl (pushR v) (met, q)).2
  | [], _, _, _, _, h => h
  | x :: l, _, _, _, _, h => Tells.pushes l (h.push x)
theorem Tells.next {c : Cl} {at0 : Nat} {met : List Cfg} {x : Cfg} {q : List Cfg} (h : Tells c at0 met (x :: q)) : Tells c (at0 + 1) met q := by
  have hl : at0 < c.wait.length := by
    have := congrArg List.length h.q
    simp at this; omega
  refine ⟨h.srt, h.mem, h.len, ?_, hl⟩
  have := congrArg List.tail h.q
  simpa [List.tail_drop] using this
theorem meet_over1 (v : Vw) (c : Cl) (x : Cfg) (h : c.over = decide (2000 < c.wait.length)) : (meet v c x).over = decide (2000 < (meet v c x).wait.length) := by
  unfold meet; split
  · exact h
  · by_cases e : 2000 < c.wait.length
    · rw [decide_eq_true e] at h
      simp [h]; omega
    · rw [decide_eq_false e] at h
      simp [h]
theorem meets_over (v : Vw) : ∀ (l : List Cfg) (c : Cl), c.over = decide (2000 < c.wait.length) → (l.foldl (meet v) c).over = decide (2000 < (l.foldl (meet v) c).wait.length)
  | [], _, h => h
  | x :: l, c, h => meets_over v l _ (meet_over1 v c x h)
theorem meet_kept (v : Vw) (c : Cl) (x : Cfg) : (meet v c x).kept = c.kept := by unfold meet; split <;> rfl
theorem meets_kept (v : Vw) : ∀ (l : List Cfg) (c : Cl), (l.foldl (meet v) c).kept = c.kept
  | [], _ => rfl
  | x :: l, c => by rw [List.foldl_cons, meets_kept v l, meet_kept]
def Eqw (a b : Cl) : Prop := a.wait = b.wait ∧ a.over = b.over
theorem Eqw.meet {a b : Cl} (h : Eqw a b) (v : Vw) (x : Cfg) : Eqw (meet v a x) (meet v b x) := by
  obtain ⟨h1, h2⟩ := h
  unfold Cf.meet
  rw [h1, h2]
  split
  · exact ⟨h1, h2⟩
  · exact ⟨rfl, rfl⟩
theorem Eqw.meets {v : Vw} : ∀ (l : List Cfg) {a b : Cl}, Eqw a b → Eqw (l.foldl (Cf.meet v) a) (l.foldl (Cf.meet v) b)
  | [], _, _, h => h
  | x :: l, _, _, h => Eqw.meets l (h.meet v x)
theorem edges_eqw (v : Vw) (x : Cfg) : ∀ (l : List Ed) (c c' : Cl), (∀ e ∈ l, ¬ (e.kind = 2 ∧ v.bound ≤ x.stack.count e.to)) → Eqw c c' →
    Eqw (l.foldl (by1 v x (decide ((stOf v x).ends.length = 0))) c) ((l.flatMap (comeE v x)).foldl (meet v) c')
  | [], _, _, _, h => h
  | e :: l, c, c', hn, h => by
    rw [List.foldl_cons, List.flatMap_cons, List.foldl_append]
    refine edges_eqw v x l _ _ (fun e' he => hn e' (by simp [he])) ?_
    have h1 := hn e (by simp)
    unfold by1 comeE
    by_cases k0 : e.kind = 0
    · rw [if_pos k0, if_pos k0]; exact h.meet v _
    · rw [if_neg k0, if_neg k0]
      by_cases k3 : e.kind = 3
      · rw [if_pos k3, if_pos k3]; exact h.meet v _
      · rw [if_neg k3, if_neg k3]
        by_cases k2 : e.kind = 2
        · rw [if_neg (by omega), if_pos k2, if_pos k2, if_neg (fun q => h1 ⟨k2, q⟩)]; exact h.meet v _
        · rw [if_neg k2]
          split
          · exact h
          · exact h
theorem edges_kept (v : Vw) (x : Cfg) (p : Bool) : ∀ (l : List Ed) (c : Cl), ∀ y, y ∈ (l.foldl (by1 v x p) c).kept ↔ y ∈ c.kept ∨ (y = x ∧ l.any (fun e => decide (e.kind = 1)) = true)
  | [], c, y => by simp
  | e :: l, c, y => by
    rw [List.foldl_cons, edges_kept v x p l, List.any_cons, Bool.or_eq_true, decide_eq_true_eq]
    by_cases k1 : e.kind = 1
    · have : (by1 v x p c e).kept = c.kept ++ [x] := by
        unfold by1; rw [if_neg (by omega), if_neg (by omega), if_pos k1]; rfl
      rw [this]; simp [k1]
      intro q _ _ _; exact .inr q
    · have : (by1 v x p c e).kept = c.kept := by
        unfold by1
        repeat' split
        all_goals first | exact meet_kept _ _ _ | rfl | (exact absurd (by assumption) k1)
      rw [this]; simp [k1]
theorem edges_full (v : Vw) (x : Cfg) (p : Bool) : ∀ (l : List Ed) (c : Cl), (c.over = true ∨ ∃ e ∈ l, e.kind = 2 ∧ v.bound ≤ x.stack.count e.to) → (l.foldl (by1 v x p) c).over = true
  | [], c, h => by
    rcases h with h | ⟨e, he, _⟩
    · exact h
    · cases he
  | e :: l, c, h => by
    rw [List.foldl_cons]
    refine edges_full v x p l _ ?_
    have hk : c.over = true → (by1 v x p c e).over = true := by
      intro ho
      unfold by1 meet
      repeat' split
      all_goals simp_all [keep]
    rcases h with h | ⟨e', he, h2, h3⟩
    · exact .inl (hk h)
    · rcases List.mem_cons.1 he with q | q
      · subst q
        refine .inl ?_
        unfold by1
        rw [if_neg (by omega), if_neg (by omega), if_neg (by omega), if_pos h2, if_pos h3]
      · exact .inr ⟨e', q, h2, h3⟩
theorem back_over {v : Vw} {c : Cl} (x : Cfg) (h : c.over = true) : (back1 v c x).over = true := by
  unfold back1 meet
  repeat' split
  all_goals simp_all
theorem meet_twice (v : Vw) (c : Cl) (x : Cfg) : meet v (meet v c x) x = meet v c x := by
  by_cases h : has v x = false
  · have : ∀ d : Cl, meet v d x = d := fun d => by unfold meet; rw [if_pos (.inr h)]
    rw [this, this]
  · have hm : x ∈ (meet v c x).wait := by
      unfold meet
      by_cases q : x ∈ c.wait
      · rw [if_pos (.inl q)]; exact q
      · rw [if_neg (by rintro (e | e); exact q e; exact h e)]; simp
    have key : ∀ d : Cl, x ∈ d.wait → meet v d x = d := fun d h => by unfold meet; rw [if_pos (.inl h)]
    exact key _ hm
theorem backs_eq (v : Vw) (x : Cfg) (c : Cl) : (backs v x).foldl (meet v) c = back1 v c x := by
  unfold backs back1
  by_cases hs : x.stack = []
  · rw [if_pos (.inl hs)]
    have : (v.n.stops.flatMap fun s => if x.stack ≠ [] ∧ s = x.state then [atC x (x.stack.getLastD 0) x.stack.dropLast true] else []) = [] := by
      rw [List.flatMap_eq_nil_iff]
      intro s _
      rw [if_neg (fun q => q.1 hs)]
    rw [this]; rfl
  · generalize hy : atC x (x.stack.getLastD 0) x.stack.dropLast true = y
    have key : ∀ (l : List Int) (c : Cl), (l.flatMap fun s => if x.stack ≠ [] ∧ s = x.state then [y] else []).foldl (meet v) c = if l.contains x.state = false then c else meet v c y := by
      intro l
      induction l with
      | nil => intro c; rfl
      | cons s l ih =>
        intro c
        rw [List.flatMap_cons, List.foldl_append]
        by_cases e : s = x.state
        · rw [if_pos ⟨hs, e⟩]
          show (l.flatMap _).foldl (meet v) (meet v c y) = _
          rw [ih]
          have : (s :: l).contains x.state = true := by simp [e]
          rw [if_neg (show ¬ (s :: l).contains x.state = false by rw [this]; decide)]
          split
          · rfl
          · exact meet_twice v c y
        · rw [if_neg (fun q => e q.2)]
          show (l.flatMap _).foldl (meet v) c = _
          rw [ih]
          have : (s :: l).contains x.state = l.contains x.state := by
            rw [List.contains_cons]
            have : (x.state == s) = false := by simpa using fun q => e q.symm
            rw [this, Bool.false_or]
          rw [this]
    rw [key]
    by_cases hc : v.n.stops.contains x.state = false
    · rw [if_pos hc, if_pos (.inr hc)]
    · rw [if_neg hc, if_neg (by rintro (q | q); exact hs q; exact hc q)]
end Cf
end Go.Proofs.YtnpcjbdolmmaeaaGreatDoor
namespace Go.Proofs.YtnpcjbdolmmaeaaGreatDoor
namespace Cf
open Drv
structure KT (K kept : List Cfg) : Prop where
  srt : Srt kept
  dst : Dst kept
  mem : ∀ x, x ∈ kept ↔ x ∈ K
theorem KT.start : KT [] [] := ⟨List.Pairwise.nil, List.Pairwise.nil, fun _ => Iff.rfl⟩
theorem KT.put {K kept : List Cfg} (h : KT K kept) (x : Cfg) : KT (K ++ [x]) (putL kept x).1 := by
  refine ⟨putL_srt _ _ h.srt, putL_dst _ _ h.srt h.dst, fun y => ?_⟩
  cases hp : (putL kept x).2 with
  | true => rw [putL_mem kept x y hp, h.mem y]; simp
  | false =>
    have hm := (putL_no kept x h.srt).1 hp
    rw [putL_same h.srt hm, h.mem y]
    simp
    intro e; subst e; exact (h.mem y).1 hm
theorem KT.eqm {K K' kept : List Cfg} (h : KT K kept) (hm : ∀ y, y ∈ K ↔ y ∈ K') : KT K' kept := ⟨h.srt, h.dst, fun x => (h.mem x).trans (hm x)⟩
def turnR (v : Vw) (x : Cfg) : Cfg := if x.ended = false ∧ ends1 v x = true then ⟨x.alt, x.state, x.stack, x.exact, true⟩ else x
theorem turnR_ended (v : Vw) (x : Cfg) : (turnR v x).ended = (x.ended || ends1 v x) := by
  unfold turnR
  by_cases h1 : x.ended = true
  · rw [if_neg (fun e => by rw [h1] at e; cases e.1), h1]; rfl
  · have h1 : x.ended = false := by simpa using h1
    by_cases h2 : ends1 v x = true
    · rw [if_pos ⟨h1, h2⟩, h1, h2]; rfl
    · have h2' : ends1 v x = false := by simpa using h2
      rw [if_neg (fun e => h2 e.2), h1, h2']; rfl
theorem step_end {v : Vw} {c : Cl} {at0 : Nat} {met q kept : List Cfg} {x : Cfg} (h : Tells c at0 met (x :: q)) (hk : KT c.kept kept) (ho : c.over = false) (he : (turnR v x).ended = true) :
    Tells (close1 v c x) (at0 + 1) met q ∧ KT (close1 v c x).kept (putL kept (turnR v x)).1 ∧ (close1 v c x).over = false := by
  unfold close1
  unfold turnR at he ⊢
  by_cases h1 : x.ended = true
  · rw [if_pos h1, if_neg (fun e => by rw [h1] at e; cases e.1)]
    exact ⟨⟨h.next.srt, h.next.mem, h.next.len, h.next.q, h.next.at0⟩, hk.put x, ho⟩
  · have h1' : x.ended = false := by simpa using h1
    rw [if_neg h1]
    by_cases h2 : ends1 v x = true
    · rw [if_pos h2, if_pos ⟨h1', h2⟩]
      exact ⟨⟨h.next.srt, h.next.mem, h.next.len, h.next.q, h.next.at0⟩, hk.put _, ho⟩
    · rw [if_neg (fun e => h2 e.2)] at he; exact absurd he h1
theorem step_no {v : Vw} {c : Cl} {x : Cfg} (he : (turnR v x).ended = false) : turnR v x = x ∧ close1 v c x = back1 v ((stOf v x).edges.foldl (by1 v x (decide ((stOf v x).ends.length = 0))) c) x := by
  rw [turnR_ended] at he
  simp only [Bool.or_eq_false_iff] at he
  refine ⟨?_, ?_⟩
  · unfold turnR; rw [if_neg (fun e => by rw [he.2] at e; cases e.2)]
  · unfold close1
    rw [if_neg (by rw [he.1]; decide), if_neg (by rw [he.2]; decide)]
theorem step_full {v : Vw} {c : Cl} {x : Cfg} (he : (turnR v x).ended = false) (hf : fullOf v x = true) : (close1 v c x).over = true := by
  rw [(step_no (c := c) he).2]
  refine back_over x (edges_full v x _ _ _ (.inr ?_))
  unfold fullOf at hf
  rw [List.any_eq_true] at hf
  obtain ⟨e, he, h⟩ := hf
  simp at h
  exact ⟨e, he, h⟩
theorem step_more {v : Vw} {c : Cl} {at0 : Nat} {met q kept : List Cfg} {x : Cfg} (h : Tells c at0 met (x :: q)) (hk : KT c.kept kept) (ho : c.over = false) (hl : c.wait.length ≤ 2000) (he : (turnR v x).ended = false) (hf : fullOf v x = false) :
    Tells (close1 v c x) (at0 + 1) ((comeOf v x).foldl (pushR v) (met, q)).1 ((comeOf v x).foldl (pushR v) (met, q)).2 ∧
    KT (close1 v c x).kept (if staysOf v x = true then (putL kept x).1 else kept) ∧ (close1 v c x).over = decide (2000 < ((comeOf v x).foldl (pushR v) (met, q)).1.length) := by
  have hn : ∀ e ∈ (stOf v x).edges, ¬ (e.kind = 2 ∧ v.bound ≤ x.stack.count e.to) := by
    intro e he hh
    unfold fullOf at hf
    rw [List.any_eq_false] at hf
    have := hf e he
    simp at this
    have := this hh.1
    omega
  have h1 := edges_eqw v x (stOf v x).edges c c hn ⟨rfl, rfl⟩
  have h2 : Eqw (close1 v c x) ((comeOf v x).foldl (meet v) c) := by
    rw [(step_no (c := c) he).2]
    unfold comeOf
    rw [List.foldl_append, ← backs_eq]
    exact h1.meets _
  have h3 := h.next.pushes (v := v) (comeOf v x)
  have h4 := meets_over v (comeOf v x) c (by rw [ho]; exact (decide_eq_false (by omega)).symm)
  refine ⟨⟨h3.srt, fun y => by rw [h3.mem, h2.1], by rw [h3.len, h2.1], by rw [h3.q, h2.1], by rw [h2.1]; exact h3.at0⟩, ?_, ?_⟩
  · have hkk : ∀ y, y ∈ (close1 v c x).kept ↔ y ∈ c.kept ∨ (y = x ∧ staysOf v x = true) := by
      intro y
      rw [(step_no (c := c) he).2]
      have : (back1 v ((stOf v x).edges.foldl (by1 v x (decide ((stOf v x).ends.length = 0))) c) x).kept = ((stOf v x).edges.foldl (by1 v x (decide ((stOf v x).ends.length = 0))) c).kept := by
        unfold back1; split
        · rfl
        · exact meet_kept _ _ _
      rw [this]
      exact edges_kept v x _ _ c y
    by_cases hs : staysOf v x = true
    · rw [if_pos hs]
      refine (hk.put x).eqm fun y => ?_
      rw [hkk y]; simp [hs]
    · rw [if_neg hs]
      refine hk.eqm fun y => ?_
      rw [hkk y]; simp [hs]
  · rw [h2.2, h4, h3.len]
theorem minf_spec (f : Cfg → Int) : ∀ (l : List Cfg) (i : Int), (l.foldl (fun m x => min m (f x)) i ≤ i) ∧ (∀ x ∈ l, l.foldl (fun m x => min m (f x)) i ≤ f x) ∧ (l.foldl (fun m x => min m (f x)) i = i ∨ ∃ x ∈ l, l.foldl (fun m x => min m (f x)) i = f x)
  | [], i => ⟨Int.le_refl _, fun _ h => (by cases h), .inl rfl⟩
  | y :: l, i => by
    obtain ⟨h1, h2, h3⟩ := minf_spec f l (min i (f y))
    rw [List.foldl_cons]
    refine ⟨by omega, fun x hx => ?_, ?_⟩
    · rcases List.mem_cons.1 hx with rfl | hx
      · omega
      · exact h2 x hx
    · rcases h3 with h3 | ⟨x, hx, h3⟩
      · rcases Int.le_total i (f y) with q | q
        · left; rw [h3]; omega
        · right; exact ⟨y, by simp, by rw [h3]; omega⟩
      · right; exact ⟨x, by simp [hx], h3⟩
theorem sureOf_eqm {v : Vw} {K L : List Cfg} (h : ∀ x, (x ∈ K ∧ x.ended = true ∧ x.exact = true → ∃ y ∈ L, y.alt = x.alt ∧ y.ended = true ∧ y.exact = true)) (k : ∀ x, (x ∈ L ∧ x.ended = true ∧ x.exact = true → ∃ y ∈ K, y.alt = x.alt ∧ y.ended = true ∧ y.exact = true)) : sureOf v K = sureOf v L := by
  have half : ∀ {K L : List Cfg}, (∀ x, (x ∈ L ∧ x.ended = true ∧ x.exact = true → ∃ y ∈ K, y.alt = x.alt ∧ y.ended = true ∧ y.exact = true)) → sureOf v K ≤ sureOf v L := by
    intro K L k
    unfold sureOf
    obtain ⟨a1, a2, a3⟩ := minf_spec (fun x => x.alt) (K.filter fun x => x.ended && x.exact) v.d.ends.length
    obtain ⟨b1, b2, b3⟩ := minf_spec (fun x => x.alt) (L.filter fun x => x.ended && x.exact) v.d.ends.length
    rcases b3 with b3 | ⟨x, hx, b3⟩
    · rw [b3]; exact a1
    · rw [b3]
      have hx := List.mem_filter.1 hx
      simp at hx
      obtain ⟨y, hy, e1, e2, e3⟩ := k x ⟨hx.1, hx.2.1, hx.2.2⟩
      have := a2 y (List.mem_filter.2 ⟨hy, by simp [e2, e3]⟩)
      rw [← e1]; exact this
  exact Int.le_antisymm (half k) (half h)
theorem KT.sure {v : Vw} {K kept : List Cfg} (h : KT K kept) : sureOf v kept = sureOf v K :=
  sureOf_eqm (fun x hx => ⟨x, (h.mem x).1 hx.1, rfl, hx.2.1, hx.2.2⟩) (fun x hx => ⟨x, (h.mem x).2 hx.1, rfl, hx.2.1, hx.2.2⟩)
def exq (y : Cfg) : Cfg := ⟨y.alt, y.state, y.stack, true, y.ended⟩
def outStep (sure : Int) (acc : List Cfg) (x : Cfg) : List Cfg :=
  if sure < x.alt then acc else match acc.getLast? with
    | none => acc ++ [x]
    | some y => if ord y x = 1 then acc.dropLast ++ [exq y] else acc ++ [x]
theorem getLast_split {l : List Cfg} {y : Cfg} (h : l.getLast? = some y) : l = l.dropLast ++ [y] := by
  have hne : l ≠ [] := by intro e; rw [e] at h; cases h
  rw [List.getLast?_eq_some_getLast hne] at h
  injection h with h
  rw [← h]; exact (List.dropLast_concat_getLast hne).symm
theorem like_exq (y : Cfg) : Like (exq y) y := ⟨rfl, rfl, rfl, rfl⟩
theorem out_step {sure : Int} {p : List Cfg} {acc : List Cfg} {x : Cfg} (hs : Srt (p ++ [x])) (hd : Dst (p ++ [x])) (h : Canon (p.filter fun x => decide (x.alt ≤ sure)) acc) :
    Canon ((p ++ [x]).filter fun x => decide (x.alt ≤ sure)) (outStep sure acc x) := by
  have hps : ∀ a ∈ p, ord a x ≠ 2 := fun a ha => (List.pairwise_append.1 hs).2.2 a ha x (by simp)
  have hpd : ∀ a ∈ p, a ≠ x := fun a ha => (List.pairwise_append.1 hd).2.2 a ha x (by simp)
  rw [List.filter_append]
  unfold outStep
  by_cases hx : sure < x.alt
  · rw [if_pos hx]
    have : [x].filter (fun x => decide (x.alt ≤ sure)) = [] := by simp; omega
    rw [this, List.append_nil]; exact h
  · rw [if_neg hx]
    have : [x].filter (fun x => decide (x.alt ≤ sure)) = [x] := by simp; omega
    rw [this]
    have hax : ∀ a ∈ acc, ord a x ≠ 2 := by
      intro a ha
      obtain ⟨y, hy, hl⟩ := h.of a ha
      rw [like_ord hl]
      exact hps y (List.mem_filter.1 hy).1
    have new : (∀ a ∈ acc, ord a x = 0) → Canon (p.filter (fun x => decide (x.alt ≤ sure)) ++ [x]) (acc ++ [x]) := by
      intro h0
      refine ⟨?_, ?_, ?_, ?_⟩
      · unfold Rise
        rw [List.pairwise_append]
        exact ⟨h.rise, by simp, fun a ha b hb => by
          have : b = x := by simpa using hb
          rw [this]; exact h0 a ha⟩
      · intro z hz
        rcases List.mem_append.1 hz with hz | hz
        · obtain ⟨y, hy, hl⟩ := h.of z hz
          exact ⟨y, List.mem_append_left _ hy, hl⟩
        · have : z = x := by simpa using hz
          exact ⟨x, by simp, by rw [this]; exact Like.refl x⟩
      · intro y hy
        rcases List.mem_append.1 hy with hy | hy
        · obtain ⟨z, hz, hl⟩ := h.has y hy
          exact ⟨z, List.mem_append_left _ hz, hl⟩
        · have : y = x := by simpa using hy
          exact ⟨x, by simp, by rw [this]; exact Like.refl x⟩
      · intro z hz
        rcases List.mem_append.1 hz with hz | hz
        · rw [h.ex z hz]
          constructor
          · rintro ⟨y, hy, e1, e2⟩; exact ⟨y, List.mem_append_left _ hy, e1, e2⟩
          · rintro ⟨y, hy, e1, e2⟩
            rcases List.mem_append.1 hy with hy | hy
            · exact ⟨y, hy, e1, e2⟩
            · have : y = x := by simpa using hy
              rw [this] at e1
              have := h0 z hz
              rw [(ord_one z x).2 e1] at this; cases this
        · have hzx : z = x := by simpa using hz
          subst hzx
          constructor
          · intro e; exact ⟨z, by simp, Like.refl z, e⟩
          · rintro ⟨y, hy, e1, e2⟩
            rcases List.mem_append.1 hy with hy | hy
            · obtain ⟨u, hu, hl⟩ := h.has y hy
              have := h0 u hu
              rw [(ord_one u z).2 (hl.trans e1.symm)] at this; cases this
            · have : y = z := by simpa using hy
              rw [← this]; exact e2
    cases hl : acc.getLast? with
    | none =>
      have : acc = [] := by simpa using hl
      subst this
      exact new (by simp)
    | some y =>
      have hsp := getLast_split hl
      have hya : y ∈ acc := by rw [hsp]; simp
      dsimp only
      have hrise := h.rise
      by_cases hyx : ord y x = 1
      · rw [if_pos hyx]
        have hlk := (ord_one y x).1 hyx
        have hlast : ∀ a ∈ acc.dropLast, ord a y = 0 := by
          intro a ha
          rw [hsp] at hrise
          exact (List.pairwise_append.1 hrise).2.2 a ha y (by simp)
        obtain ⟨u, hu, hul⟩ := h.of y hya
        refine ⟨?_, ?_, ?_, ?_⟩
        · unfold Rise
          rw [List.pairwise_append]
          refine ⟨?_, by simp, fun a ha b hb => ?_⟩
          · rw [hsp] at hrise; exact (List.pairwise_append.1 hrise).1
          · have : b = exq y := by simpa using hb
            rw [this, like_ord2 (like_exq y)]
            exact hlast a ha
        · intro z hz
          rcases List.mem_append.1 hz with hz | hz
          · obtain ⟨w, hw, hl⟩ := h.of z (List.dropLast_subset _ hz)
            exact ⟨w, List.mem_append_left _ hw, hl⟩
          · have : z = exq y := by simpa using hz
            exact ⟨x, by simp, by rw [this]; exact (like_exq y).trans hlk⟩
        · intro w hw
          have key : ∀ a ∈ acc, Like a w → ∃ z ∈ acc.dropLast ++ [exq y], Like z w := by
            intro a ha hl
            rw [hsp] at ha
            rcases List.mem_append.1 ha with ha | ha
            · exact ⟨a, List.mem_append_left _ ha, hl⟩
            · have : a = y := by simpa using ha
              exact ⟨exq y, by simp, (like_exq y).trans (this ▸ hl)⟩
          rcases List.mem_append.1 hw with hw | hw
          · obtain ⟨a, ha, hl⟩ := h.has w hw
            exact key a ha hl
          · have : w = x := by simpa using hw
            exact key y hya (this ▸ hlk)
        · intro z hz
          rcases List.mem_append.1 hz with hz | hz
          · have hza := List.dropLast_subset _ hz
            rw [h.ex z hza]
            constructor
            · rintro ⟨w, hw, e1, e2⟩; exact ⟨w, List.mem_append_left _ hw, e1, e2⟩
            · rintro ⟨w, hw, e1, e2⟩
              rcases List.mem_append.1 hw with hw | hw
              · exact ⟨w, hw, e1, e2⟩
              · have : w = x := by simpa using hw
                have h0 := hlast z hz
                rw [(ord_one z y).2 (e1.trans (this ▸ hlk.symm))] at h0; cases h0
          · have hzy : z = exq y := by simpa using hz
            subst hzy
            refine ⟨fun _ => ?_, fun _ => rfl⟩
            by_cases hxe : x.exact = true
            · exact ⟨x, by simp, (like_exq y).trans hlk, hxe⟩
            · have hux : u ≠ x := hpd u (List.mem_filter.1 hu).1
              have hue : u.exact = true := by
                cases hue : u.exact with
                | true => rfl
                | false =>
                  have hxe' : x.exact = false := by simpa using hxe
                  exact absurd ((hul.symm.trans hlk).eq (by rw [hue, hxe'])) hux
              exact ⟨u, List.mem_append_left _ hu, (like_exq y).trans hul, hue⟩
      · rw [if_neg hyx]
        have hy0 : ord y x = 0 := by have := ord_01 y x; have := hax y hya; omega
        refine new fun a ha => ?_
        rw [hsp] at ha hrise
        rcases List.mem_append.1 ha with ha | ha
        · exact ord_trans ((List.pairwise_append.1 hrise).2.2 a ha y (by simp)) hy0
        · have : a = y := by simpa using ha
          rw [this]; exact hy0
def outR (sure : Int) (l : List Cfg) : List Cfg := l.foldl (outStep sure) []
theorem outR_snoc (sure : Int) (l : List Cfg) (i : Nat) (h : i < l.length) : outR sure (l.take (i + 1)) = outStep sure (outR sure (l.take i)) l[i] := by
  unfold outR
  rw [List.take_succ_eq_append_getElem h, List.foldl_append]
  rfl
theorem outR_canon {sure : Int} {l : List Cfg} (hs : Srt l) (hd : Dst l) : ∀ i, i ≤ l.length → Canon ((l.take i).filter fun x => decide (x.alt ≤ sure)) (outR sure (l.take i)) := by
  intro i
  induction i with
  | zero => intro _; rw [List.take_zero]; exact ⟨List.Pairwise.nil, fun _ h => (by cases h), fun _ h => (by cases h), fun _ h => (by cases h)⟩
  | succ i ih =>
    intro hi
    rw [outR_snoc sure l i hi, List.take_succ_eq_append_getElem hi]
    have hsub : (l.take i ++ [l[i]]).Sublist l := by rw [← List.take_succ_eq_append_getElem hi]; exact List.take_sublist _ _
    exact out_step (List.Pairwise.sublist hsub hs) (List.Pairwise.sublist hsub hd) (ih (by omega))
theorem Canon.eqm {K K' L : List Cfg} (h : Canon K L) (hm : ∀ y, y ∈ K ↔ y ∈ K') : Canon K' L :=
  ⟨h.rise, fun x hx => by obtain ⟨y, hy, e⟩ := h.of x hx; exact ⟨y, (hm y).1 hy, e⟩, fun y hy => h.has y ((hm y).2 hy), fun x hx => by
    rw [h.ex x hx]
    exact ⟨fun ⟨y, hy, e⟩ => ⟨y, (hm y).1 hy, e⟩, fun ⟨y, hy, e⟩ => ⟨y, (hm y).2 hy, e⟩⟩⟩
theorem KT.canon {K kept : List Cfg} (h : KT K kept) (sure : Int) : Canon (K.filter fun x => decide (x.alt ≤ sure)) (outR sure kept) := by
  have := outR_canon (sure := sure) h.srt h.dst kept.length (Nat.le_refl _)
  rw [List.take_length] at this
  refine this.eqm fun y => ?_
  rw [List.mem_filter, List.mem_filter, h.mem y]
end Cf
end Go.Proofs.YtnpcjbdolmmaeaaGreatDoor
