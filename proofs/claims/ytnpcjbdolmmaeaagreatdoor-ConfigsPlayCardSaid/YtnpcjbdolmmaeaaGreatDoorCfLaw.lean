/-
  Configs: plain law: a closing as a list that is gone through, what is kept, the set that it makes; a set is told by what is kept.
-/
import Derived.Test.YtnpcjbdolmmaeaaGreatDoorNetLaw
namespace Go.Proofs.YtnpcjbdolmmaeaaGreatDoor
namespace Cf
open Drv
structure Cfg where
  alt : Int
  state : Int
  stack : List Int
  exact : Bool
  ended : Bool
deriving DecidableEq
/-- a view of a decision -/
structure Vw where
  n : NNet
  d : NSt
  bound : Int
def has (v : Vw) (x : Cfg) : Bool := decide (0 ≤ x.alt) && decide (x.alt < v.d.ends.length) && decide (0 ≤ x.state) && decide (x.state < v.n.states.length)
def atC (x : Cfg) (state : Int) (stack : List Int) (e : Bool) : Cfg := ⟨x.alt, state, stack, x.exact && e, false⟩
def stOf (v : Vw) (x : Cfg) : NSt := v.n.states.getD x.state.toNat ⟨0, [], []⟩
/-- a closing: all that were met, in order; all that were kept, in order; is it over? -/
structure Cl where
  wait : List Cfg
  kept : List Cfg
  over : Bool
def meet (v : Vw) (c : Cl) (x : Cfg) : Cl := if x ∈ c.wait ∨ has v x = false then c else ⟨c.wait ++ [x], c.kept, c.over || decide (2000 < c.wait.length + 1)⟩
def keep (c : Cl) (x : Cfg) : Cl := ⟨c.wait, c.kept ++ [x], c.over⟩
def by1 (v : Vw) (x : Cfg) (plain : Bool) (c : Cl) (e : Ed) : Cl :=
  if e.kind = 0 then meet v c (atC x e.to x.stack plain)
  else if e.kind = 3 then meet v c (atC x e.to x.stack false)
  else if e.kind = 1 then keep c x
  else if e.kind = 2 then (if v.bound ≤ x.stack.count e.to then ⟨c.wait, c.kept, true⟩ else meet v c (atC x (v.n.starts.getD e.what.toNat 0) (x.stack ++ [e.to]) true))
  else c
def ends1 (v : Vw) (x : Cfg) : Bool := decide (x.stack = []) && decide (x.state = v.d.ends.getD x.alt.toNat 0)
def back1 (v : Vw) (c : Cl) (x : Cfg) : Cl := if x.stack = [] ∨ v.n.stops.contains x.state = false then c else meet v c (atC x (x.stack.getLastD 0) x.stack.dropLast true)
def close1 (v : Vw) (c : Cl) (x : Cfg) : Cl :=
  if x.ended = true then keep c x
  else if ends1 v x = true then keep c ⟨x.alt, x.state, x.stack, x.exact, true⟩
  else back1 v ((stOf v x).edges.foldl (by1 v x (decide ((stOf v x).ends.length = 0))) c) x
/-- the closing gone through, from a place on -/
def runC (v : Vw) : Nat → Nat → Cl → Cl
  | 0, _, c => c
  | f + 1, at0, c => if c.over = true then c else match c.wait[at0]? with
    | none => c
    | some x => runC v f (at0 + 1) (close1 v c x)
def start (v : Vw) (l : List Cfg) : Cl := l.foldl (meet v) ⟨[], [], false⟩
def closed (v : Vw) (l : List Cfg) : Cl := runC v 2002 0 (start v l)
/-! ## what is met stays; when it is over -/
theorem meet_wait (v : Vw) (c : Cl) (x : Cfg) : ∃ r, (meet v c x).wait = c.wait ++ r := by
  unfold meet; split
  · exact ⟨[], by simp⟩
  · exact ⟨[x], rfl⟩
theorem by1_wait (v : Vw) (x : Cfg) (p : Bool) (c : Cl) (e : Ed) : ∃ r, (by1 v x p c e).wait = c.wait ++ r := by
  unfold by1
  repeat' split
  all_goals first | exact meet_wait _ _ _ | exact ⟨[], by simp [keep]⟩
theorem fold_wait (v : Vw) (x : Cfg) (p : Bool) : ∀ (l : List Ed) (c : Cl), ∃ r, (l.foldl (by1 v x p) c).wait = c.wait ++ r
  | [], c => ⟨[], by simp⟩
  | e :: l, c => by
    obtain ⟨r1, h1⟩ := by1_wait v x p c e
    obtain ⟨r2, h2⟩ := fold_wait v x p l (by1 v x p c e)
    exact ⟨r1 ++ r2, by rw [List.foldl_cons, h2, h1, List.append_assoc]⟩
theorem close1_wait (v : Vw) (c : Cl) (x : Cfg) : ∃ r, (close1 v c x).wait = c.wait ++ r := by
  unfold close1 back1
  repeat' split
  · exact ⟨[], by simp [keep]⟩
  · exact ⟨[], by simp [keep]⟩
  · exact fold_wait _ _ _ _ _
  · obtain ⟨r1, h1⟩ := fold_wait v x (decide ((stOf v x).ends.length = 0)) (stOf v x).edges c
    obtain ⟨r2, h2⟩ := meet_wait v ((stOf v x).edges.foldl (by1 v x (decide ((stOf v x).ends.length = 0))) c) (atC x (x.stack.getLastD 0) x.stack.dropLast true)
    exact ⟨r1 ++ r2, by rw [h2, h1, List.append_assoc]⟩
/-- as long as it is not over there are 2000 at most -/
def Few0 (c : Cl) : Prop := c.over = false → c.wait.length ≤ 2000
theorem meet_few {v : Vw} {c : Cl} (h : Few0 c) (x : Cfg) : Few0 (meet v c x) := by
  unfold meet; split
  · exact h
  · intro ho
    simp at ho ⊢
    omega
theorem by1_few {v : Vw} {x : Cfg} {p : Bool} {c : Cl} (h : Few0 c) (e : Ed) : Few0 (by1 v x p c e) := by
  unfold by1
  repeat' split
  · exact meet_few h _
  · exact meet_few h _
  · exact h
  · intro ho; cases ho
  · exact meet_few h _
  · exact h
theorem fold_few {v : Vw} {x : Cfg} {p : Bool} : ∀ (l : List Ed) {c : Cl}, Few0 c → Few0 (l.foldl (by1 v x p) c)
  | [], _, h => h
  | e :: l, _, h => fold_few l (by1_few h e)
theorem close1_few {v : Vw} {c : Cl} (h : Few0 c) (x : Cfg) : Few0 (close1 v c x) := by
  unfold close1 back1
  repeat' split
  · exact h
  · exact h
  · exact fold_few _ h
  · exact meet_few (fold_few _ h) _
theorem start_few (v : Vw) (l : List Cfg) : Few0 (start v l) := by
  have : ∀ (l : List Cfg) (c : Cl), Few0 c → Few0 (l.foldl (meet v) c) := by
    intro l
    induction l with
    | nil => intro c h; exact h
    | cons x l ih => intro c h; exact ih _ (meet_few h x)
  exact this l _ (fun _ => by simp)
/-- it is done: nothing is left, or it is over -/
def doneC (c : Cl) (at0 : Nat) : Prop := c.over = true ∨ c.wait.length ≤ at0
theorem runC_done {v : Vw} {f at0 : Nat} {c : Cl} (h : doneC c at0) : runC v f at0 c = c := by
  cases f with
  | zero => rfl
  | succ f =>
    unfold runC
    split
    · rfl
    · next e =>
      rw [List.getElem?_eq_none (by rcases h with h | h; exact absurd h e; exact h)]
theorem runC_step {v : Vw} {f at0 : Nat} {c : Cl} (ho : c.over = false) (h : at0 < c.wait.length) : runC v (f + 1) at0 c = runC v f (at0 + 1) (close1 v c c.wait[at0]) := by
  conv => lhs; unfold runC
  rw [if_neg (by rw [ho]; decide), List.getElem?_eq_getElem h]
/-! ## the set of what is kept -/
/-- in which order: 0 ahead, 1 alike, 2 behind -/
def cmpI (a b : Int) : Nat := if a < b then 0 else if a = b then 1 else 2
def cmpL : List Int → List Int → Nat
  | [], [] => 1
  | [], _ :: _ => 0
  | _ :: _, [] => 2
  | a :: l, b :: m => if a < b then 0 else if a = b then cmpL l m else 2
def cmpB (a b : Bool) : Nat := if a = b then 1 else if b = true then 0 else 2
def andThen (a b : Nat) : Nat := if a = 1 then b else a
def ord (a b : Cfg) : Nat := andThen (cmpI a.alt b.alt) (andThen (cmpI a.state b.state) (andThen (cmpL a.stack b.stack) (cmpB a.ended b.ended)))
/-- alike, but for Exact -/
def Like (a b : Cfg) : Prop := a.alt = b.alt ∧ a.state = b.state ∧ a.stack = b.stack ∧ a.ended = b.ended
theorem Like.refl (a : Cfg) : Like a a := ⟨rfl, rfl, rfl, rfl⟩
theorem Like.symm {a b : Cfg} (h : Like a b) : Like b a := ⟨h.1.symm, h.2.1.symm, h.2.2.1.symm, h.2.2.2.symm⟩
theorem Like.trans {a b c : Cfg} (h : Like a b) (k : Like b c) : Like a c := ⟨h.1.trans k.1, h.2.1.trans k.2.1, h.2.2.1.trans k.2.2.1, h.2.2.2.trans k.2.2.2⟩
theorem Like.eq {a b : Cfg} (h : Like a b) (e : a.exact = b.exact) : a = b := by
  obtain ⟨a1, a2, a3, a4, a5⟩ := a
  obtain ⟨b1, b2, b3, b4, b5⟩ := b
  obtain ⟨h1, h2, h3, h4⟩ := h
  simp at h1 h2 h3 h4 e
  subst h1 h2 h3 h4 e
  rfl
instance (a b : Cfg) : Decidable (Like a b) := by unfold Like; infer_instance
theorem cmpL_one : ∀ (l m : List Int), cmpL l m = 1 ↔ l = m
  | [], [] => by simp [cmpL]
  | [], _ :: _ => by simp [cmpL]
  | _ :: _, [] => by simp [cmpL]
  | a :: l, b :: m => by
    unfold cmpL
    split
    · next h => simp; omega
    · split
      · next h1 h2 => rw [cmpL_one l m]; simp [h2]
      · next h1 h2 => simp [h2]
theorem ord_one (a b : Cfg) : ord a b = 1 ↔ Like a b := by
  unfold ord andThen cmpI cmpB Like
  rw [← cmpL_one a.stack b.stack]
  repeat' split
  all_goals simp_all
  all_goals omega
/-- a law of order: 0 ahead, 1 alike, 2 behind -/
structure Cmp {α : Type} (f : α → α → Nat) : Prop where
  le : ∀ a b, f a b ≤ 2
  flip : ∀ a b, f b a = 2 - f a b
  tr : ∀ a b c, f a b = 0 → f b c = 0 → f a c = 0
  cl : ∀ a b c, f a b = 1 → f a c = f b c
theorem Cmp.cr {α : Type} {f : α → α → Nat} (h : Cmp f) (a b c : α) (e : f a b = 1) : f c a = f c b := by
  rw [h.flip a c, h.flip b c, h.cl a b c e]
theorem Cmp.lex {α : Type} {f g : α → α → Nat} (hf : Cmp f) (hg : Cmp g) : Cmp fun a b => andThen (f a b) (g a b) := by
  refine ⟨fun a b => ?_, fun a b => ?_, fun a b c h1 h2 => ?_, fun a b c h => ?_⟩
  · have := hf.le a b; have := hg.le a b
    unfold andThen; split <;> omega
  · have h1 := hf.flip a b; have h2 := hg.flip a b; have := hf.le a b
    unfold andThen
    by_cases e : f a b = 1
    · rw [if_pos e, if_pos (by omega)]; exact h2
    · rw [if_neg e, if_neg (by omega)]; exact h1
  · unfold andThen at h1 h2 ⊢
    by_cases e1 : f a b = 1
    · rw [if_pos e1] at h1
      rw [hf.cl a b c e1]
      by_cases e2 : f b c = 1
      · rw [if_pos e2] at h2 ⊢; exact hg.tr a b c h1 h2
      · rw [if_neg e2] at h2 ⊢; exact h2
    · rw [if_neg e1] at h1
      by_cases e2 : f b c = 1
      · rw [← hf.cr b c a e2, if_neg e1]; exact h1
      · rw [if_neg e2] at h2
        have := hf.tr a b c h1 h2
        rw [if_neg (by omega)]; exact this
  · unfold andThen at h ⊢
    by_cases e1 : f a b = 1
    · rw [if_pos e1] at h
      rw [hf.cl a b c e1, hg.cl a b c h]
    · rw [if_neg e1] at h; exact absurd h e1
theorem Cmp.comap {α β : Type} {f : α → α → Nat} (h : Cmp f) (k : β → α) : Cmp fun a b => f (k a) (k b) :=
  ⟨fun _ _ => h.le _ _, fun _ _ => h.flip _ _, fun _ _ _ => h.tr _ _ _, fun _ _ _ => h.cl _ _ _⟩
theorem cmpI_cmp : Cmp cmpI := by
  refine ⟨fun a b => ?_, fun a b => ?_, fun a b c => ?_, fun a b c => ?_⟩
  all_goals unfold cmpI
  all_goals repeat' split
  all_goals omega
theorem cmpB_cmp : Cmp cmpB := by
  refine ⟨fun a b => ?_, fun a b => ?_, fun a b c => ?_, fun a b c => ?_⟩
  all_goals revert a b
  all_goals (try revert c)
  all_goals decide
theorem cmpL_le : ∀ (l m : List Int), cmpL l m ≤ 2
  | [], [] => by simp [cmpL]
  | [], _ :: _ => by simp [cmpL]
  | _ :: _, [] => by simp [cmpL]
  | a :: l, b :: m => by
    have := cmpL_le l m
    unfold cmpL; split
    · omega
    · split <;> omega
theorem cmpL_flip : ∀ (l m : List Int), cmpL m l = 2 - cmpL l m
  | [], [] => by simp [cmpL]
  | [], _ :: _ => by simp [cmpL]
  | _ :: _, [] => by simp [cmpL]
  | a :: l, b :: m => by
    have := cmpL_flip l m
    unfold cmpL
    by_cases h1 : a < b
    · rw [if_pos h1, if_neg (by omega), if_neg (by omega)]
    · by_cases h2 : a = b
      · rw [if_neg h1, if_pos h2, if_neg (by omega), if_pos h2.symm]; exact this
      · rw [if_neg h1, if_neg h2, if_pos (by omega)]
theorem cmpL_tr : ∀ (l m k : List Int), cmpL l m = 0 → cmpL m k = 0 → cmpL l k = 0
  | [], m, [], h1, h2 => by cases m <;> simp [cmpL] at h1 h2
  | [], _, _ :: _, _, _ => rfl
  | _ :: _, [], _, h1, _ => by simp [cmpL] at h1
  | _ :: _, _ :: _, [], _, h2 => by simp [cmpL] at h2
  | a :: l, b :: m, c :: k, h1, h2 => by
    unfold cmpL at h1 h2 ⊢
    by_cases p1 : a < b
    · by_cases p2 : b < c
      · rw [if_pos (by omega)]
      · by_cases p3 : b = c
        · rw [if_pos (by omega)]
        · rw [if_neg p2, if_neg p3] at h2; cases h2
    · by_cases q1 : a = b
      · rw [if_neg p1, if_pos q1] at h1
        by_cases p2 : b < c
        · rw [if_pos (by omega)]
        · by_cases p3 : b = c
          · rw [if_neg p2, if_pos p3] at h2
            rw [if_neg (by omega), if_pos (by omega)]; exact cmpL_tr l m k h1 h2
          · rw [if_neg p2, if_neg p3] at h2; cases h2
      · rw [if_neg p1, if_neg q1] at h1; cases h1
theorem cmpL_cmp : Cmp cmpL := ⟨cmpL_le, cmpL_flip, cmpL_tr, fun a b c h => by rw [(cmpL_one a b).1 h]⟩
theorem ord_cmp : Cmp ord := (cmpI_cmp.comap (fun c : Cfg => c.alt)).lex ((cmpI_cmp.comap (fun c : Cfg => c.state)).lex ((cmpL_cmp.comap (fun c : Cfg => c.stack)).lex (cmpB_cmp.comap (fun c : Cfg => c.ended))))
theorem ord_trans {a b c : Cfg} (h1 : ord a b = 0) (h2 : ord b c = 0) : ord a c = 0 := ord_cmp.tr a b c h1 h2
/-- strictly rising -/
def Rise (l : List Cfg) : Prop := l.Pairwise fun a b => ord a b = 0
/-- what is kept, each once, exact if one of its like is -/
structure Canon (K L : List Cfg) : Prop where
  rise : Rise L
  of : ∀ x ∈ L, ∃ y ∈ K, Like x y
  has : ∀ y ∈ K, ∃ x ∈ L, Like x y
  ex : ∀ x ∈ L, x.exact = true ↔ ∃ y ∈ K, Like x y ∧ y.exact = true
theorem ord_irr (a : Cfg) : ¬ ord a a = 0 := by
  have := (ord_one a a).2 (Like.refl a)
  omega
theorem like_ord {a b c : Cfg} (h : Like a b) : ord a c = ord b c := by
  obtain ⟨h1, h2, h3, h4⟩ := h
  unfold ord; rw [h1, h2, h3, h4]
theorem like_ord2 {a b c : Cfg} (h : Like a b) : ord c a = ord c b := by
  obtain ⟨h1, h2, h3, h4⟩ := h
  unfold ord; rw [h1, h2, h3, h4]
theorem rise_unique : ∀ (L M : List Cfg), Rise L → Rise M → (∀ x ∈ L, x ∈ M) → (∀ x ∈ M, x ∈ L) → L = M
  | [], [], _, _, _, _ => rfl
  | [], y :: M, _, _, _, h => absurd (h y (by simp)) (by simp)
  | x :: L, [], _, _, h, _ => absurd (h x (by simp)) (by simp)
  | x :: L, y :: M, hL, hM, h1, h2 => by
    have hL1 := List.pairwise_cons.1 hL
    have hM1 := List.pairwise_cons.1 hM
    have hxy : x = y := by
      rcases List.mem_cons.1 (h1 x (by simp)) with e | e
      · exact e
      · rcases List.mem_cons.1 (h2 y (by simp)) with e' | e'
        · exact e'.symm
        · exact absurd (ord_trans (hM1.1 x e) (hL1.1 y e')) (ord_irr y)
    subst hxy
    rw [rise_unique L M hL1.2 hM1.2 (fun z hz => by
      rcases List.mem_cons.1 (h1 z (by simp [hz])) with e | e
      · subst e; exact absurd (hL1.1 z hz) (ord_irr z)
      · exact e) (fun z hz => by
      rcases List.mem_cons.1 (h2 z (by simp [hz])) with e | e
      · subst e; exact absurd (hM1.1 z hz) (ord_irr z)
      · exact e)]
theorem Canon.sub {K L M : List Cfg} (hL : Canon K L) (hM : Canon K M) : ∀ x ∈ L, x ∈ M := by
  intro x hx
  obtain ⟨y, hy, hxy⟩ := hL.of x hx
  obtain ⟨z, hz, hzy⟩ := hM.has y hy
  have hxz : Like x z := hxy.trans hzy.symm
  have he : x.exact = z.exact := by
    rw [Bool.eq_iff_iff, hL.ex x hx, hM.ex z hz]
    exact ⟨fun ⟨u, hu, h1, h2⟩ => ⟨u, hu, hxz.symm.trans h1, h2⟩, fun ⟨u, hu, h1, h2⟩ => ⟨u, hu, hxz.trans h1, h2⟩⟩
  rw [hxz.eq he]; exact hz
theorem Canon.unique {K L M : List Cfg} (hL : Canon K L) (hM : Canon K M) : L = M := rise_unique L M hL.rise hM.rise (hL.sub hM) (hM.sub hL)
/-- alternatives of a list, rising, each once -/
structure Alts (l : List Cfg) (A : List Int) : Prop where
  rise : A.Pairwise (· < ·)
  mem : ∀ a, a ∈ A ↔ ∃ x ∈ l, x.alt = a
theorem riseI_unique : ∀ (L M : List Int), L.Pairwise (· < ·) → M.Pairwise (· < ·) → (∀ x, x ∈ L ↔ x ∈ M) → L = M
  | [], [], _, _, _ => rfl
  | [], y :: M, _, _, h => absurd ((h y).2 (by simp)) (by simp)
  | x :: L, [], _, _, h => absurd ((h x).1 (by simp)) (by simp)
  | x :: L, y :: M, hL, hM, h => by
    have hL1 := List.pairwise_cons.1 hL
    have hM1 := List.pairwise_cons.1 hM
    have hxy : x = y := by
      rcases List.mem_cons.1 ((h x).1 (by simp)) with e | e
      · exact e
      · rcases List.mem_cons.1 ((h y).2 (by simp)) with e' | e'
        · exact e'.symm
        · have := hM1.1 x e; have := hL1.1 y e'; omega
    subst hxy
    rw [riseI_unique L M hL1.2 hM1.2 fun z => ⟨fun hz => by
      rcases List.mem_cons.1 ((h z).1 (by simp [hz])) with e | e
      · have := hL1.1 z hz; omega
      · exact e, fun hz => by
      rcases List.mem_cons.1 ((h z).2 (by simp [hz])) with e | e
      · have := hM1.1 z hz; omega
      · exact e⟩]
theorem Alts.unique {l : List Cfg} {A B : List Int} (h : Alts l A) (k : Alts l B) : A = B := riseI_unique A B h.rise k.rise fun a => (h.mem a).trans (k.mem a).symm
structure St where
  configs : List Cfg
  alts : List Int
  over : Bool
/-- the least alternative that surely ended; none: how many there are -/
def sureOf (v : Vw) (K : List Cfg) : Int := (K.filter fun x => x.ended && x.exact).foldl (fun m x => min m x.alt) v.d.ends.length
/-- the set of a list -/
def IsSet (v : Vw) (l : List Cfg) (s : St) : Prop :=
  if (closed v l).over = true then s.configs = [] ∧ s.over = true ∧ Alts (l.filter (has v)) s.alts
  else s.over = false ∧ Canon ((closed v l).kept.filter fun x => decide (x.alt ≤ sureOf v (closed v l).kept)) s.configs ∧ Alts s.configs s.alts
theorem IsSet.unique {v : Vw} {l : List Cfg} {s t : St} (h : IsSet v l s) (k : IsSet v l t) : s = t := by
  obtain ⟨a1, a2, a3⟩ := s
  obtain ⟨b1, b2, b3⟩ := t
  unfold IsSet at h k
  split at h
  · next e =>
    rw [if_pos e] at k
    obtain ⟨h1, h2, h3⟩ := h
    obtain ⟨k1, k2, k3⟩ := k
    dsimp only at h1 h2 h3 k1 k2 k3
    rw [h1, h2, k1, k2, h3.unique k3]
  · next e =>
    rw [if_neg e] at k
    obtain ⟨h1, h2, h3⟩ := h
    obtain ⟨k1, k2, k3⟩ := k
    dsimp only at h1 h2 h3 k1 k2 k3
    have h4 := h2.unique k2
    subst h4
    rw [h1, k1, h3.unique k3]
/-- where a decision begins -/
def startL (v : Vw) : List Cfg := v.d.edges.zipIdx.map fun p => ⟨p.2, p.1.to, [], true, false⟩
/-- where a set goes by a token -/
def moveL (v : Vw) (s : St) (tok : Int) : List Cfg := s.configs.flatMap fun x => if has v x = false then [] else if x.ended = true then [x] else (stOf v x).edges.filterMap fun e => if e.kind = 1 ∧ e.what = tok then some (atC x e.to x.stack true) else none
def doneS (s : St) : Bool := !s.over && s.configs.all fun x => x.ended
end Cf
end Go.Proofs.YtnpcjbdolmmaeaaGreatDoor
