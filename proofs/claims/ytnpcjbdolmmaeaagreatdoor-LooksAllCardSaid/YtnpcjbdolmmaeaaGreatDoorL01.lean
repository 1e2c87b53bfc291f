/-
  Looks: NetLaw, CfLaw, CfInv, LkLaw, CfSign, LkSign (texts joined).
-/
import Derived.Lib.ItoaMem
namespace Go.Proofs.YtnpcjbdolmmaeaaGreatDoor
namespace Drv
structure Ed where
  kind : Int
  what : Int
  to : Int
structure NSt where
  rule : Int
  edges : List Ed
  ends : List Int
structure LSt where
  kind : Int
  alts : List Int
  edges : List (Int × Int)
structure NNet where
  states : List NSt
  starts : List Int
  stops : List Int
  preds : List Int
  decs : List Int
def risingL (most : Int) : Int → List Int → Bool
  | _, [] => true
  | least, n :: r => decide (least ≤ n) && decide (n < most) && risingL most (n + 1) r
def kindL (s : LSt) : Bool :=
  if s.kind = 0 then s.alts.length == 0 else if s.kind = 1 then s.alts.length == 1 && s.edges.length == 0
  else if s.kind = 3 then decide (1 < s.alts.length) && s.edges.length == 0 else s.kind == 2 && s.alts.length == 0 && s.edges.length == 0
def fineL (s : LSt) (states alts tokens : Int) : Bool :=
  s.edges.all (fun e => decide (0 ≤ e.2) && decide (e.2 < states)) && risingL alts 0 s.alts && risingL tokens (-1) (s.edges.map (·.1)) && kindL s
def mayAuto (a : List LSt) (alts tokens : Int) : Bool := decide (1 ≤ a.length) && decide (a.length ≤ 4096) && a.all fun s => fineL s a.length alts tokens
def stateB (n : NNet) (i : Int) : Bool := decide (0 ≤ i) && decide (i < n.states.length)
def edgeB (n : NNet) (e : Ed) : Bool :=
  decide (0 ≤ e.kind) && decide (e.kind ≤ 3) && decide (0 ≤ e.what) && (e.kind == 1 || decide (e.what < (if e.kind = 2 then (n.starts.length : Int) else if e.kind = 3 then (n.preds.length : Int) else 1))) && stateB n e.to
def stMay (n : NNet) (s : NSt) : Bool :=
  s.edges.all (edgeB n) && (s.ends.length == 0 || (s.ends.length == s.edges.length && decide (2 ≤ s.ends.length) && s.edges.all (fun e => e.kind == 0) && s.ends.all (stateB n)))
def decsOf (l : List NSt) : List Int := (l.zipIdx.filter fun p => p.1.ends.length != 0).map fun p => (p.2 : Int)
def mayNet (n : NNet) : Bool :=
  n.starts.length == n.stops.length && n.starts.all (stateB n) && n.stops.all (stateB n) && n.preds.all (fun i => decide (0 ≤ i) && decide (i < (n.states.length : Int) - 1)) &&
  n.states.all (fun s => stMay n s && decide (0 ≤ s.rule) && decide (s.rule < n.starts.length)) && decsOf n.states == n.decs
end Drv
end Go.Proofs.YtnpcjbdolmmaeaaGreatDoor
namespace Go.Proofs.YtnpcjbdolmmaeaaGreatDoor
namespace Cf
open Drv
structure Cfg where
  alt : Int
  state : Int
  stack : List Int
  exact : Bool
  ended : Bool
deriving DecidableEq
structure Vw where
  n : NNet
  d : NSt
  bound : Int
def has (v : Vw) (x : Cfg) : Bool := decide (0 ≤ x.alt) && decide (x.alt < v.d.ends.length) && decide (0 ≤ x.state) && decide (x.state < v.n.states.length)
def atC (x : Cfg) (state : Int) (stack : List Int) (e : Bool) : Cfg := ⟨x.alt, state, stack, x.exact && e, false⟩
def stOf (v : Vw) (x : Cfg) : NSt := v.n.states.getD x.state.toNat ⟨0, [], []⟩
structure Cl where
  wait : List Cfg
  kept : List Cfg
  over : Bool
def meet (v : Vw) (c : Cl) (x : Cfg) : Cl := if x ∈ c.wait ∨ has v x = false then c else ⟨c.wait ++ [x], c.kept, c.over || decide (2000 < c.wait.length + 1)⟩
def keep (c : Cl) (x : Cfg) : Cl := ⟨c.wait, c.kept ++ [x], c.over⟩
def by1 (v : Vw) (x : Cfg) (plain : Bool) (c : Cl) (e : Ed) : Cl :=
  if e.kind = 0 then meet v c (atC x e.to x.stack plain)
  else if e.kind = 3 then meet v c (atC x e.to x.stack false)
  else if e.kind = 1 then keep c x
  else if e.kind = 2 then (if v.bound ≤ x.stack.count e.to then ⟨c.wait, c.kept, true⟩ else meet v c (atC x (v.n.starts.getD e.what.toNat 0) (x.stack ++ [e.to]) true))
  else c
def ends1 (v : Vw) (x : Cfg) : Bool := decide (x.stack = []) && decide (x.state = v.d.ends.getD x.alt.toNat 0)
def back1 (v : Vw) (c : Cl) (x : Cfg) : Cl := if x.stack = [] ∨ v.n.stops.contains x.state = false then c else meet v c (atC x (x.stack.getLastD 0) x.stack.dropLast true)
def close1 (v : Vw) (c : Cl) (x : Cfg) : Cl :=
  if x.ended = true then keep c x
  else if ends1 v x = true then keep c ⟨x.alt, x.state, x.stack, x.exact, true⟩
  else back1 v ((stOf v x).edges.foldl (by1 v x (decide ((stOf v x).ends.length = 0))) c) x
def runC (v : Vw) : Nat → Nat → Cl → Cl
  | 0, _, c => c
  | f + 1, at0, c => if c.over = true then c else match c.wait[at0]? with
    | none => c
    | some x => runC v f (at0 + 1) (close1 v c x)
def start (v : Vw) (l : List Cfg) : Cl := l.foldl (meet v) ⟨[], [], false⟩
def closed (v : Vw) (l : List Cfg) : Cl := runC v 2002 0 (start v l)
theorem meet_wait (v : Vw) (c : Cl) (x : Cfg) : ∃ r, (meet v c x).wait = c.wait ++ r := by
  unfold meet; split
  · exact ⟨[], by simp⟩
  · exact ⟨[x], rfl⟩
theorem by1_wait (v : Vw) (x : Cfg) (p : Bool) (c : Cl) (e : Ed) : ∃ r, (by1 v x p c e).wait = c.wait ++ r := by
  unfold by1
  repeat' split
  all_goals first | exact meet_wait _ _ _ | exact ⟨[], by simp [keep]⟩
theorem fold_wait (v : Vw) (x : Cfg) (p : Bool) : ∀ (l : List Ed) (c : Cl), ∃ r, (l.foldl (by1 v x p) c).wait = c.wait ++ r
  | [], c => ⟨[], by simp⟩
  | e :: l, c => by
    obtain ⟨r1, h1⟩ := by1_wait v x p c e
    obtain ⟨r2, h2⟩ := fold_wait v x p l (by1 v x p c e)
    exact ⟨r1 ++ r2, by rw [List.foldl_cons, h2, h1, List.append_assoc]⟩
theorem close1_wait (v : Vw) (c : Cl) (x : Cfg) : ∃ r, (close1 v c x).wait = c.wait ++ r := by
  unfold close1 back1
  repeat' split
  · exact ⟨[], by simp [keep]⟩
  · exact ⟨[], by simp [keep]⟩
  · exact fold_wait _ _ _ _ _
  · obtain ⟨r1, h1⟩ := fold_wait v x (decide ((stOf v x).ends.length = 0)) (stOf v x).edges c
    obtain ⟨r2, h2⟩ := meet_wait v ((stOf v x).edges.foldl (by1 v x (decide ((stOf v x).ends.length = 0))) c) (atC x (x.stack.getLastD 0) x.stack.dropLast true)
    exact ⟨r1 ++ r2, by rw [h2, h1, List.append_assoc]⟩
def Few0 (c : Cl) : Prop := c.over = false → c.wait.length ≤ 2000
theorem meet_few {v : Vw} {c : Cl} (h : Few0 c) (x : Cfg) : Few0 (meet v c x) := by
  unfold meet; split
  · exact h
  · intro ho
    simp at ho ⊢
    omega
theorem by1_few {v : Vw} {x : Cfg} {p : Bool} {c : Cl} (h : Few0 c) (e : Ed) : Few0 (by1 v x p c e) := by
  unfold by1
  repeat' split
  · exact meet_few h _
  · exact meet_few h _
  · exact h
  · intro ho; cases ho
  · exact meet_few h _
  · exact h
theorem fold_few {v : Vw} {x : Cfg} {p : Bool} : ∀ (l : List Ed) {c : Cl}, Few0 c → Few0 (l.foldl (by1 v x p) c)
  | [], _, h => h
  | e :: l, _, h => fold_few l (by1_few h e)
theorem close1_few {v : Vw} {c : Cl} (h : Few0 c) (x : Cfg) : Few0 (close1 v c x) := by
  unfold close1 back1
  repeat' split
  · exact h
  · exact h
  · exact fold_few _ h
  · exact meet_few (fold_few _ h) _
theorem start_few (v : Vw) (l : List Cfg) : Few0 (start v l) := by
  have : ∀ (l : List Cfg) (c : Cl), Few0 c → Few0 (l.foldl (meet v) c) := by
    intro l
    induction l with
    | nil => intro c h; exact h
    | cons x l ih => intro c h; exact ih _ (meet_few h x)
  exact this l _ (fun _ => by simp)
def doneC (c : Cl) (at0 : Nat) : Prop := c.over = true ∨ c.wait.length ≤ at0
theorem runC_done {v : Vw} {f at0 : Nat} {c : Cl} (h : doneC c at0) : runC v f at0 c = c := by
  cases f with
  | zero => rfl
  | succ f =>
    unfold runC
    split
    · rfl
    · next e =>
      rw [List.getElem?_eq_none (by rcases h with h | h; exact absurd h e; exact h)]
theorem runC_step {v : Vw} {f at0 : Nat} {c : Cl} (ho : c.over = false) (h : at0 < c.wait.length) : runC v (f + 1) at0 c = runC v f (at0 + 1) (close1 v c c.wait[at0]) := by
  conv => lhs; unfold runC
  rw [if_neg (by rw [ho]; decide), List.getElem?_eq_getElem h]
def cmpI (a b : Int) : Nat := if a < b then 0 else if a = b then 1 else 2
def cmpL : List Int → List Int → Nat
  | [], [] => 1
  | [], _ :: _ => 0
  | _ :: _, [] => 2
  | a :: l, b :: m => if a < b then 0 else if a = b then cmpL l m else 2
def cmpB (a b : Bool) : Nat := if a = b then 1 else if b = true then 0 else 2
def andThen (a b : Nat) : Nat := if a = 1 then b else a
def ord (a b : Cfg) : Nat := andThen (cmpI a.alt b.alt) (andThen (cmpI a.state b.state) (andThen (cmpL a.stack b.stack) (cmpB a.ended b.ended)))
def Like (a b : Cfg) : Prop := a.alt = b.alt ∧ a.state = b.state ∧ a.stack = b.stack ∧ a.ended = b.ended
theorem Like.refl (a : Cfg) : Like a a := ⟨rfl, rfl, rfl, rfl⟩
theorem Like.symm {a b : Cfg} (h : Like a b) : Like b a := ⟨h.1.symm, h.2.1.symm, h.2.2.1.symm, h.2.2.2.symm⟩
theorem Like.trans {a b c : Cfg} (h : Like a b) (k : Like b c) : Like a c := ⟨h.1.trans k.1, h.2.1.trans k.2.1, h.2.2.1.trans k.2.2.1, h.2.2.2.trans k.2.2.2⟩
theorem Like.eq {a b : Cfg} (h : Like a b) (e : a.exact = b.exact) : a = b := by
  obtain ⟨a1, a2, a3, a4, a5⟩ := a
  obtain ⟨b1, b2, b3, b4, b5⟩ := b
  obtain ⟨h1, h2, h3, h4⟩ := h
  simp at h1 h2 h3 h4 e
  subst h1 h2 h3 h4 e
  rfl
instance (a b : Cfg) : Decidable (Like a b) := by unfold Like; infer_instance
theorem cmpL_one : ∀ (l m : List Int), cmpL l m = 1 ↔ l = m
  | [], [] => by simp [cmpL]
  | [], _ :: _ => by simp [cmpL]
  | _ :: _, [] => by simp [cmpL]
  | a :: l, b :: m => by
    unfold cmpL
    split
    · next h => simp; omega
    · split
      · next h1 h2 => rw [cmpL_one l m]; simp [h2]
      · next h1 h2 => simp [h2]
theorem ord_one (a b : Cfg) : ord a b = 1 ↔ Like a b := by
  unfold ord andThen cmpI cmpB Like
  rw [← cmpL_one a.stack b.stack]
  repeat' split
  all_goals simp_all
  all_goals omega
structure Cmp {α : Type} (f : α → α → Nat) : Prop where
  le : ∀ a b, f a b ≤ 2
  flip : ∀ a b, f b a = 2 - f a b
  tr : ∀ a b c, f a b = 0 → f b c = 0 → f a c = 0
  cl : ∀ a b c, f a b = 1 → f a c = f b c
theorem Cmp.cr {α : Type} {f : α → α → Nat} (h : Cmp f) (a b c : α) (e : f a b = 1) : f c a = f c b := by
  rw [h.flip a c, h.flip b c, h.cl a b c e]
theorem Cmp.lex {α : Type} {f g : α → α → Nat} (hf : Cmp f) (hg : Cmp g) : Cmp fun a b => andThen (f a b) (g a b) := by
  refine ⟨fun a b => ?_, fun a b => ?_, fun a b c h1 h2 => ?_, fun a b c h => ?_⟩
  · have := hf.le a b; have := hg.le a b
    unfold andThen; split <;> omega
  · have h1 := hf.flip a b; have h2 := hg.flip a b; have := hf.le a b
    unfold andThen
    by_cases e : f a b = 1
    · rw [if_pos e, if_pos (by omega)]; exact h2
    · rw [if_neg e, if_neg (by omega)]; exact h1
  · unfold andThen at h1 h2 ⊢
    by_cases e1 : f a b = 1
    · rw [if_pos e1] at h1
      rw [hf.cl a b c e1]
      by_cases e2 : f b c = 1
      · rw [if_pos e2] at h2 ⊢; exact hg.tr a b c h1 h2
      · rw [if_neg e2] at h2 ⊢; exact h2
    · rw [if_neg e1] at h1
      by_cases e2 : f b c = 1
      · rw [← hf.cr b c a e2, if_neg e1]; exact h1
      · rw [if_neg e2] at h2
        have := hf.tr a b c h1 h2
        rw [if_neg (by omega)]; exact this
  · unfold andThen at h ⊢
    by_cases e1 : f a b = 1
    · rw [if_pos e1] at h
      rw [hf.cl a b c e1, hg.cl a b c h]
    · rw [if_neg e1] at h; exact absurd h e1
theorem Cmp.comap {α β : Type} {f : α → α → Nat} (h : Cmp f) (k : β → α) : Cmp fun a b => f (k a) (k b) :=
  ⟨fun _ _ => h.le _ _, fun _ _ => h.flip _ _, fun _ _ _ => h.tr _ _ _, fun _ _ _ => h.cl _ _ _⟩
theorem cmpI_cmp : Cmp cmpI := by
  refine ⟨fun a b => ?_, fun a b => ?_, fun a b c => ?_, fun a b c => ?_⟩
  all_goals unfold cmpI
  all_goals repeat' split
  all_goals omega
theorem cmpB_cmp : Cmp cmpB := by
  refine ⟨fun a b => ?_, fun a b => ?_, fun a b c => ?_, fun a b c => ?_⟩
  all_goals revert a b
  all_goals (try revert c)
  all_goals decide
theorem cmpL_le : ∀ (l m : List Int), cmpL l m ≤ 2
  | [], [] => by simp [cmpL]
  | [], _ :: _ => by simp [cmpL]
  | _ :: _, [] => by simp [cmpL]
  | a :: l, b :: m => by
    have := cmpL_le l m
    unfold cmpL; split
    · omega
    · split <;> omega
theorem cmpL_flip : ∀ (l m : List Int), cmpL m l = 2 - cmpL l m
  | [], [] => by simp [cmpL]
  | [], _ :: _ => by simp [cmpL]
  | _ :: _, [] => by simp [cmpL]
  | a :: l, b :: m => by
    have := cmpL_flip l m
    unfold cmpL
    by_cases h1 : a < b
    · rw [if_pos h1, if_neg (by omega), if_neg (by omega)]
    · by_cases h2 : a = b
      · rw [if_neg h1, if_pos h2, if_neg (by omega), if_pos h2.symm]; exact this
      · rw [if_neg h1, if_neg h2, if_pos (by omega)]
theorem cmpL_tr : ∀ (l m k : List Int), cmpL l m = 0 → cmpL m k = 0 → cmpL l k = 0
  | [], m, [], h1, h2 => by cases m <;> simp [cmpL] at h1 h2
  | [], _, _ :: _, _, _ => rfl
  | _ :: _, [], _, h1, _ => by simp [cmpL] at h1
  | _ :: _, _ :: _, [], _, h2 => by simp [cmpL] at h2
  | a :: l, b :: m, c :: k, h1, h2 => by
    unfold cmpL at h1 h2 ⊢
    by_cases p1 : a < b
    · by_cases p2 : b < c
      · rw [if_pos (by omega)]
      · by_cases p3 : b = c
        · rw [if_pos (by omega)]
        · rw [if_neg p2, if_neg p3] at h2; cases h2
    · by_cases q1 : a = b
      · rw [if_neg p1, if_pos q1] at h1
        by_cases p2 : b < c
        · rw [if_pos (by omega)]
        · by_cases p3 : b = c
          · rw [if_neg p2, if_pos p3] at h2
            rw [if_neg (by omega), if_pos (by omega)]; exact cmpL_tr l m k h1 h2
          · rw [if_neg p2, if_neg p3] at h2; cases h2
      · rw [if_neg p1, if_neg q1] at h1; cases h1
theorem cmpL_cmp : Cmp cmpL := ⟨cmpL_le, cmpL_flip, cmpL_tr, fun a b c h => by rw [(cmpL_one a b).1 h]⟩
theorem ord_cmp : Cmp ord := (cmpI_cmp.comap (fun c : Cfg => c.alt)).lex ((cmpI_cmp.comap (fun c : Cfg => c.state)).lex ((cmpL_cmp.comap (fun c : Cfg => c.stack)).lex (cmpB_cmp.comap (fun c : Cfg => c.ended))))
theorem ord_trans {a b c : Cfg} (h1 : ord a b = 0) (h2 : ord b c = 0) : ord a c = 0 := ord_cmp.tr a b c h1 h2
def Rise (l : List Cfg) : Prop := l.Pairwise fun a b => ord a b = 0
structure Canon (K L : List Cfg) : Prop where
  rise : Rise L
  of : ∀ x ∈ L, ∃ y ∈ K, Like x y
  has : ∀ y ∈ K, ∃ x ∈ L, Like x y
  ex : ∀ x ∈ L, x.exact = true ↔ ∃ y ∈ K, Like x y ∧ y.exact = true
theorem ord_irr (a : Cfg) : ¬ ord a a = 0 := by
  have := (ord_one a a).2 (Like.refl a)
  omega
theorem like_ord {a b c : Cfg} (h : Like a b) : ord a c = ord b c := by
  obtain ⟨h1, h2, h3, h4⟩ := h
  unfold ord; rw [h1, h2, h3, h4]
theorem like_ord2 {a b c : Cfg} (h : Like a b) : ord c a = ord c b := by
  obtain ⟨h1, h2, h3, h4⟩ := h
  unfold ord; rw [h1, h2, h3, h4]
theorem rise_unique : ∀ (L M : List Cfg), Rise L → Rise M → (∀ x ∈ L, x ∈ M) → (∀ x ∈ M, x ∈ L) → L = M
  | [], [], _, _, _, _ => rfl
  | [], y :: M, _, _, _, h => absurd (h y (by simp)) (by simp)
  | x :: L, [], _, _, h, _ => absurd (h x (by simp)) (by simp)
  | x :: L, y :: M, hL, hM, h1, h2 => by
    have hL1 := List.pairwise_cons.1 hL
    have hM1 := List.pairwise_cons.1 hM
    have hxy : x = y := by
      rcases List.mem_cons.1 (h1 x (by simp)) with e | e
      · exact e
      · rcases List.mem_cons.1 (h2 y (by simp)) with e' | e'
        · exact e'.symm
        · exact absurd (ord_trans (hM1.1 x e) (hL1.1 y e')) (ord_irr y)
    subst hxy
    rw [rise_unique L M hL1.2 hM1.2 (fun z hz => by
      rcases List.mem_cons.1 (h1 z (by simp [hz])) with e | e
      · subst e; exact absurd (hL1.1 z hz) (ord_irr z)
      · exact e) (fun z hz => by
      rcases List.mem_cons.1 (h2 z (by simp [hz])) with e | e
      · subst e; exact absurd (hM1.1 z hz) (ord_irr z)
      · exact e)]
theorem Canon.sub {K L M : List Cfg} (hL : Canon K L) (hM : Canon K M) : ∀ x ∈ L, x ∈ M := by
  intro x hx
  obtain ⟨y, hy, hxy⟩ := hL.of x hx
  obtain ⟨z, hz, hzy⟩ := hM.has y hy
  have hxz : Like x z := hxy.trans hzy.symm
  have he : x.exact = z.exact := by
    rw [Bool.eq_iff_iff, hL.ex x hx, hM.ex z hz]
    exact ⟨fun ⟨u, hu, h1, h2⟩ => ⟨u, hu, hxz.symm.trans h1, h2⟩, fun ⟨u, hu, h1, h2⟩ => ⟨u, hu, hxz.trans h1, h2⟩⟩
  rw [hxz.eq he]; exact hz
theorem Canon.unique {K L M : List Cfg} (hL : Canon K L) (hM : Canon K M) : L = M := rise_unique L M hL.rise hM.rise (hL.sub hM) (hM.sub hL)
structure Alts (l : List Cfg) (A : List Int) : Prop where
  rise : A.Pairwise (· < ·)
  mem : ∀ a, a ∈ A ↔ ∃ x ∈ l, x.alt = a
theorem riseI_unique : ∀ (L M : List Int), L.Pairwise (· < ·) → M.Pairwise (· < ·) → (∀ x, x ∈ L ↔ x ∈ M) → L = M
  | [], [], _, _, _ => rfl
  | [], y :: M, _, _, h => absurd ((h y).2 (by simp)) (by simp)
  | x :: L, [], _, _, h => absurd ((h x).1 (by simp)) (by simp)
  | x :: L, y :: M, hL, hM, h => by
    have hL1 := List.pairwise_cons.1 hL
    have hM1 := List.pairwise_cons.1 hM
    have hxy : x = y := by
      rcases List.mem_cons.1 ((h x).1 (by simp)) with e | e
      · exact e
      · rcases List.mem_cons.1 ((h y).2 (by simp)) with e' | e'
        · exact e'.symm
        · have := hM1.1 x e; have := hL1.1 y e'; omega
    subst hxy
    rw [riseI_unique L M hL1.2 hM1.2 fun z => ⟨fun hz => by
      rcases List.mem_cons.1 ((h z).1 (by simp [hz])) with e | e
      · have := hL1.1 z hz; omega
      · exact e, fun hz => by
      rcases List.mem_cons.1 ((h z).2 (by simp [hz])) with e | e
      · have := hM1.1 z hz; omega
      · exact e⟩]
theorem Alts.unique {l : List Cfg} {A B : List Int} (h : Alts l A) (k : Alts l B) : A = B := riseI_unique A B h.rise k.rise fun a => (h.mem a).trans (k.mem a).symm
structure St where
  configs : List Cfg
  alts : List Int
  over : Bool
def sureOf (v : Vw) (K : List Cfg) : Int := (K.filter fun x => x.ended && x.exact).foldl (fun m x => min m x.alt) v.d.ends.length
def IsSet (v : Vw) (l : List Cfg) (s : St) : Prop :=
  if (closed v l).over = true then s.configs = [] ∧ s.over = true ∧ Alts (l.filter (has v)) s.alts
  else s.over = false ∧ Canon ((closed v l).kept.filter fun x => decide (x.alt ≤ sureOf v (closed v l).kept)) s.configs ∧ Alts s.configs s.alts
theorem IsSet.unique {v : Vw} {l : List Cfg} {s t : St} (h : IsSet v l s) (k : IsSet v l t) : s = t := by
  obtain ⟨a1, a2, a3⟩ := s
  obtain ⟨b1, b2, b3⟩ := t
  unfold IsSet at h k
  split at h
  · next e =>
    rw [if_pos e] at k
    obtain ⟨h1, h2, h3⟩ := h
    obtain ⟨k1, k2, k3⟩ := k
    dsimp only at h1 h2 h3 k1 k2 k3
    rw [h1, h2, k1, k2, h3.unique k3]
  · next e =>
    rw [if_neg e] at k
    obtain ⟨h1, h2, h3⟩ := h
    obtain ⟨k1, k2, k3⟩ := k
    dsimp only at h1 h2 h3 k1 k2 k3
    have h4 := h2.unique k2
    subst h4
    rw [h1, k1, h3.unique k3]
def startL (v : Vw) : List Cfg := v.d.edges.zipIdx.map fun p => ⟨p.2, p.1.to, [], true, false⟩
def moveL (v : Vw) (s : St) (tok : Int) : List Cfg := s.configs.flatMap fun x => if has v x = false then [] else if x.ended = true then [x] else (stOf v x).edges.filterMap fun e => if e.kind = 1 ∧ e.what = tok then some (atC x e.to x.stack true) else none
def doneS (s : St) : Bool := !s.over && s.configs.all fun x => x.ended
end Cf
end Go.Proofs.YtnpcjbdolmmaeaaGreatDoor
namespace Go.Proofs.YtnpcjbdolmmaeaaGreatDoor
namespace Cf
open Drv
def In64 (n : Int) : Prop := -9223372036854775808 ≤ n ∧ n ≤ 9223372036854775807
structure Bd (v : Vw) (x : Cfg) : Prop where
  alt : In64 x.alt
  state : In64 x.state
  stk : ∀ n ∈ x.stack, 0 ≤ n ∧ n < (v.n.states.length : Int)
  cnt : ∀ n ∈ x.stack, ((x.stack.count n : Nat) : Int) ≤ v.bound
structure OkW (v : Vw) : Prop where
  states : v.n.states.length ≤ 700
  edges : ∀ s ∈ v.n.states, s.edges.length ≤ 700
  bound : 1 ≤ v.bound ∧ v.bound ≤ 8
  to : ∀ s ∈ v.n.states, ∀ e ∈ s.edges, 0 ≤ e.to ∧ e.to < (v.n.states.length : Int)
  what : ∀ s ∈ v.n.states, ∀ e ∈ s.edges, e.kind = 2 → 0 ≤ e.what ∧ e.what < (v.n.starts.length : Int)
  starts : ∀ q ∈ v.n.starts, 0 ≤ q ∧ q < (v.n.states.length : Int)
theorem len_filter_split {α : Type} (p : α → Bool) : ∀ l : List α, l.length = (l.filter p).length + (l.filter fun x => !p x).length
  | [] => rfl
  | x :: l => by
    have := len_filter_split p l
    by_cases h : p x = true
    · simp [h]; omega
    · have h : p x = false := by simpa using h
      simp [h]; omega
theorem count_len (b : Nat) : ∀ (N : Nat) (l : List Int), (∀ n ∈ l, 0 ≤ n ∧ n < (N : Int)) → (∀ n ∈ l, l.count n ≤ b) → l.length ≤ N * b
  | 0, l, h, _ => by
    cases l with
    | nil => simp
    | cons x l => have := h x (by simp); omega
  | N + 1, l, h, hc => by
    have h1 := len_filter_split (fun n : Int => n == (N : Int)) l
    have h2 : (l.filter fun n : Int => n == (N : Int)).length ≤ b := by
      rw [← List.countP_eq_length_filter]
      by_cases hm : (N : Int) ∈ l
      · exact hc _ hm
      · have : List.count (N : Int) l = 0 := List.count_eq_zero.2 hm
        unfold List.count at this
        omega
    have h3 := count_len b N (l.filter fun n : Int => !(n == (N : Int))) (fun n hn => by
      have := h n (List.mem_filter.1 hn).1
      have h4 : ¬ n = (N : Int) := by simpa using (List.mem_filter.1 hn).2
      omega) (fun n hn => Nat.le_trans (List.Sublist.count_le n List.filter_sublist) (hc n (List.mem_filter.1 hn).1))
    have h5 : (N + 1) * b = N * b + b := Nat.succ_mul _ _
    omega
theorem Bd.len {v : Vw} {x : Cfg} (h : Bd v x) (k : OkW v) : x.stack.length ≤ 5600 := by
  have h1 := count_len v.bound.toNat v.n.states.length x.stack h.stk (fun n hn => by have := h.cnt n hn; omega)
  have h2 : v.n.states.length * v.bound.toNat ≤ 700 * 8 := Nat.mul_le_mul k.states (by have := k.bound.2; omega)
  omega
theorem state64 {v : Vw} (k : OkW v) {n : Int} (h : 0 ≤ n ∧ n < (v.n.states.length : Int)) : In64 n := by
  have := k.states
  constructor <;> omega
theorem Bd.at {v : Vw} {x : Cfg} (h : Bd v x) (k : OkW v) {n : Int} (hn : 0 ≤ n ∧ n < (v.n.states.length : Int)) (p : Bool) : Bd v (atC x n x.stack p) := ⟨h.alt, state64 k hn, h.stk, h.cnt⟩
theorem Bd.push {v : Vw} {x : Cfg} (h : Bd v x) (k : OkW v) {n m : Int} (hn : 0 ≤ n ∧ n < (v.n.states.length : Int)) (hm : 0 ≤ m ∧ m < (v.n.states.length : Int)) (hc : ¬ v.bound ≤ ((x.stack.count m : Nat) : Int)) (p : Bool) : Bd v (atC x n (x.stack ++ [m]) p) := by
  refine ⟨h.alt, state64 k hn, fun a ha => ?_, fun a ha => ?_⟩
  · rcases List.mem_append.1 ha with ha | ha
    · exact h.stk a ha
    · rw [List.mem_singleton.1 ha]; exact hm
  · show (((x.stack ++ [m]).count a : Nat) : Int) ≤ v.bound
    rw [List.count_append]
    by_cases e : a = m
    · subst e
      simp only [List.count_singleton_self]
      omega
    · have h0 : List.count a [m] = 0 := List.count_eq_zero.2 (by simpa using e)
      rw [h0]
      rcases List.mem_append.1 ha with ha | ha
      · have := h.cnt a ha; omega
      · exact absurd (List.mem_singleton.1 ha) e
theorem Bd.back {v : Vw} {x : Cfg} (h : Bd v x) (k : OkW v) (hne : x.stack ≠ []) (p : Bool) : Bd v (atC x (x.stack.getLastD 0) x.stack.dropLast p) := by
  refine ⟨h.alt, state64 k (h.stk _ ?_), fun a ha => h.stk a (List.dropLast_subset _ ha), fun a ha => ?_⟩
  · have : x.stack.getLastD 0 = x.stack.getLast hne := by
      rw [List.getLastD_eq_getLast?, List.getLast?_eq_some_getLast hne]; rfl
    rw [this]; exact List.getLast_mem hne
  · have h1 : x.stack.dropLast.count a ≤ x.stack.count a := List.Sublist.count_le a (List.dropLast_sublist _)
    have h2 := h.cnt a (List.dropLast_subset _ ha)
    show ((x.stack.dropLast.count a : Nat) : Int) ≤ v.bound
    omega
theorem Bd.end {v : Vw} {x : Cfg} (h : Bd v x) : Bd v ⟨x.alt, x.state, x.stack, x.exact, true⟩ := ⟨h.alt, h.state, h.stk, h.cnt⟩
structure ClB (v : Vw) (c : Cl) (m k : Nat) : Prop where
  wait : ∀ x ∈ c.wait, Bd v x
  kept : ∀ x ∈ c.kept, Bd v x
  m : c.wait.length ≤ m
  k : c.kept.length ≤ k
theorem ClB.mono {v : Vw} {c : Cl} {m k m' k' : Nat} (h : ClB v c m k) (hm : m ≤ m') (hk : k ≤ k') : ClB v c m' k' := ⟨h.wait, h.kept, Nat.le_trans h.m hm, Nat.le_trans h.k hk⟩
theorem ClB.meet {v : Vw} {c : Cl} {m k : Nat} (h : ClB v c m k) {x : Cfg} (hx : Bd v x) : ClB v (meet v c x) (m + 1) k := by
  unfold Cf.meet
  split
  · exact h.mono (Nat.le_succ _) (Nat.le_refl _)
  · refine ⟨fun y hy => ?_, h.kept, ?_, h.k⟩
    · rcases List.mem_append.1 hy with hy | hy
      · exact h.wait y hy
      · rw [List.mem_singleton.1 hy]; exact hx
    · have := h.m; simp; omega
theorem ClB.keep {v : Vw} {c : Cl} {m k : Nat} (h : ClB v c m k) {x : Cfg} (hx : Bd v x) : ClB v (keep c x) m (k + 1) := by
  refine ⟨h.wait, fun y hy => ?_, h.m, ?_⟩
  · rcases List.mem_append.1 hy with hy | hy
    · exact h.kept y hy
    · rw [List.mem_singleton.1 hy]; exact hx
  · have := h.k; unfold Cf.keep; simp; omega
theorem ClB.by1 {v : Vw} {c : Cl} {m k : Nat} (h : ClB v c m k) (w : OkW v) {x : Cfg} (hx : Bd v x) {s : NSt} (hs : s ∈ v.n.states) {e : Ed} (he : e ∈ s.edges) (p : Bool) : ClB v (by1 v x p c e) (m + 1) (k + 1) := by
  have ht := w.to s hs e he
  unfold Cf.by1
  split
  · exact (h.meet (hx.at w ht p)).mono (Nat.le_refl _) (Nat.le_succ _)
  · split
    · exact (h.meet (hx.at w ht false)).mono (Nat.le_refl _) (Nat.le_succ _)
    · split
      · exact (h.keep hx).mono (Nat.le_succ _) (Nat.le_refl _)
      · split
        · next h2 =>
          split
          · exact ⟨h.wait, h.kept, Nat.le_succ_of_le h.m, Nat.le_succ_of_le h.k⟩
          · next hc =>
            refine (h.meet (hx.push w ?_ ht hc true)).mono (Nat.le_refl _) (Nat.le_succ _)
            have hw := w.what s hs e he h2
            rw [List.getD_eq_getElem?_getD, List.getElem?_eq_getElem (by omega)]
            exact w.starts _ (List.getElem_mem _)
        · exact h.mono (Nat.le_succ _) (Nat.le_succ _)
theorem ClB.fold {v : Vw} (w : OkW v) {x : Cfg} (hx : Bd v x) {s : NSt} (hs : s ∈ v.n.states) (p : Bool) : ∀ (l : List Ed) {c : Cl} {m k : Nat}, (∀ e ∈ l, e ∈ s.edges) → ClB v c m k → ClB v (l.foldl (Cf.by1 v x p) c) (m + l.length) (k + l.length)
  | [], _, _, _, _, h => h
  | e :: l, c, m, k, hl, h => by
    have h1 := ClB.fold w hx hs p l (fun e he => hl e (by simp [he])) (h.by1 w hx hs (hl e (by simp)) p)
    rw [List.foldl_cons, List.length_cons]
    exact h1.mono (by omega) (by omega)
theorem stOf_mem {v : Vw} {x : Cfg} (h : 0 ≤ x.state ∧ x.state < (v.n.states.length : Int)) : stOf v x ∈ v.n.states := by
  unfold stOf
  rw [List.getD_eq_getElem?_getD, List.getElem?_eq_getElem (by omega)]
  exact List.getElem_mem _
theorem has_state {v : Vw} {x : Cfg} (h : has v x = true) : 0 ≤ x.alt ∧ x.alt < (v.d.ends.length : Int) ∧ 0 ≤ x.state ∧ x.state < (v.n.states.length : Int) := by
  unfold has at h
  simp only [Bool.and_eq_true, decide_eq_true_eq] at h
  exact ⟨h.1.1.1, h.1.1.2, h.1.2, h.2⟩
theorem ClB.close1 {v : Vw} {c : Cl} {m k : Nat} (h : ClB v c m k) (w : OkW v) {x : Cfg} (hx : Bd v x) (hh : has v x = true) : ClB v (close1 v c x) (m + 701) (k + 701) := by
  have hst := stOf_mem (has_state hh).2.2
  have hl := w.edges _ hst
  unfold Cf.close1
  split
  · exact (h.keep hx).mono (by omega) (by omega)
  · split
    · exact (h.keep hx.end).mono (by omega) (by omega)
    · have h1 := ClB.fold w hx hst (decide ((stOf v x).ends.length = 0)) (stOf v x).edges (fun _ e => e) h
      unfold back1
      split
      · exact h1.mono (by omega) (by omega)
      · next hc =>
        refine (h1.meet (hx.back w (fun e => hc (.inl e)) true)).mono (by omega) (by omega)
def AllHas (v : Vw) (c : Cl) : Prop := ∀ x ∈ c.wait, has v x = true
theorem AllHas.meet {v : Vw} {c : Cl} (h : AllHas v c) (x : Cfg) : AllHas v (Cf.meet v c x) := by
  unfold Cf.meet
  split
  · exact h
  · next hn =>
    intro y hy
    rcases List.mem_append.1 hy with hy | hy
    · exact h y hy
    · rw [List.mem_singleton.1 hy]
      cases hq : has v x with
      | true => rfl
      | false => exact absurd (.inr hq) hn
theorem AllHas.by1 {v : Vw} {c : Cl} (h : AllHas v c) (x : Cfg) (p : Bool) (e : Ed) : AllHas v (Cf.by1 v x p c e) := by
  unfold Cf.by1
  repeat' split
  all_goals first | exact h.meet _ | exact h
theorem AllHas.fold {v : Vw} (x : Cfg) (p : Bool) : ∀ (l : List Ed) {c : Cl}, AllHas v c → AllHas v (l.foldl (Cf.by1 v x p) c)
  | [], _, h => h
  | e :: l, _, h => AllHas.fold x p l (h.by1 x p e)
theorem AllHas.close1 {v : Vw} {c : Cl} (h : AllHas v c) (x : Cfg) : AllHas v (Cf.close1 v c x) := by
  unfold Cf.close1 back1
  repeat' split
  · exact h
  · exact h
  · exact h.fold _ _ _
  · exact (h.fold _ _ _).meet _
end Cf
end Go.Proofs.YtnpcjbdolmmaeaaGreatDoor
namespace Go.Proofs.YtnpcjbdolmmaeaaGreatDoor
namespace Cf
open Drv
theorem pigeon {α β : Type} [DecidableEq β] (f : α → β) : ∀ (l : List α) (m : List β), l.Pairwise (fun a b => f a ≠ f b) → (∀ x ∈ l, f x ∈ m) → l.length ≤ m.length
  | [], _, _, _ => Nat.zero_le _
  | x :: l, m, hp, hm => by
    have h1 := List.pairwise_cons.1 hp
    have hx := hm x (by simp)
    have h2 := pigeon f l (m.erase (f x)) h1.2 (fun y hy => (List.mem_erase_of_ne (fun e => h1.1 y hy e.symm)).2 (hm y (by simp [hy])))
    rw [List.length_erase_of_mem hx] at h2
    have := List.length_pos_of_mem hx
    simp only [List.length_cons]
    omega
def endC (x : Cfg) : Cfg := ⟨x.alt, x.state, x.stack, x.exact, true⟩
def norm (x : Cfg) : Cfg := ⟨x.alt, x.state, x.stack, true, x.ended⟩
theorem norm_like {a b : Cfg} (h : norm a = norm b) : Like a b := by
  obtain ⟨a1, a2, a3, a4, a5⟩ := a
  obtain ⟨b1, b2, b3, b4, b5⟩ := b
  simp only [norm, Cfg.mk.injEq] at h
  exact ⟨h.1, h.2.1, h.2.2.1, h.2.2.2.2⟩
theorem like_norm {a b : Cfg} (h : Like a b) : norm a = norm b := by
  obtain ⟨h1, h2, h3, h4⟩ := h
  unfold norm; rw [h1, h2, h3, h4]
theorem rise_few {L W : List Cfg} (h : Rise L) (k : ∀ x ∈ L, ∃ y ∈ W, Like x y ∨ Like x (endC y)) : L.length ≤ 2 * W.length := by
  have h1 := pigeon norm L ((W ++ W.map endC).map norm) (h.imp fun {a b} hab e => by
    have := (ord_one a b).2 (norm_like e)
    omega) (fun x hx => by
    obtain ⟨y, hy, e | e⟩ := k x hx
    · rw [like_norm e]; exact List.mem_map_of_mem (List.mem_append_left _ hy)
    · rw [like_norm e]; exact List.mem_map_of_mem (List.mem_append_right _ (List.mem_map_of_mem hy)))
  simp only [List.length_map, List.length_append] at h1
  omega
def KW (c : Cl) : Prop := ∀ y ∈ c.kept, ∃ x ∈ c.wait, y = x ∨ y = endC x
theorem KW.more {c c' : Cl} (h : KW c) (hk : c'.kept = c.kept) (hw : ∃ r, c'.wait = c.wait ++ r) : KW c' := by
  intro y hy
  rw [hk] at hy
  obtain ⟨x, hx, e⟩ := h y hy
  obtain ⟨r, hr⟩ := hw
  exact ⟨x, by rw [hr]; exact List.mem_append_left _ hx, e⟩
theorem kept_meet (v : Vw) (c : Cl) (x : Cfg) : (meet v c x).kept = c.kept := by unfold meet; split <;> rfl
theorem KW.meet {v : Vw} {c : Cl} (h : KW c) (x : Cfg) : KW (Cf.meet v c x) := h.more (kept_meet v c x) (meet_wait v c x)
theorem KW.keep {c : Cl} (h : KW c) {x y : Cfg} (hx : x ∈ c.wait) (hy : y = x ∨ y = endC x) : KW (Cf.keep c y) := by
  intro z hz
  rcases List.mem_append.1 hz with hz | hz
  · exact h z hz
  · rw [List.mem_singleton.1 hz]; exact ⟨x, hx, hy⟩
theorem KW.by1 {v : Vw} {c : Cl} (h : KW c) {x : Cfg} (hx : x ∈ c.wait) (p : Bool) (e : Ed) : KW (Cf.by1 v x p c e) := by
  unfold Cf.by1
  repeat' split
  · exact h.meet _
  · exact h.meet _
  · exact h.keep hx (.inl rfl)
  · exact h
  · exact h.meet _
  · exact h
theorem KW.fold {v : Vw} {x : Cfg} (p : Bool) : ∀ (l : List Ed) {c : Cl}, KW c → x ∈ c.wait → KW (l.foldl (Cf.by1 v x p) c)
  | [], _, h, _ => h
  | e :: l, c, h, hx => KW.fold p l (h.by1 hx p e) (by
    obtain ⟨r, hr⟩ := by1_wait v x p c e
    rw [hr]; exact List.mem_append_left _ hx)
theorem KW.close1 {v : Vw} {c : Cl} (h : KW c) {x : Cfg} (hx : x ∈ c.wait) : KW (Cf.close1 v c x) := by
  unfold Cf.close1 back1
  repeat' split
  · exact h.keep hx (.inl rfl)
  · exact h.keep hx (.inr rfl)
  · exact h.fold _ _ hx
  · exact (h.fold _ _ hx).meet _
structure SetB (v : Vw) (s : St) : Prop where
  ok : ∀ x ∈ s.configs, Bd v x ∧ has v x = true
  few : s.configs.length ≤ 4000
theorem Bd.like {v : Vw} {x y : Cfg} (h : Bd v x) (k : Like y x) : Bd v y := by
  obtain ⟨k1, k2, k3, _⟩ := k
  exact ⟨by rw [k1]; exact h.alt, by rw [k2]; exact h.state, by rw [k3]; exact h.stk, by rw [k3]; exact h.cnt⟩
theorem has_like {v : Vw} {x y : Cfg} (k : Like y x) : has v y = has v x := by
  obtain ⟨k1, k2, _, _⟩ := k
  unfold has; rw [k1, k2]
structure Run (v : Vw) (c : Cl) (i : Nat) : Prop where
  b : ∃ m, ClB v c m (i * 701)
  m : c.over = false → c.wait.length ≤ 2000
  has : AllHas v c
  kw : KW c
theorem Run.next {v : Vw} {c : Cl} {i : Nat} (h : Run v c i) (w : OkW v) (hi : i < c.wait.length) : Run v (close1 v c c.wait[i]) (i + 1) := by
  obtain ⟨m, hb⟩ := h.b
  have hx := List.getElem_mem hi
  exact ⟨⟨m + 701, (hb.close1 w (hb.wait _ hx) (h.has _ hx)).mono (Nat.le_refl _) (by omega)⟩, close1_few h.m _, h.has.close1 _, h.kw.close1 hx⟩
theorem Run.start {v : Vw} : ∀ (l : List Cfg) {c : Cl} (_ : ∀ x ∈ l, Bd v x) (_ : Run v c 0), Run v (l.foldl (meet v) c) 0
  | [], _, _, h => h
  | x :: l, c, hl, h => by
    obtain ⟨m, hb⟩ := h.b
    exact Run.start l (fun y hy => hl y (by simp [hy])) ⟨⟨m + 1, hb.meet (hl x (by simp))⟩, meet_few h.m x, h.has.meet x, h.kw.meet x⟩
theorem Run.start0 {v : Vw} : Run v ⟨[], [], false⟩ 0 := ⟨⟨0, ⟨fun _ h => (by cases h), fun _ h => (by cases h), Nat.le_refl _, Nat.le_refl _⟩⟩, fun _ => by simp, fun _ h => (by cases h), fun _ h => (by cases h)⟩
theorem Run.set {v : Vw} {c : Cl} {i : Nat} {s : List Cfg} {sure : Int} (h : Run v c i) (ho : c.over = false) (hc : Canon (c.kept.filter fun x => decide (x.alt ≤ sure)) s) : (∀ x ∈ s, Bd v x ∧ Cf.has v x = true) ∧ s.length ≤ 4000 := by
  have hk : ∀ x ∈ s, ∃ y ∈ c.wait, Like x y ∨ Like x (endC y) := fun x hx => by
    obtain ⟨y, hy, e⟩ := hc.of x hx
    obtain ⟨z, hz, e2⟩ := h.kw y (List.mem_filter.1 hy).1
    rcases e2 with e2 | e2
    · subst e2; exact ⟨_, hz, .inl e⟩
    · subst e2; exact ⟨_, hz, .inr e⟩
  obtain ⟨m, hb⟩ := h.b
  refine ⟨fun x hx => ?_, ?_⟩
  · obtain ⟨y, hy, e | e⟩ := hk x hx
    · exact ⟨(hb.wait y hy).like e, by rw [has_like e]; exact h.has y hy⟩
    · exact ⟨(hb.wait y hy).end.like e, by rw [has_like e]; exact h.has y hy⟩
  · have h1 := rise_few hc.rise hk
    have h2 := h.m ho
    omega
theorem start_bd {v : Vw} (w : OkW v) (hd : v.d ∈ v.n.states) : (∀ x ∈ startL v, Bd v x) ∧ (startL v).length ≤ 700 := by
  have h1 := w.edges _ hd
  refine ⟨fun x hx => ?_, by unfold startL; rw [List.length_map, List.length_zipIdx]; exact h1⟩
  unfold startL at hx
  obtain ⟨⟨e, i⟩, hp, rfl⟩ := List.mem_map.1 hx
  have h2 := List.mem_zipIdx hp
  have h3 : e ∈ v.d.edges := by rw [h2.2.2]; exact List.getElem_mem _
  refine ⟨?_, state64 w (w.to _ hd e h3), fun _ h => (by cases h), fun _ h => (by cases h)⟩
  show In64 (i : Int)
  constructor <;> omega
theorem flatMap_len {α β : Type} (f : α → List β) (n : Nat) : ∀ (l : List α), (∀ x ∈ l, (f x).length ≤ n) → (l.flatMap f).length ≤ l.length * n
  | [], _ => by simp
  | x :: r, h => by
    have h1 := flatMap_len f n r fun y hy => h y (List.mem_cons_of_mem _ hy)
    have h2 := h x (by simp)
    simp only [List.flatMap_cons, List.length_append, List.length_cons, Nat.add_mul] at *
    omega
theorem move_bd {v : Vw} (w : OkW v) {s : St} (hs : SetB v s) (tok : Int) : (∀ x ∈ moveL v s tok, Bd v x) ∧ (moveL v s tok).length ≤ 2800000 := by
  constructor
  · intro x hx
    unfold moveL at hx
    obtain ⟨y, hy, hx⟩ := List.mem_flatMap.1 hx
    obtain ⟨hb, hh⟩ := hs.ok y hy
    rw [if_neg (by rw [hh]; decide)] at hx
    split at hx
    · rw [List.mem_singleton.1 hx]; exact hb
    · obtain ⟨e, he, hx⟩ := List.mem_filterMap.1 hx
      split at hx
      · injection hx with hx
        subst hx
        exact hb.at w (w.to _ (stOf_mem (has_state hh).2.2) e he) true
      · cases hx
  · have h1 := flatMap_len (fun x => if has v x = false then [] else if x.ended = true then [x] else (stOf v x).edges.filterMap fun e => if e.kind = 1 ∧ e.what = tok then some (atC x e.to x.stack true) else none) 700 s.configs (fun x hx => by
      obtain ⟨hb, hh⟩ := hs.ok x hx
      rw [if_neg (by rw [hh]; decide)]
      split
      · simp
      · exact Nat.le_trans (List.length_filterMap_le _ _) (w.edges _ (stOf_mem (has_state hh).2.2)))
    have h2 := hs.few
    unfold moveL
    omega
end Cf
end Go.Proofs.YtnpcjbdolmmaeaaGreatDoor
namespace Go.Proofs.YtnpcjbdolmmaeaaGreatDoor
namespace Cf
open Drv
open Classical in
noncomputable def setF (v : Vw) (l : List Cfg) : St := if h : ∃ s, IsSet v l s then h.choose else ⟨[], [], false⟩
theorem setF_eq {v : Vw} {l : List Cfg} {s : St} (h : IsSet v l s) : setF v l = s := by
  have hx : ∃ s, IsSet v l s := ⟨s, h⟩
  unfold setF
  rw [dif_pos hx]
  exact IsSet.unique hx.choose_spec h
noncomputable def moveF (v : Vw) (s : St) (tok : Int) : St := if s.over = true then ⟨[], [], false⟩ else setF v (moveL v s tok)
theorem moveF_eq {v : Vw} {s t : St} {tok : Int} (h : if s.over = true then t = ⟨[], [], false⟩ else IsSet v (moveL v s tok) t) : moveF v s tok = t := by
  unfold moveF
  by_cases e : s.over = true
  · rw [if_pos e] at h ⊢; exact h.symm
  · rw [if_neg e] at h ⊢; exact setF_eq h
def kindS (s : St) : Int := if s.alts.length = 0 then 2 else if s.alts.length = 1 then 1 else if s.over = true ∨ doneS s = true then 3 else 0
theorem kindS_le (s : St) : 0 ≤ kindS s ∧ kindS s ≤ 3 := by
  unfold kindS
  repeat' split
  all_goals omega
def sameS (a b : St) : Bool := decide (kindS a = kindS b) && (if kindS a = 0 then decide (a.configs = b.configs) else decide (a.alts = b.alts))
def findS (l : List St) (x : St) : Option Nat := l.findIdx? fun s => sameS s x
def toks (n : Nat) : List Int := (List.range (n + 1)).map fun i : Nat => (i : Int) - 1
noncomputable def edgesF (v : Vw) (s : St) (budget : Nat) : List Int → List St → List (Int × Int) → Option (List St × List (Int × Int))
  | [], sets, out => some (sets, out)
  | t :: ts, sets, out =>
    if (moveF v s t).alts.length = 0 then edgesF v s budget ts sets out
    else match findS sets (moveF v s t) with
      | some k => edgesF v s budget ts sets (out ++ [(t, (k : Int))])
      | none => if budget ≤ sets.length then none else edgesF v s budget ts (sets ++ [moveF v s t]) (out ++ [(t, (sets.length : Int))])
def freshL (s : St) : LSt := ⟨kindS s, if kindS s = 0 then [] else s.alts, []⟩
noncomputable def buildF (v : Vw) (budget : Nat) (ts : List Int) : Nat → Nat → List St → List LSt → Option (List LSt)
  | 0, _, _, done => some done
  | f + 1, i, sets, done => match sets[i]? with
    | none => some done
    | some s => if kindS s = 0 then (match edgesF v s budget ts sets [] with
        | none => none
        | some (sets', out) => buildF v budget ts f (i + 1) sets' (done ++ [⟨0, [], out⟩]))
      else buildF v budget ts f (i + 1) sets (done ++ [freshL s])
noncomputable def startF (v : Vw) : St := setF v (startL v)
def tryAll (v : Vw) : List LSt := [⟨3, (List.range v.d.ends.length).map fun i : Nat => (i : Int), []⟩]
noncomputable def autoF (v : Vw) (budget tokens : Nat) : List LSt := (buildF v budget (toks tokens) (budget + 1) 0 [startF v] []).getD (tryAll v)
theorem edgesF_cons (v : Vw) (s : St) (budget : Nat) (t : Int) (ts : List Int) (sets : List St) (out : List (Int × Int)) : edgesF v s budget (t :: ts) sets out =
    if (moveF v s t).alts.length = 0 then edgesF v s budget ts sets out
    else match findS sets (moveF v s t) with
      | some k => edgesF v s budget ts sets (out ++ [(t, (k : Int))])
      | none => if budget ≤ sets.length then none else edgesF v s budget ts (sets ++ [moveF v s t]) (out ++ [(t, (sets.length : Int))]) := rfl
theorem buildF_at {v : Vw} {budget : Nat} {ts : List Int} {f i : Nat} {sets : List St} {done : List LSt} {s : St} (h : sets[i]? = some s) : buildF v budget ts (f + 1) i sets done =
    if kindS s = 0 then (match edgesF v s budget ts sets [] with
        | none => none
        | some (sets', out) => buildF v budget ts f (i + 1) sets' (done ++ [⟨0, [], out⟩]))
      else buildF v budget ts f (i + 1) sets (done ++ [freshL s]) := by
  conv => lhs; unfold buildF
  rw [h]
theorem buildF_end {v : Vw} {budget : Nat} {ts : List Int} {f i : Nat} {sets : List St} {done : List LSt} (h : sets.length ≤ i) : buildF v budget ts f i sets done = some done := by
  cases f with
  | zero => rfl
  | succ f =>
    unfold buildF
    rw [List.getElem?_eq_none h]
def Apt (l : List St) : Prop := l.Pairwise fun a b => sameS a b = false
theorem edgesF_more {v : Vw} {s : St} {budget : Nat} : ∀ (ts : List Int) {sets : List St} {out : List (Int × Int)} {sets' : List St} {out' : List (Int × Int)}, edgesF v s budget ts sets out = some (sets', out') → sets.length ≤ budget → (∃ r, sets' = sets ++ r) ∧ sets'.length ≤ budget
  | [], sets, out, sets', out', h, hb => by
    unfold edgesF at h
    injection h with h
    injection h with h1 h2
    subst h1
    exact ⟨⟨[], by simp⟩, hb⟩
  | t :: ts, sets, out, sets', out', h, hb => by
    rw [edgesF_cons] at h
    split at h
    · exact edgesF_more ts h hb
    · split at h
      · exact edgesF_more ts h hb
      · split at h
        · cases h
        · next hq =>
          obtain ⟨⟨r, hr⟩, hl⟩ := edgesF_more ts h (by simp; omega)
          exact ⟨⟨[moveF v s t] ++ r, by rw [hr, List.append_assoc]⟩, hl⟩
end Cf
end Go.Proofs.YtnpcjbdolmmaeaaGreatDoor
namespace Go.Proofs.YtnpcjbdolmmaeaaGreatDoor
namespace Cf
open Go.Lib (itoa decDigits)
abbrev Bys := List UInt8
def mk (c : UInt8) : Prop := c = 32 ∨ c = 33
def Cut (l : Bys) : Prop := ∀ c s, l = c :: s → mk c
theorem cut2 : ∀ (a b s t : Bys), (∀ x ∈ a, ¬ mk x) → (∀ x ∈ b, ¬ mk x) → Cut s → Cut t → a ++ s = b ++ t → a = b ∧ s = t
  | [], [], _, _, _, _, _, _, h => ⟨rfl, h⟩
  | [], y :: b, s, t, _, hb, hs, _, h => absurd (hs y (b ++ t) h) (hb y (by simp))
  | x :: a, [], s, t, ha, _, _, ht, h => absurd (ht x (a ++ s) h.symm) (ha x (by simp))
  | x :: a, y :: b, s, t, ha, hb, hs, ht, h => by
    rw [List.cons_append, List.cons_append] at h
    injection h with h1 h2
    obtain ⟨e1, e2⟩ := cut2 a b s t (fun z hz => ha z (by simp [hz])) (fun z hz => hb z (by simp [hz])) hs ht h2
    exact ⟨by rw [h1, e1], e2⟩
def dval (l : Bys) : Nat := l.foldl (fun a c => 10 * a + (c.toNat - 48)) 0
theorem dval_snoc (l : Bys) (c : UInt8) : dval (l ++ [c]) = 10 * dval l + (c.toNat - 48) := by unfold dval; rw [List.foldl_append]; rfl
theorem dig_nat {k : Nat} (h : k < 10) : (UInt8.ofNat (48 + k)).toNat = 48 + k := by simp [UInt8.toNat_ofNat']; omega
theorem dval_dig (u : Nat) : dval (decDigits u) = u := by
  induction u using Nat.strongRecOn with
  | ind u ih =>
    unfold decDigits
    split
    · next h => show 10 * 0 + ((UInt8.ofNat (48 + u)).toNat - 48) = u; rw [dig_nat h]; omega
    · next h =>
      rw [dval_snoc, ih (u / 10) (by omega), dig_nat (Nat.mod_lt _ (by decide))]; omega
theorem dig_range (u : Nat) : ∀ c ∈ decDigits u, 48 ≤ c.toNat ∧ c.toNat ≤ 57 := by
  induction u using Nat.strongRecOn with
  | ind u ih =>
    intro c hc
    unfold decDigits at hc
    split at hc
    · next h =>
      have : c = UInt8.ofNat (48 + u) := by simpa using hc
      rw [this, dig_nat h]; omega
    · next h =>
      rcases List.mem_append.1 hc with hc | hc
      · exact ih (u / 10) (by omega) c hc
      · have : c = UInt8.ofNat (48 + u % 10) := by simpa using hc
        have h10 : u % 10 < 10 := Nat.mod_lt _ (by decide)
        rw [this, dig_nat h10]; omega
theorem itoa_not (n : Int) : ∀ c ∈ itoa n, ¬ mk c := by
  intro c hc
  have key : ∀ d : UInt8, (48 ≤ d.toNat ∧ d.toNat ≤ 57) → ¬ mk d := by
    rintro d ⟨h1, h2⟩ (e | e)
    · subst e; exact absurd h1 (by decide)
    · subst e; exact absurd h1 (by decide)
  unfold itoa at hc
  split at hc
  · rcases List.mem_cons.1 hc with e | hc
    · subst e; unfold mk; decide
    · exact key c (dig_range _ c hc)
  · exact key c (dig_range _ c hc)
theorem itoa_inj {a b : Int} (h : itoa a = itoa b) : a = b := by
  have hne : ∀ u v : Nat, 45 :: decDigits u ≠ decDigits v := by
    intro u v e
    have := dig_range v 45 (by rw [← e]; simp)
    exact absurd this.1 (by decide)
  unfold itoa at h
  split at h
  · next ha =>
    split at h
    · next hb =>
      injection h with _ h
      have := congrArg dval h
      rw [dval_dig, dval_dig] at this; omega
    · exact absurd h (hne _ _)
  · next ha =>
    split at h
    · exact absurd h.symm (hne _ _)
    · next hb =>
      have := congrArg dval h
      rw [dval_dig, dval_dig] at this; omega
def tailT (l : List Int) (e : Bool) : Bys := l.flatMap (fun n => 32 :: itoa n) ++ (if e = true then [33] else [])
theorem tail_cut (l : List Int) (e : Bool) : Cut (tailT l e) := by
  intro c s h
  cases l with
  | nil =>
    cases e
    · cases h
    · injection h with h _; exact .inr h.symm
  | cons n l => injection h with h _; exact .inl h.symm
theorem tail_inj : ∀ (l m : List Int) (e f : Bool), tailT l e = tailT m f → l = m ∧ e = f
  | [], [], e, f, h => by cases e <;> cases f <;> simp [tailT] at h ⊢
  | [], n :: m, e, f, h => by cases e <;> simp [tailT] at h
  | n :: l, [], e, f, h => by cases f <;> simp [tailT] at h
  | n :: l, k :: m, e, f, h => by
    have h' : 32 :: (itoa n ++ tailT l e) = 32 :: (itoa k ++ tailT m f) := by simpa [tailT] using h
    injection h' with _ h'
    obtain ⟨h1, h2⟩ := cut2 _ _ _ _ (itoa_not n) (itoa_not k) (tail_cut l e) (tail_cut m f) h'
    obtain ⟨h3, h4⟩ := tail_inj l m e f h2
    exact ⟨by rw [itoa_inj h1, h3], h4⟩
def keyT (x : Cfg) (e : Bool) : Bys := (if x.ended = true then 1 else 0) :: (itoa x.alt ++ tailT (x.state :: x.stack) e)
def signT (x : Cfg) : Bys := keyT x false
theorem key_sign (x : Cfg) : keyT x true = signT x ++ [33] := by unfold signT keyT tailT; simp
theorem key_inj {x y : Cfg} {e f : Bool} (h : keyT x e = keyT y f) : Like x y ∧ e = f := by
  unfold keyT at h
  injection h with h1 h2
  obtain ⟨h3, h4⟩ := cut2 _ _ _ _ (itoa_not x.alt) (itoa_not y.alt) (tail_cut _ _) (tail_cut _ _) h2
  obtain ⟨h5, h6⟩ := tail_inj _ _ _ _ h4
  injection h5 with h7 h8
  refine ⟨⟨itoa_inj h3, h7, h8, ?_⟩, h6⟩
  cases hx : x.ended <;> cases hy : y.ended <;> rw [hx, hy] at h1 <;> first | rfl | (exact absurd h1 (by decide))
theorem key_of_like {x y : Cfg} (h : Like x y) (e : Bool) : keyT x e = keyT y e := by
  obtain ⟨h1, h2, h3, h4⟩ := h
  unfold keyT; rw [h1, h2, h3, h4]
theorem sign_take (l : List Int) (i : Nat) (h : i < l.length) : (l.take (i + 1)).flatMap (fun n => 32 :: itoa n) = (l.take i).flatMap (fun n => 32 :: itoa n) ++ (32 :: itoa l[i]) := by
  rw [List.take_succ_eq_append_getElem h, List.flatMap_append]
  simp
end Cf
end Go.Proofs.YtnpcjbdolmmaeaaGreatDoor
namespace Go.Proofs.YtnpcjbdolmmaeaaGreatDoor
namespace Cf
open Go.Lib (itoa decDigits)
def numT (n : Int) : Bys := itoa n ++ [32]
def numsT (l : List Int) : Bys := l.flatMap numT
def flagsC (c : Cfg) : Int := (if c.exact = true then 1 else 0) + (if c.ended = true then 2 else 0)
def cfgT (c : Cfg) : Bys := numT (flagsC c) ++ numT c.alt ++ numT c.state ++ numsT c.stack ++ [59]
def signS (s : St) : Bys := UInt8.ofNat (kindS s).toNat :: (if kindS s = 0 then s.configs.flatMap cfgT else numsT s.alts)
theorem itoa_not59 (n : Int) : ∀ c ∈ itoa n, c ≠ 59 := by
  intro c hc
  have key : ∀ d : UInt8, (48 ≤ d.toNat ∧ d.toNat ≤ 57) → d ≠ 59 := by
    rintro d ⟨h1, h2⟩ e
    subst e; exact absurd h2 (by decide)
  unfold itoa at hc
  split at hc
  · rcases List.mem_cons.1 hc with e | hc
    · subst e; decide
    · exact key c (dig_range _ c hc)
  · exact key c (dig_range _ c hc)
theorem num_cut {a b : Int} {s t : Bys} (h : numT a ++ s = numT b ++ t) : a = b ∧ s = t := by
  unfold numT at h
  rw [List.append_assoc, List.append_assoc] at h
  obtain ⟨h1, h2⟩ := cut2 (itoa a) (itoa b) ([32] ++ s) ([32] ++ t) (itoa_not a) (itoa_not b) (fun c r e => by injection e with e _; exact .inl e.symm) (fun c r e => by injection e with e _; exact .inl e.symm) h
  exact ⟨itoa_inj h1, by simpa using h2⟩
theorem num_ne (n : Int) (s t : Bys) : numT n ++ s ≠ 59 :: t := by
  intro h
  unfold numT at h
  cases hi : itoa n with
  | nil => rw [hi] at h; injection h with h _; exact absurd h (by decide)
  | cons c r =>
    rw [hi] at h
    injection h with h _
    exact itoa_not59 n c (by rw [hi]; simp) h
theorem num_nonnil (n : Int) (s : Bys) : numT n ++ s ≠ [] := by
  unfold numT
  simp
theorem nums_inj : ∀ {l m : List Int}, numsT l = numsT m → l = m
  | [], [], _ => rfl
  | [], _ :: _, h => absurd h.symm (num_nonnil _ _)
  | _ :: _, [], h => absurd h (num_nonnil _ _)
  | a :: l, b :: m, h => by
    obtain ⟨h1, h2⟩ := num_cut (show numT a ++ numsT l = numT b ++ numsT m from h)
    rw [h1, nums_inj h2]
theorem nums_cut : ∀ {l m : List Int} {s t : Bys}, numsT l ++ 59 :: s = numsT m ++ 59 :: t → l = m ∧ s = t
  | [], [], _, _, h => by injection h with _ h; exact ⟨rfl, h⟩
  | [], b :: m, s, t, h => by
    have h : 59 :: s = (numT b ++ numsT m) ++ 59 :: t := h
    rw [List.append_assoc] at h
    exact absurd h.symm (num_ne _ _ _)
  | a :: l, [], s, t, h => by
    have h : (numT a ++ numsT l) ++ 59 :: s = 59 :: t := h
    rw [List.append_assoc] at h
    exact absurd h (num_ne _ _ _)
  | a :: l, b :: m, s, t, h => by
    have h : (numT a ++ numsT l) ++ 59 :: s = (numT b ++ numsT m) ++ 59 :: t := h
    rw [List.append_assoc, List.append_assoc] at h
    obtain ⟨h1, h2⟩ := num_cut h
    obtain ⟨h3, h4⟩ := nums_cut h2
    exact ⟨by rw [h1, h3], h4⟩
theorem cfg_cut {x y : Cfg} {s t : Bys} (h : cfgT x ++ s = cfgT y ++ t) : x = y ∧ s = t := by
  unfold cfgT at h
  simp only [List.append_assoc, List.singleton_append] at h
  obtain ⟨h1, h⟩ := num_cut h
  obtain ⟨h2, h⟩ := num_cut h
  obtain ⟨h3, h⟩ := num_cut h
  obtain ⟨h4, h⟩ := nums_cut h
  refine ⟨?_, h⟩
  obtain ⟨a1, a2, a3, a4, a5⟩ := x
  obtain ⟨b1, b2, b3, b4, b5⟩ := y
  dsimp only at h2 h3 h4
  subst h2 h3 h4
  unfold flagsC at h1
  dsimp only at h1
  cases a4 <;> cases a5 <;> cases b4 <;> cases b5 <;> first | rfl | (simp at h1)
theorem cfg_ne (x : Cfg) (s : Bys) : cfgT x ++ s ≠ [] := by unfold cfgT; simp
theorem cfgs_inj : ∀ {l m : List Cfg}, l.flatMap cfgT = m.flatMap cfgT → l = m
  | [], [], _ => rfl
  | [], _ :: _, h => absurd h.symm (cfg_ne _ _)
  | _ :: _, [], h => absurd h (cfg_ne _ _)
  | x :: l, y :: m, h => by
    obtain ⟨h1, h2⟩ := cfg_cut (show cfgT x ++ l.flatMap cfgT = cfgT y ++ m.flatMap cfgT from h)
    rw [h1, cfgs_inj h2]
theorem sign_same (a b : St) : signS a = signS b ↔ sameS a b = true := by
  have ka := kindS_le a
  have kb := kindS_le b
  unfold signS sameS
  constructor
  · intro h
    injection h with h1 h2
    have hk : kindS a = kindS b := by
      have := congrArg UInt8.toNat h1
      simp [UInt8.toNat_ofNat'] at this
      omega
    rw [hk] at h2 ⊢
    simp only [decide_true, Bool.true_and]
    split at h2
    · next e => rw [if_pos e]; exact decide_eq_true (cfgs_inj h2)
    · next e => rw [if_neg e]; exact decide_eq_true (nums_inj h2)
  · intro h
    rw [Bool.and_eq_true, decide_eq_true_eq] at h
    obtain ⟨hk, h2⟩ := h
    rw [hk] at h2 ⊢
    split at h2
    · next e => rw [if_pos e, if_pos e, of_decide_eq_true h2]
    · next e => rw [if_neg e, if_neg e, of_decide_eq_true h2]
end Cf
end Go.Proofs.YtnpcjbdolmmaeaaGreatDoor
