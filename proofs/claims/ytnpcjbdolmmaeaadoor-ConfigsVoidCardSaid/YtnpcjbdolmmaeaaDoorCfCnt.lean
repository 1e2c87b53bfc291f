/-
  How many configurations a set has; all are a view's: plain.
-/
import Derived.Test.YtnpcjbdolmmaeaaDoorCfInv
namespace Go.Proofs.YtnpcjbdolmmaeaaDoor
namespace Cf
open Drv
theorem pigeon {α β : Type} [DecidableEq β] (f : α → β) : ∀ (l : List α) (m : List β), l.Pairwise (fun a b => f a ≠ f b) → (∀ x ∈ l, f x ∈ m) → l.length ≤ m.length
  | [], _, _, _ => Nat.zero_le _
  | x :: l, m, hp, hm => by
    have h1 := List.pairwise_cons.1 hp
    have hx := hm x (by simp)
    have h2 := pigeon f l (m.erase (f x)) h1.2 (fun y hy => (List.mem_erase_of_ne (fun e => h1.1 y hy e.symm)).2 (hm y (by simp [hy])))
    rw [List.length_erase_of_mem hx] at h2
    have := List.length_pos_of_mem hx
    simp only [List.length_cons]
    omega
def endC (x : Cfg) : Cfg := ⟨x.alt, x.state, x.stack, x.exact, true⟩
def norm (x : Cfg) : Cfg := ⟨x.alt, x.state, x.stack, true, x.ended⟩
theorem norm_like {a b : Cfg} (h : norm a = norm b) : Like a b := by
  obtain ⟨a1, a2, a3, a4, a5⟩ := a
  obtain ⟨b1, b2, b3, b4, b5⟩ := b
  simp only [norm, Cfg.mk.injEq] at h
  exact ⟨h.1, h.2.1, h.2.2.1, h.2.2.2.2⟩
theorem like_norm {a b : Cfg} (h : Like a b) : norm a = norm b := by
  obtain ⟨h1, h2, h3, h4⟩ := h
  unfold norm; rw [h1, h2, h3, h4]
theorem rise_few {L W : List Cfg} (h : Rise L) (k : ∀ x ∈ L, ∃ y ∈ W, Like x y ∨ Like x (endC y)) : L.length ≤ 2 * W.length := by
  have h1 := pigeon norm L ((W ++ W.map endC).map norm) (h.imp fun {a b} hab e => by
    have := (ord_one a b).2 (norm_like e)
    omega) (fun x hx => by
    obtain ⟨y, hy, e | e⟩ := k x hx
    · rw [like_norm e]; exact List.mem_map_of_mem (List.mem_append_left _ hy)
    · rw [like_norm e]; exact List.mem_map_of_mem (List.mem_append_right _ (List.mem_map_of_mem hy)))
  simp only [List.length_map, List.length_append] at h1
  omega
/-- what is kept came of what was met -/
def KW (c : Cl) : Prop := ∀ y ∈ c.kept, ∃ x ∈ c.wait, y = x ∨ y = endC x
theorem KW.more {c c' : Cl} (h : KW c) (hk : c'.kept = c.kept) (hw : ∃ r, c'.wait = c.wait ++ r) : KW c' := by
  intro y hy
  rw [hk] at hy
  obtain ⟨x, hx, e⟩ := h y hy
  obtain ⟨r, hr⟩ := hw
  exact ⟨x, by rw [hr]; exact List.mem_append_left _ hx, e⟩
theorem kept_meet (v : Vw) (c : Cl) (x : Cfg) : (meet v c x).kept = c.kept := by unfold meet; split <;> rfl
theorem KW.meet {v : Vw} {c : Cl} (h : KW c) (x : Cfg) : KW (Cf.meet v c x) := h.more (kept_meet v c x) (meet_wait v c x)
theorem KW.keep {c : Cl} (h : KW c) {x y : Cfg} (hx : x ∈ c.wait) (hy : y = x ∨ y = endC x) : KW (Cf.keep c y) := by
  intro z hz
  rcases List.mem_append.1 hz with hz | hz
  · exact h z hz
  · rw [List.mem_singleton.1 hz]; exact ⟨x, hx, hy⟩
theorem KW.by1 {v : Vw} {c : Cl} (h : KW c) {x : Cfg} (hx : x ∈ c.wait) (p : Bool) (e : Ed) : KW (Cf.by1 v x p c e) := by
  unfold Cf.by1
  repeat' split
  · exact h.meet _
  · exact h.meet _
  · exact h.keep hx (.inl rfl)
  · exact h
  · exact h.meet _
  · exact h
theorem KW.fold {v : Vw} {x : Cfg} (p : Bool) : ∀ (l : List Ed) {c : Cl}, KW c → x ∈ c.wait → KW (l.foldl (Cf.by1 v x p) c)
  | [], _, h, _ => h
  | e :: l, c, h, hx => KW.fold p l (h.by1 hx p e) (by
    obtain ⟨r, hr⟩ := by1_wait v x p c e
    rw [hr]; exact List.mem_append_left _ hx)
theorem KW.close1 {v : Vw} {c : Cl} (h : KW c) {x : Cfg} (hx : x ∈ c.wait) : KW (Cf.close1 v c x) := by
  unfold Cf.close1 back1
  repeat' split
  · exact h.keep hx (.inl rfl)
  · exact h.keep hx (.inr rfl)
  · exact h.fold _ _ hx
  · exact (h.fold _ _ hx).meet _
/-- a set of a view's -/
structure SetB (v : Vw) (s : St) : Prop where
  ok : ∀ x ∈ s.configs, Bd v x ∧ has v x = true
  few : s.configs.length ≤ 4000
theorem Bd.like {v : Vw} {x y : Cfg} (h : Bd v x) (k : Like y x) : Bd v y := by
  obtain ⟨k1, k2, k3, _⟩ := k
  exact ⟨by rw [k1]; exact h.alt, by rw [k2]; exact h.state, by rw [k3]; exact h.stk, by rw [k3]; exact h.cnt⟩
theorem has_like {v : Vw} {x y : Cfg} (k : Like y x) : has v y = has v x := by
  obtain ⟨k1, k2, _, _⟩ := k
  unfold has; rw [k1, k2]
/-- what holds along the closing, at a place -/
structure Run (v : Vw) (c : Cl) (i : Nat) : Prop where
  b : ∃ m, ClB v c m (i * 701)
  m : c.over = false → c.wait.length ≤ 2000
  has : AllHas v c
  kw : KW c
theorem Run.next {v : Vw} {c : Cl} {i : Nat} (h : Run v c i) (w : OkW v) (hi : i < c.wait.length) : Run v (close1 v c c.wait[i]) (i + 1) := by
  obtain ⟨m, hb⟩ := h.b
  have hx := List.getElem_mem hi
  exact ⟨⟨m + 701, (hb.close1 w (hb.wait _ hx) (h.has _ hx)).mono (Nat.le_refl _) (by omega)⟩, close1_few h.m _, h.has.close1 _, h.kw.close1 hx⟩
theorem Run.start {v : Vw} : ∀ (l : List Cfg) {c : Cl} (_ : ∀ x ∈ l, Bd v x) (_ : Run v c 0), Run v (l.foldl (meet v) c) 0
  | [], _, _, h => h
  | x :: l, c, hl, h => by
    obtain ⟨m, hb⟩ := h.b
    exact Run.start l (fun y hy => hl y (by simp [hy])) ⟨⟨m + 1, hb.meet (hl x (by simp))⟩, meet_few h.m x, h.has.meet x, h.kw.meet x⟩
theorem Run.start0 {v : Vw} : Run v ⟨[], [], false⟩ 0 := ⟨⟨0, ⟨fun _ h => (by cases h), fun _ h => (by cases h), Nat.le_refl _, Nat.le_refl _⟩⟩, fun _ => by simp, fun _ h => (by cases h), fun _ h => (by cases h)⟩
theorem Run.set {v : Vw} {c : Cl} {i : Nat} {s : List Cfg} {sure : Int} (h : Run v c i) (ho : c.over = false) (hc : Canon (c.kept.filter fun x => decide (x.alt ≤ sure)) s) : (∀ x ∈ s, Bd v x ∧ Cf.has v x = true) ∧ s.length ≤ 4000 := by
  have hk : ∀ x ∈ s, ∃ y ∈ c.wait, Like x y ∨ Like x (endC y) := fun x hx => by
    obtain ⟨y, hy, e⟩ := hc.of x hx
    obtain ⟨z, hz, e2⟩ := h.kw y (List.mem_filter.1 hy).1
    rcases e2 with e2 | e2
    · subst e2; exact ⟨_, hz, .inl e⟩
    · subst e2; exact ⟨_, hz, .inr e⟩
  obtain ⟨m, hb⟩ := h.b
  refine ⟨fun x hx => ?_, ?_⟩
  · obtain ⟨y, hy, e | e⟩ := hk x hx
    · exact ⟨(hb.wait y hy).like e, by rw [has_like e]; exact h.has y hy⟩
    · exact ⟨(hb.wait y hy).end.like e, by rw [has_like e]; exact h.has y hy⟩
  · have h1 := rise_few hc.rise hk
    have h2 := h.m ho
    omega
/-- where a decision begins -/
theorem start_bd {v : Vw} (w : OkW v) (hd : v.d ∈ v.n.states) : (∀ x ∈ startL v, Bd v x) ∧ (startL v).length ≤ 700 := by
  have h1 := w.edges _ hd
  refine ⟨fun x hx => ?_, by unfold startL; rw [List.length_map, List.length_zipIdx]; exact h1⟩
  unfold startL at hx
  obtain ⟨⟨e, i⟩, hp, rfl⟩ := List.mem_map.1 hx
  have h2 := List.mem_zipIdx hp
  have h3 : e ∈ v.d.edges := by rw [h2.2.2]; exact List.getElem_mem _
  refine ⟨?_, state64 w (w.to _ hd e h3), fun _ h => (by cases h), fun _ h => (by cases h)⟩
  show In64 (i : Int)
  constructor <;> omega
theorem flatMap_len {α β : Type} (f : α → List β) (n : Nat) : ∀ (l : List α), (∀ x ∈ l, (f x).length ≤ n) → (l.flatMap f).length ≤ l.length * n
  | [], _ => by simp
  | x :: r, h => by
    have h1 := flatMap_len f n r fun y hy => h y (List.mem_cons_of_mem _ hy)
    have h2 := h x (by simp)
    simp only [List.flatMap_cons, List.length_append, List.length_cons, Nat.add_mul] at *
    omega
theorem move_bd {v : Vw} (w : OkW v) {s : St} (hs : SetB v s) (tok : Int) : (∀ x ∈ moveL v s tok, Bd v x) ∧ (moveL v s tok).length ≤ 2800000 := by
  constructor
  · intro x hx
    unfold moveL at hx
    obtain ⟨y, hy, hx⟩ := List.mem_flatMap.1 hx
    obtain ⟨hb, hh⟩ := hs.ok y hy
    rw [if_neg (by rw [hh]; decide)] at hx
    split at hx
    · rw [List.mem_singleton.1 hx]; exact hb
    · obtain ⟨e, he, hx⟩ := List.mem_filterMap.1 hx
      split at hx
      · injection hx with hx
        subst hx
        exact hb.at w (w.to _ (stOf_mem (has_state hh).2.2) e he) true
      · cases hx
  · have h1 := flatMap_len (fun x => if has v x = false then [] else if x.ended = true then [x] else (stOf v x).edges.filterMap fun e => if e.kind = 1 ∧ e.what = tok then some (atC x e.to x.stack true) else none) 700 s.configs (fun x hx => by
      obtain ⟨hb, hh⟩ := hs.ok x hx
      rw [if_neg (by rw [hh]; decide)]
      split
      · simp
      · exact Nat.le_trans (List.length_filterMap_le _ _) (w.edges _ (stOf_mem (has_state hh).2.2)))
    have h2 := hs.few
    unfold moveL
    omega
/-- the alternatives of a list are told by the list's members -/
theorem Alts.of_mem {l m : List Cfg} {A : List Int} (h : Alts l A) (k : ∀ a, (∃ x ∈ l, x.alt = a) ↔ ∃ x ∈ m, x.alt = a) : Alts m A := ⟨h.rise, fun a => (h.mem a).trans (k a)⟩
end Cf
end Go.Proofs.YtnpcjbdolmmaeaaDoor
