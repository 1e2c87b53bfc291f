/-
  SubsetsOf: twins of places: what stands in memory. Plain lemmas.
-/
import Derived.Test.YtoclbcfgfaialaaGreatDoorSubOf3
import Derived.Test.YtoclbcfgfaialaaGreatDoorTwinZ
import Derived.Test.YtoclbcfgfaialaaGreatDoorPageZ
namespace Go.Proofs.YtoclbcfgfaialaaGreatDoor
open Go.RowKit
set_option maxRecDepth 100000
abbrev mkR : Rg := (-77, 0)
/-- the four cells of a place's twin, and what they lead to -/
def TwV (w : World) (S : Nat → Prop) (vs : List Value) (i : Nat) (p : Pl) : Prop :=
  ∃ g f, vs[i*4]? = some (.slice (some ⟨g, 0, none⟩) p.set.length (p.set.length + 2)) ∧ vs[i*4+1]? = some (.int .i64 p.kind) ∧ vs[i*4+2]? = some (.bool p.last) ∧ vs[i*4+3]? = some (.slice (some ⟨f, 0, none⟩) p.follow.length (p.follow.length + 2)) ∧
    RO w S 2 (some ⟨g, 0, none⟩) (p.set.length + 2) (flat encR (p.set ++ [mkR, mkR])) ∧ RO w S 1 (some ⟨f, 0, none⟩) (p.follow.length + 2) ((p.follow ++ [-77, -77]).map (Value.int .i64))
def TwPls (w : World) (S : Nat → Prop) (vs : List Value) (ps : List Pl) : Prop := vs.length = ps.length * 4 ∧ ∀ i (h : i < ps.length), TwV w S vs i ps[i]
theorem TwPls.only {w w' : World} {S S' : Nat → Prop} {vs : List Value} {ps : List Pl} (h : TwPls w S vs ps) (ho : Only S w w') (hS : ∀ b, b < w.heap.size → S' b → S b) : TwPls w' S' vs ps :=
  ⟨h.1, fun i hi => by
    obtain ⟨g, f, e0, e1, e2, e3, r0, r1⟩ := h.2 i hi
    exact ⟨g, f, e0, e1, e2, e3, r0.only ho hS, r1.only ho hS⟩⟩
theorem TwPls.nil (w : World) (S : Nat → Prop) : TwPls w S [] [] := ⟨rfl, fun i h => absurd h (by simp)⟩
theorem TwPls.push {w : World} {S : Nat → Prop} {vs : List Value} {ps : List Pl} (h : TwPls w S vs ps) {p : Pl} {g f : Nat} (r0 : RO w S 2 (some ⟨g, 0, none⟩) (p.set.length + 2) (flat encR (p.set ++ [mkR, mkR]))) (r1 : RO w S 1 (some ⟨f, 0, none⟩) (p.follow.length + 2) ((p.follow ++ [-77, -77]).map (Value.int .i64))) :
    TwPls w S (vs ++ [.slice (some ⟨g, 0, none⟩) p.set.length (p.set.length + 2), .int .i64 p.kind, .bool p.last, .slice (some ⟨f, 0, none⟩) p.follow.length (p.follow.length + 2)]) (ps ++ [p]) := by
  refine ⟨by simp [h.1]; omega, fun i hi => ?_⟩
  by_cases e : i < ps.length
  · obtain ⟨g', f', e0, e1, e2, e3, q0, q1⟩ := h.2 i e
    have hl := h.1
    rw [List.getElem_append_left e]
    refine ⟨g', f', ?_, ?_, ?_, ?_, q0, q1⟩ <;> (rw [List.getElem?_append_left (by omega)]; assumption)
  · have e2 : i = ps.length := by simp at hi; omega
    subst e2
    have hl := h.1
    rw [List.getElem_append_right (by omega)]
    simp only [Nat.sub_self, List.getElem_cons_zero]
    refine ⟨g, f, ?_, ?_, ?_, ?_, r0, r1⟩
    · rw [List.getElem?_append_right (by omega), show ps.length * 4 - vs.length = 0 by omega]; rfl
    · rw [List.getElem?_append_right (by omega), show ps.length * 4 + 1 - vs.length = 1 by omega]; rfl
    · rw [List.getElem?_append_right (by omega), show ps.length * 4 + 2 - vs.length = 2 by omega]; rfl
    · rw [List.getElem?_append_right (by omega), show ps.length * 4 + 3 - vs.length = 3 by omega]; rfl
theorem ro_prefR {w : World} {S : Nat → Prop} {A : Option Addr} {l m : List Rg} {n : Nat} (hn : n = (l ++ m).length) (h : RO w S 2 A n (flat encR (l ++ m))) : Reads w w.heap.size 2 A l.length (flat encR l) := by
  subst hn
  exact reads_prefix h.reads
theorem ro_prefZ {w : World} {S : Nat → Prop} {A : Option Addr} {l m : List Int} {n : Nat} (hn : n = (l ++ m).length) (h : RO w S 1 A n ((l ++ m).map (Value.int .i64))) : Reads w w.heap.size 1 A l.length (l.map (Value.int .i64)) := by
  subst hn
  exact reads_prefixZ h.reads
theorem TwPls.plsR {w : World} {S : Nat → Prop} {vs : List Value} {ps : List Pl} {A : Option Addr} (h : TwPls w S vs ps) (hr : Reads w w.heap.size 4 A ps.length vs) : PlsR w w.heap.size A ps :=
  ⟨vs, hr, fun i hi => by
    obtain ⟨g, f, e0, e1, e2, e3, r0, r1⟩ := h.2 i hi
    exact ⟨_, _, _, _, e0, e1, e2, e3, ro_prefR (by simp) r0, ro_prefZ (by simp) r1⟩⟩
end Go.Proofs.YtoclbcfgfaialaaGreatDoor

/-
  SubsetsOf: both answers side by side. Plain lemmas.
-/
namespace Go.Proofs.YtoclbcfgfaialaaGreatDoor
open Go.RowKit
set_option maxRecDepth 100000
/-- what is answered: which error, which table -/
def Res (a : Au) (er : Int) (rs : List Rg) (m : Mk) (rows : List (List Int)) : Prop :=
  (mayB a = false ∧ er = 1 ∧ rs = [] ∧ m = ⟨[], []⟩ ∧ rows = []) ∨ (mayB a = true ∧ tableM a (rsOf a) = none ∧ er = 3 ∧ rs = [] ∧ m = ⟨[], []⟩ ∧ rows = []) ∨ (mayB a = true ∧ tableM a (rsOf a) = some (m, rows) ∧ er = 0 ∧ rs = rsOf a)
theorem TabR.empty (w : World) (B : Nat) : TabR w B none none none none [] [] [] :=
  ⟨⟨rfl, fun h => absurd h (by simp)⟩, ⟨rfl, fun h => absurd h (by simp)⟩, ⟨[], ⟨rfl, fun h => absurd h (by simp)⟩, fun i h => absurd h (by simp)⟩, ⟨rfl, fun h => absurd h (by simp)⟩⟩
theorem TableAt.empty (w : World) (base : Nat) : TableAt w base none none none none [] [] ⟨[], []⟩ [] :=
  ⟨⟨rfl, .inl ⟨rfl, rfl⟩⟩, ⟨rfl, .inl ⟨rfl, rfl⟩⟩, ⟨rfl, .inl ⟨rfl, rfl⟩⟩, RowsAt.nil _ _ _ _, ⟨rfl, .inl ⟨rfl, rfl⟩⟩, fun j h => (by cases h), fun j h => (by cases h), fun y h => (by cases h)⟩
theorem start_few (a : Au) (h : (a.places.map (·.set)).flatten.length ≤ 100000) : tooMany start0.opens.length (rsOf a).length = false := by
  have := rsOf_len a h
  have h1 : start0.opens.length = 1 := rfl
  unfold tooMany
  rw [h1, Bool.or_eq_false_iff]
  exact ⟨decide_eq_false (by omega), decide_eq_false (by omega)⟩
theorem ref_cases {a : Au} {w w1 : World} {e : Ending} (hsl : (a.places.map (·.set)).flatten.length ≤ 100000) (h : RefPost a w e w1) :
    e = .returned (.tuple #[emptyT, .int .i64 7]) ∨ ∃ er rs m rows RB rc CB cc NB nc EB ec, e = .returned (.tuple #[.agg #[.slice RB rs.length rc, .slice CB rs.length cc, .slice NB rows.length nc, .slice EB m.ends.length ec], .int .i64 er]) ∧ (er = 0 ∨ er = 1 ∨ er = 3) ∧ TabR w1 w1.heap.size RB CB NB EB rs rows m.ends ∧ Res a er rs m rows := by
  rcases h.2 with ⟨hm, rfl⟩ | ⟨hm, hl, rfl⟩ | ⟨_, _, rfl⟩ | ⟨hm, m, rows, RA, rc, CA, cc, NA, nc, EA, ec, hd, rfl, hT⟩
  · exact .inr ⟨1, [], ⟨[], []⟩, [], none, 0, none, 0, none, 0, none, 0, rfl, .inr (.inl rfl), TabR.empty _ _, .inl ⟨hm, rfl, rfl, rfl, rfl⟩⟩
  · exact .inr ⟨3, [], ⟨[], []⟩, [], none, 0, none, 0, none, 0, none, 0, rfl, .inr (.inr rfl), TabR.empty _ _, .inr (.inl ⟨hm, refL_limit a _ _ _ _ _ (start_few a hsl) hl, rfl, rfl, rfl, rfl⟩)⟩
  · exact .inl rfl
  · exact .inr ⟨0, rsOf a, m, rows, RA, rc, CA, cc, NA, nc, EA, ec, rfl, .inl rfl, hT, .inr (.inr ⟨hm, refL_done a _ _ _ _ _ _ _ (start_few a hsl) hd, rfl, rfl⟩)⟩
theorem of_cases {a : Au} {v v1 : World} {e : Ending} {er : Int} {rs : List Rg} {m : Mk} {rows : List (List Int)} (hr : Res a er rs m rows) (h : OfPost a v e v1) :
    ∃ RA CA NA EA gs, e = .returned (.tuple #[tableV RA CA NA EA rs m rows, .int .i64 er]) ∧ TableAt v1 v.heap.size RA CA NA EA gs rs m rows := by
  rcases hr with ⟨hm, rfl, rfl, rfl, rfl⟩ | ⟨hm, ht, rfl, rfl, rfl, rfl⟩ | ⟨hm, ht, rfl, rfl⟩
  · rcases h.2 with ⟨_, rfl⟩ | ⟨h1, _⟩ | ⟨h1, _⟩
    · exact ⟨none, none, none, none, [], rfl, TableAt.empty _ _⟩
    · rw [hm] at h1; cases h1
    · rw [hm] at h1; cases h1
  · rcases h.2 with ⟨h1, _⟩ | ⟨_, _, rfl⟩ | ⟨_, m', rows', RA, CA, NA, EA, gs, h2, _⟩
    · rw [hm] at h1; cases h1
    · exact ⟨none, none, none, none, [], rfl, TableAt.empty _ _⟩
    · rw [ht] at h2; cases h2
  · rcases h.2 with ⟨h1, _⟩ | ⟨_, h2, _⟩ | ⟨_, m', rows', RA, CA, NA, EA, gs, h2, rfl, hT⟩
    · rw [hm] at h1; cases h1
    · rw [ht] at h2; cases h2
    · rw [ht] at h2
      injection h2 with h2
      injection h2 with h3 h4
      subst h3 h4
      exact ⟨RA, CA, NA, EA, gs, rfl, hT⟩
theorem Res.bounds {a : Au} {er : Int} {rs : List Rg} {m : Mk} {rows : List (List Int)} (hr : Res a er rs m rows) (hsl : (a.places.map (·.set)).flatten.length ≤ 100000) (hwf : WfL (a.places.map (·.set)).flatten) :
    rs.length ≤ 10000000 ∧ rows.length ≤ 1000000 ∧ m.ends.length ≤ 1000000 ∧ ∀ r ∈ rows, r.length = rs.length := by
  rcases hr with ⟨hm, rfl, rfl, rfl, rfl⟩ | ⟨hm, ht, rfl, rfl, rfl, rfl⟩ | ⟨hm, ht, rfl, rfl⟩
  · exact ⟨by simp, by simp, by simp, by simp⟩
  · exact ⟨by simp, by simp, by simp, by simp⟩
  · have g := goodT_of hm hsl hwf ht
    exact ⟨g.few, g.few2, by rw [g.el]; exact g.few2, g.row⟩
end Go.Proofs.YtoclbcfgfaialaaGreatDoor

/-
  SubsetsOf: amid the first loop. Plain lemmas.
-/
namespace Go.Proofs.YtoclbcfgfaialaaGreatDoor
open Go.RowKit
set_option maxRecDepth 100000
def LpV (wb wr : World) (tb gf : Nat) (a : Au) (k : Nat) (v : Value) (vs : List Value) : Prop :=
  wr.heap[tb]? = some (.cells #[v, .slice (some ⟨gf, 0, none⟩) a.first.length (a.first.length + 2), .int .i64 a.kinds] 25 (0, 0)) ∧ wr.ownsRow wb.heap.size 41 4 v k vs ∧ TwPls wr (fun j => j = tb ∨ v.ownBlock = some j) vs (a.places.take k) ∧ Only (fun j => j = tb) wb wr
/-- amid the first loop: k places are twinned -/
def LpT (wb wr : World) (tb gf : Nat) (a : Au) (k : Nat) : Prop := ∃ v vs, LpV wb wr tb gf a k v vs
theorem LpT.start {wb : World} {tb gf : Nat} {a : Au} (h : wb.heap[tb]? = some (.cells #[.slice none 0 0, .slice (some ⟨gf, 0, none⟩) a.first.length (a.first.length + 2), .int .i64 a.kinds] 25 (0, 0))) : LpT wb wb tb gf a 0 :=
  ⟨_, [], h, World.ownsRow_nil _ _ _ _, TwPls.nil _ _, Only.refl _ _⟩
theorem LpV.next {wb wr wr' : World} {tb gf k : Nat} {a : Au} {v : Value} {vs : List Value} (h : LpV wb wr tb gf a k v vs) (hb : Below wr.heap.size wr wr') : LpV wb wr' tb gf a k v vs :=
  ⟨(hb.block _ (heap_lt h.1)).trans h.1, ownsRow_only h.2.1 (Only.of_below (S := fun _ => False) hb) (fun _ _ e => e), h.2.2.1.only (Only.of_below hb) (fun _ _ e => e), h.2.2.2.trans (Only.of_below (S := fun j => j = tb) hb) (fun _ _ e => e)⟩
theorem RO.of_blk {w : World} {S : Nat → Prop} {size g n : Nat} {xs : List Value} (h : Reads w w.heap.size size (some ⟨g, 0, none⟩) n xs) (hS : ¬ S g) : RO w S size (some ⟨g, 0, none⟩) n xs :=
  ⟨h.1, fun hn => by
    obtain ⟨b, o, e, hb, hc⟩ := h.2 hn
    injection e with e
    injection e with e1 e2 _
    subst e1 e2
    exact ⟨_, _, rfl, hb, hS, hc⟩⟩
theorem LpV.fresh {wb wr : World} {tb gf k g : Nat} {a : Au} {v : Value} {vs : List Value} (h : LpV wb wr tb gf a k v vs) (hg : wr.heap.size ≤ g) : ¬ (g = tb ∨ v.ownBlock = some g) := by
  rintro (e | e)
  · have := heap_lt h.1; omega
  · have := (h.2.1.lt g e).2; omega
theorem LpV.push {wb w w1 : World} {tb gf k g f g1 c1 : Nat} {a : Au} {v : Value} {vs : List Value} {p : Pl} (h : LpV wb w tb gf a k v vs) (hp : a.places[k]? = some p)
    (r0 : RO w (fun j => j = tb ∨ v.ownBlock = some j) 2 (some ⟨g, 0, none⟩) (p.set.length + 2) (flat encR (p.set ++ [mkR, mkR]))) (r1 : RO w (fun j => j = tb ∨ v.ownBlock = some j) 1 (some ⟨f, 0, none⟩) (p.follow.length + 2) ((p.follow ++ [-77, -77]).map (Value.int .i64)))
    (hown : w1.ownsRow wb.heap.size 41 4 (.slice (some ⟨g1, 0, none⟩) (k + 1) c1) (k + 1) (vs ++ [.slice (some ⟨g, 0, none⟩) p.set.length (p.set.length + 2), .int .i64 p.kind, .bool p.last, .slice (some ⟨f, 0, none⟩) p.follow.length (p.follow.length + 2)]))
    (hg : v.ownBlock = some g1 ∨ w.heap.size < g1) (ho : Only (fun j => v.ownBlock = some j) w w1) : LpT wb (w1.setCell ⟨tb, 0, none⟩ (.slice (some ⟨g1, 0, none⟩) (k + 1) c1)) tb gf a (k + 1) := by
  obtain ⟨hb, hw, ht, hO⟩ := h
  have hb1 := (ho.block tb (heap_lt hb) (row_not hw hb (by decide))).trans hb
  have ht2 : a.places.take (k + 1) = a.places.take k ++ [p] := by
    obtain ⟨h1, h2⟩ := List.getElem?_eq_some_iff.1 hp
    rw [List.take_succ_eq_append_getElem h1, h2]
  have hS : Only (fun j => j = tb ∨ v.ownBlock = some j) w (w1.setCell ⟨tb, 0, none⟩ (.slice (some ⟨g1, 0, none⟩) (k + 1) c1)) :=
    ((Only.refl _ w).trans ho fun _ _ e => .inr e).trans (Only.of_set w1 tb 0 _) fun _ _ e => .inl e
  refine ⟨_, _, heap_setCell_same w1 tb 0 _ _ _ hb1, own_setTb hown hb1 (by decide), ?_, ?_⟩
  · rw [ht2]
    refine (ht.push r0 r1).only hS fun b hbl e => ?_
    rcases e with e | e
    · exact .inl e
    · have e : some g1 = some b := e
      injection e with e
      subst e
      rcases hg with hg | hg
      · exact .inr hg
      · omega
  · refine (hO.trans ho fun b hbl e => ?_).trans (Only.of_set w1 tb 0 _) fun _ _ e => e
    have := (hw.lt b e).1
    omega
theorem LpV.cell {wb wr : World} {tb gf k : Nat} {a : Au} {v : Value} {vs : List Value} (h : LpV wb wr tb gf a k v vs) : wr.cell? ⟨tb, 0, none⟩ = some v ∧ wr.frozen? ⟨tb, 0, none⟩ = false :=
  ⟨by rw [Lib.cell_of_heap h.1]; rfl, Lib.frozen_of_heap h.1 0⟩
theorem pbS {w : World} {b : Nat} {T : TypeId} {x0 x1 x2 x3 : Value} (h : w.heap[b]? = some (.cells #[x0, x1, x2, x3] T (0, 0))) :
    w.cell? ⟨b, 0, none⟩ = some x0 ∧ w.cell? ⟨b, 1, none⟩ = some x1 ∧ w.cell? ⟨b, 2, none⟩ = some x2 ∧ w.cell? ⟨b, 3, none⟩ = some x3 := by
  refine ⟨?_, ?_, ?_, ?_⟩ <;> (rw [Lib.cell_of_heap h]; rfl)
theorem infoPl9 : (Tryz.prog.info? 41).map (fun i => (i.zero, i.size, i.bytes)) = some (some (.agg #[.slice none 0 0, .int .i64 0, .bool false, .slice none 0 0]), 4, 64) := by kernel_rfl
end Go.Proofs.YtoclbcfgfaialaaGreatDoor

/-
  SubsetsOf: the book's pages. Plain lemmas.
-/
namespace Go.Proofs.YtoclbcfgfaialaaGreatDoor
open Go.RowKit
set_option maxRecDepth 100000
theorem TableAt.next {w w' : World} {base : Nat} {RA CA NA EA : Option Addr} {gs : List Nat} {rs : List Rg} {m : Mk} {rows : List (List Int)} (h : TableAt w base RA CA NA EA gs rs m rows) (hb : Below w.heap.size w w') : TableAt w' base RA CA NA EA gs rs m rows :=
  ⟨h.rng.below hb (Nat.le_refl _), h.cls.below hb (Nat.le_refl _), h.nxt.below hb (Nat.le_refl _), h.row.only (Only.of_below (S := fun _ => False) hb) (fun _ _ e => e) (fun _ _ e => e), h.ends.below hb (Nat.le_refl _), h.dce, h.dcg, h.deg⟩
theorem ownC_at {w : World} {base gf n c : Nat} {xs : List Value} (h : OwnC w base 3 1 (.slice (some ⟨gf, 0, none⟩) n c) n xs) : base ≤ gf ∧ ∃ cur, w.heap[gf]? = some (.cells cur 3 (0, 0)) ∧ c ≤ cur.size := by
  rcases h.2 with ⟨h1, _⟩ | ⟨g, cap, cur, hv, hg, hh, h3, h4, h5, h6⟩
  · cases h1
  · injection hv with hv _ hc
    injection hv with hv
    injection hv with hv _ _
    subst hv hc
    exact ⟨hg, cur, hh, by simpa using h5⟩
/-- two pages have no block in common -/
def PgD (p q : Pg) : Prop := ∀ b, p.blk = some b → q.blk ≠ some b
theorem PgD.symm {p q : Pg} (h : PgD p q) : PgD q p := fun b e e2 => h b e2 e
theorem apart2_of {ps : List Pg} (h : ps.Pairwise PgD) : Apart2 ps := by
  intro i j hi hj hne
  have hd : PgD ps[i] ps[j] := by
    rcases Nat.lt_or_gt_of_ne hne with e | e
    · exact List.pairwise_iff_getElem.1 h i j hi hj e
    · exact (List.pairwise_iff_getElem.1 h j i hj hi e).symm
  cases hb : ps[i].blk with
  | none => exact .inl rfl
  | some b => exact .inr fun e => hd b hb e.symm
def rowPg (L nr : Nat) (gs : List Nat) (rows : List (List Int)) (i : Nat) : Pg := zPg (some (gs.getD i 0)) nr nr (L + i + 1) ((rows.getD i []).map (Value.int .i64)).toArray
theorem rowPg_vals (L nr : Nat) (gs : List Nat) (rows : List (List Int)) (j : Nat) : ((List.range j).map (rowPg L nr gs rows)).map (fun p => Value.iface p.T p.v) = rowPages L nr gs j := by
  unfold rowPages
  rw [List.map_map]
  rfl
/-- all that Apart asks of the pages -/
structure PgsOk (B : Nat) (w0 : World) (ps : List Pg) : Prop where
  few : ps.length ≤ 120
  ok : ∀ p ∈ ps, PgOk p
  apart : Apart2 ps
  st : ∀ p ∈ ps, p.st 0 w0
  lt : ∀ p ∈ ps, ∀ g, p.blk = some g → g < w0.heap.size
  ge : ∀ p ∈ ps, ∀ g, p.blk = some g → B ≤ g
theorem table_pages {w0 : World} {B base gf n c : Nat} {RA CA NA EA : Option Addr} {gs : List Nat} {rs : List Rg} {m : Mk} {rows : List (List Int)} {cur0 : Array Value} (hT : TableAt w0 base RA CA NA EA gs rs m rows) (hF : w0.heap[gf]? = some (.cells cur0 3 (0, 0)))
    (hgf : gf < base) (hB : B ≤ gf) (hn : n ≤ c) (hc : c ≤ cur0.size) (hcm : c ≤ 9223372036854775807) (hr : rs.length ≤ 9223372036854775807) (he : m.ends.length ≤ 9223372036854775807) :
    ∃ ps : List Pg, PgsOk B w0 ps ∧ ps.map (fun p => Value.iface p.T p.v) = [zPage (some ⟨gf, 0, none⟩) n c 1] ++ [rgPage RA rs.length rs.length 2] ++ [zPage CA rs.length rs.length 3] ++ [zPage EA m.ends.length m.ends.length 4] ++ rowPages 4 rs.length gs (min rows.length 60) := by
  obtain ⟨g1, cur1, rfl, in1, st1, b1⟩ := page_of_own 2 hT.rng hr
  obtain ⟨g2, cur2, rfl, in2, st2, b2⟩ := pageZ_of_own 3 hT.cls hr
  obtain ⟨g3, cur3, rfl, in3, st3, b3⟩ := pageZ_of_own 4 hT.ends he
  have hrow : ∀ i, i < min rows.length 60 → base ≤ gs.getD i 0 ∧ gs.getD i 0 < w0.heap.size ∧ gs.getD i 0 ∈ gs ∧ w0.heap[gs.getD i 0]? = some (.cells ((rows.getD i []).map (Value.int .i64)).toArray 3 (0, 0)) ∧ (rows.getD i []).length = rs.length := by
    intro i hi
    have hi2 : i < rows.length := by omega
    obtain ⟨g, e, hb, hl, _, hrl, hh⟩ := hT.row.each i hi2
    have e1 : gs.getD i 0 = g := by rw [List.getD_eq_getElem?_getD, e]; rfl
    have e2 : rows.getD i [] = rows[i] := by rw [List.getD_eq_getElem?_getD, List.getElem?_eq_getElem hi2]; rfl
    rw [e1, e2]
    exact ⟨hb, hl, List.mem_of_getElem? e, hh, hrl⟩
  have dce : ∀ b, g2 = some b → g3 ≠ some b := fun b e e2 => by
    subst e e2
    exact hT.dce b rfl rfl
  have dcg : ∀ b, g2 = some b → ∀ y ∈ gs, b ≠ y := fun b e => by
    subst e
    exact hT.dcg b rfl
  have deg : ∀ y ∈ gs, g3 ≠ some y := fun y hy e => by
    subst e
    exact hT.deg y hy rfl
  have tne : ∀ (b : Nat) (cs ds : Array Value), w0.heap[b]? = some (.cells cs 66 (0, 0)) → w0.heap[b]? = some (.cells ds 3 (0, 0)) → False := fun b cs ds e1 e2 => by
    rw [e1] at e2
    injection e2 with e2
    injection e2 with _ e2 _
    exact absurd e2 (by decide)
  have hmem : ∀ q ∈ (List.range (min rows.length 60)).map (rowPg 4 rs.length gs rows), ∃ i, i < min rows.length 60 ∧ q = rowPg 4 rs.length gs rows i := fun q hq => by
    obtain ⟨i, hi, e⟩ := List.mem_map.1 hq
    exact ⟨i, List.mem_range.1 hi, e.symm⟩
  have gsr : ∀ i j, i < min rows.length 60 → j < min rows.length 60 → i < j → gs.getD i 0 < gs.getD j 0 := fun i j hi hj hij => by
    have hl := hT.row.len
    have h1 : i < gs.length := by omega
    have h2 : j < gs.length := by omega
    have h3 := List.pairwise_iff_getElem.1 hT.row.rise i j h1 h2 hij
    rw [List.getD_eq_getElem?_getD, List.getD_eq_getElem?_getD, List.getElem?_eq_getElem h1, List.getElem?_eq_getElem h2]
    exact h3
  refine ⟨zPg (some gf) n c 1 cur0 :: rgPg g1 rs.length rs.length 2 cur1 :: zPg g2 rs.length rs.length 3 cur2 :: zPg g3 m.ends.length m.ends.length 4 cur3 :: (List.range (min rows.length 60)).map (rowPg 4 rs.length gs rows), ⟨?_, ?_, apart2_of ?_, ?_, ?_, ?_⟩, ?_⟩
  · simp; omega
  · intro p hp
    rcases List.mem_cons.1 hp with rfl | hp
    · exact zPg_ok ⟨fun e => (by cases e), fun b e => (by exact ⟨hn, hc, hcm⟩)⟩
    rcases List.mem_cons.1 hp with rfl | hp
    · exact rgPg_ok in1
    rcases List.mem_cons.1 hp with rfl | hp
    · exact zPg_ok in2
    rcases List.mem_cons.1 hp with rfl | hp
    · exact zPg_ok in3
    obtain ⟨i, hi, rfl⟩ := hmem p hp
    exact zPg_ok ⟨fun e => (by cases e), fun b e => ⟨Nat.le_refl _, by rw [List.size_toArray, List.length_map, (hrow i hi).2.2.2.2]; exact Nat.le_refl _, hr⟩⟩
  · refine List.pairwise_cons.2 ⟨fun q hq => ?_, List.pairwise_cons.2 ⟨fun q hq => ?_, List.pairwise_cons.2 ⟨fun q hq => ?_, List.pairwise_cons.2 ⟨fun q hq => ?_, List.pairwise_map.2 (List.pairwise_iff_getElem.2 fun i j hi hj hij => ?_)⟩⟩⟩⟩
    · intro b e e2
      have e : some gf = some b := e
      injection e with e
      subst e
      rcases List.mem_cons.1 hq with rfl | hq
      · have := b1 gf e2; omega
      rcases List.mem_cons.1 hq with rfl | hq
      · have := b2 gf e2; omega
      rcases List.mem_cons.1 hq with rfl | hq
      · have := b3 gf e2; omega
      obtain ⟨i, hi, rfl⟩ := hmem q hq
      have e2 : some (gs.getD i 0) = some gf := e2
      injection e2 with e2
      have := (hrow i hi).1
      omega
    · intro b e e2
      have h1 := st1 b e
      rcases List.mem_cons.1 hq with rfl | hq
      · exact tne b _ _ h1 (st2 b e2)
      rcases List.mem_cons.1 hq with rfl | hq
      · exact tne b _ _ h1 (st3 b e2)
      obtain ⟨i, hi, rfl⟩ := hmem q hq
      have e2 : some (gs.getD i 0) = some b := e2
      injection e2 with e2
      subst e2
      exact tne _ _ _ h1 (hrow i hi).2.2.2.1
    · intro b e e2
      rcases List.mem_cons.1 hq with rfl | hq
      · exact dce b e e2
      obtain ⟨i, hi, rfl⟩ := hmem q hq
      have e2 : some (gs.getD i 0) = some b := e2
      injection e2 with e2
      exact dcg b e _ (hrow i hi).2.2.1 e2.symm
    · intro b e e2
      obtain ⟨i, hi, rfl⟩ := hmem q hq
      have e2 : some (gs.getD i 0) = some b := e2
      rw [← e2] at e
      exact deg _ (hrow i hi).2.2.1 e
    · intro b e e2
      simp only [List.getElem_range] at e e2
      simp only [List.length_range] at hi hj
      have e : some (gs.getD i 0) = some b := e
      have e2 : some (gs.getD j 0) = some b := e2
      rw [← e] at e2
      injection e2 with e2
      have := gsr i j hi hj hij
      omega
  · intro p hp
    rcases List.mem_cons.1 hp with rfl | hp
    · intro b e
      injection e with e
      subst e
      exact hF
    rcases List.mem_cons.1 hp with rfl | hp
    · exact st1
    rcases List.mem_cons.1 hp with rfl | hp
    · exact st2
    rcases List.mem_cons.1 hp with rfl | hp
    · exact st3
    obtain ⟨i, hi, rfl⟩ := hmem p hp
    intro b e
    injection e with e
    subst e
    exact (hrow i hi).2.2.2.1
  · intro p hp g e
    rcases List.mem_cons.1 hp with rfl | hp
    · have e : some gf = some g := e
      injection e with e
      subst e
      exact heap_ltB hF
    rcases List.mem_cons.1 hp with rfl | hp
    · exact (b1 g e).2
    rcases List.mem_cons.1 hp with rfl | hp
    · exact (b2 g e).2
    rcases List.mem_cons.1 hp with rfl | hp
    · exact (b3 g e).2
    obtain ⟨i, hi, rfl⟩ := hmem p hp
    have e : some (gs.getD i 0) = some g := e
    injection e with e
    have := (hrow i hi).2.1
    omega
  · intro p hp g e
    rcases List.mem_cons.1 hp with rfl | hp
    · have e : some gf = some g := e
      injection e with e
      omega
    rcases List.mem_cons.1 hp with rfl | hp
    · have := (b1 g e).1; omega
    rcases List.mem_cons.1 hp with rfl | hp
    · have := (b2 g e).1; omega
    rcases List.mem_cons.1 hp with rfl | hp
    · have := (b3 g e).1; omega
    obtain ⟨i, hi, rfl⟩ := hmem p hp
    have e : some (gs.getD i 0) = some g := e
    injection e with e
    have := (hrow i hi).1
    omega
  · simp only [List.map_cons]
    rw [rowPg_vals]
    rfl
end Go.Proofs.YtoclbcfgfaialaaGreatDoor
