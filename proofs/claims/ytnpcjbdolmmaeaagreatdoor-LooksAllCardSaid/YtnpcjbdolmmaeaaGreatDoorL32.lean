/-
  Looks: LkMem, LkMem2 (texts joined).
-/
import Derived.Maps.OwnSet
import Derived.Laws.OwnMore
import Derived.Test.YtnpcjbdolmmaeaaGreatDoorL26
import Derived.Test.YtnpcjbdolmmaeaaGreatDoorL31
namespace Go.Proofs.YtnpcjbdolmmaeaaGreatDoor
namespace Cf
theorem sameS_iff (a b : St) : sameS a b = true ↔ signS a = signS b := (sign_same a b).symm
theorem findS_snoc (l : List St) (x y : St) : findS (l ++ [x]) y = match findS l y with
    | some k => some k
    | none => if sameS x y = true then some l.length else none := by
  unfold findS
  rw [List.findIdx?_append]
  cases l.findIdx? fun s => sameS s y with
  | some k => rfl
  | none =>
    show Option.or none _ = _
    rw [Option.none_or, List.findIdx?_cons]
    by_cases h : sameS x y = true
    · rw [if_pos h, if_pos h]; simp
    · rw [if_neg h, if_neg h]; rfl
theorem findS_same {l : List St} {x y : St} (h : signS x = signS y) : findS l x = findS l y := by
  unfold findS
  have : (fun s => sameS s x) = fun s => sameS s y := by
    funext s
    rw [Bool.eq_iff_iff, sameS_iff, sameS_iff, h]
  rw [this]
end Cf
open Go.RowKit Go.Maps Go.WideMaps
set_option maxRecDepth 100000
def keyS (s : Cf.St) : Lit := .string (Cf.signS s)
theorem keyS_of (s : Cf.St) (h : (Cf.signS s).length ≤ maxLen) : keyOf Tryz.prog 9 (.string ⟨(Cf.signS s).toArray⟩) = some (keyS s) := by
  have := keyOf_string_mk (P := Tryz.prog) (k := 9) (s := ⟨(Cf.signS s).toArray⟩) Tryz.underlying9 (by simpa [ByteArray.size] using h)
  exact this
theorem keyS_inj {x y : Cf.St} (h : keyS x = keyS y) : Cf.signS x = Cf.signS y := by injection h
structure PlIs (D : DataW Value) (l : List Cf.St) : Prop where
  tidy : Tidy D
  has : ∀ x, Maps.has D (keyS x) = (Cf.findS l x).isSome
  elem : ∀ x k, Cf.findS l x = some k → ∀ zd, D.atKey (keyS x) zd = .held (.int .i64 (k : Int))
theorem PlIs.start : PlIs (.map []) [] := ⟨tidy_empty, fun _ => rfl, fun _ _ h => (by cases h)⟩
theorem PlIs.put {D : DataW Value} {l : List Cf.St} (h : PlIs D l) {x : Cf.St} (hx : Cf.findS l x = none) : PlIs (D.put (keyS x) (.held (.int .i64 (l.length : Int)))) (l ++ [x]) := by
  refine ⟨h.tidy.put (by trivial) _, fun y => ?_, fun y k hk zd => ?_⟩
  · by_cases e : keyS y = keyS x
    · rw [e, has_put_same h.tidy.isMap (by trivial), Cf.findS_snoc, Cf.findS_same (keyS_inj e), hx]
      simp only
      rw [if_pos ((Cf.sameS_iff x y).2 (keyS_inj e).symm)]; rfl
    · rw [has_put_other e, h.has y, Cf.findS_snoc]
      cases hf : Cf.findS l y with
      | some k => rfl
      | none =>
        simp only
        rw [if_neg]
        intro hs
        exact e (by unfold keyS; rw [(Cf.sameS_iff x y).1 hs])
  · by_cases e : keyS y = keyS x
    · rw [e, atKey_put_same h.tidy.isMap (by trivial)]
      rw [Cf.findS_snoc, Cf.findS_same (keyS_inj e), hx] at hk
      simp only at hk
      rw [if_pos ((Cf.sameS_iff x y).2 (keyS_inj e).symm)] at hk
      injection hk with hk
      rw [hk]
    · rw [atKey_put_other e]
      refine h.elem y k ?_ zd
      rw [Cf.findS_snoc] at hk
      cases hf : Cf.findS l y with
      | some k' => rw [hf] at hk; exact hk
      | none =>
        rw [hf] at hk
        simp only at hk
        rw [if_neg] at hk
        · cases hk
        · intro hs
          exact e (by unfold keyS; rw [(Cf.sameS_iff x y).1 hs])
def LkKept (w w' : World) : Prop := ∀ (k : Nat) (cs : Array Value) (T : TypeId), w.heap[k]? = some (.cells cs T (0, 0)) → T ≠ 113 → T ≠ 43 → T ≠ 69 → w'.heap[k]? = some (.cells cs T (0, 0))
theorem LkKept.refl (w : World) : LkKept w w := fun _ _ _ h _ _ _ => h
theorem LkKept.trans {w w1 w2 : World} (h : LkKept w w1) (k : LkKept w1 w2) : LkKept w w2 := fun i cs T e h1 h2 h3 => k i cs T (h i cs T e h1 h2 h3) h1 h2 h3
theorem LkKept.below {w w' : World} (hb : Below w.heap.size w w') : LkKept w w' := fun k _ _ e _ _ _ => (hb.block k (heap_lt e)).trans e
theorem LkKept.only {w w' : World} {S : Nat → Prop} (ho : Only S w w') (hS : ∀ k cs T, S k → w.heap[k]? = some (.cells cs T (0, 0)) → T = 113 ∨ T = 43 ∨ T = 69) : LkKept w w' := fun k cs T e h1 h2 h3 =>
  (ho.block k (heap_lt e) (fun hk => by
    rcases hS k cs T hk e with h | h | h
    · exact h1 h
    · exact h2 h
    · exact h3 h)).trans e
theorem OwnC.kept {w w' : World} {base : Nat} {T : TypeId} {size n : Nat} {v : Value} {xs : List Value} (h : OwnC w base T size v n xs) (hk : LkKept w w') (h1 : T ≠ 113) (h2 : T ≠ 43) (h3 : T ≠ 69) : OwnC w' base T size v n xs := by
  refine ⟨h.1, ?_⟩
  rcases h.2 with h4 | ⟨g, c, cur, hv, hg, hh, r⟩
  · exact .inl h4
  · exact .inr ⟨g, c, cur, hv, hg, hk g cur T hh h1 h2 h3, r⟩
theorem row_kept {w w' : World} {base : Nat} {T : TypeId} {size n : Nat} {v : Value} {xs : List Value} (h : w.ownsRow base T size v n xs) (hk : LkKept w w') (h1 : T ≠ 113) (h2 : T ≠ 43) (h3 : T ≠ 69) : w'.ownsRow base T size v n xs := by
  refine ⟨h.1, ?_⟩
  rcases h.2 with h4 | ⟨g, cap, cur, hv, hg, hh, r⟩
  · exact .inl h4
  · exact .inr ⟨g, cap, cur, hv, hg, hk g cur T hh h1 h2 h3, r⟩
theorem CfsO.kept {w w' : World} {B : Nat} (hk : LkKept w w') : ∀ {l : List Cf.Cfg} {vs : List Value}, CfsO w B l vs → CfsO w' B l vs
  | [], _, h => h
  | _ :: _, _, h => by
    obtain ⟨A, b, e, h1, h2⟩ := h
    exact ⟨A, b, e, h1.kept hk (by decide) (by decide) (by decide), CfsO.kept hk h2⟩
theorem SetIn.kept {w w' : World} {B : Nat} {CA AA : Option Addr} {s : Cf.St} (h : SetIn w B CA AA s) (hk : LkKept w w') : SetIn w' B CA AA s := by
  obtain ⟨vs, h1, h2⟩ := h.cfg
  exact ⟨⟨vs, h1.kept hk (by decide) (by decide) (by decide), h2.kept hk⟩, h.alts.kept hk (by decide) (by decide) (by decide)⟩
def StVs (w : World) (B : Nat) : List Cf.St → List Value → Prop
  | [], vs => vs = []
  | s :: l, vs => ∃ CA AA b, vs = (cellsP CA AA s).toList ++ b ∧ SetIn w B CA AA s ∧ StVs w B l b
theorem StVs.kept {w w' : World} {B : Nat} (hk : LkKept w w') : ∀ {l : List Cf.St} {vs : List Value}, StVs w B l vs → StVs w' B l vs
  | [], _, h => h
  | _ :: _, _, h => by
    obtain ⟨CA, AA, b, e, h1, h2⟩ := h
    exact ⟨CA, AA, b, e, h1.kept hk, StVs.kept hk h2⟩
theorem StVs.snoc {w : World} {B : Nat} {s : Cf.St} {CA AA : Option Addr} (hs : SetIn w B CA AA s) : ∀ {l : List Cf.St} {vs : List Value}, StVs w B l vs → StVs w B (l ++ [s]) (vs ++ (cellsP CA AA s).toList)
  | [], _, h => ⟨CA, AA, [], by rw [show _ = ([] : List Value) from h]; simp, hs, rfl⟩
  | _ :: _, _, h => by
    obtain ⟨C1, A1, b, e, h1, h2⟩ := h
    exact ⟨C1, A1, b ++ (cellsP CA AA s).toList, by rw [e, List.append_assoc], h1, StVs.snoc hs h2⟩
theorem StVs.at {w : World} {B : Nat} : ∀ {l : List Cf.St} {vs : List Value}, StVs w B l vs → ∀ (i : Nat) (hi : i < l.length), ∃ CA AA, SetIn w B CA AA l[i] ∧ vs[i*3]? = some (.slice CA l[i].configs.length l[i].configs.length) ∧ vs[i*3+1]? = some (.slice AA l[i].alts.length l[i].alts.length) ∧ vs[i*3+2]? = some (.bool l[i].over)
  | [], _, _, _, hi => absurd hi (Nat.not_lt_zero _)
  | s :: l, vs, h, i, hi => by
    obtain ⟨CA, AA, b, e, h1, h2⟩ := h
    cases i with
    | zero => exact ⟨CA, AA, h1, by rw [e]; rfl, by rw [e]; rfl, by rw [e]; rfl⟩
    | succ i =>
      obtain ⟨C', A', h3, h4, h5, h6⟩ := h2.at i (by simpa using hi)
      have hx : ∀ k, vs[(i + 1) * 3 + k]? = b[i * 3 + k]? := fun k => by
        rw [e, List.getElem?_append_right (by show 3 ≤ _; omega)]
        rw [show (i + 1) * 3 + k - ((cellsP CA AA s).toList).length = i * 3 + k by show (i + 1) * 3 + k - 3 = _; omega]
      exact ⟨C', A', h3, by have := hx 0; rw [Nat.add_zero, Nat.add_zero] at this; rw [this]; exact h4, by rw [hx 1]; exact h5, by rw [hx 2]; exact h6⟩
def encL2 (e : Int × Int) : List Value := [.int .i64 e.1, .int .i64 e.2]
def LsV (w : World) (B E : Nat) (x : Drv.LSt) (vs : List Value) : Prop := ∃ AA ac EA ec, vs = [.int .u8 x.kind, .slice AA x.alts.length ac, .slice EA x.edges.length ec] ∧ OwnC w B 3 1 (.slice AA x.alts.length ac) x.alts.length (x.alts.map (Value.int .i64)) ∧ OwnC w B 71 2 (.slice EA x.edges.length ec) x.edges.length (flat encL2 x.edges) ∧ ∀ k, (Value.slice EA x.edges.length ec).ownBlock = some k → k < E
theorem LsV.kept {w w' : World} {B E : Nat} {x : Drv.LSt} {vs : List Value} (h : LsV w B E x vs) (hk : LkKept w w') : LsV w' B E x vs := by
  obtain ⟨AA, ac, EA, ec, e, h1, h2, h3⟩ := h
  exact ⟨AA, ac, EA, ec, e, h1.kept hk (by decide) (by decide) (by decide), h2.kept hk (by decide) (by decide) (by decide), h3⟩
theorem LsV.len {w : World} {B E : Nat} {x : Drv.LSt} {vs : List Value} (h : LsV w B E x vs) : vs.length = 3 := by
  obtain ⟨AA, ac, EA, ec, e, _⟩ := h
  rw [e]; rfl
def LsVs (w : World) (B E : Nat) : List Drv.LSt → List Value → Prop
  | [], vs => vs = []
  | x :: l, vs => ∃ a b, vs = a ++ b ∧ LsV w B E x a ∧ LsVs w B E l b
theorem LsVs.kept {w w' : World} {B E : Nat} (hk : LkKept w w') : ∀ {l : List Drv.LSt} {vs : List Value}, LsVs w B E l vs → LsVs w' B E l vs
  | [], _, h => h
  | _ :: _, _, h => by
    obtain ⟨a, b, e, h1, h2⟩ := h
    exact ⟨a, b, e, h1.kept hk, LsVs.kept hk h2⟩
theorem LsVs.snoc {w : World} {B E : Nat} {x : Drv.LSt} {vx : List Value} (hx : LsV w B E x vx) : ∀ {l : List Drv.LSt} {vs : List Value}, LsVs w B E l vs → LsVs w B E (l ++ [x]) (vs ++ vx)
  | [], _, h => ⟨vx, [], by rw [show _ = ([] : List Value) from h]; simp, hx, rfl⟩
  | _ :: _, _, h => by
    obtain ⟨a, b, e, h1, h2⟩ := h
    exact ⟨a, b ++ vx, by rw [e, List.append_assoc], h1, LsVs.snoc hx h2⟩
theorem LsVs.at {w : World} {B E : Nat} : ∀ {l : List Drv.LSt} {vs : List Value}, LsVs w B E l vs → ∀ (i : Nat) (hi : i < l.length), ∃ vx, LsV w B E l[i] vx ∧ ∀ k, k < 3 → vs[i*3+k]? = vx[k]?
  | [], _, _, _, hi => absurd hi (Nat.not_lt_zero _)
  | x :: l, vs, h, i, hi => by
    obtain ⟨a, b, e, h1, h2⟩ := h
    have hl := h1.len
    cases i with
    | zero => exact ⟨a, h1, fun k hk => by rw [e, List.getElem?_append_left (by omega)]; simp⟩
    | succ i =>
      obtain ⟨vx, h3, h4⟩ := h2.at i (by simpa using hi)
      refine ⟨vx, h3, fun k hk => ?_⟩
      rw [e, List.getElem?_append_right (by omega), hl, show (i + 1) * 3 + k - 3 = i * 3 + k by omega]
      exact h4 k hk
theorem LsVs.setE {w : World} {B E : Nat} {es : List (Int × Int)} {EA : Option Addr} {ec : Nat} (hE : OwnC w B 71 2 (.slice EA es.length ec) es.length (flat encL2 es)) (hb : ∀ k, (Value.slice EA es.length ec).ownBlock = some k → k < E) : ∀ {l : List Drv.LSt} {vs : List Value}, LsVs w B E l vs → ∀ (i : Nat) (hi : i < l.length), LsVs w B E (l.set i ⟨l[i].kind, l[i].alts, es⟩) (vs.set (i * 3 + 2) (.slice EA es.length ec))
  | [], _, _, _, hi => absurd hi (Nat.not_lt_zero _)
  | x :: l, vs, h, i, hi => by
    obtain ⟨a, b, e, h1, h2⟩ := h
    have hl := h1.len
    cases i with
    | zero =>
      obtain ⟨AA, ac, E0, e0, ea, h3, h4, h5⟩ := h1
      refine ⟨[.int .u8 x.kind, .slice AA x.alts.length ac, .slice EA es.length ec], b, by rw [e, ea]; rfl, ⟨AA, ac, EA, ec, rfl, h3, hE, hb⟩, h2⟩
    | succ i =>
      refine ⟨a, b.set (i * 3 + 2) (.slice EA es.length ec), ?_, h1, LsVs.setE hE hb h2 i (by simpa using hi)⟩
      rw [e, List.set_append_right _ _ (by omega), hl, show (i + 1) * 3 + 2 - 3 = i * 3 + 2 by omega]
theorem LsVs.more {w : World} {B E E' : Nat} (hE : E ≤ E') : ∀ {l : List Drv.LSt} {vs : List Value}, LsVs w B E l vs → LsVs w B E' l vs
  | [], _, h => h
  | _ :: _, _, h => by
    obtain ⟨a, b, e, ⟨AA, ac, EA, ec, ea, h1, h2, h3⟩, h4⟩ := h
    exact ⟨a, b, e, ⟨AA, ac, EA, ec, ea, h1, h2, fun k hk => Nat.lt_of_lt_of_le (h3 k hk) hE⟩, LsVs.more hE h4⟩
theorem LsVs.own {w : World} {B E : Nat} : ∀ {l : List Drv.LSt} {vs : List Value}, LsVs w B E l vs → LsVs w B w.heap.size l vs
  | [], _, h => h
  | _ :: _, _, h => by
    obtain ⟨a, b, e, ⟨AA, ac, EA, ec, ea, h1, h2, h3⟩, h4⟩ := h
    exact ⟨a, b, e, ⟨AA, ac, EA, ec, ea, h1, h2, fun k hk => (ownC_lt h2 k hk).2⟩, LsVs.own h4⟩
theorem LsVs.edge {w w' : World} {B E : Nat} {S : Nat → Prop} (ho : Only S w w') (hS : ∀ k, S k → E ≤ k ∧ ∃ cs, w.heap[k]? = some (.cells cs 71 (0, 0))) : ∀ {l : List Drv.LSt} {vs : List Value}, LsVs w B E l vs → LsVs w' B E l vs
  | [], _, h => h
  | _ :: _, _, h => by
    obtain ⟨a, b, e, ⟨AA, ac, EA, ec, ea, h1, h2, h3⟩, h4⟩ := h
    refine ⟨a, b, e, ⟨AA, ac, EA, ec, ea, ownC_only h1 ho (fun k hk hs => ?_), ownC_only h2 ho (fun k hk hs => ?_), h3⟩, LsVs.edge ho hS h4⟩
    · obtain ⟨c1, e1⟩ := ownC_cells h1 hk
      obtain ⟨_, c2, e2⟩ := hS k hs
      rw [e1] at e2
      injection e2 with e2
      injection e2 with _ e2
      exact absurd e2 (by decide)
    · have := h3 k hk
      have := (hS k hs).1
      omega
structure LkF where
  (B V M B0 : Nat)
  a : VwA
  v : Cf.Vw
  (budget tokens : Nat)
structure BlAt (w : World) (f : LkF) (E : Nat) (km sets : List Cf.St) (aut : List Drv.LSt) : Prop where
  row : ∃ sv av ss rs, w.heap[f.B]? = some (.cells #[.pointer (some ⟨f.V, 0, none⟩), .int .i64 (f.budget : Int), .int .i64 (f.tokens : Int), av, sv, .map (some f.M)] 113 (0, 0)) ∧ w.ownsRow f.B0 43 3 sv sets.length ss ∧ StVs w f.B0 sets ss ∧ w.ownsRow f.B0 69 3 av aut.length rs ∧ LsVs w f.B0 E aut rs
  view : VwAt w f.B0 f.V f.a f.v
  map : ∃ nm D, nm ≤ km.length ∧ w.ownsMap Tryz.prog 9 asIs f.M nm D ∧ PlIs D km
  pt : TabB f.B0 w
  ge : f.B0 ≤ f.B ∧ f.B0 ≤ f.M
  ne : f.B ≠ f.M
  hw : f.B0 ≤ w.heap.size
theorem BlAt.lt {w : World} {f : LkF} {E : Nat} {km sets : List Cf.St} {aut : List Drv.LSt} (h : BlAt w f E km sets aut) : f.B < w.heap.size := by
  obtain ⟨_, _, _, _, h1, _⟩ := h.row
  exact heap_lt h1
theorem BlAt.ltM {w : World} {f : LkF} {E : Nat} {km sets : List Cf.St} {aut : List Drv.LSt} (h : BlAt w f E km sets aut) : f.M < w.heap.size := by
  obtain ⟨_, _, _, hm, _⟩ := h.map
  exact hm.lt
theorem BlAt.below {w w' : World} {f : LkF} {E : Nat} {km sets : List Cf.St} {aut : List Drv.LSt} (h : BlAt w f E km sets aut) (hb : Below w.heap.size w w') : BlAt w' f E km sets aut := by
  obtain ⟨sv, av, ss, rs, h1, h2, h3, h4, h5⟩ := h.row
  obtain ⟨nm, D, m1, m2, m3⟩ := h.map
  have hk := LkKept.below hb
  exact ⟨⟨sv, av, ss, rs, (hb.block _ (heap_lt h1)).trans h1, ownsRow_below h2 hb (Nat.le_refl _), h3.kept hk, ownsRow_below h4 hb (Nat.le_refl _), h5.kept hk⟩, h.view.below (hb.mono h.hw), ⟨nm, D, m1, ownsMap_onlyH m2 (Only.of_below (S := fun _ => False) hb) (fun e => e), m3⟩, h.pt.on (hb.mono h.hw), h.ge, h.ne, Nat.le_trans h.hw hb.size⟩
theorem BlAt.setM {w w' : World} {f : LkF} {E : Nat} {km km' sets : List Cf.St} {aut : List Drv.LSt} (h : BlAt w f E km sets aut) (ho : Only (fun k => k = f.M) w w') {nm : Nat} {D : DataW Value} (hm : w'.ownsMap Tryz.prog 9 asIs f.M nm D) (hn : nm ≤ km'.length) (hp : PlIs D km') : BlAt w' f E km' sets aut ∧ LkKept w w' := by
  obtain ⟨sv, av, ss, rs, h1, h2, h3, h4, h5⟩ := h.row
  obtain ⟨_, _, _, m2, _⟩ := h.map
  have hnc : ∀ cs T, w.heap[f.M]? ≠ some (.cells cs T (0, 0)) := fun cs T e => by
    obtain ⟨es, cl, hb, _⟩ := m2
    rw [e] at hb
    cases hb
  have hk : LkKept w w' := .only ho fun k cs T e h => absurd (e ▸ h) (hnc cs T)
  have hr : ∀ {T : TypeId} {n : Nat} {v : Value} {xs : List Value}, w.ownsRow f.B0 T 3 v n xs → w'.ownsRow f.B0 T 3 v n xs := fun {T n v xs} hr => ownsRow_only hr ho (fun k hk e => by
    obtain ⟨cs, hc⟩ := ownC_cells (OwnC.of hr) hk
    rw [e] at hc
    exact hnc cs T hc)
  exact ⟨⟨⟨sv, av, ss, rs, (ho.block _ (heap_lt h1) h.ne).trans h1, hr h2, h3.kept hk, hr h4, h5.kept hk⟩, h.view.below (ho.below' (fun k e => by have := h.ge.2; omega) h.hw), ⟨nm, D, hn, hm, hp⟩, h.pt.on (ho.below' (fun k e => by have := h.ge.2; omega) h.hw), h.ge, h.ne, Nat.le_trans h.hw ho.size⟩, hk⟩
end Go.Proofs.YtnpcjbdolmmaeaaGreatDoor
namespace Go.Proofs.YtnpcjbdolmmaeaaGreatDoor
open Go.RowKit Go.Maps
set_option maxRecDepth 100000
theorem own_type {w : World} {base : Nat} {T : TypeId} {size n k : Nat} {v : Value} {xs : List Value} (h : w.ownsRow base T size v n xs) (hk : v.ownBlock = some k) : ∃ cs, w.heap[k]? = some (.cells cs T (0, 0)) := ownC_cells (OwnC.of h) hk
theorem type_eq {w : World} {k : Nat} {c1 c2 : Array Value} {T1 T2 : TypeId} (h1 : w.heap[k]? = some (.cells c1 T1 (0, 0))) (h2 : w.heap[k]? = some (.cells c2 T2 (0, 0))) : T1 = T2 := by
  rw [h1] at h2
  injection h2 with h2
  injection h2 with _ h2
section
variable {w w5 : World} {f : LkF} {E : Nat} {km sets : List Cf.St} {aut : List Drv.LSt} {sv av : Value} {ss rs : List Value}
structure BlRow (w : World) (f : LkF) (E : Nat) (sets : List Cf.St) (aut : List Drv.LSt) (sv av : Value) (ss rs : List Value) : Prop where
  blk : w.heap[f.B]? = some (.cells #[.pointer (some ⟨f.V, 0, none⟩), .int .i64 (f.budget : Int), .int .i64 (f.tokens : Int), av, sv, .map (some f.M)] 113 (0, 0))
  sown : w.ownsRow f.B0 43 3 sv sets.length ss
  sset : StVs w f.B0 sets ss
  aown : w.ownsRow f.B0 69 3 av aut.length rs
  aset : LsVs w f.B0 E aut rs
theorem BlAt.rows (h : BlAt w f E km sets aut) : ∃ sv av ss rs, BlRow w f E sets aut sv av ss rs := by
  obtain ⟨sv, av, ss, rs, h1, h2, h3, h4, h5⟩ := h.row
  exact ⟨sv, av, ss, rs, h1, h2, h3, h4, h5⟩
theorem BlRow.cells (h : BlRow w f E sets aut sv av ss rs) : w.cell? ⟨f.B, 0, none⟩ = some (.pointer (some ⟨f.V, 0, none⟩)) ∧ w.cell? ⟨f.B, 1, none⟩ = some (.int .i64 (f.budget : Int)) ∧ w.cell? ⟨f.B, 2, none⟩ = some (.int .i64 (f.tokens : Int)) ∧ w.cell? ⟨f.B, 3, none⟩ = some av ∧ w.cell? ⟨f.B, 4, none⟩ = some sv ∧ w.cell? ⟨f.B, 5, none⟩ = some (.map (some f.M)) ∧ ∀ i, w.frozen? ⟨f.B, i, none⟩ = false := by
  refine ⟨?_, ?_, ?_, ?_, ?_, ?_, fun i => Lib.frozen_of_heap h.blk i⟩ <;> (rw [Lib.cell_of_heap h.blk]; rfl)
theorem BlRow.below {w' : World} (h : BlRow w f E sets aut sv av ss rs) (hb : Below w.heap.size w w') : BlRow w' f E sets aut sv av ss rs :=
  ⟨(hb.block _ (heap_lt h.blk)).trans h.blk, ownsRow_below h.sown hb (Nat.le_refl _), h.sset.kept (.below hb), ownsRow_below h.aown hb (Nat.le_refl _), h.aset.kept (.below hb)⟩
theorem set_only {B b o : Nat} {v : Value} (hB : B ≤ b) (hs : B ≤ w5.heap.size) : Below B w5 (w5.setCell ⟨b, o, none⟩ v) := (Only.of_set w5 b o v).below' (fun k e => by omega) hs
theorem BlAt.pushS (h : BlAt w f E km sets aut) (r : BlRow w f E sets aut sv av ss rs) {s : Cf.St} {CA AA : Option Addr} (hs : SetIn w f.B0 CA AA s) {g c : Nat}
    (own5 : w5.ownsRow f.B0 43 3 (.slice (some ⟨g, 0, none⟩) (sets.length + 1) c) (sets.length + 1) (ss ++ (cellsP CA AA s).toList)) (ho5 : Only (fun k => sv.ownBlock = some k) w w5) :
    BlAt (w5.setCell ⟨f.B, 4, none⟩ (.slice (some ⟨g, 0, none⟩) (sets.length + 1) c)) f E km (sets ++ [s]) aut ∧ LkKept w (w5.setCell ⟨f.B, 4, none⟩ (.slice (some ⟨g, 0, none⟩) (sets.length + 1) c)) ∧ Below f.B0 w (w5.setCell ⟨f.B, 4, none⟩ (.slice (some ⟨g, 0, none⟩) (sets.length + 1) c)) := by
  have hnB : ¬ sv.ownBlock = some f.B := row_not r.sown r.blk (by decide)
  have hb5 := (ho5.block _ (heap_lt r.blk) hnB).trans r.blk
  have hk5 : LkKept w w5 := .only ho5 fun k cs T e hh => by
    obtain ⟨c2, hc⟩ := own_type r.sown e
    exact .inr (.inl (type_eq hh hc))
  have hk6 : LkKept w5 (w5.setCell ⟨f.B, 4, none⟩ (.slice (some ⟨g, 0, none⟩) (sets.length + 1) c)) := .only (Only.of_set w5 f.B 4 _) fun k cs T e hh => by
    rw [e] at hh
    exact .inl (type_eq hh hb5)
  have hk := hk5.trans hk6
  have hB05 : Below f.B0 w w5 := ho5.below' (fun k e => (World.ownsRow.lt r.sown k e).1) h.hw
  have hB0 := hB05.trans (set_only (o := 4) (v := .slice (some ⟨g, 0, none⟩) (sets.length + 1) c) h.ge.1 (Nat.le_trans h.hw ho5.size))
  have ha5 := ownsRow_only r.aown ho5 (fun k hk' e => by
    obtain ⟨c1, h1⟩ := own_type r.aown hk'
    obtain ⟨c2, h2⟩ := own_type r.sown e
    exact absurd (type_eq h1 h2) (by decide))
  obtain ⟨nm, D, m1, m2, m3⟩ := h.map
  have m5 := ownsMap_onlyH m2 ho5 (fun e => by
    obtain ⟨c2, hc⟩ := own_type r.sown e
    obtain ⟨es, cl, hb, _⟩ := m2
    rw [hc] at hb
    cases hb)
  have m6 := ownsMap_onlyH m5 (Only.of_set w5 f.B 4 (.slice (some ⟨g, 0, none⟩) (sets.length + 1) c)) (fun e => h.ne e.symm)
  refine ⟨⟨⟨_, av, _, rs, heap_setCell_same w5 f.B 4 _ _ _ hb5, ?_, (r.sset.snoc hs).kept hk, own_setTb ha5 hb5 (by decide), r.aset.kept hk⟩, h.view.below hB0, ⟨nm, D, m1, m6, m3⟩, h.pt.on hB0, h.ge, h.ne, Nat.le_trans h.hw hB0.size⟩, hk, hB0⟩
  rw [List.length_append]
  exact own_setTb own5 hb5 (by decide)
theorem BlAt.pushA (h : BlAt w f E km sets aut) (r : BlRow w f E sets aut sv av ss rs) {x : Drv.LSt} {vx : List Value} (hx : LsV w f.B0 E x vx) {g c : Nat}
    (own5 : w5.ownsRow f.B0 69 3 (.slice (some ⟨g, 0, none⟩) (aut.length + 1) c) (aut.length + 1) (rs ++ vx)) (ho5 : Only (fun k => av.ownBlock = some k) w w5) :
    BlAt (w5.setCell ⟨f.B, 3, none⟩ (.slice (some ⟨g, 0, none⟩) (aut.length + 1) c)) f E km sets (aut ++ [x]) ∧ LkKept w (w5.setCell ⟨f.B, 3, none⟩ (.slice (some ⟨g, 0, none⟩) (aut.length + 1) c)) ∧ Below f.B0 w (w5.setCell ⟨f.B, 3, none⟩ (.slice (some ⟨g, 0, none⟩) (aut.length + 1) c)) := by
  have hnB : ¬ av.ownBlock = some f.B := row_not r.aown r.blk (by decide)
  have hb5 := (ho5.block _ (heap_lt r.blk) hnB).trans r.blk
  have hk5 : LkKept w w5 := .only ho5 fun k cs T e hh => by
    obtain ⟨c2, hc⟩ := own_type r.aown e
    exact .inr (.inr (type_eq hh hc))
  have hk6 : LkKept w5 (w5.setCell ⟨f.B, 3, none⟩ (.slice (some ⟨g, 0, none⟩) (aut.length + 1) c)) := .only (Only.of_set w5 f.B 3 _) fun k cs T e hh => by
    rw [e] at hh
    exact .inl (type_eq hh hb5)
  have hk := hk5.trans hk6
  have hB05 : Below f.B0 w w5 := ho5.below' (fun k e => (World.ownsRow.lt r.aown k e).1) h.hw
  have hB0 := hB05.trans (set_only (o := 3) (v := .slice (some ⟨g, 0, none⟩) (aut.length + 1) c) h.ge.1 (Nat.le_trans h.hw ho5.size))
  have hs5 := ownsRow_only r.sown ho5 (fun k hk' e => by
    obtain ⟨c1, h1⟩ := own_type r.sown hk'
    obtain ⟨c2, h2⟩ := own_type r.aown e
    exact absurd (type_eq h1 h2) (by decide))
  obtain ⟨nm, D, m1, m2, m3⟩ := h.map
  have m5 := ownsMap_onlyH m2 ho5 (fun e => by
    obtain ⟨c2, hc⟩ := own_type r.aown e
    obtain ⟨es, cl, hb, _⟩ := m2
    rw [hc] at hb
    cases hb)
  have m6 := ownsMap_onlyH m5 (Only.of_set w5 f.B 3 (.slice (some ⟨g, 0, none⟩) (aut.length + 1) c)) (fun e => h.ne e.symm)
  refine ⟨⟨⟨sv, _, ss, _, heap_setCell_same w5 f.B 3 _ _ _ hb5, own_setTb hs5 hb5 (by decide), r.sset.kept hk, ?_, (r.aset.snoc hx).kept hk⟩, h.view.below hB0, ⟨nm, D, m1, m6, m3⟩, h.pt.on hB0, h.ge, h.ne, Nat.le_trans h.hw hB0.size⟩, hk, hB0⟩
  rw [List.length_append]
  exact own_setTb own5 hb5 (by decide)
theorem BlAt.setE {ga ca E' : Nat} (hEE : E ≤ E') (h : BlAt w f E km sets aut) (r : BlRow w f E sets aut sv (.slice (some ⟨ga, 0, none⟩) aut.length ca) ss rs) {es : List (Int × Int)} {EA : Option Addr} {ec : Nat} (hE : OwnC w f.B0 71 2 (.slice EA es.length ec) es.length (flat encL2 es)) (hb' : ∀ k, (Value.slice EA es.length ec).ownBlock = some k → k < E') (i : Nat) (hi : i < aut.length) :
    BlAt (w.setCell ⟨ga, i * 3 + 2, none⟩ (.slice EA es.length ec)) f E' km sets (aut.set i ⟨aut[i].kind, aut[i].alts, es⟩) ∧ LkKept w (w.setCell ⟨ga, i * 3 + 2, none⟩ (.slice EA es.length ec)) ∧ Below f.B0 w (w.setCell ⟨ga, i * 3 + 2, none⟩ (.slice EA es.length ec)) := by
  have hnB : ¬ ga = f.B := fun e => row_not r.aown r.blk (by decide) (by rw [e]; rfl)
  obtain ⟨cg, hcg⟩ := own_type r.aown (k := ga) rfl
  have ho := Only.of_set w ga (i * 3 + 2) (.slice EA es.length ec)
  have hb := (ho.block _ (heap_lt r.blk) (fun e => hnB e.symm)).trans r.blk
  have hk : LkKept w (w.setCell ⟨ga, i * 3 + 2, none⟩ (.slice EA es.length ec)) := .only ho fun k cs T e hh => by
    rw [e] at hh
    exact .inr (.inr (type_eq hh hcg))
  have hgB : f.B0 ≤ ga := (World.ownsRow.lt r.aown ga rfl).1
  have hB0 : Below f.B0 w (w.setCell ⟨ga, i * 3 + 2, none⟩ (.slice EA es.length ec)) := ho.below' (fun k e => by omega) h.hw
  have hs := ownsRow_only r.sown ho (fun k hk' e => by
    obtain ⟨c1, h1⟩ := own_type r.sown hk'
    rw [e] at h1
    exact absurd (type_eq h1 hcg) (by decide))
  obtain ⟨nm, D, m1, m2, m3⟩ := h.map
  have m5 := ownsMap_onlyH m2 ho (fun e => by
    obtain ⟨es', cl, hb', _⟩ := m2
    rw [e, hcg] at hb'
    cases hb')
  have hal := r.aown.1
  have ha : (w.setCell ⟨ga, i * 3 + 2, none⟩ (.slice EA es.length ec)).ownsRow f.B0 69 3 (.slice (some ⟨ga, 0, none⟩) aut.length ca) aut.length (rs.set (i * 3 + 2) (.slice EA es.length ec)) := by
    exact (r.aown.stored (i * 3 + 2) _).1
  refine ⟨⟨⟨sv, _, ss, _, hb, hs, r.sset.kept hk, by rw [List.length_set]; exact ha, ((r.aset.more hEE).setE hE hb' i hi).kept hk⟩, h.view.below hB0, ⟨nm, D, m1, m5, m3⟩, h.pt.on hB0, h.ge, h.ne, Nat.le_trans h.hw hB0.size⟩, hk, hB0⟩
theorem BlAt.own (h : BlAt w f E km sets aut) : BlAt w f w.heap.size km sets aut := by
  obtain ⟨sv, av, ss, rs, r⟩ := h.rows
  exact ⟨⟨sv, av, ss, rs, r.blk, r.sown, r.sset, r.aown, r.aset.own⟩, h.view, h.map, h.pt, h.ge, h.ne, h.hw⟩
theorem BlAt.edge {w' : World} {S : Nat → Prop} (h : BlAt w f E km sets aut) (ho : Only S w w') (hS : ∀ k, S k → E ≤ k ∧ ∃ cs, w.heap[k]? = some (.cells cs 71 (0, 0))) (hE : f.B0 ≤ E) : BlAt w' f E km sets aut := by
  obtain ⟨sv, av, ss, rs, r⟩ := h.rows
  have hB0 : Below f.B0 w w' := ho.below' (fun k e => by have := (hS k e).1; omega) h.hw
  obtain ⟨nm, D, m1, m2, m3⟩ := h.map
  have m5 := ownsMap_onlyH m2 ho (fun e => by
    obtain ⟨_, c2, hc⟩ := hS _ e
    obtain ⟨es, cl, hb, _⟩ := m2
    rw [hc] at hb
    cases hb)
  have hset : ∀ {l : List Cf.St} {vs : List Value}, StVs w f.B0 l vs → StVs w' f.B0 l vs := by
    intro l
    induction l with
    | nil => intro vs h; exact h
    | cons s l ih =>
      intro vs h
      obtain ⟨CA, AA, b, e, h1, h2⟩ := h
      exact ⟨CA, AA, b, e, h1.still ho (fun k hk cs => by
        obtain ⟨_, c2, hc⟩ := hS k hk
        rw [hc]
        constructor
        · intro e; injection e with e; injection e with _ e; exact absurd e (by decide)
        · intro e; injection e with e; injection e with _ e; exact absurd e (by decide)), ih h2⟩
  refine ⟨⟨sv, av, ss, rs, (ho.block _ (heap_lt r.blk) (fun e => ?_)).trans r.blk, ownsRow_only r.sown ho (fun k hk e => ?_), hset r.sset, ownsRow_only r.aown ho (fun k hk e => ?_), r.aset.edge ho hS⟩, h.view.below hB0, ⟨nm, D, m1, m5, m3⟩, h.pt.on hB0, h.ge, h.ne, Nat.le_trans h.hw ho.size⟩
  · obtain ⟨_, c2, hc⟩ := hS _ e
    exact absurd (type_eq r.blk hc) (by decide)
  · obtain ⟨_, c2, hc⟩ := hS _ e
    obtain ⟨c1, h1⟩ := own_type r.sown hk
    exact absurd (type_eq h1 hc) (by decide)
  · obtain ⟨_, c2, hc⟩ := hS _ e
    obtain ⟨c1, h1⟩ := own_type r.aown hk
    exact absurd (type_eq h1 hc) (by decide)
theorem BlAt.setX {w' : World} (h : BlAt w f E km sets aut) (r : BlRow w f E sets aut sv av ss rs) {x : Nat} {cs : Array Value} (hx : w.heap[x]? = some (.cells cs 69 (0, 0))) (hn : ¬ av.ownBlock = some x) (ho : Only (fun k => k = x) w w') (hge : f.B0 ≤ x) :
    BlAt w' f E km sets aut ∧ LkKept w w' ∧ Below f.B0 w w' := by
  have hnB : ¬ f.B = x := fun e => by
    have := r.blk
    rw [e] at this
    exact absurd (type_eq this hx) (by decide)
  have hk : LkKept w w' := .only ho fun k c T e hh => by
    rw [e] at hh
    exact .inr (.inr (type_eq hh hx))
  have hB0 : Below f.B0 w w' := ho.below' (fun k e => by omega) h.hw
  obtain ⟨nm, D, m1, m2, m3⟩ := h.map
  have m5 := ownsMap_onlyH m2 ho (fun e => by
    obtain ⟨es, cl, hb, _⟩ := m2
    rw [e, hx] at hb
    cases hb)
  have hs := ownsRow_only r.sown ho (fun k hk' e => by
    obtain ⟨c1, h1⟩ := own_type r.sown hk'
    rw [e] at h1
    exact absurd (type_eq h1 hx) (by decide))
  have ha := ownsRow_only r.aown ho (fun k hk' e => hn (by rw [← e]; exact hk'))
  exact ⟨⟨⟨sv, av, ss, rs, (ho.block _ (heap_lt r.blk) hnB).trans r.blk, hs, r.sset.kept hk, ha, r.aset.kept hk⟩, h.view.below hB0, ⟨nm, D, m1, m5, m3⟩, h.pt.on hB0, h.ge, h.ne, Nat.le_trans h.hw ho.size⟩, hk, hB0⟩
end
end Go.Proofs.YtnpcjbdolmmaeaaGreatDoor
