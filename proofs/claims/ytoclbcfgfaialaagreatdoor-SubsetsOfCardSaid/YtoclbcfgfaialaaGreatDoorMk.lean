/-
  Subsets: the making of a table, as it lies in memory; ends, state: the walks.
-/
import Derived.Test.YtoclbcfgfaialaaGreatDoorOnly
import Derived.Maps.Views
import Derived.Maps.Keyed
import Derived.StringKeys
namespace Go.Proofs.YtoclbcfgfaialaaGreatDoor
open Go.RowKit
set_option maxRecDepth 100000
theorem foldl_take {α β : Type} (f : β → α → β) (e : β) (l : List α) (k : Nat) (h : k < l.length) : (l.take (k+1)).foldl f e = f ((l.take k).foldl f e) l[k] := by
  rw [List.take_succ_eq_append_getElem h, List.foldl_append]; rfl
set_option maxHeartbeats 1600000 in
theorem ends_any (M cp c : Nat) (PA A : Option Addr) (a : Au) (l : List Int) (w : World) (hm : l.length ≤ 1000000000) (hp : Hid (∀ p ∈ l, 0 ≤ p ∧ p < a.places.length)) (hM : M < w.heap.size)
    (hc : w.cell? ⟨M, 0, none⟩ = some (.slice PA a.places.length cp)) (hP : PlsR w w.heap.size PA a.places) (hr : Reads w w.heap.size 1 A l.length (l.map (Value.int .i64))) :
    Calls Tryz.prog 84 #[.pointer (some ⟨M, 0, none⟩), .slice A l.length c] w fun e w' => e = .returned (.int .i64 (endOf a l)) ∧ Below w.heap.size w w' := by
  go_enter Tryz.func84, Tryz.ntmps84
  go_wp2
  go_loopw [5, 11] (fun e i wr => ∃ k : Nat, k ≤ l.length ∧ i = .int .i64 k ∧ e = .int .i64 ((l.take k).foldl (endStep a) (-1)) ∧ Below w.heap.size w wr) (fun _ i _ => l.length - (intOf i).toNat)
  case atStart => exact ⟨0, Nat.zero_le _, rfl, rfl, Below.refl _ _⟩
  case round =>
    obtain ⟨k, hk, rfl, rfl, hb⟩ := hrel
    by_cases hlt : k < l.length
    · obtain ⟨b, off, rfl, hbl, c0⟩ := readsI hr hb k hlt
      have hpk := hp.out _ (List.getElem_mem hlt)
      have HS := hid (foldl_take (endStep a) (-1) l k hlt)
      have cM := (hb.cell (p := ⟨M, 0, none⟩) hM).trans hc
      generalize l[k] = p at c0 hpk HS
      generalize (l.take k).foldl (endStep a) (-1) = E at HS
      obtain ⟨q, rfl⟩ : ∃ q : Nat, p = q := ⟨p.toNat, by omega⟩
      have hq : q < a.places.length := by omega
      obtain ⟨b2, off2, SA, cs, FA, cf, rfl, hbl2, d0, d1, d2, d3, _, _⟩ := (hP.below hb).at q hq
      have HA : Hid (a.at (q : Int) = a.places[q]) := by
        unfold Au.at
        rw [Int.toNat_natCast, List.getD_eq_getElem?_getD, List.getElem?_eq_getElem hq]; exact hid rfl
      have HE : Hid (endStep a E q = if (a.places[q]).last = true ∧ (E < 0 ∨ (a.places[q]).kind < E) then (a.places[q]).kind else E) := by
        unfold endStep; rw [HA.out]; exact hid rfl
      clear HA hpk
      generalize a.places[q] = x at d0 d1 d2 d3 HE
      obtain ⟨xs, xk, xl, xf⟩ := x
      simp only at d0 d1 d2 d3 HE
      have HB := hid hb
      cases xl with
      | false =>
        have HF : Hid (endStep a E q = E) := by rw [HE.out, if_neg (by simp)]; exact hid rfl
        clear HE
        go_wp2
        go_roundw
        case rel => exact ⟨k + 1, by omega, by go_num, by rw [HS.out, HF.out], HB.out.trans ((below_new _ _).mono HB.out.size)⟩
        case measure => simp [intOf]; omega
      | true =>
        by_cases h1 : E < 0
        · have HF : Hid (endStep a E q = xk) := by rw [HE.out, if_pos ⟨rfl, .inl h1⟩]; exact hid rfl
          clear HE
          go_wp2
          go_roundw
          case rel => exact ⟨k + 1, by omega, by go_num, by rw [HS.out, HF.out], HB.out.trans ((below_new _ _).mono HB.out.size)⟩
          case measure => simp [intOf]; omega
        · by_cases h2 : xk < E
          · have HF : Hid (endStep a E q = xk) := by rw [HE.out, if_pos ⟨rfl, .inr h2⟩]; exact hid rfl
            clear HE
            go_wp2
            go_roundw
            case rel => exact ⟨k + 1, by omega, by go_num, by rw [HS.out, HF.out], HB.out.trans ((below_new _ _).mono HB.out.size)⟩
            case measure => simp [intOf]; omega
          · have HF : Hid (endStep a E q = E) := by rw [HE.out, if_neg (fun h => h.2.elim h1 h2)]; exact hid rfl
            clear HE
            go_wp2
            go_roundw
            case rel => exact ⟨k + 1, by omega, by go_num, by rw [HS.out, HF.out], HB.out.trans ((below_new _ _).mono HB.out.size)⟩
            case measure => simp [intOf]; omega
    · have hkl : k = l.length := by omega
      subst hkl
      rw [List.take_length]
      go_wp2
      go_ret
      exact ⟨rfl, hb⟩
end Go.Proofs.YtoclbcfgfaialaaGreatDoor

/-
  Subsets: the making of a table, as it lies in memory: what stands in its blocks, and how that is kept. Plain lemmas.
-/
namespace Go.Proofs.YtoclbcfgfaialaaGreatDoor
open Go.RowKit Go.Maps
set_option maxRecDepth 100000
theorem lawStr : Keyed Tryz.prog 9 := string_keyed Tryz.underlying9
theorem zeroInt (w : World) : (zeroValue 3).run Tryz.prog w = .ok (.int .i64 0) w := by kernel_rfl
theorem infoInt : (Tryz.prog.info? 3).map (fun i => (i.zero, i.size, i.bytes)) = some (some (.int .i64 0), 1, 8) := by kernel_rfl
theorem infoInts : (Tryz.prog.info? 23).map (fun i => (i.zero, i.size, i.bytes)) = some (some (.slice none 0 0), 1, 24) := by kernel_rfl
/-- what stays while states are made -/
structure Ctx where
  B0 : Nat
  M : Nat
  bm : Nat
  a : Au
  PA : Option Addr
  cp : Nat
  FA : Option Addr
  cf : Nat
  rs : List Rg
  RA : Option Addr
  rc : Nat
  cl : Value
  nx : Value
  HA : Option Addr
  hc : Nat
  ro : Option Nat
/-- what turns -/
structure Vr where
  vo : Value
  ve : Value
  n : Nat
  D : DataW Unit
def holdsOf (a : Au) (rs : List Rg) : List (List Bool) := rs.map fun r => a.places.map fun p => hasB p.set r.1
/-- the blocks that making a state may turn -/
def SB (c : Ctx) (v : Vr) (k : Nat) : Prop := k = c.M ∨ k = c.bm ∨ v.vo.ownBlock = some k ∨ v.ve.ownBlock = some k
/-- .. and those of the rows of numbers -/
def SX (c : Ctx) (v : Vr) (k : Nat) : Prop := SB c v k ∨ c.nx.ownBlock = some k ∨ c.ro = some k
def keyL (o : List Int) : Lit := .string (nameL o)
def NamesOK (D : DataW Unit) (opens : List (List Int)) : Prop :=
  IsMap D ∧ ∀ o, match findName opens o with
    | none => has D (keyL o) = false
    | some s => has D (keyL o) = true ∧ D.atKey (keyL o) (.lit (.int .i64 0)) = .lit (.int .i64 s)
theorem NamesOK.none {D : DataW Unit} {opens : List (List Int)} (h : NamesOK D opens) {o : List Int} (e : findName opens o = none) : has D (keyL o) = false := by
  have := h.2 o; rw [e] at this; exact this
theorem NamesOK.some {D : DataW Unit} {opens : List (List Int)} (h : NamesOK D opens) {o : List Int} {s : Nat} (e : findName opens o = some s) : has D (keyL o) = true ∧ D.atKey (keyL o) (.lit (.int .i64 0)) = .lit (.int .i64 s) := by
  have := h.2 o; rw [e] at this; exact this
theorem NamesOK.start : NamesOK (.map []) [[]] := ⟨isMap_empty, fun o => by
  have : findName [[]] o = Option.none := rfl
  rw [this]
  rfl⟩
theorem NamesOK.put {D : DataW Unit} {opens : List (List Int)} (h : NamesOK D opens) (h1 : 1 ≤ opens.length) {o : List Int} (e : findName opens o = Option.none) :
    NamesOK (D.put (keyL o) (.lit (.int .i64 opens.length))) (opens ++ [o]) := by
  refine ⟨h.1.put _ _, fun q => ?_⟩
  have ht : (opens ++ [o]).tail = opens.tail ++ [o] := by
    cases opens with
    | nil => simp at h1
    | cons x r => rfl
  have hl : opens.tail.length + 1 = opens.length := by rw [List.length_tail]; omega
  unfold findName at e ⊢
  rw [Option.map_eq_none_iff] at e
  rw [ht, List.findIdx?_append]
  by_cases hq : nameL o = nameL q
  · have e2 : (opens.tail.findIdx? fun p => nameL p == nameL q) = Option.none := by rw [← hq]; exact e
    rw [e2]
    have hk : keyL q = keyL o := by unfold keyL; rw [hq]
    have : ([o].findIdx? fun p => nameL p == nameL q) = Option.some 0 := by simp [List.findIdx?_cons, hq]
    rw [this]
    simp only [Option.map_some, Option.none_or, Nat.zero_add]
    rw [hl, hk]
    exact ⟨has_put_same h.1 (by trivial) _, atKey_put_same h.1 (by trivial) _ _⟩
  · have : ([o].findIdx? fun p => nameL p == nameL q) = Option.none := by simp [List.findIdx?_cons, hq]
    rw [this]
    have hne : keyL q ≠ keyL o := fun h => by
      unfold keyL at h
      injection h with h
      exact hq h.symm
    rw [has_put_other hne, atKey_put_other hne]
    have := h.2 q
    unfold findName at this
    simpa using this
theorem ownsRow_only {w w' : World} {base : Nat} {e : TypeId} {size : Nat} {v : Value} {n : Nat} {xs : List Value} {S : Nat → Prop} (h : w.ownsRow base e size v n xs) (ho : Only S w w') (hn : ∀ k, v.ownBlock = some k → ¬ S k) : w'.ownsRow base e size v n xs := by
  refine ⟨h.1, ?_⟩
  rcases h.2 with h2 | ⟨g, cap, cur, hv, hg, hh, h3⟩
  · exact .inl h2
  · refine .inr ⟨g, cap, cur, hv, hg, ?_, h3⟩
    have hlt : g < w.heap.size := by
      rcases Nat.lt_or_ge g w.heap.size with h' | h'
      · exact h'
      · rw [Array.getElem?_eq_none h'] at hh; cases hh
    rw [ho.block g hlt (hn g (by rw [hv]; rfl))]
    exact hh
theorem ownsMap_only {P : Program} {k : TypeId} {R : Value → Option (DataW Unit × List MemPlace)} {w w' : World} {b n : Nat} {D : DataW Unit} {S : Nat → Prop} (h : w.ownsMap P k R b n D) (ho : Only S w w') (hn : ¬ S b) : w'.ownsMap P k R b n D := by
  have hlt := h.lt
  obtain ⟨es, cl, hb, r⟩ := h
  exact ⟨es, cl, (ho.block b hlt hn).trans hb, r⟩
def mkCells (c : Ctx) (v : Vr) : Array Value :=
  #[.slice c.PA c.a.places.length c.cp, .slice c.FA c.a.first.length c.cf, .int .i64 c.a.kinds, .slice c.RA c.rs.length c.rc, c.cl, c.nx, v.ve, v.vo, .map (some c.bm), .slice c.HA c.rs.length c.hc]
/-- the sets behind the states, each readable -/
def OpenV (w : World) (S : Nat → Prop) (els : List Value) (opens : List (List Int)) : Prop :=
  els.length = opens.length ∧ ∀ i (h : i < opens.length), ∃ Ai ci, els[i]? = some (.slice Ai opens[i].length ci) ∧ RO w S 1 Ai opens[i].length (opens[i].map (Value.int .i64))
theorem OpenV.only {w w' : World} {S S' S2 : Nat → Prop} {els : List Value} {opens : List (List Int)} (h : OpenV w S els opens) (ho : Only S' w w') (h1 : ∀ b, b < w.heap.size → S' b → S b) (h2 : ∀ b, b < w.heap.size → S2 b → S b) : OpenV w' S2 els opens := by
  refine ⟨h.1, fun i hi => ?_⟩
  obtain ⟨Ai, ci, e, hr⟩ := h.2 i hi
  refine ⟨Ai, ci, e, hr.1, fun hn => ?_⟩
  obtain ⟨b, off, e1, hb, hns, hc⟩ := hr.2 hn
  exact ⟨b, off, e1, Nat.lt_of_lt_of_le hb ho.size, fun e => hns (h2 b hb e), fun j u hu => (ho.cell hb fun e => hns (h1 b hb e)).trans (hc j u hu)⟩
theorem OpenV.push {w : World} {S : Nat → Prop} {els : List Value} {opens : List (List Int)} (h : OpenV w S els opens) {o : List Int} {A : Option Addr} {c : Nat} (hr : RO w S 1 A o.length (o.map (Value.int .i64))) : OpenV w S (els ++ [.slice A o.length c]) (opens ++ [o]) := by
  refine ⟨by simp [h.1], fun i hi => ?_⟩
  by_cases e : i < opens.length
  · obtain ⟨Ai, ci, e1, hr'⟩ := h.2 i e
    refine ⟨Ai, ci, ?_, ?_⟩
    · rw [List.getElem?_append_left (by rw [h.1]; exact e), List.getElem_append_left e]; exact e1
    · rw [List.getElem_append_left e]; exact hr'
  · have e2 : i = opens.length := by simp at hi; omega
    subst e2
    refine ⟨A, c, ?_, ?_⟩
    · rw [List.getElem?_append_right (by rw [h.1]; exact Nat.le_refl _), h.1]; simp
    · simpa using hr
structure MkSt (c : Ctx) (v : Vr) (m : Mk) (w : World) : Prop where
  blk : w.heap[c.M]? = some (.cells (mkCells c v) 74 (0, 0))
  pls : PlsR w c.B0 c.PA c.a.places
  fst : Reads w c.B0 1 c.FA c.a.first.length (c.a.first.map (Value.int .i64))
  own : ∃ els, w.ownsRow c.B0 23 1 v.vo m.opens.length els ∧ OpenV w (SX c v) els m.opens
  ends : w.ownsRow c.B0 3 1 v.ve m.ends.length (m.ends.map (Value.int .i64))
  map : w.ownsMap Tryz.prog 9 (plainElem (H := Unit) Tryz.prog 3) c.bm v.n v.D
  names : NamesOK v.D m.opens
  n_le : v.n ≤ m.opens.length
  one : 1 ≤ m.opens.length
  hM : c.B0 ≤ c.M
  hbm : c.B0 ≤ c.bm
  hB : c.B0 ≤ w.heap.size
  holds : RRO Value.bool w (SX c v) c.HA (holdsOf c.a c.rs)
theorem MkSt.M_lt {c : Ctx} {v : Vr} {m : Mk} {w : World} (h : MkSt c v m w) : c.M < w.heap.size := by
  rcases Nat.lt_or_ge c.M w.heap.size with h' | h'
  · exact h'
  · have := h.blk; rw [Array.getElem?_eq_none h'] at this; cases this
theorem MkSt.cell {c : Ctx} {v : Vr} {m : Mk} {w : World} (h : MkSt c v m w) (j : Nat) : w.cell? ⟨c.M, j, none⟩ = (mkCells c v)[j]? := by
  rw [Lib.cell_of_heap h.blk]
theorem MkSt.bm_ne {c : Ctx} {v : Vr} {m : Mk} {w : World} (h : MkSt c v m w) : c.M ≠ c.bm := by
  intro e
  obtain ⟨es, cl, hb, _⟩ := h.map
  rw [← e, h.blk] at hb
  injection hb with hb
  cases hb
theorem row_not_M {c : Ctx} {v : Vr} {m : Mk} {w : World} (h : MkSt c v m w) {B s n : Nat} {e : TypeId} {u : Value} {xs : List Value} (hr : w.ownsRow B e s u n xs) (he : e ≠ 74) : u.ownBlock ≠ some c.M := by
  intro e1
  rcases hr.2 with ⟨hv, _⟩ | ⟨g, cap, cur, hv, _, hh, _⟩
  · rw [hv] at e1; cases e1
  · rw [hv] at e1
    have e1 : some g = some c.M := e1
    injection e1 with e1
    rw [e1, h.blk] at hh
    injection hh with hh
    injection hh with _ h2
    exact he h2.symm
theorem row_not_bm {c : Ctx} {v : Vr} {m : Mk} {w : World} (h : MkSt c v m w) {B s n : Nat} {e : TypeId} {u : Value} {xs : List Value} (hr : w.ownsRow B e s u n xs) : u.ownBlock ≠ some c.bm := by
  intro e1
  obtain ⟨es, cl, hb, _⟩ := h.map
  rcases hr.2 with ⟨hv, _⟩ | ⟨g, cap, cur, hv, _, hh, _⟩
  · rw [hv] at e1; cases e1
  · rw [hv] at e1
    have e1 : some g = some c.bm := e1
    injection e1 with e1
    rw [e1, hb] at hh
    injection hh with hh
    cases hh
theorem MkSt.SB_ge {c : Ctx} {v : Vr} {m : Mk} {w : World} (h : MkSt c v m w) {k : Nat} (hk : SB c v k) : c.B0 ≤ k ∧ k < w.heap.size := by
  obtain ⟨els, ho, _⟩ := h.own
  rcases hk with rfl | rfl | e | e
  · exact ⟨h.hM, h.M_lt⟩
  · exact ⟨h.hbm, h.map.lt⟩
  · exact ho.lt k e
  · exact h.ends.lt k e
theorem MkSt.below {c : Ctx} {v : Vr} {m : Mk} {w w' : World} (h : MkSt c v m w) (hb : Below w.heap.size w w') : MkSt c v m w' := by
  have ho : Only (fun _ => False) w w' := ⟨hb.os, hb.tape, hb.output, hb.size, fun k hk _ => hb.block k hk⟩
  obtain ⟨els, h1, h2⟩ := h.own
  exact { h with
    blk := (hb.block _ h.M_lt).trans h.blk
    pls := h.pls.below ⟨hb.os, hb.tape, hb.output, hb.size, fun k hk => hb.block k (Nat.lt_of_lt_of_le hk h.hB)⟩
    fst := h.fst.below ⟨hb.os, hb.tape, hb.output, hb.size, fun k hk => hb.block k (Nat.lt_of_lt_of_le hk h.hB)⟩
    own := ⟨els, ownsRow_only h1 ho (fun _ _ e => e), h2.only ho (fun _ _ e => e.elim) (fun _ _ e => e)⟩
    ends := ownsRow_only h.ends ho (fun _ _ e => e)
    map := ownsMap_only h.map ho (fun e => e)
    hB := Nat.le_trans h.hB hb.size
    holds := by
      exact h.holds.only (ho.more (S' := SX c v) (fun _ _ e => e.elim)) (fun _ _ e => e) }
/-- what is turned in the blocks that may be turned leaves the rest -/
theorem MkSt.turn {c : Ctx} {v v' : Vr} {m m' : Mk} {w w' : World} (h : MkSt c v m w) (ho : Only (SB c v) w w') (hf : ∀ k, SB c v' k → SB c v k ∨ w.heap.size ≤ k)
    (blk : w'.heap[c.M]? = some (.cells (mkCells c v') 74 (0, 0)))
    (own : ∃ els, w'.ownsRow c.B0 23 1 v'.vo m'.opens.length els ∧ OpenV w (SX c v) els m'.opens)
    (ends : w'.ownsRow c.B0 3 1 v'.ve m'.ends.length (m'.ends.map (Value.int .i64)))
    (map : w'.ownsMap Tryz.prog 9 (plainElem (H := Unit) Tryz.prog 3) c.bm v'.n v'.D)
    (names : NamesOK v'.D m'.opens) (n_le : v'.n ≤ m'.opens.length) (one : 1 ≤ m'.opens.length) : MkSt c v' m' w' := by
  have hge : ∀ k, SB c v k → c.B0 ≤ k := fun k hk => (h.SB_ge hk).1
  have hb : Below c.B0 w w' := ho.below' hge h.hB
  have hX : ∀ b, b < w.heap.size → SX c v' b → SX c v b := fun b hb' hx => by
    rcases hx with hx | hx
    · rcases hf b hx with e | e
      · exact .inl e
      · omega
    · exact .inr hx
  obtain ⟨els, h1, h2⟩ := own
  exact ⟨blk, h.pls.below hb, h.fst.below hb, ⟨els, h1, h2.only ho (fun _ _ e => .inl e) hX⟩, ends, map, names, n_le, one, h.hM, h.hbm, Nat.le_trans h.hB ho.size, h.holds.only (ho.more fun _ _ e => .inl e) hX⟩
theorem keep_set {w : World} {B s n : Nat} {e : TypeId} {u : Value} {xs : List Value} (h : w.ownsRow B e s u n xs) {b o : Nat} {x : Value} (hne : u.ownBlock ≠ some b) : (w.setCell ⟨b, o, none⟩ x).ownsRow B e s u n xs :=
  ownsRow_only h (Only.of_set w b o x) fun _ e1 e2 => hne (by rw [e1, e2])
theorem MkSt.push_ends {c : Ctx} {vo ve : Value} {n : Nat} {D : DataW Unit} {m : Mk} {w w' : World} {g cg : Nat} {e : Int} (h : MkSt c ⟨vo, ve, n, D⟩ m w)
    (hown : w'.ownsRow c.B0 3 1 (.slice (some ⟨g, 0, none⟩) (m.ends.length + 1) cg) (m.ends.length + 1) (m.ends.map (Value.int .i64) ++ [.int .i64 e]))
    (hg : ve.ownBlock = some g ∨ w.heap.size ≤ g) (ho : Only (fun k => ve.ownBlock = some k) w w') :
    MkSt c ⟨vo, .slice (some ⟨g, 0, none⟩) (m.ends.length + 1) cg, n, D⟩ ⟨m.opens, m.ends ++ [e]⟩ (w'.setCell ⟨c.M, 6, none⟩ (.slice (some ⟨g, 0, none⟩) (m.ends.length + 1) cg)) ∧
      Only (SB c ⟨vo, ve, n, D⟩) w (w'.setCell ⟨c.M, 6, none⟩ (.slice (some ⟨g, 0, none⟩) (m.ends.length + 1) cg)) ∧
      ∀ k, SB c ⟨vo, .slice (some ⟨g, 0, none⟩) (m.ends.length + 1) cg, n, D⟩ k → SB c ⟨vo, ve, n, D⟩ k ∨ w.heap.size ≤ k := by
  have hMlt := h.M_lt
  have heM : ve.ownBlock ≠ some c.M := row_not_M h h.ends (by decide)
  have heb : ve.ownBlock ≠ some c.bm := row_not_bm h h.ends
  obtain ⟨els, hrow, hov⟩ := h.own
  have hoM : vo.ownBlock ≠ some c.M := row_not_M h hrow (by decide)
  have hoe := own_ne hrow h.ends (by decide)
  have hgM : (Value.slice (some ⟨g, 0, none⟩) (m.ends.length + 1) cg).ownBlock ≠ some c.M := by
    rcases hg with e | e
    · rw [e] at heM; exact heM
    · intro h2
      injection h2 with h2
      have h2 : g = c.M := h2
      omega
  have hS : Only (SB c ⟨vo, ve, n, D⟩) w (w'.setCell ⟨c.M, 6, none⟩ (.slice (some ⟨g, 0, none⟩) (m.ends.length + 1) cg)) :=
    (ho.more (S' := SB c ⟨vo, ve, n, D⟩) fun _ _ e => .inr (.inr (.inr e))).trans (Only.of_set _ _ _ _) fun _ _ e => .inl e
  have hf : ∀ k, SB c ⟨vo, .slice (some ⟨g, 0, none⟩) (m.ends.length + 1) cg, n, D⟩ k → SB c ⟨vo, ve, n, D⟩ k ∨ w.heap.size ≤ k := by
    rintro k (e | e | e | e)
    · exact .inl (.inl e)
    · exact .inl (.inr (.inl e))
    · exact .inl (.inr (.inr (.inl e)))
    · injection e with e
      have e : g = k := e
      subst e
      rcases hg with e | e
      · exact .inl (.inr (.inr (.inr e)))
      · exact .inr e
  refine ⟨?_, hS, hf⟩
  have hblk : w'.heap[c.M]? = some (.cells (mkCells c ⟨vo, ve, n, D⟩) 74 (0, 0)) := (ho.block c.M hMlt heM).trans h.blk
  refine h.turn hS hf ?_ ⟨els, ?_, hov⟩ ?_ ?_ h.names h.n_le h.one
  · exact heap_setCell_same w' c.M 6 _ _ _ hblk
  · exact keep_set (ownsRow_only hrow ho fun k e1 e2 => by rcases hoe with e | e; exact (by rw [e] at e1; cases e1); exact e (by rw [e1, e2])) hoM
  · have := keep_set (o := 6) (x := .slice (some ⟨g, 0, none⟩) (m.ends.length + 1) cg) hown hgM
    simpa using this
  · exact ownsMap_only (ownsMap_only h.map ho heb) (Only.of_set _ _ _ _) (fun e => h.bm_ne e.symm)
theorem MkSt.push_open {c : Ctx} {vo ve : Value} {n : Nat} {D : DataW Unit} {m : Mk} {w w2 w' : World} {g cg : Nat} {l : List Int} {A : Option Addr} {ca : Nat} (h : MkSt c ⟨vo, ve, n, D⟩ m w)
    (hf0 : findName m.opens l = none) (hr : RO w (SX c ⟨vo, ve, n, D⟩) 1 A l.length (l.map (Value.int .i64)))
    (hg2 : w.grownBy w2 (some c.bm)) (hmap2 : w2.ownsMap Tryz.prog 9 (plainElem (H := Unit) Tryz.prog 3) c.bm (n + 1) (D.put (keyL l) (.lit (.int .i64 m.opens.length))))
    (els : List Value) (hov : OpenV w (SX c ⟨vo, ve, n, D⟩) els m.opens)
    (hown : w'.ownsRow c.B0 23 1 (.slice (some ⟨g, 0, none⟩) (m.opens.length + 1) cg) (m.opens.length + 1) (els ++ [.slice A l.length ca]))
    (hg : vo.ownBlock = some g ∨ w2.heap.size < g) (ho : Only (fun k => vo.ownBlock = some k) w2 w') :
    MkSt c ⟨.slice (some ⟨g, 0, none⟩) (m.opens.length + 1) cg, ve, n + 1, D.put (keyL l) (.lit (.int .i64 m.opens.length))⟩ ⟨m.opens ++ [l], m.ends⟩ (w'.setCell ⟨c.M, 7, none⟩ (.slice (some ⟨g, 0, none⟩) (m.opens.length + 1) cg)) ∧
      Only (SB c ⟨vo, ve, n, D⟩) w (w'.setCell ⟨c.M, 7, none⟩ (.slice (some ⟨g, 0, none⟩) (m.opens.length + 1) cg)) ∧
      ∀ k, SB c ⟨.slice (some ⟨g, 0, none⟩) (m.opens.length + 1) cg, ve, n + 1, D.put (keyL l) (.lit (.int .i64 m.opens.length))⟩ k → SB c ⟨vo, ve, n, D⟩ k ∨ w.heap.size ≤ k := by
  have hMlt := h.M_lt
  have heM : ve.ownBlock ≠ some c.M := row_not_M h h.ends (by decide)
  have heb : ve.ownBlock ≠ some c.bm := row_not_bm h h.ends
  obtain ⟨els0, hrow, _⟩ := h.own
  have hoM : vo.ownBlock ≠ some c.M := row_not_M h hrow (by decide)
  have hob : vo.ownBlock ≠ some c.bm := row_not_bm h hrow
  have hoe := own_ne h.ends hrow (by decide)
  have hMb := h.bm_ne
  have hsz := hg2.size
  have hgM : (Value.slice (some ⟨g, 0, none⟩) (m.opens.length + 1) cg).ownBlock ≠ some c.M := by
    rcases hg with e | e
    · rw [e] at hoM; exact hoM
    · intro h2
      injection h2 with h2
      have h2 : g = c.M := h2
      omega
  have ho2 : Only (fun k => k = c.bm) w w2 := (Only.of_grown hg2).more fun _ _ e => by injection e
  have hS1 : Only (SB c ⟨vo, ve, n, D⟩) w w' := (ho2.more (S' := SB c ⟨vo, ve, n, D⟩) fun _ _ e => .inr (.inl e)).trans ho fun _ _ e => .inr (.inr (.inl e))
  have hS : Only (SB c ⟨vo, ve, n, D⟩) w (w'.setCell ⟨c.M, 7, none⟩ (.slice (some ⟨g, 0, none⟩) (m.opens.length + 1) cg)) := hS1.trans (Only.of_set _ _ _ _) fun _ _ e => .inl e
  have hf : ∀ k, SB c ⟨.slice (some ⟨g, 0, none⟩) (m.opens.length + 1) cg, ve, n + 1, D.put (keyL l) (.lit (.int .i64 m.opens.length))⟩ k → SB c ⟨vo, ve, n, D⟩ k ∨ w.heap.size ≤ k := by
    rintro k (e | e | e | e)
    · exact .inl (.inl e)
    · exact .inl (.inr (.inl e))
    · injection e with e
      have e : g = k := e
      subst e
      rcases hg with e | e
      · exact .inl (.inr (.inr (.inl e)))
      · exact .inr (by omega)
    · exact .inl (.inr (.inr (.inr e)))
  refine ⟨?_, hS, hf⟩
  have hblk : w'.heap[c.M]? = some (.cells (mkCells c ⟨vo, ve, n, D⟩) 74 (0, 0)) := (ho.block c.M (by omega) hoM).trans ((ho2.block c.M hMlt hMb).trans h.blk)
  refine h.turn hS hf ?_ ⟨_, ?_, hov.push (c := ca) hr⟩ ?_ ?_ (h.names.put h.one hf0) ?_ (by simp)
  · exact heap_setCell_same w' c.M 7 _ _ _ hblk
  · have := keep_set (o := 7) (x := .slice (some ⟨g, 0, none⟩) (m.opens.length + 1) cg) hown hgM
    simpa using this
  · refine keep_set (ownsRow_only (ownsRow_only h.ends ho2 fun k e1 e2 => heb (by rw [e1, e2])) ho fun k e1 e2 => ?_) heM
    rcases hoe with e | e
    · rw [e] at e1; cases e1
    · exact e (by rw [e1, e2])
  · exact ownsMap_only (ownsMap_only hmap2 ho hob) (Only.of_set _ _ _ _) (fun e => hMb e.symm)
  · have := h.n_le; simp at this ⊢; omega
/-- what is turned in the rows of numbers leaves all -/
theorem MkSt.side {c : Ctx} {v : Vr} {m : Mk} {w w' : World} {S : Nat → Prop} (h : MkSt c v m w) (ho : Only S w w') (hS : ∀ k, S k → ¬ SB c v k ∧ SX c v k ∧ c.B0 ≤ k) : MkSt c v m w' := by
  have hb : Below c.B0 w w' := ho.below' (fun k hk => (hS k hk).2.2) h.hB
  obtain ⟨els, h1, h2⟩ := h.own
  have hX : ∀ b, b < w.heap.size → S b → SX c v b := fun b _ e => (hS b e).2.1
  refine ⟨(ho.block _ h.M_lt fun e => (hS _ e).1 (.inl rfl)).trans h.blk, h.pls.below hb, h.fst.below hb, ⟨els, ownsRow_only h1 ho fun k e1 e2 => (hS k e2).1 (.inr (.inr (.inl e1))), h2.only ho hX fun _ _ e => e⟩,
    ownsRow_only h.ends ho fun k e1 e2 => (hS k e2).1 (.inr (.inr (.inr e1))), ownsMap_only h.map ho fun e => (hS _ e).1 (.inr (.inl rfl)), h.names, h.n_le, h.one, h.hM, h.hbm, Nat.le_trans h.hB ho.size, h.holds.only (ho.more hX) fun _ _ e => e⟩
theorem RO.other {w : World} {S S' : Nat → Prop} {size n : Nat} {A : Option Addr} {xs : List Value} (h : RO w S size A n xs) (hS : ∀ b, b < w.heap.size → S' b → S b) : RO w S' size A n xs :=
  ⟨h.1, fun hn => by
    obtain ⟨b, off, e, hb, hns, hc⟩ := h.2 hn
    exact ⟨b, off, e, hb, fun e => hns (hS b hb e), hc⟩⟩
/-- .. seen by another eye -/
theorem MkSt.eye {c : Ctx} {v : Vr} {m : Mk} {w : World} {r : Option Nat} (h : MkSt c v m w) (hr : ∀ k, k < w.heap.size → r = some k → SX c v k) : MkSt { c with ro := r } v m w := by
  obtain ⟨els, h1, h2⟩ := h.own
  have hX : ∀ b, b < w.heap.size → SX { c with ro := r } v b → SX c v b := fun b hb e => by
    rcases e with e | e | e
    · exact .inl e
    · exact .inr (.inl e)
    · exact hr b hb e
  exact ⟨h.blk, h.pls, h.fst, ⟨els, h1, h2.only (S' := fun _ => False) ⟨rfl, rfl, rfl, Nat.le_refl _, fun _ _ _ => rfl⟩ (fun _ _ e => e.elim) hX⟩, h.ends, h.map, h.names, h.n_le, h.one, h.hM, h.hbm, h.hB,
    h.holds.only (S := SX c v) (Only.refl _ _) hX⟩
end Go.Proofs.YtoclbcfgfaialaaGreatDoor
