/-
  Subsets: state: the walk.
-/
import Derived.Test.YtoclbcfgfaialaaGreatDoorMk
import Derived.Deep.RegionHeld3
namespace Go.Proofs.YtoclbcfgfaialaaGreatDoor
open Go.RowKit Go.Maps
set_option maxRecDepth 100000
/-- what stands behind the making of a state -/
def StPost (c : Ctx) (v : Vr) (w : World) (m' : Mk) (w' : World) : Prop := ∃ v', MkSt c v' m' w' ∧ Only (SB c v) w w' ∧ ∀ k, SB c v' k → SB c v k ∨ w.heap.size ≤ k
/-- 'out = append(out, x)' at one operation: see wpList_push4 -/
theorem wp_push4 {P : Program} (w : World) {o : Oper} {a : Act} {K : Act → World → Prop} {Q : Exit → Act → World → Prop} (s x : Operand) (t : TypeId)
    (ho : o.op = .call { callee := .builtin .append, args := #[s, x], argTypes := #[t, t] })
    (base : Nat) (e : TypeId) (i : TypeInfo) (z : Value) (size bytes : Nat) (ht : P.underlying t = some (.slice e)) (hi : P.info? e = some i) (hz : i.zero = some z)
    (hsize : i.size = size) (hby : i.bytes = bytes) (hzs : z.cells.size = size) (hsz : 0 < size)
    (v : Value) (n : Nat) (xs : List Value) (hs : a.eval s = v) (hown : w.ownsRow base e size v n xs)
    (cs : List Value) (m : Nat) (b : Nat) (hx : a.eval x = .slice (some ⟨b, 0, none⟩) m m) (hbs : b = w.heap.size) (hl : cs.length = m * size) (h1 : ∀ u ∈ cs, u.oneCell' = true) (hm : 0 < m)
    (h63 : n + m ≤ maxLen) (hbytes : (n + m) * bytes ≤ 140737488355328) (hbase : base ≤ w.heap.size)
    (h : ∀ g c w', w'.ownsRow base e size (.slice (some ⟨g, 0, none⟩) (n + m) c) (n + m) (xs ++ cs) → (v.ownBlock = some g ∨ w.heap.size < g) → Only (fun k => v.ownBlock = some k) w w' → K (a.put o.dst (.slice (some ⟨g, 0, none⟩) (n + m) c)) w') : o.wp P a (w.alloc (.cells cs.toArray e)) K Q := by
  rw [hbs] at hx
  have hnews : ∀ (j : Nat) (u : Value), cs[j]? = some u → (w.alloc (.cells cs.toArray e)).cell? ((⟨w.heap.size, 0, none⟩ : Addr).add j) = some u := by
    intro j u hu
    have : (⟨w.heap.size, 0, none⟩ : Addr).add j = ⟨w.heap.size, j, none⟩ := by
      unfold Addr.add; by_cases h : j = 0 <;> simp [h]
    rw [this, cell_new]
    simpa using hu
  obtain ⟨v', w', hr, ho', hg, _, hblk⟩ := run_append_own_at (P := P) (w.alloc (.cells cs.toArray e)) base t o.type e i z size bytes ht hi hz hsize hby hzs hsz v n xs (hown.alloc _) ⟨w.heap.size, 0, none⟩ m m cs hl hnews h1 h63 hbytes (by simp; omega)
  unfold Oper.wp execOp
  simp only [ho, resolve, invoke, builtin, Sem.run_bind, Sem.run_pure, Result.andThen_ok, List.map_toArray, List.map_cons, List.map_nil, hs, hx, hr]
  rcases ho'.2 with ⟨_, h0⟩ | ⟨g, c, cur, hv, hrest⟩
  · omega
  · subst hv
    refine h g c w' ho' ?_ ⟨hg.os, hg.tape, hg.output, by have := hg.size; simp at this; omega, fun k hk hn => ?_⟩
    · rcases hblk with h2 | h2
      · exact .inl (by rw [← h2]; rfl)
      · refine .inr ?_
        have h2 : some g = some (w.alloc (.cells cs.toArray e)).heap.size := h2
        injection h2 with h2
        rw [h2]; simp
    · rw [hg.block k (by simp; omega) (fun e => hn e.symm)]
      exact Below.heap_alloc w _ _ hk
theorem step_push4 {P : Program} (w : World) {ops : Array Oper} {o : Oper} {a : Act} {K : Act → World → Prop} {Q : Exit → Act → World → Prop} {E : Prop} (hgd : o.guard = none) (s x : Operand) (t : TypeId)
    (ho : o.op = .call { callee := .builtin .append, args := #[s, x], argTypes := #[t, t] })
    (base : Nat) (e : TypeId) (i : TypeInfo) (z : Value) (size bytes : Nat) (ht : P.underlying t = some (.slice e)) (hi : P.info? e = some i) (hz : i.zero = some z)
    (hsize : i.size = size) (hby : i.bytes = bytes) (hzs : z.cells.size = size) (hsz : 0 < size)
    (v : Value) (n : Nat) (xs : List Value) (hs : a.eval s = v) (hown : w.ownsRow base e size v n xs)
    (cs : List Value) (m : Nat) (b : Nat) (hx : a.eval x = .slice (some ⟨b, 0, none⟩) m m) (hbs : b = w.heap.size) (hl : cs.length = m * size) (h1 : ∀ u ∈ cs, u.oneCell' = true) (hm : 0 < m)
    (h63 : n + m ≤ maxLen) (hbytes : (n + m) * bytes ≤ 140737488355328) (hbase : base ≤ w.heap.size)
    (h : ∀ g c w', w'.ownsRow base e size (.slice (some ⟨g, 0, none⟩) (n + m) c) (n + m) (xs ++ cs) → (v.ownBlock = some g ∨ w.heap.size < g) → Only (fun k => v.ownBlock = some k) w w' → K (a.put o.dst (.slice (some ⟨g, 0, none⟩) (n + m) c)) w') : if Region.wanted o (yielded ops a.tmps) = true then Oper.wp P o a (w.alloc (.cells cs.toArray e)) K Q else E := by
  have hw : Region.wanted o (yielded ops a.tmps) = true := by simp [Region.wanted, hgd]
  rw [if_pos hw]
  exact wp_push4 w s x t ho base e i z size bytes ht hi hz hsize hby hzs hsz v n xs hs hown cs m b hx hbs hl h1 hm h63 hbytes hbase h
theorem row_form {w : World} {B s n : Nat} {e : TypeId} {u : Value} {xs : List Value} (h : w.ownsRow B e s u n xs) : ∃ A c, u = .slice A n c := by
  rcases h.2 with ⟨rfl, rfl⟩ | ⟨g, c, _, rfl, _⟩
  · exact ⟨_, _, rfl⟩
  · exact ⟨_, _, rfl⟩
set_option maxHeartbeats 3200000 in
theorem state_any (c : Ctx) (v : Vr) (m : Mk) (A : Option Addr) (ca : Nat) (l : List Int) (w : World) (hm : l.length ≤ 1000) (hpl : c.a.places.length ≤ 100) (hp : Hid (∀ p ∈ l, 0 ≤ p ∧ p < c.a.places.length)) (hN : m.opens.length ≤ 2000000) (hE : Hid (m.ends.length = m.opens.length))
    (h : MkSt c v m w) (hr : RO w (SX c v) 1 A l.length (l.map (Value.int .i64))) :
    Calls Tryz.prog 65 #[.pointer (some ⟨c.M, 0, none⟩), .slice A l.length ca] w fun e w' => e = .returned (.int .i64 (stateM c.a m l).2) ∧ StPost c v w (stateM c.a m l).1 w' := by
  have hp100 : Hid (∀ p ∈ l, 0 ≤ p ∧ p < 100) := hid fun p hp' => ⟨(hp.out p hp').1, by have := (hp.out p hp').2; omega⟩
  have hnl : (nameL l).length ≤ 3000 := by
    have := nameL_len hp100.out
    omega
  have hkey : keyOf Tryz.prog 9 (.string ⟨(nameL l).toArray⟩) = some (keyL l) := WideMaps.keyOf_string_mk Tryz.underlying9 (by show (nameL l).toArray.size ≤ maxLen; simp only [List.size_toArray, maxLen]; omega)
  go_enter Tryz.func65, Tryz.ntmps65
  go_wp2_with fail
  refine (name_any A ca l _ hm hp100 hr.reads).mono ?_
  rintro e w1 ⟨rfl, hb1⟩
  have h1 := h.below hb1
  have hr1 : RO w1 (SX c v) 1 A l.length (l.map (Value.int .i64)) := hr.only (Only.of_below hb1) (fun _ _ e => e)
  have c8 : w1.cell? ⟨c.M, 8, none⟩ = some (.map (some c.bm)) := h1.cell 8
  have hmap := h1.map
  cases hf : findName m.opens l with
  | some s =>
    obtain ⟨hhas, hat0⟩ := h1.names.some hf
    have hst : stateM c.a m l = (m, (s : Int)) := by unfold stateM; rw [hf]
    have HST := hid hst
    clear hst
    go_wp2_with (at_lookup; refine wpList_lookup_own_ok_int _ rfl _ _ 72 rfl 9 3 .i64 lawStr Tryz.underlying72 Tryz.underlying3 (zeroInt _) c.bm v.n v.D rfl hmap _ _ rfl hkey ?_; intro cL hat hwc; rw [hhas])
    have hcl : cL = s := by
      rw [hat0] at hat
      injection hat with hat
      injection hat with _ hat
      exact hat.symm
    subst hcl
    go_wp2
    go_ret
    rw [HST.out]
    exact ⟨rfl, v, h1, Only.of_below hb1, fun k hk => .inl hk⟩
  | none =>
    have hhas := h1.names.none hf
    have hst : stateM c.a m l = ((⟨m.opens ++ [l], m.ends ++ [endOf c.a l]⟩ : Mk), (m.opens.length : Int)) := by unfold stateM; rw [hf]
    have HST := hid hst
    clear hst
    have hnle := h1.n_le
    have hput := h1.names.put h1.one hf
    obtain ⟨els, hown, hov⟩ := h1.own
    have hends := h1.ends
    have hMlt := h1.M_lt
    have hne := h1.bm_ne
    have hblk := h1.blk
    have hB := h1.hB
    obtain ⟨vo, ve, n, D⟩ := v
    obtain ⟨Ao, co, rfl⟩ := row_form hown
    obtain ⟨Ae, ce, rfl⟩ := row_form hends
    simp only at hnle hput hmap hhas
    have c7 : w1.cell? ⟨c.M, 7, none⟩ = some (.slice Ao m.opens.length co) := h1.cell 7
    have hwf : (Lit.int .i64 (m.opens.length : Int)).wf = true := WalkArith.wf_i64 (by omega)
    have hnM := row_not_M h1 hown (by decide)
    have hnb := row_not_bm h1 hown
    have heM := row_not_M h1 hends (by decide)
    have heb := row_not_bm h1 hends
    have hoe := own_ne hown hends (by decide)
    have hnmax : n < maxLen := by simp only [maxLen]; omega
    have hneM : some c.M ≠ some c.bm := fun e => hne (by injection e)
    have hgc : ∀ w2, w1.grownBy w2 (some c.bm) → w2.cell? ⟨c.M, 7, none⟩ = some (.slice Ao m.opens.length co) := fun w2 hg => hg.cell c7 hneM
    obtain ⟨i1, hi1, hz1, hs1, hy1⟩ := info_parts infoInts
    obtain ⟨i2, hi2, hz2, hs2, hy2⟩ := info_parts infoInt
    have hown' : ∀ w2, w1.grownBy w2 (some c.bm) → w2.ownsRow c.B0 23 1 (.slice Ao m.opens.length co) m.opens.length els := fun w2 hg => hown.kept hg (.inr hnb)
    have hblk3 : ∀ w2 w3, w1.grownBy w2 (some c.bm) → Only (fun k => (Value.slice Ao m.opens.length co).ownBlock = some k) w2 w3 → w3.heap[c.M]? = some (.cells (mkCells c ⟨.slice Ao m.opens.length co, .slice Ae m.ends.length ce, n, D⟩) 74 (0, 0)) := fun w2 w3 hg ho => (ho.block c.M (Nat.lt_of_lt_of_le hMlt hg.size) hnM).trans ((hg.block c.M hMlt hneM).trans hblk)
    have hB' : ∀ w2, w1.grownBy w2 (some c.bm) → c.B0 ≤ w2.heap.size := fun w2 hg => Nat.le_trans hB hg.size
    have hmx : m.opens.length + 1 ≤ maxLen := by simp only [maxLen]; omega
    have hmy : (m.opens.length + 1) * 24 ≤ 140737488355328 := by omega
    go_wp2_with (first
      | (at_lookup; refine wpList_lookup_own_ok_int _ rfl _ _ 72 rfl 9 3 .i64 lawStr Tryz.underlying72 Tryz.underlying3 (zeroInt _) c.bm n D rfl hmap _ _ rfl hkey ?_; intro cL hat hwc; rw [hhas])
      | (at_mapUpdate; refine wpList_mapUpdate_own _ rfl _ _ _ 72 rfl 9 3 lawStr Tryz.underlying72 _ c.bm n D rfl hmap hnmax _ _ (keyL l) rfl rfl hkey _ [] (plainElem_int Tryz.underlying3 hwf) ?_; intro w2 hmap2 hg2; have d7 := hgc w2 hg2)
      | (at_builtin; refine wpList_push4 w2 rfl _ _ 29 rfl c.B0 23 i1 _ 1 24 Tryz.underlying29 hi1 hz1 hs1 hy1 rfl (by omega) (.slice Ao m.opens.length co) _ _ rfl (hown' w2 hg2) [.slice A l.length ca] 1 _ rfl rfl rfl (by simp [Value.oneCell']) Nat.zero_lt_one hmx hmy (hB' w2 hg2) ?_; intro g3 c3 w3 hown3 hg3 ho3; have b3 := hblk3 w2 w3 hg2 ho3; have e7 : w3.cell? ⟨c.M, 7, none⟩ = some (.slice Ao m.opens.length co) := (by rw [Lib.cell_of_heap b3]; rfl); have z7 : w3.frozen? ⟨c.M, 7, none⟩ = false := Lib.frozen_of_heap b3 7))
    obtain ⟨h4, ho4, hf4⟩ := h1.push_open hf hr1 hg2 hmap2 els hov hown3 hg3 ho3
    clear hgc hown' hblk3 hB' d7 hat hwc hmap hhas c8 c7 hkey hg2 hmap2 hown3 hg3 ho3 b3 e7 z7 hov hown hends hput hblk hoe hnM hnb heM heb
    have hl4 : (Value.slice (some ⟨g3, 0, none⟩) (m.opens.length + 1) c3).ownBlock = some g3 := rfl
    generalize w3.setCell ⟨c.M, 7, none⟩ (.slice (some ⟨g3, 0, none⟩) (m.opens.length + 1) c3) = w4 at h4 ho4 ⊢
    generalize hv4 : Value.slice (some ⟨g3, 0, none⟩) (m.opens.length + 1) c3 = vo4 at h4 hf4 ⊢
    generalize D.put (keyL l) (.lit (.int .i64 m.opens.length)) = D4 at h4 hf4
    clear hv4 hl4
    have c0 : w4.cell? ⟨c.M, 0, none⟩ = some (.slice c.PA c.a.places.length c.cp) := h4.cell 0
    have c6 : w4.drew.cell? ⟨c.M, 6, none⟩ = some (.slice Ae m.ends.length ce) := h4.cell 6
    have hM4 := h4.M_lt
    have hM4d : c.M < w4.drew.heap.size := hM4
    have hP4 := h4.pls.more h4.hB
    have hr4 : Reads w4 w4.heap.size 1 A l.length (l.map (Value.int .i64)) := by
      have := (hr1.only (ho4.more (S' := SX c ⟨.slice Ao m.opens.length co, .slice Ae m.ends.length ce, n, D⟩) fun _ _ e => .inl e) (S' := SX c ⟨.slice Ao m.opens.length co, .slice Ae m.ends.length ce, n, D⟩) (fun _ _ e => e)).reads
      exact this
    have hends4 : Hid (∀ w5, Below w4.heap.size w4 w5 → MkSt c ⟨vo4, .slice Ae m.ends.length ce, n + 1, D4⟩ ⟨m.opens ++ [l], m.ends⟩ w5) := hid fun w5 hb => h4.below hb
    have hmx2 : m.ends.length + 1 ≤ maxLen := by have := hE.out; simp only [maxLen]; omega
    have hmy2 : (m.ends.length + 1) * 8 ≤ 140737488355328 := by have := hE.out; omega
    have heM : (Value.slice Ae m.ends.length ce).ownBlock ≠ some c.M := row_not_M h4 h4.ends (by decide)
    generalize hE4 : endOf c.a l = E4 at HST
    have HE4 := hid hE4
    clear hE4
    go_region_law
      (first
        | (go_simp; go_at_call 84; refine (ends_any c.M c.cp ca c.PA A c.a l w4.drew (by omega) hp hM4 c0 hP4 hr4).mono ?_; rw [HE4.out]; rintro e w5 ⟨rfl, hb5⟩; have c65 : w5.cell? ⟨c.M, 6, none⟩ = some (.slice Ae m.ends.length ce) := (hb5.cell (p := ⟨c.M, 6, none⟩) hM4).trans c6; have hM5 : c.M < w5.heap.size := Nat.lt_of_lt_of_le hM4 hb5.size; have h5 := hends4.out w5 ⟨hb5.os, hb5.tape, hb5.output, hb5.size, hb5.block⟩; dsimp only)
        | (refine step_push4 w5 rfl _ _ 23 rfl c.B0 3 i2 _ 1 8 Tryz.underlying23 hi2 hz2 hs2 hy2 rfl (by omega) (.slice Ae m.ends.length ce) _ _ rfl h5.ends [.int .i64 E4] 1 _ rfl rfl rfl (by simp [Value.oneCell']) Nat.zero_lt_one hmx2 hmy2 h5.hB ?_; intro g6 c6 w6 hown6 hg6 ho6; have c66 : w6.cell? ⟨c.M, 6, none⟩ = some (.slice Ae m.ends.length ce) := (ho6.cell hM5 heM).trans c65; have z66 : w6.frozen? ⟨c.M, 6, none⟩ = false := Lib.frozen_of_heap ((ho6.block c.M hM5 heM).trans h5.blk) 6))
    all_goals
      clear c66 z66 c65
      obtain ⟨h6, ho7, hf6⟩ := h5.push_ends hown6 (hg6.imp id fun e => Nat.le_of_lt e) ho6
      go_wp2
      go_ret
      rw [HST.out]
      have q1 : Only (SB c ⟨.slice Ao m.opens.length co, .slice Ae m.ends.length ce, n, D⟩) w w4 := (Only.of_below hb1).trans ho4 fun _ _ e => e
      have q2 : Only (SB c ⟨vo4, .slice Ae m.ends.length ce, n + 1, D4⟩) w4 w5 := ⟨hb5.os, hb5.tape, hb5.output, hb5.size, fun k hk _ => hb5.block k hk⟩
      have s1 := hb1.size
      have s4 := ho4.size
      have s5 := q2.size
      refine ⟨rfl, _, h6, (q1.trans q2 fun b hb e => ?_).trans ho7 (fun b hb e => ?_), fun k hk => ?_⟩
      · rcases hf4 b e with e | e
        · exact e
        · omega
      · rcases hf4 b e with e | e
        · exact e
        · omega
      · rcases hf6 k hk with e | e
        · rcases hf4 k e with e | e
          · exact .inl e
          · exact .inr (by omega)
        · exact .inr (by omega)
end Go.Proofs.YtoclbcfgfaialaaGreatDoor
