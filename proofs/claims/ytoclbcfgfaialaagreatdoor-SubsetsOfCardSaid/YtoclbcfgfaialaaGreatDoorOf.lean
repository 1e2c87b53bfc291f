/-
  Subsets: Of: the walk.
-/
import Derived.Test.YtoclbcfgfaialaaGreatDoorOfLaw
namespace Go.Proofs.YtoclbcfgfaialaaGreatDoor
open Go.RowKit Go.Maps
set_option maxRecDepth 100000
def emptyT : Value := .agg #[.slice none 0 0, .slice none 0 0, .slice none 0 0, .slice none 0 0]
def rsOf (a : Au) : List Rg := splitOf ((a.places.map (·.set)).map neatOf)
/-- what a table is, as it lies in memory -/
structure TableAt (w : World) (base : Nat) (RA CA NA EA : Option Addr) (gs : List Nat) (rs : List Rg) (m : Mk) (rows : List (List Int)) : Prop where
  rng : OwnC w base 66 2 (.slice RA rs.length rs.length) rs.length (flat encR rs)
  cls : OwnC w base 3 1 (.slice CA rs.length rs.length) rs.length ((List.range rs.length).map fun i : Nat => Value.int .i64 (i : Int))
  nxt : OwnC w base 23 1 (.slice NA rows.length rows.length) rows.length (gs.map (rowV rs.length))
  row : RowsAt w (fun _ => False) base gs rows rs.length
  ends : OwnC w base 3 1 (.slice EA m.ends.length m.ends.length) m.ends.length (m.ends.map (Value.int .i64))
  dce : ∀ j, (Value.slice CA rs.length rs.length).ownBlock = some j → (Value.slice EA m.ends.length m.ends.length).ownBlock ≠ some j
  dcg : ∀ j, (Value.slice CA rs.length rs.length).ownBlock = some j → ∀ y ∈ gs, j ≠ y
  deg : ∀ y ∈ gs, (Value.slice EA m.ends.length m.ends.length).ownBlock ≠ some y
theorem rsOf_len (a : Au) (h : (a.places.map (·.set)).flatten.length ≤ 100000) : (rsOf a).length ≤ 200000 := by
  unfold rsOf splitOf
  have h1 := foldS_len ((a.places.map (·.set)).map neatOf) ((pairs (placesOf (endsOf ((a.places.map (·.set)).map neatOf)))).filter (heldB ((a.places.map (·.set)).map neatOf))) _ (Nat.le_refl _)
  rw [List.take_length] at h1
  have h2 := List.length_filter_le (heldB ((a.places.map (·.set)).map neatOf)) (pairs (placesOf (endsOf ((a.places.map (·.set)).map neatOf))))
  have h3 := pairs_len (placesOf (endsOf ((a.places.map (·.set)).map neatOf)))
  have h4 := placesOf_len (endsOf ((a.places.map (·.set)).map neatOf))
  have h5 := endsOf_len ((a.places.map (·.set)).map neatOf)
  have h6 := neats_len (a.places.map (·.set))
  omega
theorem set_le {a : Au} (h : (a.places.map (·.set)).flatten.length ≤ 100000) {p : Pl} (hp : p ∈ a.places) : p.set.length ≤ 100000 := by
  have h1 : p.set.Sublist (a.places.map (·.set)).flatten := List.sublist_flatten_of_mem (List.mem_map.2 ⟨p, hp, rfl⟩)
  exact Nat.le_trans h1.length_le h
def tableV (RA CA NA EA : Option Addr) (rs : List Rg) (m : Mk) (rows : List (List Int)) : Value := .agg #[.slice RA rs.length rs.length, .slice CA rs.length rs.length, .slice NA rows.length rows.length, .slice EA m.ends.length m.ends.length]
def OfPost (a : Au) (w : World) (e : Ending) (w' : World) : Prop :=
  Below w.heap.size w w' ∧
  ((mayB a = false ∧ e = .returned (.tuple #[emptyT, .int .i64 1])) ∨
   (mayB a = true ∧ tableM a (rsOf a) = none ∧ e = .returned (.tuple #[emptyT, .int .i64 3])) ∨
   (mayB a = true ∧ ∃ m rows RA CA NA EA gs, tableM a (rsOf a) = some (m, rows) ∧ e = .returned (.tuple #[tableV RA CA NA EA (rsOf a) m rows, .int .i64 0]) ∧ TableAt w' w.heap.size RA CA NA EA gs (rsOf a) m rows))
theorem ownC_not {w : World} {base : Nat} {e T : TypeId} {size : Nat} {v : Value} {n k : Nat} {xs : List Value} {cs : Array Value} (h : OwnC w base e size v n xs) (hk : w.heap[k]? = some (.cells cs T (0, 0))) (hne : e ≠ T) : v.ownBlock ≠ some k := by
  intro e1
  rcases h.2 with ⟨hv, _⟩ | ⟨g, cap, cur, hv, _, hh, _⟩
  · rw [hv] at e1; cases e1
  · rw [hv] at e1
    injection e1 with e1
    have e1 : g = k := e1
    rw [e1, hk] at hh
    injection hh with hh
    injection hh with _ h2
    exact hne h2.symm
theorem RowsAt.not {w : World} {S : Nat → Prop} {base n k : Nat} {gs : List Nat} {rows : List (List Int)} {cs : Array Value} {T : TypeId} (h : RowsAt w S base gs rows n) (hk : w.heap[k]? = some (.cells cs T (0, 0))) (hne : 3 ≠ T) : RowsAt w (fun j => j = k) base gs rows n :=
  ⟨h.len, h.rise, fun i hi => by
    obtain ⟨g, e, hb, hl, _, hr, hh⟩ := h.each i hi
    refine ⟨g, e, hb, hl, fun e => ?_, hr, hh⟩
    rw [e, hk] at hh
    injection hh with hh
    injection hh with _ h2
    exact hne h2.symm⟩
set_option maxHeartbeats 400000 in
theorem clipN_any (A : Option Addr) (n c : Nat) (w : World) (hc : n ≤ c) : Calls Tryz.prog 34 #[.slice A n c] w fun e w' => e = .returned (.slice A n n) ∧ w' = w := by
  go_enter Tryz.func34, Tryz.ntmps34
  go_wp2
  go_ret
  exact ⟨rfl, rfl⟩
set_option maxHeartbeats 400000 in
theorem clipL_any (A : Option Addr) (n c : Nat) (w : World) (hc : n ≤ c) : Calls Tryz.prog 35 #[.slice A n c] w fun e w' => e = .returned (.slice A n n) ∧ w' = w := by
  go_enter Tryz.func35, Tryz.ntmps35
  go_wp2
  go_ret
  exact ⟨rfl, rfl⟩
theorem set4 (w : World) (b : Nat) (T : TypeId) (x0 x1 x2 x3 y0 y1 y2 y3 : Value) (h : w.heap[b]? = some (.cells #[x0, x1, x2, x3] T (0, 0))) :
    ∃ w', Hid ((((w.setCell ⟨b, 0, none⟩ y0).setCell ⟨b, 1, none⟩ y1).setCell ⟨b, 2, none⟩ y2).setCell ⟨b, 3, none⟩ y3 = w') ∧ w'.heap[b]? = some (.cells #[y0, y1, y2, y3] T (0, 0)) ∧ Only (fun j => j = b) w w' := by
  refine ⟨_, hid rfl, ?_, ?_⟩
  · have h0 := heap_setCell_same w b 0 _ _ y0 h
    have h1 := heap_setCell_same _ b 1 _ _ y1 h0
    have h2 := heap_setCell_same _ b 2 _ _ y2 h1
    exact heap_setCell_same _ b 3 _ _ y3 h2
  · exact (((Only.of_set w b 0 y0).trans (Only.of_set _ b 1 y1) fun _ _ e => e).trans (Only.of_set _ b 2 y2) fun _ _ e => e).trans (Only.of_set _ b 3 y3) fun _ _ e => e
theorem cells4 {w : World} {b : Nat} {T : TypeId} {x0 x1 x2 x3 : Value} (h : w.heap[b]? = some (.cells #[x0, x1, x2, x3] T (0, 0))) :
    w.cell? ⟨b, 0, none⟩ = some x0 ∧ w.cell? ⟨b, 1, none⟩ = some x1 ∧ w.cell? ⟨b, 2, none⟩ = some x2 ∧ w.cell? ⟨b, 3, none⟩ = some x3 ∧ w.frozen? ⟨b, 0, none⟩ = false ∧ w.frozen? ⟨b, 1, none⟩ = false ∧ w.frozen? ⟨b, 2, none⟩ = false ∧ w.frozen? ⟨b, 3, none⟩ = false := by
  refine ⟨?_, ?_, ?_, ?_, Lib.frozen_of_heap h 0, Lib.frozen_of_heap h 1, Lib.frozen_of_heap h 2, Lib.frozen_of_heap h 3⟩ <;> (rw [Lib.cell_of_heap h]; rfl)
theorem infoBool : (Tryz.prog.info? 4).map (fun i => (i.zero, i.size, i.bytes)) = some (some (.bool false), 1, 1) := by kernel_rfl
theorem infoBools : (Tryz.prog.info? 56).map (fun i => (i.zero, i.size, i.bytes)) = some (some (.slice none 0 0), 1, 24) := by kernel_rfl
theorem made_bool (n : Nat) : madeCells #[Value.bool false] n = Array.replicate n (Value.bool false) := by
  apply Array.ext
  · simp [madeCells]
  · intro i h1 h2
    simp [madeCells, Nat.mod_one]
theorem four_allocs (w : World) (o1 o2 o3 o4 : Obj) : ∃ w', Hid ((((w.alloc o1).alloc o2).alloc o3).alloc o4 = w') ∧ w'.heap.size = w.heap.size + 4 ∧ w'.heap[w.heap.size]? = some o1 ∧ w'.heap[w.heap.size + 1]? = some o2 ∧ w'.heap[w.heap.size + 1 + 1]? = some o3 ∧ w'.heap[w.heap.size + 1 + 1 + 1]? = some o4 ∧ Below w.heap.size w w' := by
  have h1 : (w.alloc o1).heap.size = w.heap.size + 1 := by simp
  have h2 : ((w.alloc o1).alloc o2).heap.size = w.heap.size + 1 + 1 := by simp
  have h3 : (((w.alloc o1).alloc o2).alloc o3).heap.size = w.heap.size + 1 + 1 + 1 := by simp
  refine ⟨_, hid rfl, by simp, ?_, ?_, ?_, ?_, ?_⟩
  · rw [Below.heap_alloc _ _ _ (by omega), Below.heap_alloc _ _ _ (by omega), Below.heap_alloc _ _ _ (by omega), heap_alloc_new]
  · rw [Below.heap_alloc _ _ _ (by omega), Below.heap_alloc _ _ _ (by omega), ← h1, heap_alloc_new]
  · rw [Below.heap_alloc _ _ _ (by omega), ← h2, heap_alloc_new]
  · rw [← h3, heap_alloc_new]
  · exact (((below_new w o1).alloc (by omega) o2).alloc (by omega) o3).alloc (by omega) o4
theorem sets_ll {w wr : World} {B : Nat} {A : Option Addr} {ps : List Pl} {vs : List Value} (hv : ∀ i (h : i < ps.length), PlV w B vs i ps[i]) (hb : Below B w wr) (hB : B ≤ wr.heap.size)
    (hr : Reads wr wr.heap.size 1 A ps.length ((List.range ps.length).map fun j => vs.getD (j * 4) undef)) : LL wr A (ps.map (·.set)) := by
  refine ⟨_, by simpa using hr, fun i hi => ?_⟩
  have hi' : i < ps.length := by simpa using hi
  obtain ⟨SA, cs, FA, cf, e0, _, _, _, r0, _⟩ := hv i hi'
  refine ⟨SA, cs, ?_, ?_⟩
  · simp only [List.getElem?_map, List.getElem?_range hi', Option.map_some, List.getElem_map]
    rw [e0]; rfl
  · simp only [List.getElem_map]
    exact (r0.below hb).more hB
theorem mayB_follow {a : Au} (h : mayB a = true) {p : Pl} (hp : p ∈ a.places) : p.follow.length ≤ a.places.length := by
  simp only [mayB, Bool.and_eq_true, Bool.not_eq_true', List.any_eq_false] at h
  have h2 := h.2 p hp
  simp only [badP, Bool.not_eq_true', Bool.not_eq_false, Bool.and_eq_true, decide_eq_true_eq] at h2
  exact (risesB_good h2.2).len
set_option maxHeartbeats 6400000 in
theorem of_any (a : Au) (PA FA : Option Addr) (cp cf : Nat) (w : World) (hn : a.places.length ≤ 100) (hf : a.first.length ≤ 1000000) (hpf : Hid (∀ p ∈ a.places, p.follow.length ≤ 1000000)) (hsl : (a.places.map (·.set)).flatten.length ≤ 100000) (hwf : WfL (a.places.map (·.set)).flatten)
    (hp : PlsR w w.heap.size PA a.places) (hr : Reads w w.heap.size 1 FA a.first.length (a.first.map (Value.int .i64))) :
    Calls Tryz.prog 11 #[.agg #[.slice PA a.places.length cp, .slice FA a.first.length cf, .int .i64 a.kinds]] w fun e w' => OfPost a w e w' := by
  obtain ⟨q, hq⟩ : ∃ q, Hid (mayB a = q) := ⟨_, rfl⟩
  have hsl0 := hsl
  obtain ⟨wx, hwx⟩ : ∃ wx, Hid ((w.alloc (.cells #[.slice PA a.places.length cp, .slice FA a.first.length cf, .int .i64 a.kinds] 25)).alloc (.cells #[.slice none 0 0, .slice none 0 0, .slice none 0 0, .slice none 0 0] 43) = wx) := ⟨_, hid rfl⟩
  have hsx : wx.heap.size = w.heap.size + 2 := by rw [← hwx.out]; simp
  have hbx : Below w.heap.size w wx := by rw [← hwx.out]; exact ((Below.refl _ _).alloc (Nat.le_refl _) _).alloc (by simp) _
  have a0 : wx.heap[w.heap.size]? = some (.cells #[.slice PA a.places.length cp, .slice FA a.first.length cf, .int .i64 a.kinds] 25 (0, 0)) := by
    rw [← hwx.out, Below.heap_alloc _ _ _ (by simp), heap_alloc_new]
  have a1 : wx.heap[w.heap.size + 1]? = some (.cells #[.slice none 0 0, .slice none 0 0, .slice none 0 0, .slice none 0 0] 43 (0, 0)) := by
    rw [← hwx.out, ← size_alloc w (.cells #[.slice PA a.places.length cp, .slice FA a.first.length cf, .int .i64 a.kinds] 25), heap_alloc_new]
  go_enter Tryz.func11, Tryz.ntmps11
  go_wp2_with fail
  rw [hwx.out]
  clear hwx
  refine (may_any a PA FA cp cf wx (by omega) (by omega) (fun p hp' => by have := hpf.out p hp'; omega) ((hp.below hbx).more (by omega)) (hr.next hbx)).mono ?_
  rw [hq.out]
  rintro e w1 ⟨rfl, hb1⟩
  have hbw : Below w.heap.size w w1 := hbx.trans (hb1.mono hbx.size)
  have hs1 : w.heap.size + 2 ≤ w1.heap.size := by have := hb1.size; omega
  have b0 := (hb1.block w.heap.size (by omega)).trans a0
  have b1 := (hb1.block (w.heap.size + 1) (by omega)).trans a1
  clear a0 a1 hb1 hbx hsx
  cases q with
  | false =>
    obtain ⟨r0, r1, r2, r3, z0, z1, z2, z3⟩ := cells4 b1
    obtain ⟨w2, hw2, c1, ho2⟩ := set4 w1 (w.heap.size + 1) _ _ _ _ _ (.slice none 0 0) (.slice none 0 0) (.slice none 0 0) (.slice none 0 0) b1
    go_wp2_with fail
    rw [hw2.out]
    obtain ⟨s0, s1, s2, s3, _⟩ := cells4 c1
    clear hw2 r0 r1 r2 r3 z0 z1 z2 z3
    exact bodyPost_ret (v := .tuple #[emptyT, .int .i64 1]) (by simp [results, Tryz.results11, go_sem, s0, s1, s2, s3, emptyT]) rfl ⟨ho2.below (fun j e => by omega) hbw (by omega), .inl ⟨hq.out, rfl⟩⟩
  | true =>
    have hpf2 : Hid (∀ p ∈ a.places, p.follow.length ≤ 100) := hid fun p hp' => Nat.le_trans (mayB_follow hq.out hp') hn
    clear hpf
    have hpf := hpf2
    clear hpf2
    have p0 : w1.cell? ⟨w.heap.size, 0, none⟩ = some (.slice PA a.places.length cp) := by rw [Lib.cell_of_heap b0]; rfl
    have p1 : w1.cell? ⟨w.heap.size, 1, none⟩ = some (.slice FA a.first.length cf) := by rw [Lib.cell_of_heap b0]; rfl
    have p2 : w1.cell? ⟨w.heap.size, 2, none⟩ = some (.int .i64 a.kinds) := by rw [Lib.cell_of_heap b0]; rfl
    have hmm : ∀ u : World, (Instr.makeMap 72 none).run Tryz.prog u = .ok (.map (some u.heap.size)) (u.alloc (.map #[] 0)) := fun _ => rfl
    obtain ⟨w2, hw2, hs2, m1, m2, m3, m4, hb2⟩ := four_allocs w1 (.map #[] 0) (.cells #[.slice none 0 0] 23) (.cells #[.slice PA a.places.length cp, .slice FA a.first.length cf, .int .i64 a.kinds, .slice none 0 0, .slice none 0 0, .slice none 0 0, .slice (some ⟨w1.heap.size + 1 + 1 + 1, 0, none⟩) 1 1, .slice (some ⟨w1.heap.size + 1, 0, none⟩) 1 1, .map (some w1.heap.size), .slice none 0 0] 74) (.cells #[.int .i64 (-1)] 3)
    have q0 := (hb2.cell (p := ⟨w.heap.size, 0, none⟩) (show w.heap.size < w1.heap.size by omega)).trans p0
    have Q0 := hid q0
    rw [← hw2.out] at q0
    have hbw2 : Below w.heap.size w w2 := hbw.trans (hb2.mono hbw.size)
    have hB2 : w.heap.size ≤ w2.heap.size := by omega
    obtain ⟨vs, hvr, hvp⟩ := hp
    have b1' := (hb2.block (w.heap.size + 1) (by omega)).trans b1
    go_wp2_with fail
    rw [hw2.out]
    clear q0 hw2 hmm p1 p2
    have q0 := Q0.out
    obtain ⟨iS, hiS, hzS, hsS, hyS⟩ := info_parts infoS
    go_loopw [5, 31] (fun u i wr => ∃ k : Nat, k ≤ a.places.length ∧ i = .int .i64 k ∧ wr.ownsRow w2.heap.size 28 1 u k ((List.range k).map fun j => vs.getD (j * 4) undef) ∧ Below w2.heap.size w2 wr) (fun _ i _ => a.places.length - (intOf i).toNat)
    case atStart => exact ⟨0, Nat.zero_le _, rfl, World.ownsRow_nil w2 _ _ _, Below.refl _ _⟩
    case round =>
      obtain ⟨k, hk, rfl, hown, hb⟩ := hrel
      have hsz := hb.size
      by_cases hlt : k < a.places.length
      · obtain ⟨SA, cs, FA', cf', e0, e1, e2, e3, _, _⟩ := hvp k hlt
        obtain ⟨b, off, rfl, hbl, hc⟩ := hvr.2 (by omega)
        have hbwr : Below w.heap.size w wr := hbw2.trans (hb.mono hbw2.size)
        have d0 := (hbwr.cell (p := ⟨b, off + k * 4, none⟩) hbl).trans (hc _ _ e0)
        have d1 := (hbwr.cell (p := ⟨b, off + (k * 4 + 1), none⟩) hbl).trans (hc _ _ e1)
        have d2 := (hbwr.cell (p := ⟨b, off + (k * 4 + 2), none⟩) hbl).trans (hc _ _ e2)
        have d3 := (hbwr.cell (p := ⟨b, off + (k * 4 + 3), none⟩) hbl).trans (hc _ _ e3)
        rw [← Nat.add_assoc] at d1 d2 d3
        have HE : Hid ((List.range (k + 1)).map (fun j => vs.getD (j * 4) undef) = (List.range k).map (fun j => vs.getD (j * 4) undef) ++ [.slice SA a.places[k].set.length cs]) := hid (by
          rw [List.range_succ, List.map_append, List.map_singleton, List.getD_eq_getElem?_getD, e0]; rfl)
        have hlk : ((List.range k).map fun j => vs.getD (j * 4) undef).length = k * 1 := by simp
        have HK := hid hlk
        clear hlk e0 e1 e2 e3 hc
        generalize a.places[k] = x at d0 d1 d2 d3 HE
        generalize (List.range k).map (fun j => vs.getD (j * 4) undef) = xs at hown HE HK
        have hmx : k + 1 ≤ maxLen := by simp only [maxLen]; omega
        have hmy : (k + 1) * 24 ≤ 140737488355328 := by omega
        go_wp2_with (at_builtin; go_must (refine wpList_push _ rfl _ _ 60 rfl w2.heap.size 28 iS _ 1 24 Tryz.underlying60 hiS hzS hsS hyS rfl (by omega) u5 k xs rfl (hown.alloc _) [.slice SA x.set.length cs] 1 (wr.heap.size + 1) rfl (by simp) rfl (by simp [Value.oneCell']) hmx hmy (by simp; omega) ?_); intro v' w' hown' hsz' hB')
        go_roundw
        case rel => exact ⟨k + 1, by omega, by go_num, by rw [HE.out]; exact hown', hB' _ (hb.trans ((below_new wr _).mono hsz))⟩
        case measure => simp [intOf]; omega
      · have hkl : k = a.places.length := by omega
        subst hkl
        obtain ⟨Au, cu, rfl, hru, _⟩ := Reads.own hown
        have hll := sets_ll hvp (hbw2.trans (hb.mono hB2)) (by omega) hru
        have hrs : foldS ((a.places.map (·.set)).map neatOf) ((pairs (placesOf (endsOf ((a.places.map (·.set)).map neatOf)))).filter (heldB ((a.places.map (·.set)).map neatOf))) = rsOf a := rfl
        have hsets : (a.places.map (·.set)).length = a.places.length := by simp
        have HB := hid hb
        generalize a.places.map (·.set) = sets at hll hsl hwf hrs hsets
        have HRS := hid hrs
        have HSE := hid hsets
        clear hrs
        go_wp2_with fail
        have hsp := split_at Au cu sets _ _ (rsOf a) wr (by omega) hsl hwf hll (hid rfl) (hid rfl) HRS
        rw [hsets] at hsp
        clear hsets
        refine hsp.mono ?_
        rintro e w3 ⟨RA, rc, rfl, hrng, hb3⟩
        have hvr' := hvr
        have hsl' := hsl0
        clear hsp hll hru hown hbw b0 hvr hsl hwf HSE HRS
        have hs3 := hb3.size
        have hb23 : Below w2.heap.size w2 w3 := HB.out.trans (hb3.mono hsz)
        have m3' := (hb23.block _ (by omega)).trans m3
        have cM3 : w3.cell? ⟨w1.heap.size + 1 + 1, 3, none⟩ = some (.slice none 0 0) := by rw [Lib.cell_of_heap m3']; rfl
        have zM3 : w3.frozen? ⟨w1.heap.size + 1 + 1, 3, none⟩ = false := Lib.frozen_of_heap m3' 3
        go_wp2_with fail
        have hset : Only (fun j => j = w1.heap.size + 1 + 1) w3 (w3.setCell ⟨w1.heap.size + 1 + 1, 3, none⟩ (.slice RA (rsOf a).length rc)) := Only.of_set _ _ _ _
        have n3 := heap_setCell_same w3 (w1.heap.size + 1 + 1) 3 _ _ (.slice RA (rsOf a).length rc) m3'
        generalize w3.setCell ⟨w1.heap.size + 1 + 1, 3, none⟩ (.slice RA (rsOf a).length rc) = w4 at hset n3 ⊢
        have hs4 := hset.size
        have ho24 : Only (fun j => j = w1.heap.size + 1 + 1) w2 w4 := (Only.of_below hb23).trans hset fun _ _ e => e
        have q4 : w4.cell? ⟨w.heap.size, 0, none⟩ = some (.slice PA a.places.length cp) := (ho24.cell (by omega) (by omega)).trans q0
        have g1 := (ho24.block w1.heap.size (by omega) (by omega)).trans m1
        have g2 := (ho24.block (w1.heap.size + 1) (by omega) (by omega)).trans m2
        have g4 := (ho24.block (w1.heap.size + 1 + 1 + 1) (by omega) (by omega)).trans m4
        have g0 := (ho24.block (w.heap.size + 1) (by omega) (by omega)).trans b1'
        have hrng4 : OwnC w4 wr.heap.size 66 2 (.slice RA (rsOf a).length rc) (rsOf a).length (flat encR (rsOf a)) := ownC_only hrng hset fun k e => by
          have := (ownC_lt hrng k e).1
          omega
        have hbw4 : Below w.heap.size w w4 := hset.below (fun j e => by omega) (hbw2.trans (hb23.mono hB2)) (by omega)
        generalize hrs : rsOf a = rs at n3 hrng4 ⊢
        have HRS := hid hrs
        clear hrs hrng hset hb23 hb3 cM3 zM3 m3 m3' m1 m2 m4 b1' q0 b1 p0
        have hcl : Cl (ctxOf w.heap.size w1.heap.size a PA cp FA cf rs RA rc) (w1.heap.size + 1 + 1 + 1) (w1.heap.size + 1) w4 0 0 (.slice none 0 0) (.slice none 0 0) w4 := by
          refine ⟨n3, Only.refl _ _, World.ownsRow_nil w4 _ _ _, ⟨[], World.ownsRow_nil w4 _ _ _, by simp [BoolV, holdsOf]⟩, ?_⟩
          show w1.heap.size + 1 + 1 < w4.heap.size
          omega
        have hsz2 : w1.heap.size + 4 ≤ w4.heap.size := by omega
        have hBM := hs1
        have hrng5 := hrng4.base (B := w1.heap.size + 4) (by omega)
        have hset0 : Hid (∀ p ∈ a.places, p.set.length ≤ 100000) := hid fun p hp => set_le hsl' hp
        have hrl : rs.length ≤ 200000 := by rw [← HRS.out]; exact rsOf_len a hsl'
        clear hrng4
        clear hs1 hs2 hs3 hs4 ho24 hb2
        have HVP := hid hvp
        clear hvp
        have hpls : PlsR w w.heap.size PA a.places := ⟨vs, hvr', HVP.out⟩
        go_loopw [53] (fun i wr => ∃ k : Nat, k ≤ rs.length ∧ i = .int .i64 k ∧ ∃ vc vh, Cl (ctxOf w.heap.size w1.heap.size a PA cp FA cf rs RA rc) (w1.heap.size + 1 + 1 + 1) (w1.heap.size + 1) w4 k k vc vh wr) (fun i _ => rs.length - (intOf i).toNat)
        case atStart => exact ⟨0, Nat.zero_le _, rfl, _, _, hcl⟩
        case round =>
          rename World => wo
          clear hcl
          obtain ⟨k, hk, rfl, vc, vh, hcl⟩ := hrel
          have hso := hcl.only.size
          have hrngo : OwnC wo (w1.heap.size + 4) 66 2 (.slice RA rs.length rc) rs.length (flat encR rs) := ownC_only hrng5 hcl.only fun j e e2 => by
            have h1 := (ownC_lt hrng5 j e).1
            have e2 : j = w1.heap.size + 1 + 1 := e2
            omega
          by_cases hlt : k < rs.length
          · obtain ⟨b, off, rfl, hbl, c0, c1⟩ := readsR hrngo.reads (Below.refl _ _) k hlt
            obtain ⟨lo, hlo⟩ : ∃ lo : Int, Hid ((rs[k]).1 = lo) := ⟨_, hid rfl⟩
            rw [hlo.out] at c0
            generalize (rs[k]).2 = hi at c1
            obtain ⟨Ac, cc, rfl⟩ := row_form hcl.cls
            have cM4 : wo.cell? ⟨w1.heap.size + 1 + 1, 4, none⟩ = some (.slice Ac k cc) := hcl.cell 4
            have hclA : ∀ o, Cl (ctxOf w.heap.size w1.heap.size a PA cp FA cf rs (some ⟨b, off, none⟩) rc) (w1.heap.size + 1 + 1 + 1) (w1.heap.size + 1) w4 k k (.slice Ac k cc) vh (wo.alloc o) := fun o => hcl.below (below_new wo o)
            obtain ⟨i2, hi2, hz2, hsz2', hy2⟩ := info_parts infoInt
            have hmx : k + 1 ≤ maxLen := by simp only [maxLen]; omega
            have hmy : (k + 1) * 8 ≤ 140737488355328 := by omega
            have hww : ∀ o, w4.heap.size ≤ (wo.alloc o).heap.size := fun o => by simp; omega
            have hcM : (Value.slice Ac k cc).ownBlock ≠ some (w1.heap.size + 1 + 1) := fun e => by have := (hcl.cls.lt _ e).1; omega
            have hMo : w1.heap.size + 1 + 1 < wo.heap.size := by omega
            have hq5 : ∀ w5, Only (fun j => (Value.slice Ac k cc).ownBlock = some j) (wo.alloc (.cells #[.int .i32 lo, .int .i32 hi] 66)) w5 → ∀ u, (w5.setCell ⟨w1.heap.size + 1 + 1, 4, none⟩ u).cell? ⟨w.heap.size, 0, none⟩ = some (.slice PA a.places.length cp) := fun w5 ho5 u => by
              refine cell_set_far (by simp; omega) ((ho5.cell (by simp; omega) fun e => ?_).trans ?_)
              · have := (hcl.cls.lt _ e).1; omega
              · rw [World.cell?_alloc_lt _ _ _ (show w.heap.size < wo.heap.size by omega)]
                exact (hcl.only.cell (show w.heap.size < w4.heap.size by omega) (show ¬ (w.heap.size = w1.heap.size + 1 + 1) by omega)).trans q4
            have hmkb : ∀ u : World, (Instr.makeSlice 56 (.int .i64 (a.places.length : Int)) (.int .i64 (a.places.length : Int))).run Tryz.prog u =
                .ok (.slice (some ⟨u.heap.size, 0, none⟩) a.places.length a.places.length) (u.alloc (.cells (Array.replicate a.places.length (Value.bool false)) 4)) := fun u => by
              obtain ⟨i3, hi3, hz3, hs3, hy3⟩ := info_parts infoBool
              have h := run_make (P := Tryz.prog) u 56 4 i3 (.bool false) Tryz.underlying56 hi3 hz3 .i64 .i64 (a.places.length : Int) (a.places.length : Int) (by omega) (Int.le_refl _) (by rw [hy3]; omega) (by omega)
              have e : (a.places.length : Int).toNat = a.places.length := by omega
              rw [e] at h
              rw [← made_bool]
              simpa [hs3, Value.cells] using h
            go_wp2_with (at_builtin; go_must (refine wpList_push4 (wo.alloc (.cells #[.int .i32 lo, .int .i32 hi] 66)) rfl _ _ 23 rfl w4.heap.size 3 i2 _ 1 8 Tryz.underlying23 hi2 hz2 hsz2' hy2 rfl (by omega) (.slice Ac k cc) k _ rfl (hclA _).cls [.int .i64 k] 1 (wo.heap.size + 1) rfl (by simp) rfl (by simp [Value.oneCell']) Nat.zero_lt_one hmx hmy (hww _) ?_); intro g5 cg5 w5 hown5 hg5 ho5; have b5 := (ho5.block (w1.heap.size + 1 + 1) (by simp; omega) hcM).trans (hclA _).blk; have e4 : w5.cell? ⟨w1.heap.size + 1 + 1, 4, none⟩ = some (.slice Ac k cc) := (by rw [Lib.cell_of_heap b5]; rfl); have z4 : w5.frozen? ⟨w1.heap.size + 1 + 1, 4, none⟩ = false := Lib.frozen_of_heap b5 4; have q5 := hq5 w5 ho5)
            have hcl6 := (hclA _).push_cls hown5 hg5 ho5
            have e9 : ∀ u, (w5.setCell ⟨w1.heap.size + 1 + 1, 4, none⟩ u).cell? ⟨wo.heap.size, 0, none⟩ = some (.int .i32 lo) := fun u => by
              refine cell_set_far (by simp; omega) ((ho5.cell (by simp) fun e => ?_).trans ?_)
              · have := (hcl.cls.lt _ e).2; omega
              · rw [cell_new]; rfl
            have q6 := q5 (.slice (some ⟨g5, 0, none⟩) (k + 1) cg5)
            have e6 := e9 (.slice (some ⟨g5, 0, none⟩) (k + 1) cg5)
            have hs6 : wo.heap.size + 1 ≤ (w5.setCell ⟨w1.heap.size + 1 + 1, 4, none⟩ (.slice (some ⟨g5, 0, none⟩) (k + 1) cg5)).heap.size := by
              have h1 := ho5.size
              simp at h1 ⊢
              exact h1
            have hgs : (w5.setCell ⟨w1.heap.size + 1 + 1, 4, none⟩ (.slice (some ⟨g5, 0, none⟩) (k + 1) cg5)).heap.size = w5.heap.size := by simp
            generalize w5.setCell ⟨w1.heap.size + 1 + 1, 4, none⟩ (.slice (some ⟨g5, 0, none⟩) (k + 1) cg5) = w6 at hcl6 e6 q6 hs6 hgs ⊢
            rw [← hgs]
            clear hgs
            generalize hvc : (Value.slice (some ⟨g5, 0, none⟩) (k + 1) cg5) = vc6 at hcl6 ⊢
            clear hvc e9 q5 b5 e4 z4 hown5 hg5 ho5 hq5 hclA hmkb hww hcM cM4 hmx hmy
            clear hcl c0 c1 hrngo
            obtain ⟨f, hf⟩ : ∃ f : Pl → Bool, Hid (f = fun p => hasB p.set lo) := ⟨_, hid rfl⟩
            have hcells0 : Hid ((w6.alloc (.cells (Array.replicate a.places.length (Value.bool false)) 4)).heap[w6.heap.size]? = some (.cells (((a.places.take 0).map fun p => Value.bool (f p)) ++ List.replicate (a.places.length - 0) (Value.bool false)).toArray 4 (0, 0))) := hid (by rw [heap_alloc_new]; simp)
            go_loopw [76] (fun i wi => ∃ q : Nat, q ≤ a.places.length ∧ i = .int .i64 q ∧ wi.heap[w6.heap.size]? = some (.cells (((a.places.take q).map fun p => Value.bool (f p)) ++ List.replicate (a.places.length - q) (Value.bool false)).toArray 4 (0, 0)) ∧ Below w6.heap.size w6 wi ∧ w6.heap.size < wi.heap.size) (fun i _ => a.places.length - (intOf i).toNat)
            case atStart => exact ⟨0, Nat.zero_le _, rfl, hcells0.out, below_new _ _, by simp⟩
            case round =>
              obtain ⟨q, hqk, rfl, hgr, hb, hgl⟩ := hrel
              have hww : Below w.heap.size w wr := by
                have h1 : Below w.heap.size w w6 := hcl6.only.below (fun j e => by have e : j = w1.heap.size + 1 + 1 := e; omega) hbw4 (by omega)
                exact h1.trans (hb.mono h1.size)
              by_cases hqt : q < a.places.length
              · obtain ⟨b2, off2, SA, cs, FA', cf', rfl, hbl2, d0, _, _, _, rS, _⟩ := (hpls.below hww).at q hqt
                have hsx := hset0.out _ (List.getElem_mem hqt)
                have HT : Hid ((a.places.take (q + 1)).map (fun p => Value.bool (f p)) = (a.places.take q).map (fun p => Value.bool (f p)) ++ [Value.bool (hasB a.places[q].set lo)]) := hid (by
                  rw [List.take_succ_eq_append_getElem hqt, List.map_append, hf.out]; rfl)
                have hlT : ((a.places.take q).map fun p => Value.bool (f p)).length = q := by simp; omega
                have HLT := hid hlT
                clear hlT
                generalize a.places[q] = x at d0 rS hsx HT
                generalize x.set = xs at d0 rS hsx HT
                generalize hhb : hasB xs lo = hb0 at HT
                have HHB := hid hhb
                clear hhb
                have q6' := (hb.cell (p := ⟨w.heap.size, 0, none⟩) (show w.heap.size < w6.heap.size by omega)).trans q6
                have e6' := (hb.cell (p := ⟨wo.heap.size, 0, none⟩) (show wo.heap.size < w6.heap.size by omega)).trans e6
                generalize (a.places.take q).map (fun p => Value.bool (f p)) = hs at hgr HT HLT
                have hB2 : w.heap.size ≤ wr.heap.size := hww.size
                have f0 : wr.drew.cell? ⟨w.heap.size, 0, none⟩ = some (.slice (some ⟨b2, off2, none⟩) a.places.length cp) := q6'
                have f1 : wr.drew.cell? ⟨b2, off2 + q * 4, none⟩ = some (.slice SA xs.length cs) := d0
                have f2 : wr.drew.cell? ⟨wo.heap.size, 0, none⟩ = some (.int .i32 lo) := e6'
                have rS2 : Reads wr.drew wr.drew.heap.size 2 SA xs.length (flat encR xs) := rS.more hB2
                have g1' : (0 : Int) ≤ (q : Int) := by omega
                have g2' : (q : Int).toNat = q := by omega
                have g3' : (q : Int) < (a.places.length : Int) := by omega
                have hgA : ∀ w', Below wr.drew.heap.size wr.drew w' → w'.cell? ⟨w6.heap.size, q, none⟩ = some (.bool false) ∧ w'.frozen? ⟨w6.heap.size, q, none⟩ = false ∧ w'.heap[w6.heap.size]? = some (.cells (hs ++ List.replicate (a.places.length - q) (Value.bool false)).toArray 4 (0, 0)) := fun w' hbA => by
                  have h1 : w'.heap[w6.heap.size]? = some (.cells (hs ++ List.replicate (a.places.length - q) (Value.bool false)).toArray 4 (0, 0)) := (hbA.block w6.heap.size hgl).trans hgr
                  refine ⟨?_, Lib.frozen_of_heap h1 q, h1⟩
                  have hl := HLT.out
                  rw [Lib.cell_of_heap h1]
                  simp only [List.getElem?_toArray]
                  rw [List.getElem?_append_right (by omega), List.getElem?_replicate, if_pos (by omega)]
                have HGA := hid hgA
                clear hgA d0 rS q6' e6'
                go_wp2_with fail
                go_region_law
                  (first
                    | (go_simp; go_at_call 31; refine (has_any SA cs xs lo _ (by omega) (by first | exact rS2 | exact rS2.next ‹_›)).mono ?_; rw [HHB.out]; rintro e w' ⟨rfl, hbA⟩; obtain ⟨y1, y2, y3⟩ := HGA.out w' hbA))
                all_goals
                  clear y1 y2
                  have h9 := heap_setCell_same w' w6.heap.size q _ _ (Value.bool hb0) y3
                  have hl := HLT.out
                  have h10 := row_put hs a.places.length q (Value.bool false) (Value.bool hb0) hl hqt
                  rw [h10, ← HT.out] at h9
                  have hb7 : Below w6.heap.size w6 (w'.setCell ⟨w6.heap.size, q, none⟩ (Value.bool hb0)) := (hb.trans (Below.mono (by exact ⟨hbA.os, hbA.tape, hbA.output, hbA.size, hbA.block⟩ : Below wr.heap.size wr w') hb.size)).setCell (p := ⟨w6.heap.size, q, none⟩) (Nat.le_refl _) _
                  have hgl2 : w6.heap.size < (w'.setCell ⟨w6.heap.size, q, none⟩ (Value.bool hb0)).heap.size := by
                    have h1 := hbA.size
                    simp at h1 ⊢
                    omega
                  go_wp2
                  go_roundw
                  case rel => exact ⟨q + 1, by omega, by go_num, h9, hb7, hgl2⟩
                  case measure => simp [intOf]; omega
              · have hql : q = a.places.length := by omega
                subst hql
                rw [List.take_length] at hgr
                have hcl7 := hcl6.below hb
                obtain ⟨hs6', hrow6, _⟩ := hcl6.hld
                obtain ⟨hs, hrow, hbv⟩ := hcl7.hld
                obtain ⟨Ah, ch, rfl⟩ := row_form hrow
                have hr8 : RO wr (SC w4 vc6 (.slice Ah k ch)) 1 (some ⟨w6.heap.size, 0, none⟩) a.places.length ((a.places.map fun p => hasB p.set (rs[k]).1).map Value.bool) := by
                  refine ⟨by simp, fun _ => ⟨w6.heap.size, 0, rfl, hgl, fun e => ?_, fun j u hu => ?_⟩⟩
                  · rcases e with e | e | e
                    · omega
                    · have := (hcl6.cls.lt _ e).2; omega
                    · have := (hrow6.lt _ e).2; omega
                  · rw [Lib.cell_of_heap hgr, Nat.zero_add]
                    rw [List.map_map, hlo.out] at hu
                    have : (a.places.map fun p => Value.bool (f p)) = a.places.map (Value.bool ∘ fun p => hasB p.set lo) := by rw [hf.out]; rfl
                    rw [this]
                    simpa using hu
                have c9 : wr.cell? ⟨w1.heap.size + 1 + 1, 9, none⟩ = some (.slice Ah k ch) := hcl7.cell 9
                obtain ⟨i4, hi4, hz4, hs4, hy4⟩ := info_parts infoBools
                have hmx : k + 1 ≤ maxLen := by simp only [maxLen]; omega
                have hmy : (k + 1) * 24 ≤ 140737488355328 := by omega
                have hhM : (Value.slice Ah k ch).ownBlock ≠ some (w1.heap.size + 1 + 1) := fun e => by have := (hrow.lt _ e).1; omega
                have hMr : w1.heap.size + 1 + 1 < wr.heap.size := by omega
                have hBr : w4.heap.size ≤ wr.heap.size := by omega
                clear q6 e6 hcells0
                go_wp2_with (at_builtin; go_must (refine wpList_push4 wr rfl _ _ 63 rfl w4.heap.size 56 i4 _ 1 24 Tryz.underlying63 hi4 hz4 hs4 hy4 rfl (by omega) (.slice Ah k ch) k hs rfl hrow [.slice (some ⟨w6.heap.size, 0, none⟩) a.places.length a.places.length] 1 wr.heap.size rfl rfl rfl (by simp [Value.oneCell']) Nat.zero_lt_one hmx hmy hBr ?_); intro g8 cg8 w8 hown8 hg8 ho8; have b8 := (ho8.block (w1.heap.size + 1 + 1) hMr hhM).trans hcl7.blk; have e8 : w8.cell? ⟨w1.heap.size + 1 + 1, 9, none⟩ = some (.slice Ah k ch) := (by rw [Lib.cell_of_heap b8]; rfl); have z8 : w8.frozen? ⟨w1.heap.size + 1 + 1, 9, none⟩ = false := Lib.frozen_of_heap b8 9)
                have hcl9 := hcl7.push_hld hlt hrow hbv rfl hr8 hown8 hg8 ho8
                go_roundw
                case rel => exact ⟨k + 1, by omega, by go_num, vc6, _, hcl9⟩
                case measure => simp [intOf]; omega
          · have hkl : k = rs.length := by omega
            subst hkl
            obtain ⟨hs0', hrow0, _⟩ := hcl.hld
            obtain ⟨Ah, ch, rfl⟩ := row_form hrow0
            obtain ⟨Ac, cc, rfl, _, hcc⟩ := Reads.own hcl.cls
            have h40 := hcl.start g1 g2 g4 g0 hrngo hpls hr hbw4 hsz2 hBM
            clear hcl hrow0 hrngo g1 g2 g4 g0 hrng5 n3 q4 HB hvr' hso hbw4 hbw2
            go_wp2_with fail
            go_loopw [12] (fun i wr => ∃ s : Nat, i = .int .i64 s ∧ ∃ m rows gs v nx, Loop a rs s m rows ∧ L4 (ctx3 w.heap.size w1.heap.size a PA cp FA cf rs RA rc (.slice Ac rs.length cc) Ah ch) w s rows gs m v nx wr) (fun i _ => 4098 - (intOf i).toNat)
            case atStart => exact ⟨0, rfl, start0, [], [], _, _, Loop.start a rs, h40⟩
            case round =>
              clear h40
              obtain ⟨s, rfl, m, rows, gs, ⟨vo, ve, nn, D⟩, nx, hL, h4⟩ := hrel
              obtain ⟨els, hvo, _⟩ := h4.st.own
              obtain ⟨Ao, co, rfl⟩ := row_form hvo
              have c7 : wr.cell? ⟨w1.heap.size + 1 + 1, 7, none⟩ = some (.slice Ao m.opens.length co) := h4.st.cell 7
              have c3 : wr.cell? ⟨w1.heap.size + 1 + 1, 3, none⟩ = some (.slice RA rs.length rc) := h4.st.cell 3
              have hone := hL.one
              have hmany := hL.many
              have hsle := hL.sle
              by_cases hlt4 : s < m.opens.length
              · cases ht : tooMany m.opens.length rs.length with
                | true =>
                  have hT := hL.full hlt4 ht
                  have ht5 : IntKind.i64.wrap ((m.opens.length : Int) * (rs.length : Int)) = (m.opens.length : Int) * (rs.length : Int) := by
                    have h1 : (0 : Int) ≤ (m.opens.length : Int) * (rs.length : Int) := Int.mul_nonneg (by omega) (by omega)
                    have h2 : m.opens.length * rs.length ≤ 2000000 * 200000 := Nat.mul_le_mul hmany hrl
                    have h3 : (m.opens.length : Int) * (rs.length : Int) = ((m.opens.length * rs.length : Nat) : Int) := by rw [Int.natCast_mul]
                    exact w64 (by omega) (by omega)
                  have hor : 4096 < m.opens.length ∨ (¬ 4096 < m.opens.length ∧ 1048576 < m.opens.length * rs.length) := by
                    simp only [tooMany, Bool.or_eq_true, decide_eq_true_eq] at ht
                    omega
                  have c7d : wr.drew.cell? ⟨w1.heap.size + 1 + 1, 7, none⟩ = some (.slice Ao m.opens.length co) := c7
                  have c3d : wr.drew.cell? ⟨w1.heap.size + 1 + 1, 3, none⟩ = some (.slice RA rs.length rc) := c3
                  rcases hor with ho1 | ⟨ho1, ho2⟩
                  · have ht4 : (4096 : Int) < (m.opens.length : Int) := by omega
                    go_wp2_with fail
                    go_quiet (fail)
                    have h5 := h4.below (below_drewN (Below.refl _ wr) nq)
                    clear h4 c7 c3 c7d c3d
                    generalize wr.drewN nq = wq at h5 ⊢
                    have hres : wq.heap[w.heap.size + 1]? = some (.cells #[.slice none 0 0, .slice none 0 0, .slice none 0 0, .slice none 0 0] 43 (0, 0)) := h5.res
                    obtain ⟨r0, r1, r2, r3, z0, z1, z2, z3⟩ := cells4 hres
                    obtain ⟨w9, hw9, c91, ho9⟩ := set4 wq (w.heap.size + 1) _ _ _ _ _ (.slice none 0 0) (.slice none 0 0) (.slice none 0 0) (.slice none 0 0) hres
                    go_wp2_with fail
                    rw [hw9.out]
                    obtain ⟨s0, s1, s2, s3, _⟩ := cells4 c91
                    clear hw9 r0 r1 r2 r3 z0 z1 z2 z3
                    exact bodyPost_ret (v := .tuple #[emptyT, .int .i64 3]) (by simp [results, Tryz.results11, go_sem, s0, s1, s2, s3, emptyT]) rfl ⟨ho9.below (fun j e => by omega) h5.bel h5.st.hB, .inr (.inl ⟨hq.out, by rw [HRS.out]; exact hT, rfl⟩)⟩
                  · have ht4 : ¬ (4096 : Int) < (m.opens.length : Int) := by omega
                    have ht6 : (1048576 : Int) < (m.opens.length : Int) * (rs.length : Int) := by
                      rw [← Int.natCast_mul]; omega
                    go_wp2_with fail
                    go_quiet (fail)
                    have h5 := h4.below (below_drewN (Below.refl _ wr) nq)
                    clear h4 c7 c3 c7d c3d
                    generalize wr.drewN nq = wq at h5 ⊢
                    have hres : wq.heap[w.heap.size + 1]? = some (.cells #[.slice none 0 0, .slice none 0 0, .slice none 0 0, .slice none 0 0] 43 (0, 0)) := h5.res
                    obtain ⟨r0, r1, r2, r3, z0, z1, z2, z3⟩ := cells4 hres
                    obtain ⟨w9, hw9, c91, ho9⟩ := set4 wq (w.heap.size + 1) _ _ _ _ _ (.slice none 0 0) (.slice none 0 0) (.slice none 0 0) (.slice none 0 0) hres
                    go_wp2_with fail
                    rw [hw9.out]
                    obtain ⟨s0, s1, s2, s3, _⟩ := cells4 c91
                    clear hw9 r0 r1 r2 r3 z0 z1 z2 z3
                    exact bodyPost_ret (v := .tuple #[emptyT, .int .i64 3]) (by simp [results, Tryz.results11, go_sem, s0, s1, s2, s3, emptyT]) rfl ⟨ho9.below (fun j e => by omega) h5.bel h5.st.hB, .inr (.inl ⟨hq.out, by rw [HRS.out]; exact hT, rfl⟩)⟩
                | false =>
                  obtain ⟨ht1, _⟩ := few ht hone
                  have ht2 : ¬ 1048576 < m.opens.length * rs.length := by
                    simp only [tooMany, Bool.or_eq_false_iff, decide_eq_false_iff_not] at ht
                    exact ht.2
                  have ht3 : ¬ (1048576 : Int) < (m.opens.length : Int) * (rs.length : Int) := by
                    rw [← Int.natCast_mul]; omega
                  have ht4 : ¬ (4096 : Int) < (m.opens.length : Int) := by omega
                  have ht5 : IntKind.i64.wrap ((m.opens.length : Int) * (rs.length : Int)) = (m.opens.length : Int) * (rs.length : Int) := by
                    have h1 : (0 : Int) ≤ (m.opens.length : Int) * (rs.length : Int) := Int.mul_nonneg (by omega) (by omega)
                    exact w64 (by omega) (by omega)
                  have c7d : wr.drew.cell? ⟨w1.heap.size + 1 + 1, 7, none⟩ = some (.slice Ao m.opens.length co) := c7
                  have c3d : wr.drew.cell? ⟨w1.heap.size + 1 + 1, 3, none⟩ = some (.slice RA rs.length rc) := c3
                  go_wp2_with fail
                  obtain ⟨An, cn, rfl⟩ := row_form h4.nrow
                  have hR : m.opens.length + rs.length ≤ 2000000 := by omega
                  have hEl : Hid (m.ends.length = m.opens.length) := hid hL.el
                  have hgood := hid hL.good
                  have hop : Hid (∀ o ∈ m.opens, o.length ≤ 100 ∧ ∀ p ∈ o, 0 ≤ p ∧ p < a.places.length) := hid fun o ho => ⟨Nat.le_trans (hgood.out o ho).len hn, (hgood.out o ho).2⟩
                  have hng := nextM_good hq.out m.opens s
                  have hnl : (nextM a m.opens s).length ≤ 100 := Nat.le_trans hng.len hn
                  have hnp : Hid (∀ p ∈ nextM a m.opens s, 0 ≤ p ∧ p < a.places.length) := hid hng.2
                  have HL := hid (hL.step hq.out hlt4 ht)
                  obtain ⟨i1, hi1, hz1, hs1', hy1⟩ := info_parts infoInts
                  have hmx : s + 1 ≤ maxLen := by simp only [maxLen]; omega
                  have hmy : (s + 1) * 24 ≤ 140737488355328 := by omega
                  go_quiet (fail)
                  clear c7 c3 c7d c3d ht3 ht4 ht5 ht hng hvo
                  have h5 := h4.below (below_drewN (Below.refl _ wr) nq)
                  clear h4
                  generalize wr.drewN nq = wq at h5 ⊢
                  have h6 := h5.below ((Below.refl wq.heap.size wq).drew)
                  clear h5
                  have c5 : wq.drew.cell? ⟨w1.heap.size + 1 + 1, 5, none⟩ = some (.slice An s cn) := h6.st.cell 5
                  go_wp2_with fail
                  go_region_law
                    (first
                      | (go_simp; go_at_call 32; refine (row_any _ _ m s (nextM a m.opens s) wq.drew h6.st (h6.SX_lt rfl) rfl hlt4 hR hEl hn hop hpf (hid rfl) hnl hnp).mono ?_; intro e w7 hpost; obtain ⟨v', g, rfl, h7, hg1, hg2, hg3, hg4, hg5, hg6, hg7⟩ := h6.row rfl hpost; have c57 : w7.cell? ⟨w1.heap.size + 1 + 1, 5, none⟩ = some (.slice An s cn) := h7.st.cell 5; have hM7 : w1.heap.size + 1 + 1 < w7.heap.size := h7.st.M_lt; clear hpost; dsimp only [rowV])
                      | (refine step_push4 w7 rfl _ _ 29 rfl w.heap.size 23 i1 _ 1 24 Tryz.underlying29 hi1 hz1 hs1' hy1 rfl (by omega) (.slice An s cn) s (gs.map (rowV rs.length)) rfl h7.nrow [.slice (some ⟨g, 0, none⟩) rs.length rs.length] 1 _ rfl rfl rfl (by simp [Value.oneCell']) Nat.zero_lt_one hmx hmy h7.st.hB ?_; intro g9 c9 w9 hown9 hg9 ho9; have b9 := (ho9.block (w1.heap.size + 1 + 1) h7.st.M_lt (row_not_M h7.st h7.nrow (by decide))).trans h7.st.blk; have e9 : w9.cell? ⟨w1.heap.size + 1 + 1, 5, none⟩ = some (.slice An s cn) := (by rw [Lib.cell_of_heap b9]; rfl); have z9 : w9.frozen? ⟨w1.heap.size + 1 + 1, 5, none⟩ = false := Lib.frozen_of_heap b9 5))
                  all_goals
                    clear e9 z9 b9 c57
                    have h9 := h7.push hg1 hg2 hg3 hg4 hg5 hg6 hg7 hown9 hg9 ho9
                    go_wp2
                    go_roundw
                    case rel => exact ⟨s + 1, by go_num, _, _, _, _, _, HL.out, h9⟩
                    case measure => simp [intOf]; omega
              · have hT := hL.over hlt4
                obtain rfl := hL.rl
                clear hvo
                obtain ⟨An, cn, rfl, _, hcn⟩ := Reads.own h4.nrow
                obtain ⟨Ae, ce, rfl, _, hce⟩ := Reads.own h4.st.ends
                have hcr : rs.length ≤ rc := by
                  obtain ⟨_, _, e, h⟩ := OwnC.form h4.rng
                  injection e with e1 e2 e3
                  have e3 : rc = _ := e3
                  have h : rs.length ≤ _ := h
                  omega
                have d3 : wr.cell? ⟨w1.heap.size + 1 + 1, 3, none⟩ = some (.slice RA rs.length rc) := h4.st.cell 3
                have d4 : wr.cell? ⟨w1.heap.size + 1 + 1, 4, none⟩ = some (.slice Ac rs.length cc) := h4.st.cell 4
                have d5 : wr.cell? ⟨w1.heap.size + 1 + 1, 5, none⟩ = some (.slice An rows.length cn) := h4.st.cell 5
                have d6 : wr.cell? ⟨w1.heap.size + 1 + 1, 6, none⟩ = some (.slice Ae m.ends.length ce) := h4.st.cell 6
                clear c3
                go_wp2_with fail
                have h5 := h4.below (below_new wr (.cells #[.slice RA rs.length rc, .slice Ac rs.length cc, .slice An rows.length cn, .slice Ae m.ends.length ce] 43))
                have hblk13 : (wr.alloc (.cells #[.slice RA rs.length rc, .slice Ac rs.length cc, .slice An rows.length cn, .slice Ae m.ends.length ce] 43)).heap[wr.heap.size]? = some (.cells #[.slice RA rs.length rc, .slice Ac rs.length cc, .slice An rows.length cn, .slice Ae m.ends.length ce] 43 (0, 0)) := heap_alloc_new wr _
                have hB13 : w.heap.size + 1 < wr.heap.size := heap_lt h4.res
                generalize wr.heap.size = n13 at hblk13 hB13 ⊢
                generalize wr.alloc (.cells #[.slice RA rs.length rc, .slice Ac rs.length cc, .slice An rows.length cn, .slice Ae m.ends.length ce] 43) = wb at h5 hblk13 ⊢
                clear h4 d3 d4 d5 d6 c7
                refine still_tail 13 (by kernel_rfl) (by kernel_rfl) ?_
                intro w8 HW8
                have h6 := h5.below ((Below.refl wb.heap.size wb).drew)
                rw [← HW8.out] at h6
                have hblk14 : w8.heap[n13]? = some (.cells #[.slice RA rs.length rc, .slice Ac rs.length cc, .slice An rows.length cn, .slice Ae m.ends.length ce] 43 (0, 0)) := by rw [HW8.out]; exact hblk13
                clear h5 hblk13
                obtain ⟨k0, k1, k2, k3, _⟩ := cells4 hblk14
                have hres : w8.heap[w.heap.size + 1]? = some (.cells #[.slice none 0 0, .slice none 0 0, .slice none 0 0, .slice none 0 0] 43 (0, 0)) := h6.res
                obtain ⟨r0, r1, r2, r3, z0, z1, z2, z3⟩ := cells4 hres
                obtain ⟨w9, hw9, c91, ho9⟩ := set4 w8 (w.heap.size + 1) _ _ _ _ _ (.slice RA rs.length rs.length) (.slice Ac rs.length rs.length) (.slice An rows.length rows.length) (.slice Ae m.ends.length m.ends.length) hres
                clear hblk14 HW8
                simp only [List.take_succ_cons, List.take_zero, List.drop_succ_cons, List.drop_zero]
                still_step
                still_step
                still_call (clip_any RA rs.length rc w8 hcr)
                still_step
                still_step
                still_call (clipN_any Ac rs.length cc w8 hcc)
                still_step
                still_step
                still_call (clipL_any An rows.length cn w8 hcn)
                still_step
                still_step
                still_call (clipN_any Ae m.ends.length ce w8 hce)
                still_step
                refine wpStill_nil ?_
                go_wp2_with fail
                rw [hw9.out]
                obtain ⟨s0, s1, s2, s3, _⟩ := cells4 c91
                clear hw9 r0 r1 r2 r3 z0 z1 z2 z3
                refine bodyPost_ret (v := .tuple #[.agg #[.slice RA rs.length rs.length, .slice Ac rs.length rs.length, .slice An rows.length rows.length, .slice Ae m.ends.length m.ends.length], .int .i64 0]) (by simp [results, Tryz.results11, go_sem, s0, s1, s2, s3]) rfl ⟨ho9.below (fun j e => by omega) h6.bel h6.st.hB, .inr (.inr ⟨hq.out, ?_⟩)⟩
                rw [HRS.out]
                refine ⟨m, rows, RA, Ac, An, Ae, gs, hT, rfl, ?_, ?_, ?_, ?_, ?_, fun j e1 e2 => h6.clsX j (by cases Ac <;> exact e1) (.inl (.inr (.inr (.inr (by cases Ae <;> exact e2))))), fun j e1 => h6.clsG j (by cases Ac <;> exact e1), fun y hy e => ?_⟩
                · exact (ownC_only h6.rng ho9 fun j e e2 => ownC_not h6.rng hres (by decide) (by rw [e, e2])).clip
                · exact (ownC_only h6.cls ho9 fun j e e2 => ownC_not h6.cls hres (by decide) (by rw [e, e2])).clip
                · exact (ownC_only (OwnC.of h6.nrow) ho9 fun j e e2 => ownC_not (OwnC.of h6.nrow) hres (by decide) (by rw [e, e2])).clip
                · exact (h6.rws.not hres (by decide)).only ho9 (fun _ _ e => e) fun _ _ e => e.elim
                · exact (ownC_only (OwnC.of h6.st.ends) ho9 fun j e e2 => ownC_not (OwnC.of h6.st.ends) hres (by decide) (by rw [e, e2])).clip
                · obtain ⟨i, hi, hiy⟩ := List.getElem_of_mem hy
                  obtain ⟨g', e1, _, _, hnS, _⟩ := h6.rws.each i (by rw [← h6.rws.len]; exact hi)
                  rw [List.getElem?_eq_getElem hi, hiy] at e1
                  injection e1 with e1
                  rw [e1] at e
                  exact hnS (.inl (.inr (.inr (.inr (by cases Ae <;> exact e)))))
end Go.Proofs.YtoclbcfgfaialaaGreatDoor
