/-
  Subsets: row: the walk.
-/
import Derived.Test.YtoclbcfgfaialaaGreatDoorNext
namespace Go.Proofs.YtoclbcfgfaialaaGreatDoor
open Go.RowKit Go.Maps
set_option maxRecDepth 100000
theorem row_put (l : List Value) (n k : Nat) (z u : Value) (hl : l.length = k) (hk : k < n) : ((l ++ List.replicate (n - k) z).toArray.setIfInBounds k u) = ((l ++ [u]) ++ List.replicate (n - (k + 1)) z).toArray := by
  subst hl
  rw [List.setIfInBounds_toArray]
  congr 1
  have : n - l.length = (n - (l.length + 1)) + 1 := by omega
  rw [this, List.replicate_succ, List.set_append_right _ _ (Nat.le_refl _), Nat.sub_self, List.set_cons_zero, List.append_assoc]
  rfl
theorem row_put2 (l r : List Value) (k : Nat) (z u : Value) (hl : l.length = k) : (((l ++ [z]) ++ r).toArray.setIfInBounds k u) = ((l ++ [u]) ++ r).toArray := by
  subst hl
  rw [List.setIfInBounds_toArray]
  congr 1
  rw [List.append_assoc, List.set_append_right _ _ (Nat.le_refl _), Nat.sub_self]
  simp
theorem take_filter {α : Type} (f : α → Bool) (l : List α) (k : Nat) (h : k < l.length) : (l.take (k+1)).filter f = (l.take k).filter f ++ (if f l[k] = true then [l[k]] else []) := by
  rw [List.take_succ_eq_append_getElem h, List.filter_append]
  congr 1
  by_cases e : f l[k] = true <;> simp [e]
/-- what stands behind the making of a row -/
def RowPost (c : Ctx) (v : Vr) (w : World) (x : Mk × List Int) (n : Nat) (e : Ending) (w' : World) : Prop :=
  ∃ v' g, e = .returned (.slice (some ⟨g, 0, none⟩) n n) ∧ MkSt c v' x.1 w' ∧ Only (SB c v) w w' ∧ (∀ k, SB c v' k → SB c v k ∨ w.heap.size ≤ k) ∧
    w.heap.size ≤ g ∧ g < w'.heap.size ∧ ¬ SX c v' g ∧ x.2.length = n ∧ w'.heap[g]? = some (.cells (x.2.map (Value.int .i64)).toArray 3 (0, 0))
/-- .. amid it -/
def RowI (c : Ctx) (v : Vr) (w : World) (g n : Nat) (nx : List Int) (An : Option Addr) (k : Nat) (x : Mk × List Int) (wr : World) : Prop :=
  ∃ v', MkSt { c with ro := some g } v' x.1 wr ∧ Only (SB c v) w wr ∧ (∀ j, SB c v' j → SB c v j ∨ w.heap.size ≤ j) ∧ ¬ SB c v' g ∧ g < wr.heap.size ∧
    wr.heap[g]? = some (.cells ((x.2.map (Value.int .i64)) ++ List.replicate (n - k) (Value.int .i64 0)).toArray 3 (0, 0)) ∧ RO wr (SX { c with ro := some g } v') 1 An nx.length (nx.map (Value.int .i64))
theorem made_int (n : Nat) : madeCells #[Value.int .i64 0] n = (List.replicate n (Value.int .i64 0)).toArray := by
  apply Array.ext
  · simp [madeCells]
  · intro i h1 h2
    simp [madeCells, Nat.mod_one]
theorem rowM_take (a : Au) (nx : List Int) (rs : List Rg) (m : Mk) (k : Nat) (h : k < rs.length) : rowM a nx (rs.take (k+1)) m = stepR a nx (rowM a nx (rs.take k) m) rs[k] := by
  unfold rowM
  rw [List.take_succ_eq_append_getElem h, List.foldl_append]; rfl
theorem stepR_len (a : Au) (nx : List Int) (x : Mk × List Int) (r : Rg) : (stepR a nx x r).2.length = x.2.length + 1 ∧ (stepR a nx x r).1.opens.length ≤ x.1.opens.length + 1 ∧ (stepR a nx x r).1.ends.length + x.1.opens.length = x.1.ends.length + (stepR a nx x r).1.opens.length := by
  unfold stepR
  split
  · simp
  · unfold stateM
    split <;> simp <;> omega
theorem rowM_len (a : Au) (nx : List Int) (rs : List Rg) (m : Mk) (k : Nat) (h : k ≤ rs.length) : (rowM a nx (rs.take k) m).2.length = k ∧ (rowM a nx (rs.take k) m).1.opens.length ≤ m.opens.length + k ∧ (rowM a nx (rs.take k) m).1.ends.length + m.opens.length = m.ends.length + (rowM a nx (rs.take k) m).1.opens.length := by
  induction k with
  | zero => simp [rowM]
  | succ k ih =>
    obtain ⟨i1, i2, i3⟩ := ih (by omega)
    obtain ⟨j1, j2, j3⟩ := stepR_len a nx (rowM a nx (rs.take k) m) rs[k]
    rw [rowM_take a nx rs m k (by omega)]
    exact ⟨by omega, by omega, by omega⟩
theorem holds_at (a : Au) (rs : List Rg) (i : Nat) (hi : i < rs.length) (p : Nat) (hp : p < a.places.length) :
    (((holdsOf a rs)[i]'(by simp [holdsOf]; exact hi)).map Value.bool)[p]? = some (.bool (hasB (a.at (p : Int)).set rs[i].1)) := by
  simp only [holdsOf, List.getElem_map, List.map_map, List.getElem?_map, List.getElem?_eq_getElem hp, Option.map_some, Function.comp]
  unfold Au.at
  rw [Int.toNat_natCast, List.getD_eq_getElem?_getD, List.getElem?_eq_getElem hp]; rfl
set_option maxHeartbeats 3200000 in
theorem row_any (c : Ctx) (v : Vr) (m : Mk) (s : Nat) (nx : List Int) (w : World) (h : MkSt c v m w) (hSX : ∀ k, SX c v k → c.B0 ≤ k ∧ k < w.heap.size) (hro : c.ro = none) (hs : s < m.opens.length) (hR : m.opens.length + c.rs.length ≤ 2000000) (hE : Hid (m.ends.length = m.opens.length)) (hpl : c.a.places.length ≤ 100)
    (hop : Hid (∀ o ∈ m.opens, o.length ≤ 100 ∧ ∀ p ∈ o, 0 ≤ p ∧ p < c.a.places.length)) (hfl : Hid (∀ p ∈ c.a.places, p.follow.length ≤ 100)) (hnx : Hid (nextM c.a m.opens s = nx)) (hnl : nx.length ≤ 100) (hnp : Hid (∀ p ∈ nx, 0 ≤ p ∧ p < c.a.places.length)) :
    Calls Tryz.prog 32 #[.pointer (some ⟨c.M, 0, none⟩), .int .i64 s] w fun e w' => RowPost c v w (rowM c.a nx c.rs m) c.rs.length e w' := by
  go_enter Tryz.func32, Tryz.ntmps32
  go_wp2_with fail
  refine (next_any c v m s w h hSX hs hop hfl).mono ?_
  rw [hnx.out]
  rintro e w1 ⟨An, cn, rfl, hrn, hb1⟩
  have h1 := h.below hb1
  have k3 : w1.cell? ⟨c.M, 3, none⟩ = some (.slice c.RA c.rs.length c.rc) := h1.cell 3
  have hmk : ∀ u : World, (Instr.makeSlice 23 (.int .i64 (c.rs.length : Int)) (.int .i64 (c.rs.length : Int))).run Tryz.prog u =
      .ok (.slice (some ⟨u.heap.size, 0, none⟩) c.rs.length c.rs.length) (u.alloc (.cells (Array.replicate c.rs.length (Value.int .i64 0)) 3)) := fun u => by
    obtain ⟨i2, hi2, hz2, hs2, hy2⟩ := info_parts infoInt
    have h := run_make (P := Tryz.prog) u 23 3 i2 (.int .i64 0) Tryz.underlying23 hi2 hz2 .i64 .i64 (c.rs.length : Int) (c.rs.length : Int) (by omega) (Int.le_refl _) (by rw [hy2]; omega) (by omega)
    have e : (c.rs.length : Int).toNat = c.rs.length := by omega
    rw [e] at h
    rw [show Array.replicate c.rs.length (Value.int .i64 0) = madeCells #[Value.int .i64 0] c.rs.length by rw [made_int]; simp]
    simpa [hs2, Value.cells] using h
  have hg : w.heap.size ≤ w1.heap.size := hb1.size
  have h2 : MkSt { c with ro := some w1.heap.size } v m (w1.alloc (.cells (Array.replicate c.rs.length (Value.int .i64 0)) 3)) := (h1.eye (r := some w1.heap.size) fun k hk e => by injection e; omega).below (below_new w1 _)
  have hI0 : RowI c v w w1.heap.size c.rs.length nx An 0 (m, []) (w1.alloc (.cells (Array.replicate c.rs.length (Value.int .i64 0)) 3)) := by
    refine ⟨v, h2, (Only.of_below hb1).trans (Only.of_below (below_new w1 _)) (fun _ _ e => e), fun _ e => .inl e, fun e => ?_, by simp, ?_, ?_⟩
    · have := (hSX _ (.inl e)).2; omega
    · rw [heap_alloc_new]; simp
    · refine ⟨hrn.1, fun hn => ?_⟩
      obtain ⟨b, off, e1, hb, hns, hc⟩ := hrn.2 hn
      refine ⟨b, off, e1, by simp; omega, fun e => ?_, fun j u hu => ?_⟩
      · rcases e with e | e | e
        · exact hns (.inl e)
        · exact hns (.inr (.inl e))
        · injection e with e; omega
      · exact ((below_new w1 _).cell (p := ⟨b, off + j, none⟩) hb).trans (hc j u hu)
  have hB0 : c.B0 ≤ w.heap.size := h.hB
  have hnxg : ∀ k, c.nx.ownBlock = some k → k < w.heap.size := fun k e => (hSX k (.inr (.inl e))).2
  clear h2 h1 hrn hb1 h hSX
  go_wp2
  generalize hw2 : w1.alloc (.cells (Array.replicate c.rs.length (Value.int .i64 0)) 3) = w2 at hI0 ⊢
  generalize hgg : w1.heap.size = g at hI0 hg ⊢
  clear hw2 hgg hmk
  go_loopw [26] (fun i wr => ∃ k : Nat, k ≤ c.rs.length ∧ i = .int .i64 k ∧ RowI c v w g c.rs.length nx An k (rowM c.a nx (c.rs.take k) m) wr) (fun i _ => c.rs.length - (intOf i).toNat)
  case atStart => exact ⟨0, Nat.zero_le _, rfl, hI0⟩
  case round =>
    clear hI0
    rename World => wo
    obtain ⟨k, hk, rfl, v1, hmk, hon, hfr, hng, hgs, hrow, hrx⟩ := hrel
    obtain ⟨hx1, hx2, hx3⟩ := rowM_len c.a nx c.rs m k hk
    by_cases hlt : k < c.rs.length
    · have HS := hid (rowM_take c.a nx c.rs m k hlt)
      generalize rowM c.a nx (c.rs.take k) m = x at hmk hrow hx1 hx2 hx3 HS
      obtain ⟨x1, x2⟩ := x
      simp only at hmk hrow hx1 hx2 hx3
      have hhl : k < (holdsOf c.a c.rs).length := by simp [holdsOf]; exact hlt
      obtain ⟨bh, oh, Ah, ch, hHA, hbh, hch, hrh⟩ := hmk.holds.at k hhl
      have hat : ∀ p, p < c.a.places.length → (((holdsOf c.a c.rs)[k]).map Value.bool)[p]? = some (.bool (hasB (c.a.at (p : Int)).set c.rs[k].1)) := fun p hp => holds_at c.a c.rs k hlt p hp
      have hhp : ((holdsOf c.a c.rs)[k]).length = c.a.places.length := by simp [holdsOf]
      rw [hhp] at hch
      have hrc : ∀ p : Nat, p < c.a.places.length → ∃ b off, Ah = some ⟨b, off, none⟩ ∧ b < wo.heap.size ∧ wo.cell? ⟨b, off + p, none⟩ = some (.bool (hasB (c.a.at (p : Int)).set c.rs[k].1)) := fun p hp => by
        obtain ⟨b, off, e1, e2, _, e3⟩ := hrh.2 (by rw [hhp]; omega)
        exact ⟨b, off, e1, e2, e3 _ _ (hat p hp)⟩
      clear hat hhp hrh
      have HRC := hid hrc
      clear hrc
      have c9 : wo.cell? ⟨c.M, 9, none⟩ = some (.slice c.HA c.rs.length c.hc) := hmk.cell 9
      rw [hHA] at c9
      have hM := hmk.M_lt
      have hrn := hrx.reads
      obtain ⟨f, hf⟩ : ∃ f : Int → Bool, Hid (f = fun p => hasB (c.a.at p).set c.rs[k].1) := ⟨_, hid rfl⟩
      have hfp : ∀ p, hasB (c.a.at p).set c.rs[k].1 = f p := fun p => by rw [hf.out]
      have HST : Hid (stepR c.a nx (x1, x2) c.rs[k] = if nx.filter f = [] then (x1, x2 ++ [-1]) else ((stateM c.a x1 (nx.filter f)).1, x2 ++ [(stateM c.a x1 (nx.filter f)).2])) := hid (by rw [hf.out]; rfl)
      have HFP := hid hfp
      clear hfp hf
      go_wp2_with fail
      go_loopw [9, 31] (fun o j w3 => ∃ q : Nat, q ≤ nx.length ∧ j = .int .i64 q ∧ w3.ownsRow wo.heap.size 3 1 o ((nx.take q).filter f).length (((nx.take q).filter f).map (Value.int .i64)) ∧ Below wo.heap.size wo w3) (fun _ j _ => nx.length - (intOf j).toNat)
      case atStart => exact ⟨0, Nat.zero_le _, rfl, World.ownsRow_nil wo _ _ _, Below.refl _ _⟩
      case round =>
        obtain ⟨q, hq, rfl, hown, hb⟩ := hrel
        have hlen : ((nx.take q).filter f).length ≤ 100 := Nat.le_trans (List.length_filter_le _ _) (Nat.le_trans (List.length_take_le' _ _) hnl)
        by_cases hqt : q < nx.length
        · obtain ⟨b, off, rfl, hbl, d0⟩ := readsI hrn hb q hqt
          have hpq := hnp.out _ (List.getElem_mem hqt)
          have HT := hid (take_filter f nx q hqt)
          generalize nx[q] = p at d0 hpq HT
          obtain ⟨pn, rfl⟩ : ∃ pn : Nat, p = pn := ⟨p.toNat, by omega⟩
          have hpn : pn < c.a.places.length := by omega
          obtain ⟨bA, oA, hAh, hbA, cA⟩ := HRC.out pn hpn
          rw [HFP.out] at cA
          have cA' := (hb.cell (p := ⟨bA, oA + pn, none⟩) hbA).trans cA
          have cM := (hb.cell (p := ⟨c.M, 9, none⟩) hM).trans c9
          have cH := (hb.cell (p := ⟨bh, oh + k, none⟩) hbh).trans hch
          rw [hAh] at cH
          clear hpq cA c9 hch
          have HB := hid hb
          generalize (nx.take q).filter f = F at hown hlen HT
          cases hfq : f (pn : Int) with
          | false =>
            rw [hfq] at cA' HT
            have HT2 : Hid ((nx.take (q+1)).filter f = F) := by rw [HT.out, if_neg (by simp), List.append_nil]; exact hid rfl
            clear HT hfq
            go_wp2
            go_roundw
            case rel => exact ⟨q + 1, by omega, by go_num, by rw [HT2.out]; exact hown, HB.out⟩
            case measure => simp [intOf]; omega
          | true =>
            rw [hfq] at cA' HT
            have HT2 : Hid ((nx.take (q+1)).filter f = F ++ [(pn : Int)]) := by rw [HT.out, if_pos rfl]; exact hid rfl
            clear HT hfq
            obtain ⟨i2, hi2, hz2, hs2, hy2⟩ := info_parts infoInt
            have hmx : F.length + 1 ≤ maxLen := by simp only [maxLen]; omega
            have hmy : (F.length + 1) * 8 ≤ 140737488355328 := by omega
            have hbz := hb.size
            go_wp2_with (at_builtin; go_must (refine wpList_push wr rfl _ _ 23 rfl wo.heap.size 3 i2 _ 1 8 Tryz.underlying23 hi2 hz2 hs2 hy2 rfl (by omega) u9 F.length (F.map (Value.int .i64)) rfl hown [.int .i64 pn] 1 _ rfl rfl rfl (by simp [Value.oneCell']) hmx hmy hbz ?_); intro v' w' hown' hsz' hB')
            go_roundw
            case rel => exact ⟨q + 1, by omega, by go_num, by rw [HT2.out, List.length_append, List.map_append]; exact hown', hB' _ HB.out⟩
            case measure => simp [intOf]; omega
        · have hql : q = nx.length := by omega
          subst hql
          rw [List.take_length] at hown hlen
          have hlp : ∀ p ∈ nx.filter f, 0 ≤ p ∧ p < c.a.places.length := fun p hp => hnp.out p (List.mem_filter.1 hp).1
          generalize nx.filter f = l at hown hlen HST hlp
          have HLP := hid hlp
          clear hlp
          obtain ⟨A9, c9', rfl, hr9, _⟩ := Reads.own hown
          have hbz := hb.size
          have hgw : g < wr.heap.size := by omega
          have hrow' := (hb.block g hgs).trans hrow
          have cg : wr.cell? ⟨g, k, none⟩ = some (.int .i64 0) := by
            rw [Lib.cell_of_heap hrow']
            have : (x2.map (Value.int .i64)).length = k := by simp [hx1]
            simp only [List.getElem?_toArray]
            rw [List.getElem?_append_right (by omega), List.getElem?_replicate, if_pos (by omega)]
          have zg : wr.frozen? ⟨g, k, none⟩ = false := Lib.frozen_of_heap hrow' k
          have hB0g : c.B0 ≤ g := Nat.le_trans hB0 hg
          have hSXlt : ∀ j, SX { c with ro := some g } v1 j → j < wo.heap.size := fun j e => by
            rcases e with e | e | e
            · exact (hmk.SB_ge e).2
            · exact Nat.lt_of_lt_of_le (hnxg j e) hon.size
            · injection e with e; omega
          have hset : Only (fun j => j = g) wr (wr.setCell ⟨g, k, none⟩ (.int .i64 (-1))) := Only.of_set wr g k _
          have h4 : MkSt { c with ro := some g } v1 x1 (wr.setCell ⟨g, k, none⟩ (.int .i64 (-1))) := (hmk.below hb).side hset fun j e => by
            subst e
            exact ⟨hng, .inr (.inr rfl), hB0g⟩
          have hr4 : RO (wr.setCell ⟨g, k, none⟩ (.int .i64 (-1))) (SX { c with ro := some g } v1) 1 A9 l.length (l.map (Value.int .i64)) := by
            have h0 : RO wr (SX { c with ro := some g } v1) 1 A9 l.length (l.map (Value.int .i64)) := by
              refine ⟨hr9.1, fun hn => ?_⟩
              obtain ⟨b, off, e1, e2, e3⟩ := hr9.2 hn
              refine ⟨b, off, e1, e2, fun e => ?_, e3⟩
              have := hSXlt b e
              have := (hown.lt b (by rw [e1]; rfl)).1
              omega
            exact h0.only (hset.more fun j _ e => .inr (.inr (by rw [e]))) fun _ _ e => e
          have hrx4 : RO (wr.setCell ⟨g, k, none⟩ (.int .i64 (-1))) (SX { c with ro := some g } v1) 1 An nx.length (nx.map (Value.int .i64)) :=
            (hrx.only (Only.of_below hb) fun _ _ e => e).only (hset.more fun j _ e => .inr (.inr (by rw [e]))) fun _ _ e => e
          have hrow4 : (wr.setCell ⟨g, k, none⟩ (.int .i64 (-1))).heap[g]? = some (.cells (((x2 ++ [-1]).map (Value.int .i64)) ++ List.replicate (c.rs.length - (k + 1)) (Value.int .i64 0)).toArray 3 (0, 0)) := by
            rw [heap_setCell_same wr g k _ _ _ hrow', row_put _ _ _ _ _ (by simp [hx1]) hlt]
            simp
          have hon4 : Only (SB c v) w (wr.setCell ⟨g, k, none⟩ (.int .i64 (-1))) := (hon.trans (Only.of_below hb) (S' := SB c v) fun _ _ e => e).trans hset fun b hb' e => by omega
          have hgw4 : g < (wr.setCell ⟨g, k, none⟩ (.int .i64 (-1))).heap.size := by simpa using hgw
          have hE1 : Hid (x1.ends.length = x1.opens.length) := hid (by have := hE.out; omega)
          have hN1 : x1.opens.length ≤ 2000000 := by omega
          have hx2l : (x2.map (Value.int .i64)).length = k := by simp [hx1]
          clear hr9 hrow hrx hb hrow' hx2 hx3 hSXlt hrn HRC HFP c9 hch
          by_cases hl0 : l = []
          · have HST2 : Hid (rowM c.a nx (c.rs.take (k + 1)) m = (x1, x2 ++ [-1])) := hid (by rw [HS.out, HST.out, if_pos hl0])
            subst hl0
            clear HST HS
            go_wp2
            go_roundw
            case rel => exact ⟨k + 1, by omega, by go_num, by rw [HST2.out]; exact ⟨v1, h4, hon4, hfr, hng, hgw4, hrow4, hrx4⟩⟩
            case measure => simp [intOf]; omega
          · have HST2 : Hid (rowM c.a nx (c.rs.take (k + 1)) m = ((stateM c.a x1 l).1, x2 ++ [(stateM c.a x1 l).2])) := hid (by rw [HS.out, HST.out, if_neg hl0])
            have hl1 : 0 < l.length := by
              cases l with
              | nil => exact absurd rfl hl0
              | cons _ _ => simp
            clear HST HS hl0
            generalize hsm : stateM c.a x1 l = sm at HST2
            have HSM := hid hsm
            clear hsm
            go_wp2_with fail
            generalize wr.setCell ⟨g, k, none⟩ (.int .i64 (-1)) = w4 at h4 hr4 hrx4 hrow4 hon4 hgw4 ⊢
            refine (state_any { c with ro := some g } v1 x1 A9 c9' l w4 (by omega) hpl HLP hN1 hE1 h4 hr4).mono ?_
            rw [show stateM ({ c with ro := some g } : Ctx).a x1 l = sm from HSM.out]
            rintro e w5 ⟨rfl, v2, h5, ho5, hf5⟩
            have hrow5 := (ho5.block g hgw4 hng).trans hrow4
            have cg5 : w5.cell? ⟨g, k, none⟩ = some (.int .i64 (-1)) := by
              rw [Lib.cell_of_heap hrow5, List.map_append, List.getElem?_toArray, List.append_assoc, List.getElem?_append_right (by omega), hx2l, Nat.sub_self]
              rfl
            have zg5 : w5.frozen? ⟨g, k, none⟩ = false := Lib.frozen_of_heap hrow5 k
            have hgw5 : g < w5.heap.size := Nat.lt_of_lt_of_le hgw4 ho5.size
            have hng5 : ¬ SB c v2 g := fun e => by
              rcases hf5 g e with e | e
              · exact hng e
              · omega
            have hset5 : ∀ u, Only (fun j => j = g) w5 (w5.setCell ⟨g, k, none⟩ u) := fun u => Only.of_set w5 g k u
            have h6 : ∀ u, MkSt { c with ro := some g } v2 sm.1 (w5.setCell ⟨g, k, none⟩ u) := fun u => h5.side (hset5 u) fun j e => by
              subst e
              exact ⟨hng5, .inr (.inr rfl), hB0g⟩
            have hX5 : ∀ b, b < w4.heap.size → SX { c with ro := some g } v2 b → SX { c with ro := some g } v1 b := fun b hb e => by
              rcases e with e | e
              · rcases hf5 b e with e | e
                · exact .inl e
                · omega
              · exact .inr e
            have hrx6 : ∀ u, RO (w5.setCell ⟨g, k, none⟩ u) (SX { c with ro := some g } v2) 1 An nx.length (nx.map (Value.int .i64)) := fun u =>
              (hrx4.only (ho5.more (S' := SX { c with ro := some g } v1) fun _ _ e => .inl e) hX5).only ((hset5 u).more fun j _ e => .inr (.inr (by rw [e]))) fun _ _ e => e
            have hrow6 : ∀ y : Int, (w5.setCell ⟨g, k, none⟩ (.int .i64 y)).heap[g]? = some (.cells (((x2 ++ [y]).map (Value.int .i64)) ++ List.replicate (c.rs.length - (k + 1)) (Value.int .i64 0)).toArray 3 (0, 0)) := fun y => by
              rw [heap_setCell_same w5 g k _ _ _ hrow5, List.map_append, List.map_append]
              congr 2
              exact row_put2 _ _ k _ _ hx2l
            have hs4 := hon4.size
            have hs5 := ho5.size
            have hon6 : ∀ u, Only (SB c v) w (w5.setCell ⟨g, k, none⟩ u) := fun u => (hon4.trans ho5 fun b hb e => by
              rcases hfr b e with e | e
              · exact e
              · omega).trans (hset5 u) fun b hb e => by omega
            have hfr6 : ∀ j, SB c v2 j → SB c v j ∨ w.heap.size ≤ j := fun j e => by
              rcases hf5 j e with e | e
              · exact hfr j e
              · exact .inr (by omega)
            have hgw6 : ∀ u, g < (w5.setCell ⟨g, k, none⟩ u).heap.size := fun u => by simpa using hgw5
            clear hrow5 hrow4 hrx4 hX5 hr4 h4 hset5 h5 ho5 hf5
            go_wp2_with fail
            go_roundw
            case rel => exact ⟨k + 1, by omega, by go_num, by rw [HST2.out]; exact ⟨v2, h6 _, hon6 _, hfr6, hng5, hgw6 _, hrow6 _, hrx6 _⟩⟩
            case measure => simp [intOf]; omega
    · have hkl : k = c.rs.length := by omega
      subst hkl
      rw [List.take_length] at hmk hrow hx1
      have hrow7 : wo.heap[g]? = some (.cells ((rowM c.a nx c.rs m).2.map (Value.int .i64)).toArray 3 (0, 0)) := by
        rw [hrow]; simp
      have hce : ({ { c with ro := some g } with ro := none } : Ctx) = c := by cases c; simp at hro; subst hro; rfl
      have h7 : MkSt c v1 (rowM c.a nx c.rs m).1 wo := by
        have := hmk.eye (r := none) fun _ _ e => by cases e
        rw [hce] at this
        exact this
      have hr7 : ¬ SX c v1 g := fun e => by
        rcases e with e | e | e
        · exact hng e
        · have := hnxg g e; omega
        · rw [hro] at e; cases e
      clear hmk hrow hrx
      go_wp2
      go_ret
      exact ⟨v1, g, rfl, h7, hon, hfr, hg, hgs, hr7, hx1, hrow7⟩
end Go.Proofs.YtoclbcfgfaialaaGreatDoor
