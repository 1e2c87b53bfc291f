/-
  Subsets: the document's Open: plain law and walk.
-/
import Derived.Test.YtoclbcfgfaialaaGreatDoorSubRef1
import Derived.Test.YtoclbcfgfaialaaGreatDoorRef
import Derived.Test.YtoclbcfgfaialaaGreatDoorOf
import Derived.Test.YtoclbcfgfaialaaGreatDoorIdx
namespace Go.Proofs.YtoclbcfgfaialaaGreatDoor
open Go.RowKit
set_option maxRecDepth 100000
/-- a block of n bools, told by a function -/
def BlkAt (w : World) (rb n : Nat) (f : Nat → Bool) : Prop := w.heap[rb]? = some (.cells (((List.range n).map f).map Value.bool).toArray 4 (0, 0))
theorem BlkAt.cell {w : World} {rb n : Nat} {f : Nat → Bool} (h : BlkAt w rb n f) (j : Nat) (hj : j < n) : w.cell? ⟨rb, j, none⟩ = some (.bool (f j)) ∧ w.frozen? ⟨rb, j, none⟩ = false := by
  refine ⟨?_, Lib.frozen_of_heap h j⟩
  rw [Lib.cell_of_heap h]
  simp [List.getElem?_map, List.getElem?_range hj]
theorem BlkAt.of {w : World} {rb n : Nat} {f g : Nat → Bool} (h : BlkAt w rb n f) (e : ∀ i, i < n → f i = g i) : BlkAt w rb n g := by
  unfold BlkAt at h ⊢
  rw [h]
  have : (List.range n).map f = (List.range n).map g := List.map_congr_left fun i hi => e i (List.mem_range.1 hi)
  rw [this]
theorem BlkAt.set {w : World} {rb n : Nat} {f : Nat → Bool} (h : BlkAt w rb n f) (j : Nat) (_hj : j < n) (v : Bool) : BlkAt (w.setCell ⟨rb, j, none⟩ (.bool v)) rb n (fun i => if i = j then v else f i) := by
  unfold BlkAt at h ⊢
  rw [heap_setCell_same w rb j _ _ _ h]
  congr 2
  apply Array.ext'
  refine List.ext_getElem? fun i => ?_
  simp only [List.setIfInBounds_toArray, List.getElem?_set, List.length_map, List.length_range, List.getElem?_map]
  by_cases e : j = i
  · subst e
    by_cases hjn : j < n
    · simp [hjn]
    · simp [hjn]
  · rw [if_neg e]
    by_cases hin : i < n
    · simp [List.getElem?_range hin, show ¬ i = j from fun h => e h.symm]
    · rw [List.getElem?_eq_none (by simp; omega)]; rfl
theorem BlkAt.reads {w : World} {rb n : Nat} {f : Nat → Bool} (h : BlkAt w rb n f) : Reads w w.heap.size 1 (some ⟨rb, 0, none⟩) n (((List.range n).map f).map Value.bool) := by
  refine ⟨by simp, fun _ => ⟨rb, 0, rfl, heap_lt h, fun j u hu => ?_⟩⟩
  rw [Nat.zero_add, Lib.cell_of_heap h]
  simpa using hu
/-- reached from those ahead of place k -/
def reachF (a : Au) (was : List Bool) (k i : Nat) : Bool := (List.range k).any fun q => was.getD q false && decide ((i : Int) ∈ (a.at (q : Int)).follow)
theorem reachF_succ (a : Au) (was : List Bool) (k i : Nat) : reachF a was (k + 1) i = (reachF a was k i || (was.getD k false && decide ((i : Int) ∈ (a.at (k : Int)).follow))) := by
  unfold reachF
  rw [List.range_succ, List.any_append]
  simp
def openF (a : Au) (was : List Bool) (first : Bool) (n i : Nat) : Bool := if first then decide ((i : Int) ∈ a.first) else reachF a was n i
def openB (a : Au) (was : List Bool) (first : Bool) (x : Int) : List Bool := (List.range a.places.length).map fun i => openF a was first a.places.length i && hasB (a.at (i : Int)).set x
theorem openB_law {a : Au} {m : Mk} {s : Nat} {r : Rg} {o : List Int} (hd : Dist a.places.length m) (ho : m.opens[s]? = some o) : openB a (boolsOf a.places.length o) (s == 0) r.1 = boolsOf a.places.length (openAt a (nextM a m.opens s) r) := by
  unfold openB boolsOf
  refine List.map_congr_left fun i hi => ?_
  have hin := List.mem_range.1 hi
  rw [bool_eq2]
  simp only [Bool.and_eq_true, decide_eq_true_eq]
  unfold openAt
  rw [List.mem_filter]
  have hnext : (openF a (List.map (fun p : Nat => decide ((p : Int) ∈ o)) (List.range a.places.length)) (s == 0) a.places.length i = true) ↔ (i : Int) ∈ nextM a m.opens s := by
    unfold openF nextM
    by_cases hs : s = 0
    · subst hs; simp
    · have e : (s == 0) = false := by simp [hs]
      rw [e, if_neg hs]
      simp only [Bool.false_eq_true, if_false]
      rw [(placesOf_law _).2, List.mem_flatMap]
      have hgo := hd.good o (List.mem_of_getElem? ho)
      have hgd : m.opens.getD s [] = o := by rw [List.getD_eq_getElem?_getD, ho]; rfl
      rw [hgd]
      unfold reachF
      rw [List.any_eq_true]
      constructor
      · rintro ⟨q, hq, h⟩
        have hqn := List.mem_range.1 hq
        simp only [Bool.and_eq_true, decide_eq_true_eq] at h
        have h1 := h.1
        have hb := boolsOf_get a.places.length o q hqn
        unfold boolsOf at hb
        rw [List.getD_eq_getElem?_getD, hb] at h1
        exact ⟨q, by simpa using h1, h.2⟩
      · rintro ⟨q, hq, h⟩
        have hqb := hgo.2 q hq
        refine ⟨q.toNat, List.mem_range.2 (by omega), ?_⟩
        have hb := boolsOf_get a.places.length o q.toNat (by omega)
        unfold boolsOf at hb
        rw [List.getD_eq_getElem?_getD, hb, show ((q.toNat : Nat) : Int) = q by omega]
        simp [hq, h]
  rw [hnext]
where
  bool_eq2 {a b : Bool} : (a = b) = (a = true ↔ b = true) := by cases a <;> cases b <;> simp
theorem reach_step (a : Au) (was : List Bool) (k : Nat) (hk : k < a.places.length) (b : Bool) (hb : was[k]? = some b) (i : Nat) : reachF a was (k + 1) i = (reachF a was k i || (b && decide ((i : Int) ∈ a.places[k].follow))) := by
  rw [reachF_succ, at_get hk, List.getD_eq_getElem?_getD, hb]; rfl
set_option maxHeartbeats 6400000 in
theorem open_any (a : Au) (PA FA WA : Option Addr) (cp cf cw n : Nat) (was : List Bool) (first : Bool) (x : Int) (w : World) (hnn : Hid (a.places.length = n)) (hn0 : 0 < n) (hn : n ≤ 100) (hmay : Hid (mayB a = true)) (hset : Hid (∀ p ∈ a.places, p.set.length ≤ 100000)) (hwl : Hid (was.length = n))
    (hp : PlsR w w.heap.size PA a.places) (hr : Reads w w.heap.size 1 FA a.first.length (a.first.map (Value.int .i64))) (hw : Reads w w.heap.size 1 WA n (was.map Value.bool)) :
    Calls Tryz.prog 24 #[.agg #[.slice PA n cp, .slice FA a.first.length cf, .int .i64 a.kinds], .slice WA n cw, .bool first, .int .i32 x] w fun e w' => ∃ g, e = .returned (.slice (some ⟨g, 0, none⟩) n n) ∧ BlkAt w' g n (fun i => openF a was first n i && hasB (a.at (i : Int)).set x) ∧ w.heap.size ≤ g ∧ Below w.heap.size w w' := by
  obtain ⟨wx, hwx⟩ : ∃ wx, Hid (w.alloc (.cells #[.slice PA n cp, .slice FA a.first.length cf, .int .i64 a.kinds] 37) = wx) := ⟨_, rfl⟩
  have hbx : Below w.heap.size w wx := by rw [← hwx.out]; exact below_new _ _
  have hs : w.heap.size < wx.heap.size := by rw [← hwx.out]; simp
  have c0 : wx.cell? ⟨w.heap.size, 0, none⟩ = some (.slice PA n cp) := by rw [← hwx.out, cell_new]; rfl
  have c1 : wx.cell? ⟨w.heap.size, 1, none⟩ = some (.slice FA a.first.length cf) := by rw [← hwx.out, cell_new]; rfl
  have hp1 : PlsR wx w.heap.size PA a.places := hp.below hbx
  have hr1 := hr.below hbx
  have hw1 := hw.below hbx
  rw [← hwl.out] at hw1
  have hfl : a.first.length ≤ 100 := by
    have h := hmay.out
    simp only [mayB, Bool.and_eq_true] at h
    have := (risesB_good h.1).len
    have := hnn.out
    omega
  clear hp hr hw
  have hmkb : ∀ u : World, (Instr.makeSlice 56 (.int .i64 (n : Int)) (.int .i64 (n : Int))).run Tryz.prog u = .ok (.slice (some ⟨u.heap.size, 0, none⟩) n n) (u.alloc (.cells (Array.replicate n (Value.bool false)) 4)) := fun u => by
    obtain ⟨i3, hi3, hz3, hs3, hy3⟩ := info_parts infoBool
    have h := run_make (P := Tryz.prog) u 56 4 i3 (.bool false) Tryz.underlying56 hi3 hz3 .i64 .i64 (n : Int) (n : Int) (by omega) (Int.le_refl _) (by rw [hy3]; omega) (by omega)
    have e : (n : Int).toNat = n := by omega
    rw [e] at h
    rw [← made_bool]
    simpa [hs3, Value.cells] using h
  obtain ⟨wy, hwy⟩ : ∃ wy, Hid (wx.alloc (.cells (Array.replicate n (Value.bool false)) 4) = wy) := ⟨_, rfl⟩
  have hb0 : BlkAt wy wx.heap.size n (fun _ => false) := by
    unfold BlkAt
    rw [← hwy.out, heap_alloc_new]
    congr 2
    apply Array.ext'
    refine List.ext_getElem (by simp) fun i h1 h2 => by simp
  have hby : Below wx.heap.size wx wy := by rw [← hwy.out]; exact below_new _ _
  have hrb0 : wx.heap.size = w.heap.size + 1 := by rw [← hwx.out]; simp
  rw [hrb0] at hs hb0 hby
  clear hrb0
  go_enter Tryz.func24, Tryz.ntmps24
  go_wp2_with fail
  rw [hwx.out, hwy.out]
  clear hwx hwy hmkb
  generalize hrb : w.heap.size + 1 = rb at hs hb0 hby ⊢
  have hrb' := hid hrb
  clear hrb
  have hsr : w.heap.size < rb := hs
  cases first with
  | false =>
    go_loopw [10] (fun t wr => ∃ k : Nat, k ≤ n ∧ t = .int .i64 k ∧ BlkAt wr rb n (reachF a was k) ∧ Below rb wx wr) (fun t _ => n - (intOf t).toNat)
    case atStart => exact ⟨0, Nat.zero_le _, rfl, hb0.of fun i _ => rfl, hby⟩
    case round =>
      obtain ⟨k, hk, rfl, hbk, hbr⟩ := hrel
      have t0 := (hbr.cell (p := ⟨w.heap.size, 0, none⟩) hs).trans c0
      have HBR := hid hbr
      by_cases hlt : k < n
      · have hlp : k < a.places.length := by rw [hnn.out]; exact hlt
        have hlw : k < was.length := by rw [hwl.out]; exact hlt
        obtain ⟨b, off, SA, cs, FA', cf', rfl, hbl, z0, z1, z2, z3, _, r1⟩ := (hp1.below (hbr.mono (by omega))).at k hlp
        obtain ⟨b2, off2, rfl, hbl2, y0⟩ := readsM hw1 (hbr.mono (by omega)) k hlw
        have HR : Hid (∀ i, reachF a was (k + 1) i = (reachF a was k i || (was[k] && decide ((i : Int) ∈ a.places[k].follow)))) := hid fun i => reach_step a was k hlp _ (List.getElem?_eq_getElem hlw) i
        have hmem := (mayB_place hmay.out (List.getElem_mem hlp)).2.2
        rw [hnn.out] at hmem
        have hfo := mayB_follow hmay.out (List.getElem_mem hlp)
        rw [hnn.out] at hfo
        generalize was[k] = bb at y0 HR
        generalize a.places[k].follow = fol at z3 r1 HR hmem hfo
        clear z0 z1 z2 hbr
        cases bb with
        | false =>
          have HR2 : Hid (∀ i, i < n → reachF a was k i = reachF a was (k + 1) i) := hid fun i _ => by rw [HR.out]; simp
          clear HR r1 z3 hmem
          go_wp2
          go_roundw
          case rel => exact ⟨k + 1, by omega, by go_num, hbk.of HR2.out, HBR.out⟩
          case measure => simp [intOf]; omega
        | true =>
          have HM := hid hmem
          clear hmem
          go_wp2_with fail
          obtain ⟨wo, hwo⟩ : ∃ wo : World, wo = wr := ⟨_, rfl⟩
          subst hwo
          clear y0
          go_loopw [11] (fun t wr => ∃ j : Nat, j ≤ fol.length ∧ t = .int .i64 j ∧ BlkAt wr rb n (fun i => reachF a was k i || decide ((i : Int) ∈ fol.take j)) ∧ Below rb wo wr) (fun t _ => fol.length - (intOf t).toNat)
          case atStart => exact ⟨0, Nat.zero_le _, rfl, hbk.of fun i _ => by simp, Below.refl _ _⟩
          case round =>
            obtain ⟨j, hj, rfl, hbj, hbr2⟩ := hrel
            have t1 := (hbr2.cell (p := ⟨w.heap.size, 0, none⟩) hs).trans t0
            have z4 := (hbr2.cell (p := ⟨b, off + k * 4 + 3, none⟩) (Nat.lt_trans hbl hs)).trans z3
            have HBR2 := hid hbr2
            by_cases hjl : j < fol.length
            · obtain ⟨b5, off5, hA5, hbl5, q0⟩ := readsZ r1 (hbr2.mono (by omega)) j hjl
              subst hA5
              have hy := HM.out _ (List.getElem_mem hjl)
              have HT : Hid (fol.take (j + 1) = fol.take j ++ [fol[j]]) := hid (List.take_succ_eq_append_getElem hjl)
              generalize fol[j] = y at q0 hy HT
              obtain ⟨yn, rfl⟩ : ∃ yn : Nat, y = yn := ⟨y.toNat, by omega⟩
              have hyn : yn < n := by omega
              obtain ⟨hc, hf⟩ := hbj.cell yn hyn
              have hs9 := hbj.set yn hyn true
              have HS : Hid (∀ i, i < n → (if i = yn then true else (reachF a was k i || decide ((i : Int) ∈ fol.take j))) = (reachF a was k i || decide ((i : Int) ∈ fol.take (j + 1)))) := hid fun i _ => by
                rw [HT.out]
                by_cases e : i = yn
                · subst e; simp
                · rw [if_neg e]
                  simp only [List.mem_append, List.mem_singleton]
                  have : ¬ ((i : Int) = (yn : Int)) := by omega
                  simp [this]
              clear HT hbr2
              go_wp2
              go_roundw
              case rel => exact ⟨j + 1, by omega, by go_num, hs9.of HS.out, Below.setCell HBR2.out (Nat.le_refl _) _⟩
              case measure => simp [intOf]; omega
            · obtain rfl : j = fol.length := by omega
              have HR2 : Hid (∀ i, i < n → (reachF a was k i || decide ((i : Int) ∈ fol.take fol.length)) = reachF a was (k + 1) i) := hid fun i _ => by rw [HR.out, List.take_length]; simp
              clear HR hbr2
              go_wp2
              go_roundw
              case rel => exact ⟨k + 1, by omega, by go_num, hbj.of HR2.out, HBR.out.trans HBR2.out⟩
              case measure => simp [intOf]; omega
      · obtain rfl : n = k := by omega
        clear hbr
        go_wp2_with fail
        obtain ⟨g, hg⟩ : ∃ g : Nat → Bool, Hid (g = reachF a was n) := ⟨_, hid rfl⟩
        rw [← hg.out] at hbk
        have HG9 := hid hg.out
        clear hg
        obtain ⟨wo, hwo⟩ : ∃ wo : World, wo = wr := ⟨_, rfl⟩
        subst hwo
        go_loopw [13] (fun t wr => ∃ k : Nat, k ≤ n ∧ t = .int .i64 k ∧ BlkAt wr rb n (fun i => if i < k then (g i && hasB (a.at (i : Int)).set x) else g i) ∧ Below rb wo wr) (fun t _ => n - (intOf t).toNat)
        case atStart => exact ⟨0, Nat.zero_le _, rfl, hbk.of fun i _ => by simp, Below.refl _ _⟩
        case round =>
          obtain ⟨k, hk, rfl, hbk, hbr9⟩ := hrel
          have t9 := (hbr9.cell (p := ⟨w.heap.size, 0, none⟩) hsr).trans t0
          have HBR9 := hid (HBR.out.trans hbr9)
          have HB9 := hid hbr9
          clear hbr9
          by_cases hlt : k < n
          · have hlp : k < a.places.length := by rw [hnn.out]; exact hlt
            obtain ⟨hc, hf⟩ := hbk.cell k hlt
            rw [if_neg (Nat.lt_irrefl k)] at hc
            obtain ⟨b3, off3, SA, cs, FA', cf', rfl, hbl3, z0, z1, z2, z3, rS, _⟩ := (hp1.below (HBR9.out.mono (by omega))).at k hlp
            have hsk := hset.out _ (List.getElem_mem hlp)
            have HK : Hid (∀ v, v = (g k && hasB a.places[k].set x) → ∀ i, i < n → (if i = k then v else if i < k then (g i && hasB (a.at (i : Int)).set x) else g i) = if i < k + 1 then (g i && hasB (a.at (i : Int)).set x) else g i) := hid fun v hv i _ => by
              by_cases e : i = k
              · subst e
                rw [if_pos rfl, if_pos (by omega), hv, at_get hlp]
              · rw [if_neg e]
                by_cases e2 : i < k
                · rw [if_pos e2, if_pos (by omega)]
                · rw [if_neg e2, if_neg (by omega)]
            generalize a.places[k].set = st at z0 rS hsk HK
            clear z1 z2 z3
            cases hgk : g k with
            | false =>
              rw [hgk] at hc
              have HK2 := hid (HK.out false (by rw [hgk]; rfl))
              clear HK hgk rS
              have hs9 := hbk.set k hlt false
              go_wp2
              go_roundw
              case rel => exact ⟨k + 1, by omega, by go_num, hs9.of HK2.out, Below.setCell HB9.out (Nat.le_refl _) _⟩
              case measure => simp [intOf]; omega
            | true =>
              rw [hgk] at hc
              have HK2 := hid (HK.out (hasB st x) (by rw [hgk]; rfl))
              clear HK hgk
              have hs9 := hbk.set k hlt (hasB st x)
              go_wp2_with fail
              refine (refHas_any SA cs st x _ (by omega) (rS.more (by have := HBR9.out.size; have := hbx.size; omega))).mono ?_
              rintro e w9 ⟨rfl, rfl⟩
              generalize hasB st x = hv at HK2 hs9
              cases hv <;>
              (go_wp2
               go_roundw
               case rel => exact ⟨k + 1, by omega, by go_num, hs9.of HK2.out, Below.setCell HB9.out (Nat.le_refl _) _⟩
               case measure => simp [intOf]; omega)
          · obtain rfl : n = k := by omega
            go_wp2
            go_ret
            refine ⟨rb, rfl, hbk.of fun i hi => ?_, by omega, ?_⟩
            · rw [if_pos hi, HG9.out]; rfl
            · exact hbx.trans (HBR9.out.mono (by omega))
  | true =>
    have hfb : Hid (∀ y ∈ a.first, 0 ≤ y ∧ y < (n : Int)) := hid fun y hy => by have := mayB_first hmay.out hy; rw [hnn.out] at this; exact this
    go_loopw [10] (fun t wr => t = .int .i64 0 ∧ BlkAt wr rb n (fun _ => false) ∧ Below rb wx wr) (fun _ _ => 0)
    case atStart => exact ⟨rfl, hb0, hby⟩
    case round =>
      obtain ⟨rfl, hbk, hbr⟩ := hrel
      have t0 := (hbr.cell (p := ⟨w.heap.size, 0, none⟩) hs).trans c0
      have t1 := (hbr.cell (p := ⟨w.heap.size, 1, none⟩) hs).trans c1
      have HBR0 := hid hbr
      clear hbr hb0 hby
      go_wp2_with fail
      obtain ⟨wp, hwp⟩ : ∃ wp : World, wp = wr := ⟨_, rfl⟩
      subst hwp
      go_loopw [12] (fun t wr => ∃ j : Nat, j ≤ a.first.length ∧ t = .int .i64 j ∧ BlkAt wr rb n (fun i => decide ((i : Int) ∈ a.first.take j)) ∧ Below rb wp wr) (fun t _ => a.first.length - (intOf t).toNat)
      case atStart => exact ⟨0, Nat.zero_le _, rfl, hbk.of fun i _ => by simp, Below.refl _ _⟩
      case round =>
        obtain ⟨j, hj, rfl, hbj, hbr2⟩ := hrel
        have t2 := (hbr2.cell (p := ⟨w.heap.size, 1, none⟩) hs).trans t1
        have t0 := (hbr2.cell (p := ⟨w.heap.size, 0, none⟩) hs).trans t0
        have HBR := hid (HBR0.out.trans hbr2)
        by_cases hjl : j < a.first.length
        · obtain ⟨b5, off5, hA5, hbl5, q0⟩ := readsZ hr1 (HBR.out.mono (by omega)) j hjl
          subst hA5
          have hy := hfb.out _ (List.getElem_mem hjl)
          have HT : Hid (a.first.take (j + 1) = a.first.take j ++ [a.first[j]]) := hid (List.take_succ_eq_append_getElem hjl)
          generalize a.first[j] = y at q0 hy HT
          obtain ⟨yn, rfl⟩ : ∃ yn : Nat, y = yn := ⟨y.toNat, by omega⟩
          have hyn : yn < n := by omega
          obtain ⟨hc, hf⟩ := hbj.cell yn hyn
          have hs9 := hbj.set yn hyn true
          have HS : Hid (∀ i, i < n → (if i = yn then true else decide ((i : Int) ∈ a.first.take j)) = decide ((i : Int) ∈ a.first.take (j + 1))) := hid fun i _ => by
            rw [HT.out]
            by_cases e : i = yn
            · subst e; simp
            · rw [if_neg e]
              simp only [List.mem_append, List.mem_singleton]
              have : ¬ ((i : Int) = (yn : Int)) := by omega
              simp [this]
          have HBR2 := hid hbr2
          clear HT hbr2
          go_wp2
          go_roundw
          case rel => exact ⟨j + 1, by omega, by go_num, hs9.of HS.out, Below.setCell HBR2.out (Nat.le_refl _) _⟩
          case measure => simp [intOf]; omega
        · obtain rfl : j = a.first.length := by omega
          rw [List.take_length] at hbj
          clear hbr2
          go_wp2_with fail
          obtain ⟨g, hg⟩ : ∃ g : Nat → Bool, Hid (g = fun i : Nat => decide ((i : Int) ∈ a.first)) := ⟨_, hid rfl⟩
          rw [← hg.out] at hbj
          have HG9 := hid hg.out
          clear hg
          obtain ⟨wo, hwo⟩ : ∃ wo : World, wo = wr := ⟨_, rfl⟩
          subst hwo
          go_loopw [13] (fun t wr => ∃ k : Nat, k ≤ n ∧ t = .int .i64 k ∧ BlkAt wr rb n (fun i => if i < k then (g i && hasB (a.at (i : Int)).set x) else g i) ∧ Below rb wo wr) (fun t _ => n - (intOf t).toNat)
          case atStart => exact ⟨0, Nat.zero_le _, rfl, hbj.of fun i _ => by simp, Below.refl _ _⟩
          case round =>
            obtain ⟨k, hk, rfl, hbk, hbr9⟩ := hrel
            have t9 := (hbr9.cell (p := ⟨w.heap.size, 0, none⟩) hsr).trans t0
            have HBR9 := hid (HBR.out.trans hbr9)
            have HB9 := hid hbr9
            clear hbr9
            by_cases hlt : k < n
            · have hlp : k < a.places.length := by rw [hnn.out]; exact hlt
              obtain ⟨hc, hf⟩ := hbk.cell k hlt
              rw [if_neg (Nat.lt_irrefl k)] at hc
              obtain ⟨b3, off3, SA, cs, FA', cf', rfl, hbl3, z0, z1, z2, z3, rS, _⟩ := (hp1.below (HBR9.out.mono (by omega))).at k hlp
              have hsk := hset.out _ (List.getElem_mem hlp)
              have HK : Hid (∀ v, v = (g k && hasB a.places[k].set x) → ∀ i, i < n → (if i = k then v else if i < k then (g i && hasB (a.at (i : Int)).set x) else g i) = if i < k + 1 then (g i && hasB (a.at (i : Int)).set x) else g i) := hid fun v hv i _ => by
                by_cases e : i = k
                · subst e
                  rw [if_pos rfl, if_pos (by omega), hv, at_get hlp]
                · rw [if_neg e]
                  by_cases e2 : i < k
                  · rw [if_pos e2, if_pos (by omega)]
                  · rw [if_neg e2, if_neg (by omega)]
              generalize a.places[k].set = st at z0 rS hsk HK
              clear z1 z2 z3
              cases hgk : g k with
              | false =>
                rw [hgk] at hc
                have HK2 := hid (HK.out false (by rw [hgk]; rfl))
                clear HK hgk rS
                have hs9 := hbk.set k hlt false
                go_wp2
                go_roundw
                case rel => exact ⟨k + 1, by omega, by go_num, hs9.of HK2.out, Below.setCell HB9.out (Nat.le_refl _) _⟩
                case measure => simp [intOf]; omega
              | true =>
                rw [hgk] at hc
                have HK2 := hid (HK.out (hasB st x) (by rw [hgk]; rfl))
                clear HK hgk
                have hs9 := hbk.set k hlt (hasB st x)
                go_wp2_with fail
                refine (refHas_any SA cs st x _ (by omega) (rS.more (by have := HBR9.out.size; have := hbx.size; omega))).mono ?_
                rintro e w9 ⟨rfl, rfl⟩
                generalize hasB st x = hv at HK2 hs9
                cases hv <;>
                (go_wp2
                 go_roundw
                 case rel => exact ⟨k + 1, by omega, by go_num, hs9.of HK2.out, Below.setCell HB9.out (Nat.le_refl _) _⟩
                 case measure => simp [intOf]; omega)
            · obtain rfl : n = k := by omega
              go_wp2
              go_ret
              refine ⟨rb, rfl, hbk.of fun i hi => ?_, by omega, ?_⟩
              · rw [if_pos hi, HG9.out]; rfl
              · exact hbx.trans (HBR9.out.mono (by omega))
end Go.Proofs.YtoclbcfgfaialaaGreatDoor

/-
  Subsets: what stands in memory amid the document's Of. Plain lemmas.
-/
namespace Go.Proofs.YtoclbcfgfaialaaGreatDoor
open Go.RowKit
set_option maxRecDepth 100000
/-- what does not turn amid the loop over the states -/
structure RC where
  n : Nat
  tb : Nat
  B2 : Nat
  RA : Option Addr
  rc : Nat
  CA : Option Addr
  cc : Nat
  rs : List Rg
  w2 : World
/-- the blocks that may turn -/
def SR (c : RC) (vs ve vn vr : Value) (k : Nat) : Prop := k = c.tb ∨ vs.ownBlock = some k ∨ ve.ownBlock = some k ∨ vn.ownBlock = some k ∨ vr.ownBlock = some k
/-- lists of lists in memory, in blocks that are none of S -/
def EachRO {α β : Type} (f : α → List Value) (len : α → Nat) (w : World) (S : Nat → Prop) (es : List Value) (ls : List α) (_ : β) : Prop :=
  es.length = ls.length ∧ ∀ i (h : i < ls.length), ∃ A c, es[i]? = some (.slice A (len ls[i]) c) ∧ RO w S 1 A (len ls[i]) (f ls[i])
theorem EachRO.only {α β : Type} {f : α → List Value} {len : α → Nat} {w w' : World} {S S' : Nat → Prop} {es : List Value} {ls : List α} {u : β} (h : EachRO f len w S es ls u) (ho : Only S w w') (hS : ∀ b, b < w.heap.size → S' b → S b) : EachRO f len w' S' es ls u :=
  ⟨h.1, fun i hi => by
    obtain ⟨A, c, e, r⟩ := h.2 i hi
    exact ⟨A, c, e, r.only ho hS⟩⟩
theorem EachRO.push {α β : Type} {f : α → List Value} {len : α → Nat} {w : World} {S : Nat → Prop} {es : List Value} {ls : List α} {u : β} (h : EachRO f len w S es ls u) {x : α} {A : Option Addr} {n c : Nat} (hn : len x = n) (hr : RO w S 1 A n (f x)) : EachRO f len w S (es ++ [.slice A n c]) (ls ++ [x]) u := by
  refine ⟨by simp [h.1], fun i hi => ?_⟩
  by_cases e : i < ls.length
  · obtain ⟨A', c', e1, r⟩ := h.2 i e
    rw [List.getElem_append_left e, List.getElem?_append_left (by rw [h.1]; exact e)]
    exact ⟨A', c', e1, r⟩
  · have e2 : i = ls.length := by simp at hi; omega
    subst e2
    rw [List.getElem_append_right (by omega), List.getElem?_append_right (by rw [h.1]; exact Nat.le_refl _), h.1]
    simp only [Nat.sub_self, List.getElem_cons_zero, List.getElem?_cons_zero]
    rw [hn]
    exact ⟨A, c, rfl, hr⟩
structure RefSt (c : RC) (vs ve vn vr : Value) (m : Mk) (rows : List (List Int)) (row : List Int) (w : World) : Prop where
  tbl : w.heap[c.tb]? = some (.cells #[.slice c.RA c.rs.length c.rc, .slice c.CA c.rs.length c.cc, vn, ve] 31 (0, 0))
  sts : ∃ es, w.ownsRow c.B2 56 1 vs m.opens.length es ∧ EachRO (fun o => (boolsOf c.n o).map Value.bool) (fun _ => c.n) w (SR c vs ve vn vr) es m.opens ()
  ends : w.ownsRow c.B2 3 1 ve m.ends.length (m.ends.map (Value.int .i64))
  nxt : ∃ es, w.ownsRow c.B2 23 1 vn rows.length es ∧ EachRO (fun r : List Int => r.map (Value.int .i64)) List.length w (SR c vs ve vn vr) es rows ()
  row : w.ownsRow c.B2 3 1 vr row.length (row.map (Value.int .i64))
  dis : ∀ k, vr.ownBlock = some k → ve.ownBlock ≠ some k
  rng : RO w (SR c vs ve vn vr) 2 c.RA c.rs.length (flat encR c.rs)
  cls : RO w (SR c vs ve vn vr) 1 c.CA c.rs.length ((iotaI c.rs.length).map (Value.int .i64))
  bel : Below c.B2 c.w2 w
  btb : c.B2 ≤ c.tb
  bsz : c.B2 ≤ w.heap.size
theorem own_far {w : World} {b1 b2 : Nat} {e1 e2 : TypeId} {s1 s2 n1 n2 : Nat} {v1 v2 : Value} {x1 x2 : List Value} (h1 : w.ownsRow b1 e1 s1 v1 n1 x1) (h2 : w.ownsRow b2 e2 s2 v2 n2 x2) (hne : e1 ≠ e2) (k : Nat) (hk : v1.ownBlock = some k) : v2.ownBlock ≠ some k := by
  rcases own_ne h1 h2 hne with h | h
  · rw [h] at hk; cases hk
  · exact fun e => h (by rw [hk, e])
theorem row_not {w : World} {base : Nat} {e T : TypeId} {size : Nat} {v : Value} {n k : Nat} {xs : List Value} {cs : Array Value} (h : w.ownsRow base e size v n xs) (hk : w.heap[k]? = some (.cells cs T (0, 0))) (hne : e ≠ T) : v.ownBlock ≠ some k := ownC_not (OwnC.of h) hk hne
theorem RefSt.SR_ge {c : RC} {vs ve vn vr : Value} {m : Mk} {rows : List (List Int)} {row : List Int} {w : World} (h : RefSt c vs ve vn vr m rows row w) {k : Nat} (hk : SR c vs ve vn vr k) : c.B2 ≤ k ∧ k < w.heap.size := by
  obtain ⟨es, h1, _⟩ := h.sts
  obtain ⟨es2, h2, _⟩ := h.nxt
  rcases hk with e | e | e | e | e
  · rw [e]; exact ⟨h.btb, heap_lt h.tbl⟩
  · exact h1.lt k e
  · exact h.ends.lt k e
  · exact h2.lt k e
  · exact h.row.lt k e
theorem RefSt.below {c : RC} {vs ve vn vr : Value} {m : Mk} {rows : List (List Int)} {row : List Int} {w w' : World} (h : RefSt c vs ve vn vr m rows row w) (hb : Below w.heap.size w w') : RefSt c vs ve vn vr m rows row w' := by
  have ho : Only (fun _ => False) w w' := ⟨hb.os, hb.tape, hb.output, hb.size, fun k hk _ => hb.block k hk⟩
  have hoS : Only (SR c vs ve vn vr) w w' := ho.more fun _ _ e => e.elim
  have nf : ∀ (v : Value) (k : Nat), v.ownBlock = some k → ¬ False := fun _ _ _ e => e
  obtain ⟨es, h1, h2⟩ := h.sts
  obtain ⟨es2, h3, h4⟩ := h.nxt
  exact ⟨(hb.block _ (heap_lt h.tbl)).trans h.tbl, ⟨es, ownsRow_only h1 ho (nf vs), h2.only hoS fun _ _ e => e⟩, ownsRow_only h.ends ho (nf ve), ⟨es2, ownsRow_only h3 ho (nf vn), h4.only hoS fun _ _ e => e⟩, ownsRow_only h.row ho (nf vr), h.dis,
    h.rng.only hoS fun _ _ e => e, h.cls.only hoS fun _ _ e => e, h.bel.trans (hb.mono h.bsz), h.btb, Nat.le_trans h.bsz hb.size⟩
theorem bools_int : (56 : TypeId) ≠ 3 := by decide
theorem bools_ints : (56 : TypeId) ≠ 23 := by decide
theorem ints_int : (23 : TypeId) ≠ 3 := by decide
theorem tab_bools : (56 : TypeId) ≠ 31 := by decide
theorem tab_int : (3 : TypeId) ≠ 31 := by decide
theorem tab_ints : (23 : TypeId) ≠ 31 := by decide
/-- the row grows -/
theorem RefSt.push_row {c : RC} {vs ve vn vr : Value} {m : Mk} {rows : List (List Int)} {row : List Int} {w w' : World} {g cg : Nat} {x : Int} (h : RefSt c vs ve vn vr m rows row w)
    (hown : w'.ownsRow c.B2 3 1 (.slice (some ⟨g, 0, none⟩) (row.length + 1) cg) (row.length + 1) (row.map (Value.int .i64) ++ [.int .i64 x])) (hg : vr.ownBlock = some g ∨ w.heap.size < g) (ho : Only (fun k => vr.ownBlock = some k) w w') :
    RefSt c vs ve vn (.slice (some ⟨g, 0, none⟩) (row.length + 1) cg) m rows (row ++ [x]) w' := by
  obtain ⟨es, h1, h2⟩ := h.sts
  obtain ⟨es2, h3, h4⟩ := h.nxt
  have hoS : Only (SR c vs ve vn vr) w w' := ho.more fun _ _ e => .inr (.inr (.inr (.inr e)))
  have hS : ∀ b, b < w.heap.size → SR c vs ve vn (.slice (some ⟨g, 0, none⟩) (row.length + 1) cg) b → SR c vs ve vn vr b := fun b hb e => by
    rcases e with e | e | e | e | e
    · exact .inl e
    · exact .inr (.inl e)
    · exact .inr (.inr (.inl e))
    · exact .inr (.inr (.inr (.inl e)))
    · injection e with e
      have e : g = b := e
      subst e
      rcases hg with hg | hg
      · exact .inr (.inr (.inr (.inr hg)))
      · omega
  refine ⟨(ho.block _ (heap_lt h.tbl) (row_not h.row h.tbl tab_int)).trans h.tbl, ⟨es, ownsRow_only h1 ho fun k e1 e2 => own_far h1 h.row bools_int k e1 e2, h2.only hoS hS⟩, ownsRow_only h.ends ho fun k e1 e2 => h.dis k e2 e1,
    ⟨es2, ownsRow_only h3 ho fun k e1 e2 => own_far h3 h.row ints_int k e1 e2, h4.only hoS hS⟩, by simpa using hown, fun k e1 e2 => ?_, h.rng.only hoS hS, h.cls.only hoS hS, ho.below (fun k e => (h.row.lt k e).1) h.bel h.bsz, h.btb, Nat.le_trans h.bsz ho.size⟩
  injection e1 with e1
  have e1 : g = k := e1
  subst e1
  rcases hg with hg | hg
  · exact h.dis g hg e2
  · have := (h.ends.lt g e2).2; omega
/-- a state more -/
theorem RefSt.push_state {c : RC} {vs ve vn vr : Value} {opens : List (List Int)} {ends : List Int} {rows : List (List Int)} {row : List Int} {w w' : World} {g cg ca : Nat} {o : List Int} {A : Option Addr} {es : List Value} (h : RefSt c vs ve vn vr ⟨opens, ends⟩ rows row w) (h1 : w.ownsRow c.B2 56 1 vs opens.length es) (h2 : EachRO (fun o => (boolsOf c.n o).map Value.bool) (fun _ => c.n) w (SR c vs ve vn vr) es opens ())
    (hown : w'.ownsRow c.B2 56 1 (.slice (some ⟨g, 0, none⟩) (opens.length + 1) cg) (opens.length + 1) (es ++ [.slice A c.n ca])) (hg : vs.ownBlock = some g ∨ w.heap.size < g) (ho : Only (fun k => vs.ownBlock = some k) w w')
    (hr : RO w (SR c vs ve vn vr) 1 A c.n ((boolsOf c.n o).map Value.bool)) :
    RefSt c (.slice (some ⟨g, 0, none⟩) (opens.length + 1) cg) ve vn vr ⟨opens ++ [o], ends⟩ rows row w' := by
  obtain ⟨es2, h3, h4⟩ := h.nxt
  have hoS : Only (SR c vs ve vn vr) w w' := ho.more fun _ _ e => .inr (.inl e)
  have hS : ∀ b, b < w.heap.size → SR c (.slice (some ⟨g, 0, none⟩) (opens.length + 1) cg) ve vn vr b → SR c vs ve vn vr b := fun b hb e => by
    rcases e with e | e | e
    · exact .inl e
    · injection e with e
      have e : g = b := e
      subst e
      rcases hg with hg | hg
      · exact .inr (.inl hg)
      · omega
    · exact .inr (.inr e)
  refine ⟨(ho.block _ (heap_lt h.tbl) (row_not h1 h.tbl tab_bools)).trans h.tbl, ⟨_, by simpa using hown, (h2.push (x := o) rfl hr).only hoS hS⟩, ownsRow_only h.ends ho fun k e1 e2 => own_far h1 h.ends bools_int k e2 e1,
    ⟨es2, ownsRow_only h3 ho fun k e1 e2 => own_far h1 h3 bools_ints k e2 e1, h4.only hoS hS⟩, ownsRow_only h.row ho fun k e1 e2 => own_far h1 h.row bools_int k e2 e1, h.dis, h.rng.only hoS hS, h.cls.only hoS hS, ho.below (fun k e => (h1.lt k e).1) h.bel h.bsz, h.btb, Nat.le_trans h.bsz ho.size⟩
theorem SR_set {c : RC} {vs ve vn vr : Value} {w w1 : World} (o : Nat) (v : Value) {S : Nat → Prop} (ho : Only S w w1) (hS : ∀ b, S b → SR c vs ve vn vr b) : Only (SR c vs ve vn vr) w (w1.setCell ⟨c.tb, o, none⟩ v) :=
  (ho.more fun b _ e => hS b e).trans ((Only.of_set w1 c.tb o v).more fun b _ e => show SR c vs ve vn vr b from .inl e) fun _ _ e => e
theorem own_setTb {w : World} {base : Nat} {e T : TypeId} {size : Nat} {v : Value} {n tb o : Nat} {xs : List Value} {cs : Array Value} {u : Value} (h : w.ownsRow base e size v n xs) (hk : w.heap[tb]? = some (.cells cs T (0, 0))) (hne : e ≠ T) : (w.setCell ⟨tb, o, none⟩ u).ownsRow base e size v n xs :=
  ownsRow_setCell_other h (row_not h hk hne) u
/-- the ends grow -/
theorem RefSt.push_ends {c : RC} {vs ve vn vr : Value} {opens : List (List Int)} {ends : List Int} {rows : List (List Int)} {row : List Int} {w w' : World} {g cg : Nat} {x : Int} (h : RefSt c vs ve vn vr ⟨opens, ends⟩ rows row w)
    (hown : w'.ownsRow c.B2 3 1 (.slice (some ⟨g, 0, none⟩) (ends.length + 1) cg) (ends.length + 1) (ends.map (Value.int .i64) ++ [.int .i64 x])) (hg : ve.ownBlock = some g ∨ w.heap.size < g) (ho : Only (fun k => ve.ownBlock = some k) w w') :
    RefSt c vs (.slice (some ⟨g, 0, none⟩) (ends.length + 1) cg) vn vr ⟨opens, ends ++ [x]⟩ rows row (w'.setCell ⟨c.tb, 3, none⟩ (.slice (some ⟨g, 0, none⟩) (ends.length + 1) cg)) := by
  obtain ⟨es, h1, h2⟩ := h.sts
  obtain ⟨es2, h3, h4⟩ := h.nxt
  have hoS := SR_set 3 (.slice (some ⟨g, 0, none⟩) (ends.length + 1) cg) ho fun b e => show SR c vs ve vn vr b from .inr (.inr (.inl e))
  have hS : ∀ b, b < w.heap.size → SR c vs (.slice (some ⟨g, 0, none⟩) (ends.length + 1) cg) vn vr b → SR c vs ve vn vr b := fun b hb e => by
    rcases e with e | e | e | e
    · exact .inl e
    · exact .inr (.inl e)
    · injection e with e
      have e : g = b := e
      subst e
      rcases hg with hg | hg
      · exact .inr (.inr (.inl hg))
      · omega
    · exact .inr (.inr (.inr e))
  have ht := (ho.block _ (heap_lt h.tbl) (row_not h.ends h.tbl tab_int)).trans h.tbl
  have k1 := ownsRow_only h1 ho fun k e1 e2 => own_far h1 h.ends bools_int k e1 e2
  have k3 := ownsRow_only h3 ho fun k e1 e2 => own_far h3 h.ends ints_int k e1 e2
  have kr := ownsRow_only h.row ho fun k e1 e2 => h.dis k e1 e2
  refine ⟨heap_setCell_same w' c.tb 3 _ _ _ ht, ⟨es, own_setTb k1 ht tab_bools, h2.only hoS hS⟩, by simpa using own_setTb hown ht tab_int,
    ⟨es2, own_setTb k3 ht tab_ints, h4.only hoS hS⟩, own_setTb kr ht tab_int, fun k e1 e2 => ?_, h.rng.only hoS hS, h.cls.only hoS hS, hoS.below (fun k e => (h.SR_ge e).1) h.bel h.bsz, h.btb, Nat.le_trans h.bsz hoS.size⟩
  injection e2 with e2
  have e2 : g = k := e2
  subst e2
  rcases hg with hg | hg
  · exact h.dis g e1 hg
  · have := (h.row.lt g e1).2; omega
/-- the row is laid among the others; a new one begins -/
theorem RefSt.push_next {c : RC} {vs ve vn : Value} {m : Mk} {rows : List (List Int)} {row : List Int} {w w' : World} {g cg cr : Nat} {A : Option Addr} {es2 : List Value} (h : RefSt c vs ve vn (.slice A row.length cr) m rows row w) (h3 : w.ownsRow c.B2 23 1 vn rows.length es2) (h4 : EachRO (fun r : List Int => r.map (Value.int .i64)) List.length w (SR c vs ve vn (.slice A row.length cr)) es2 rows ())
    (hown : w'.ownsRow c.B2 23 1 (.slice (some ⟨g, 0, none⟩) (rows.length + 1) cg) (rows.length + 1) (es2 ++ [.slice A row.length cr])) (hg : vn.ownBlock = some g ∨ w.heap.size < g) (ho : Only (fun k => vn.ownBlock = some k) w w') :
    RefSt c vs ve (.slice (some ⟨g, 0, none⟩) (rows.length + 1) cg) (.slice none 0 0) m (rows ++ [row]) [] (w'.setCell ⟨c.tb, 2, none⟩ (.slice (some ⟨g, 0, none⟩) (rows.length + 1) cg)) := by
  obtain ⟨es, h1, h2⟩ := h.sts
  -- the blocks that turn here: the table, and those of the rows
  let S2 : Nat → Prop := fun k => k = c.tb ∨ vn.ownBlock = some k
  have hoA : Only S2 w (w'.setCell ⟨c.tb, 2, none⟩ (.slice (some ⟨g, 0, none⟩) (rows.length + 1) cg)) :=
    (ho.more fun b _ e => (show S2 b from .inr e)).trans ((Only.of_set w' c.tb 2 _).more fun b _ e => (show S2 b from .inl e)) fun _ _ e => e
  have hoS : Only (SR c vs ve vn (.slice A row.length cr)) w (w'.setCell ⟨c.tb, 2, none⟩ (.slice (some ⟨g, 0, none⟩) (rows.length + 1) cg)) := hoA.more fun b _ e => e.elim (fun e => .inl e) fun e => .inr (.inr (.inr (.inl e)))
  have hS : ∀ b, b < w.heap.size → SR c vs ve (.slice (some ⟨g, 0, none⟩) (rows.length + 1) cg) (.slice none 0 0) b → SR c vs ve vn (.slice A row.length cr) b := fun b hb e => by
    rcases e with e | e | e | e | e
    · exact .inl e
    · exact .inr (.inl e)
    · exact .inr (.inr (.inl e))
    · injection e with e
      have e : g = b := e
      subst e
      rcases hg with hg | hg
      · exact .inr (.inr (.inr (.inl hg)))
      · omega
    · cases e
  have ht := (ho.block _ (heap_lt h.tbl) (row_not h3 h.tbl tab_ints)).trans h.tbl
  have k1 := ownsRow_only h1 ho fun k e1 e2 => own_far h1 h3 bools_ints k e1 e2
  have ke := ownsRow_only h.ends ho fun k e1 e2 => own_far h3 h.ends ints_int k e2 e1
  have hrow : RO (w'.setCell ⟨c.tb, 2, none⟩ (.slice (some ⟨g, 0, none⟩) (rows.length + 1) cg)) (SR c vs ve (.slice (some ⟨g, 0, none⟩) (rows.length + 1) cg) (.slice none 0 0)) 1 A row.length (row.map (Value.int .i64)) := by
    have hrd := Reads.of_own h.row
    refine ⟨hrd.1, fun hn => ?_⟩
    obtain ⟨b, off, hA, hb, hcl⟩ := hrd.2 hn
    have hbo : (Value.slice A row.length cr).ownBlock = some b := by rw [hA]; rfl
    have hnb : ¬ S2 b := fun e => by
      rcases e with e | e
      · exact row_not h.row h.tbl tab_int (by rw [hbo, e])
      · exact own_far h3 h.row ints_int b e hbo
    refine ⟨b, off, hA, Nat.lt_of_lt_of_le hb hoA.size, fun e => ?_, fun j u hu => (hoA.cell hb hnb).trans (hcl j u hu)⟩
    rcases e with e | e | e | e | e
    · exact hnb (.inl e)
    · exact own_far h1 h.row bools_int b e hbo
    · exact h.dis b hbo e
    · injection e with e
      have e : g = b := e
      subst e
      rcases hg with hg | hg
      · exact hnb (.inr hg)
      · omega
    · cases e
  refine ⟨heap_setCell_same w' c.tb 2 _ _ _ ht, ⟨es, own_setTb k1 ht tab_bools, h2.only hoS hS⟩, own_setTb ke ht tab_int,
    ⟨es2 ++ [.slice A row.length cr], by simpa using own_setTb hown ht tab_ints, (h4.only hoS hS).push rfl hrow⟩, World.ownsRow_nil _ _ _ _, fun k e => (by cases e), h.rng.only hoS hS, h.cls.only hoS hS, hoS.below (fun k e => (h.SR_ge e).1) h.bel h.bsz, h.btb, Nat.le_trans h.bsz hoS.size⟩
theorem iotaI_snoc (k : Nat) : iotaI (k + 1) = iotaI k ++ [(k : Int)] := by simp [iotaI, List.range_succ]
theorem boolsOf_nil (n : Nat) : boolsOf n [] = List.replicate n false := by
  unfold boolsOf
  refine List.ext_getElem (by simp) fun i h1 h2 => by simp
theorem RefSt.start {c : RC} {w : World} {e0 s0 s1 : Nat}
    (htb : w.heap[c.tb]? = some (.cells #[.slice c.RA c.rs.length c.rc, .slice c.CA c.rs.length c.cc, .slice none 0 0, .slice (some ⟨e0, 0, none⟩) 1 1] 31 (0, 0)))
    (he : w.heap[e0]? = some (.cells #[.int .i64 (-1)] 3 (0, 0))) (h0 : w.heap[s0]? = some (.cells (Array.replicate c.n (Value.bool false)) 4 (0, 0))) (h1 : w.heap[s1]? = some (.cells #[.slice (some ⟨s0, 0, none⟩) c.n c.n] 56 (0, 0)))
    (n0 : s0 ≠ c.tb) (n1 : s0 ≠ s1) (n2 : s0 ≠ e0) (be : c.B2 ≤ e0) (bs : c.B2 ≤ s1) (btb : c.B2 ≤ c.tb) (bel : Below c.B2 c.w2 w) (bsz : c.B2 ≤ w.heap.size)
    (rng : RO w (fun k => k = c.tb ∨ k = s1 ∨ k = e0) 2 c.RA c.rs.length (flat encR c.rs)) (cls : RO w (fun k => k = c.tb ∨ k = s1 ∨ k = e0) 1 c.CA c.rs.length ((iotaI c.rs.length).map (Value.int .i64))) :
    RefSt c (.slice (some ⟨s1, 0, none⟩) 1 1) (.slice (some ⟨e0, 0, none⟩) 1 1) (.slice none 0 0) (.slice none 0 0) start0 [] [] w := by
  have hS : ∀ b, SR c (.slice (some ⟨s1, 0, none⟩) 1 1) (.slice (some ⟨e0, 0, none⟩) 1 1) (.slice none 0 0) (.slice none 0 0) b → (b = c.tb ∨ b = s1 ∨ b = e0) := fun b e => by
    rcases e with e | e | e | e | e
    · exact .inl e
    · injection e with e
      exact .inr (.inl (Eq.symm e))
    · injection e with e
      exact .inr (.inr (Eq.symm e))
    · cases e
    · cases e
  refine ⟨htb, ⟨_, row_one h1 bs, rfl, fun i hi => ?_⟩, row_one he be, ⟨[], World.ownsRow_nil _ _ _ _, rfl, fun i hi => absurd hi (by simp)⟩, World.ownsRow_nil _ _ _ _, fun k e => (by cases e), rng.other fun b _ e => hS b e, cls.other fun b _ e => hS b e, bel, btb, bsz⟩
  have hi0 : i = 0 := by simp [start0] at hi; exact hi
  subst hi0
  refine ⟨some ⟨s0, 0, none⟩, c.n, rfl, by simp [boolsOf], fun _ => ⟨s0, 0, rfl, heap_lt h0, fun e => ?_, fun j u hu => ?_⟩⟩
  · rcases hS _ e with e | e | e
    · exact n0 e
    · exact n1 e
    · exact n2 e
  · have hu : ((boolsOf c.n []).map Value.bool)[j]? = some u := hu
    rw [boolsOf_nil] at hu
    rw [Nat.zero_add, Lib.cell_of_heap h0]
    rw [List.map_replicate] at hu
    rw [← hu]
    by_cases hj : j < c.n
    · simp [hj]
    · simp [hj]
/-- amid the loop over the states -/
structure LoopR (a : Au) (rs : List Rg) (s : Nat) (m : Mk) (rows : List (List Int)) : Prop where
  lp : refL a rs (4098 - s) s m rows = refL a rs 4098 0 start0 []
  dist : Dist a.places.length m
  few : m.opens.length ≤ 200
  sle : s ≤ m.opens.length
  el : m.ends.length = m.opens.length
  rl : rows.length = s
theorem LoopR.start (a : Au) (rs : List Rg) : LoopR a rs 0 start0 [] := ⟨rfl, Dist.start _, by simp [start0], by simp, by simp [start0], rfl⟩
/-- amid a row -/
structure InR (a : Au) (nx : List Int) (rs : List Rg) (m : Mk) (j : Nat) (x : Mk × List Int) : Prop where
  eq : x = (rs.take j).foldl (stepR a nx) (m, [])
  ext : ∃ e, x.1.opens = m.opens ++ e
  dist : Dist a.places.length x.1
  few : x.1.opens.length ≤ 200 + j
  el : x.1.ends.length = x.1.opens.length
  len : x.2.length = j
theorem InR.start {a : Au} {nx : List Int} {rs : List Rg} {m : Mk} (hd : Dist a.places.length m) (hf : m.opens.length ≤ 200) (he : m.ends.length = m.opens.length) : InR a nx rs m 0 (m, []) := ⟨rfl, ⟨[], by simp⟩, hd, by simpa using hf, he, rfl⟩
theorem InR.at {a : Au} {nx : List Int} {rs : List Rg} {m : Mk} {j : Nat} {x : Mk × List Int} (h : InR a nx rs m j x) {s : Nat} {o : List Int} (hs : m.opens[s]? = some o) : x.1.opens[s]? = some o := by
  obtain ⟨e, he⟩ := h.ext
  rw [he, List.getElem?_append_left (List.getElem?_eq_some_iff.1 hs).1, hs]
theorem InR.step {a : Au} {nx : List Int} {rs : List Rg} {m : Mk} {j : Nat} {x : Mk × List Int} (h : InR a nx rs m j x) (hj : j < rs.length) (hn : a.places.length ≤ 100) (hx : GoodO a.places.length nx) : InR a nx rs m (j + 1) (stepR a nx x rs[j]) := by
  refine ⟨?_, ?_, h.dist.step hn hx, ?_, ?_, ?_⟩
  · rw [List.take_succ_eq_append_getElem hj, List.foldl_append, ← h.eq]; rfl
  · obtain ⟨e, he⟩ := h.ext
    unfold stepR
    split
    · exact ⟨e, he⟩
    · unfold stateM
      split
      · exact ⟨e, he⟩
      · exact ⟨e ++ [openAt a nx rs[j]], by simp [he]⟩
  · have := h.few
    unfold stepR
    split
    · simp only; omega
    · unfold stateM
      split <;> simp <;> omega
  · have := h.el
    unfold stepR
    split
    · exact this
    · unfold stateM
      split
      · exact this
      · simp [this]
  · have := h.len
    unfold stepR
    split <;> simp [this]
theorem InR.whole {a : Au} {nx : List Int} {rs : List Rg} {m : Mk} {x : Mk × List Int} (h : InR a nx rs m rs.length x) : x = rowM a nx rs m := by
  rw [h.eq, List.take_length]; rfl
theorem LoopR.row {a : Au} {rs : List Rg} {s : Nat} {m : Mk} {rows : List (List Int)} {x : Mk × List Int} (h : LoopR a rs s m rows) (hs : s < m.opens.length) (hx : InR a (nextM a m.opens s) rs m rs.length x) :
    (tooMany x.1.opens.length rs.length = true → refL a rs 4098 0 start0 [] = .limit) ∧ (tooMany x.1.opens.length rs.length = false → 200 < x.1.opens.length → refL a rs 4098 0 start0 [] = .depth) ∧
    (tooMany x.1.opens.length rs.length = false → ¬ 200 < x.1.opens.length → LoopR a rs (s + 1) x.1 (rows ++ [x.2])) := by
  suffices H : (tooMany x.1.opens.length rs.length = true → refL a rs 4098 0 start0 [] = .limit) ∧ (tooMany x.1.opens.length rs.length = false → 200 < x.1.opens.length → refL a rs 4098 0 start0 [] = .depth) ∧
    (tooMany x.1.opens.length rs.length = false → ¬ 200 < x.1.opens.length → refL a rs (4098 - (s + 1)) (s + 1) x.1 (rows ++ [x.2]) = refL a rs 4098 0 start0 []) by
    refine ⟨H.1, H.2.1, fun ht hd => ⟨H.2.2 ht hd, hx.dist, by omega, ?_, hx.el, by simp [h.rl]⟩⟩
    obtain ⟨e, he⟩ := hx.ext
    rw [he]; simp; omega
  have hf := h.few
  obtain ⟨f, e1⟩ : ∃ f, 4098 - s = f + 1 := ⟨4097 - s, by omega⟩
  have e2 : 4098 - (s + 1) = f := by omega
  have hl := h.lp
  rw [e1] at hl
  generalize refL a rs 4098 0 start0 [] = R at hl
  unfold refL at hl
  rw [if_pos hs, ← hx.whole] at hl
  refine ⟨fun ht => ?_, fun ht hd => ?_, fun ht hd => ?_⟩
  · rw [← hl, if_pos ht]
  · rw [← hl, if_neg (by rw [ht]; simp), if_pos hd]
  · rw [e2, ← hl, if_neg (by rw [ht]; simp), if_neg hd]
theorem LoopR.over {a : Au} {rs : List Rg} {s : Nat} {m : Mk} {rows : List (List Int)} (h : LoopR a rs s m rows) (hs : ¬ s < m.opens.length) : refL a rs 4098 0 start0 [] = .done m rows := by
  have hf := h.few
  have := h.sle
  obtain ⟨f, e1⟩ : ∃ f, 4098 - s = f + 1 := ⟨4097 - s, by omega⟩
  rw [← h.lp, e1]
  unfold refL
  rw [if_neg hs]
theorem EachRO.at {α β : Type} {f : α → List Value} {len : α → Nat} {w : World} {S : Nat → Prop} {es : List Value} {ls : List α} {u : β} (h : EachRO f len w S es ls u) {i : Nat} {x : α} (hi : ls[i]? = some x) : ∃ A c, es[i]? = some (.slice A (len x) c) ∧ RO w S 1 A (len x) (f x) := by
  obtain ⟨h1, h2⟩ := List.getElem?_eq_some_iff.1 hi
  subst h2
  exact h.2 i h1
theorem rsOf_nil {a : Au} (h : a.places.length = 0) : rsOf a = [] := by
  have e : a.places = [] := List.eq_nil_of_length_eq_zero h
  have h1 : placesOf [] = [] := placesOf_self .nil
  unfold rsOf splitOf
  rw [e]
  show foldS [] ((pairs (placesOf [])).filter _) = []
  rw [h1]; rfl
theorem lastAt_one (opens : List (List Int)) (o : List Int) : lastAt opens o 1 = -1 := by
  show (if 1 ≤ 0 ∧ opens[0]? = some o then ((0 : Nat) : Int) else -1) = -1
  rw [if_neg fun h => absurd h.1 (by omega)]
theorem lastAt_succ {opens : List (List Int)} {o : List Int} {k : Nat} (h1 : 1 ≤ k) (hk : k < opens.length) : lastAt opens o (k + 1) = if opens[k] = o then (k : Int) else lastAt opens o k := by
  have e : lastAt opens o (k + 1) = if 1 ≤ k ∧ opens[k]? = some o then (k : Int) else lastAt opens o k := rfl
  rw [e, List.getElem?_eq_getElem hk]
  by_cases h : opens[k] = o
  · rw [if_pos h, if_pos ⟨h1, by rw [h]⟩]
  · rw [if_neg h, if_neg fun e => h (by have := e.2; injection this)]
theorem infoBools2 : (Tryz.prog.info? 56).map (fun i => (i.zero, i.size, i.bytes)) = some (some (.slice none 0 0), 1, 24) := by kernel_rfl
/-- numbers that are readable lie in no block of slices -/
theorem Reads.past {w w' : World} {size n rb : Nat} {A : Option Addr} {xs : List Value} {T : TypeId} (h : Reads w w.heap.size size A n xs) (hs : 0 < size) (hx : ∀ u ∈ xs, ∃ k z, u = Value.int k z)
    (hr : w.heap[rb]? = some (.cells #[.slice none 0 0, .slice none 0 0, .slice none 0 0, .slice none 0 0] T (0, 0))) (ho : Only (fun j => j = rb) w w') : Reads w' w'.heap.size size A n xs := by
  refine ⟨h.1, fun hn => ?_⟩
  obtain ⟨b, off, hA, hb, hc⟩ := h.2 hn
  have hne : b ≠ rb := fun e => by
    subst e
    have hl : 0 < xs.length := by rw [h.1]; exact Nat.mul_pos hn hs
    obtain ⟨k, z, hu⟩ := hx _ (List.getElem_mem hl)
    have h0 := hc 0 _ (List.getElem?_eq_getElem hl)
    rw [hu, Lib.cell_of_heap hr] at h0
    have : off + 0 < 4 := by
      rcases Nat.lt_or_ge (off + 0) 4 with h1 | h1
      · exact h1
      · rw [Array.getElem?_eq_none (by simpa using h1)] at h0; cases h0
    have h4 : off = 0 ∨ off = 1 ∨ off = 2 ∨ off = 3 := by omega
    rcases h4 with rfl | rfl | rfl | rfl <;> simp at h0
  exact ⟨b, off, hA, Nat.lt_of_lt_of_le hb ho.size, fun j u hu => (ho.cell hb hne).trans (hc j u hu)⟩
theorem ints_are (l : List Int) : ∀ u ∈ l.map (Value.int .i64), ∃ k z, u = Value.int k z := fun u hu => by
  obtain ⟨x, _, rfl⟩ := List.mem_map.1 hu
  exact ⟨_, _, rfl⟩
theorem ranges_are (l : List Rg) : ∀ u ∈ flat encR l, ∃ k z, u = Value.int k z := fun u hu => by
  obtain ⟨r, _, h⟩ := List.mem_flatMap.1 hu
  simp [encR] at h
  rcases h with rfl | rfl <;> exact ⟨_, _, rfl⟩
theorem RefSt.tab {c : RC} {vs vr : Value} {An : Option Addr} {cn : Nat} {Ae : Option Addr} {ce : Nat} {m : Mk} {rows : List (List Int)} {row : List Int} {w w' : World} {rb : Nat} {T : TypeId} (h : RefSt c vs (.slice Ae m.ends.length ce) (.slice An rows.length cn) vr m rows row w)
    (hr : w.heap[rb]? = some (.cells #[.slice none 0 0, .slice none 0 0, .slice none 0 0, .slice none 0 0] T (0, 0))) (hb : rb < c.B2) (ho : Only (fun j => j = rb) w w') : TabR w' w'.heap.size c.RA c.CA An Ae c.rs rows m.ends := by
  obtain ⟨es, h1, h2⟩ := h.nxt
  refine ⟨h.rng.reads.past (by omega) (ranges_are _) hr ho, h.cls.reads.past (by omega) (ints_are _) hr ho, ⟨es, ?_, fun i hi => ?_⟩, (Reads.of_own h.ends).past (by omega) (ints_are _) hr ho⟩
  · exact Reads.of_own (ownsRow_only h1 ho fun k e1 e2 => by have := (h1.lt k e1).1; have e2 : k = rb := e2; omega)
  · obtain ⟨A, cc, e, r⟩ := h2.2 i hi
    exact ⟨A, cc, e, r.reads.past (by omega) (ints_are _) hr ho⟩
theorem RO.of_open {w : World} {S : Nat → Prop} {g n : Nat} {xs : List Value} (h : Reads w w.heap.size 1 (some ⟨g, 0, none⟩) n xs) (hS : ¬ S g) : RO w S 1 (some ⟨g, 0, none⟩) n xs := by
  refine ⟨h.1, fun hn => ?_⟩
  obtain ⟨b, off, hA, hb, hc⟩ := h.2 hn
  injection hA with hA
  injection hA with h1 h2 _
  subst h1 h2
  exact ⟨g, 0, rfl, hb, hS, hc⟩
end Go.Proofs.YtoclbcfgfaialaaGreatDoor
