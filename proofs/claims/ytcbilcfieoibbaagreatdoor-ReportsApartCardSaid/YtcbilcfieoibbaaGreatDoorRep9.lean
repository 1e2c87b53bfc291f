/-
  Problems as text: the program's walk.
-/
import Derived.Test.YtcbilcfieoibbaaGreatDoorRep8
import Derived.Deep.DeepCutAuto
import Derived.Deep.CutRange
import Derived.Deep.RegionLaw
namespace Go.Proofs.YtcbilcfieoibbaaGreatDoor
open Go.RowKit
open Go.Sort (grow)
set_option maxRecDepth 100000
/-- a rule as far as a text tells it: name and place -/
structure RuP where
  name : List UInt8
  at0 : Int
  line : Int
  col : Int
def RuP.ok (r : RuP) : Prop := r.name.length ≤ 140737488351232 ∧ i64b r.line ∧ i64b r.col
/-- rules in memory -/
def GRR (w : World) (B : Nat) (A : Option Addr) (l : List RuP) : Prop :=
  ∀ k (h : k < l.length), ∃ b off, A = some ⟨b, off, none⟩ ∧ b < B ∧ w.cell? ⟨b, off + k * 10, none⟩ = some (.string ⟨l[k].name.toArray⟩) ∧
    w.cell? ⟨b, off + k * 10 + 7, none⟩ = some (.int .i64 l[k].at0) ∧ w.cell? ⟨b, off + k * 10 + 8, none⟩ = some (.int .i64 l[k].line) ∧ w.cell? ⟨b, off + k * 10 + 9, none⟩ = some (.int .i64 l[k].col)
theorem GRR.below {w w' : World} {B : Nat} {A : Option Addr} {l : List RuP} (h : GRR w B A l) (hb : Below B w w') : GRR w' B A l := by
  intro k hk
  obtain ⟨b, off, e, hB, h1, h2, h3, h4⟩ := h k hk
  exact ⟨b, off, e, hB, (hb.cell (p := ⟨b, _, none⟩) hB).trans h1, (hb.cell (p := ⟨b, _, none⟩) hB).trans h2, (hb.cell (p := ⟨b, _, none⟩) hB).trans h3, (hb.cell (p := ⟨b, _, none⟩) hB).trans h4⟩
def atP (l : List RuP) (i : Int) : List UInt8 := if 0 ≤ i ∧ i < l.length then placeT (l.getD i.toNat ⟨[], 0, 0, 0⟩).line (l.getD i.toNat ⟨[], 0, 0, 0⟩).col else []
def nmP (l : List RuP) (i : Int) : List UInt8 := if 0 ≤ i ∧ i < l.length then (l.getD i.toNat ⟨[], 0, 0, 0⟩).name else [63]
theorem atP_in {l : List RuP} {k : Nat} (h : k < l.length) : atP l k = placeT l[k].line l[k].col := by
  unfold atP
  rw [if_pos ⟨by omega, by omega⟩, Int.toNat_natCast, List.getD_eq_getElem?_getD, List.getElem?_eq_getElem h]
  rfl
theorem nmP_in {l : List RuP} {k : Nat} (h : k < l.length) : nmP l k = l[k].name := by
  unfold nmP
  rw [if_pos ⟨by omega, by omega⟩, Int.toNat_natCast, List.getD_eq_getElem?_getD, List.getElem?_eq_getElem h]
  rfl
theorem atP_out {l : List RuP} {i : Int} (h : i < 0 ∨ (l.length : Int) ≤ i) : atP l i = [] := by
  unfold atP
  rw [if_neg (by omega)]
theorem nmP_out {l : List RuP} {i : Int} (h : i < 0 ∨ (l.length : Int) ≤ i) : nmP l i = [63] := by
  unfold nmP
  rw [if_neg (by omega)]
theorem atP_len (l : List RuP) (hl : ∀ r ∈ l, r.ok) (i : Int) : (atP l i).length ≤ 45 := by
  by_cases h : 0 ≤ i ∧ i < l.length
  · obtain ⟨k, rfl⟩ : ∃ k : Nat, i = k := ⟨i.toNat, by omega⟩
    have hk : k < l.length := by omega
    rw [atP_in hk]
    have := hl l[k] (List.getElem_mem hk)
    exact placeT_len _ _ this.2.1 this.2.2
  · rw [atP_out (by omega)]; simp
theorem nmP_len (l : List RuP) (hl : ∀ r ∈ l, r.ok) (i : Int) : (nmP l i).length ≤ 140737488351232 := by
  by_cases h : 0 ≤ i ∧ i < l.length
  · obtain ⟨k, rfl⟩ : ∃ k : Nat, i = k := ⟨i.toNat, by omega⟩
    have hk : k < l.length := by omega
    rw [nmP_in hk]
    exact (hl l[k] (List.getElem_mem hk)).1
  · rw [nmP_out (by omega)]; simp
theorem texts_small : ∀ T ∈ texts, T.count 78 ≤ 1 ∧ T.count 82 ≤ 1 ∧ T.length ≤ 60 := by decide
theorem texts_nil (k : Nat) (h : k < texts.length) : texts[k].isEmpty = decide (k = 0) := by
  match k, h with
  | 0, _ => rfl
  | 1, _ => rfl
  | 2, _ => rfl
  | 3, _ => rfl
  | 4, _ => rfl
  | 5, _ => rfl
  | 6, _ => rfl
  | 7, _ => rfl
  | 8, _ => rfl
/-- the four strings are read out of the replacer's own slice -/
theorem old_of {w3 : World} {pb B : Nat} {v : Value} {x y : List UInt8} (hh : w3.heap[pb]? = some (.cells (rplCells 0 0 .nilIface v) 142 (0, 0)))
    (ho : w3.ownsRow B 9 1 v 4 [.string ⟨#[82]⟩, .string ⟨x.toArray⟩, .string ⟨#[78]⟩, .string ⟨y.toArray⟩]) : ∃ g cap, v = .slice (some ⟨g, 0, none⟩) 4 cap ∧ g ≠ pb ∧ Old w3 pb g cap x y := by
  rcases ho.2 with ⟨rfl, e⟩ | ⟨g, cap, cur, rfl, h1, h2, h3⟩
  · exact absurd e (by simp)
  · have k : ∀ j, w3.cell? ⟨g, j, none⟩ = cur[j]? := fun j => Lib.cell_of_heap h2 j
    have hl : (cur.toList.take 4) = [.string ⟨#[82]⟩, .string ⟨x.toArray⟩, .string ⟨#[78]⟩, .string ⟨y.toArray⟩] := h3.2.2.2
    have q : ∀ j, j < 4 → cur[j]? = ([.string ⟨#[82]⟩, .string ⟨x.toArray⟩, .string ⟨#[78]⟩, .string ⟨y.toArray⟩] : List Value)[j]? := fun j hj => by
      rw [← hl, List.getElem?_take, if_pos hj, Array.getElem?_toList]
    refine ⟨g, cap, rfl, ?_, Lib.cell_of_heap hh 4, (k 0).trans (q 0 (by decide)), (k 1).trans (q 1 (by decide)), (k 2).trans (q 2 (by decide)), (k 3).trans (q 3 (by decide))⟩
    rintro rfl
    rw [hh] at h2
    have := congrArg (fun o : Option Obj => match o with | some (.cells _ t _) => t | _ => 0) h2
    have h9 : (142 : Nat) = 9 := this
    exact absurd h9 (by decide)
theorem cell_thru {w w3 : World} {O : Obj} (hb : Below (w.alloc O).drew.heap.size (w.alloc O).drew w3) {p : Addr} {v : Value} (hp : p.block < w.heap.size) (h : w.cell? p = some v) : w3.cell? p = some v := by
  rw [hb.cell (p := p) (by simp; omega)]
  exact (World.cell?_of_block (w := w) (a := p) (Below.heap_alloc w O p.block hp)).trans h
/-- the text of a problem -/
def probT (l : List RuP) (code : Nat) (i : Int) (named : List UInt8) : List UInt8 :=
  if 9 ≤ code ∨ code = 0 then atP l i ++ [112, 114, 111, 98, 108, 101, 109, 32] ++ Lib.itoa code else atP l i ++ fillT (nmP l i) named (texts.getD code [])
set_option maxHeartbeats 4000000 in
theorem prob_any (gn : ByteArray) (g1 g2 : Int) (A : Option Addr) (c : Nat) (l : List RuP) (code : Nat) (i : Int) (named : List UInt8) (w : World) (hT : TB w.heap.size w) (hG : GRR w w.heap.size A l) (hl : ∀ r ∈ l, r.ok) (hc : code < 256) (hi : i64b i) (hn : named.length ≤ 140737488351232) :
    Calls Tryz.prog 9 #[.agg #[.string gn, .int .i64 g1, .int .i64 g2, .slice A l.length c], .agg #[.int .u8 (code : Nat), .int .i64 i, .string ⟨named.toArray⟩]] w fun e w' => e = .returned (.string ⟨(probT l code i named).toArray⟩) ∧ Below w.heap.size w w' := by
  obtain ⟨w1, hw1⟩ : ∃ w1, w1 = (w.alloc (.cells #[.string gn, .int .i64 g1, .int .i64 g2, .slice A l.length c] 31)).alloc (.cells #[.int .u8 (code : Nat), .int .i64 i, .string ⟨named.toArray⟩] 34) := ⟨_, rfl⟩
  have hb1 : Below w.heap.size w w1 := by rw [hw1]; exact (below_new _ _).alloc (by simp) _
  have hs1 : w1.heap.size = w.heap.size + 2 := by rw [hw1]; simp
  have k3 : w1.cell? ⟨w.heap.size, 3, none⟩ = some (.slice A l.length c) := by rw [hw1]; simp
  have p0 : w1.cell? ⟨w.heap.size + 1, 0, none⟩ = some (.int .u8 (code : Nat)) := by rw [hw1]; simp
  have p1 : w1.cell? ⟨w.heap.size + 1, 1, none⟩ = some (.int .i64 i) := by rw [hw1]; simp
  have p2 : w1.cell? ⟨w.heap.size + 1, 2, none⟩ = some (.string ⟨named.toArray⟩) := by rw [hw1]; simp
  go_enter Tryz.func9, Tryz.ntmps9
  go_upto_region 2 with fail
  rw [← hw1]
  clear hw1
  go_cut [17] from 7 (fun b wx => wx = w1 ∧ b = .bool (decide (0 ≤ i ∧ i < l.length)))
  case first =>
    by_cases h0 : 0 ≤ i
    · have d0 : decide ((0 : Int) ≤ i) = true := decide_eq_true h0
      go_wp2_with fail
      go_meet
      case rel => exact ⟨rfl, by simp [h0]⟩
    · have d0 : decide ((0 : Int) ≤ i) = false := decide_eq_false h0
      go_wp2_with fail
      go_meet
      case rel => exact ⟨rfl, by simp; omega⟩
  case rest =>
  obtain ⟨rfl, rfl⟩ := hcut
  go_upto_if 17 with fail
  go_cut [5, 6] from 7 (fun r at' wx => Hid (Below wc.heap.size wc wx) ∧ r = .string ⟨(nmP l i).toArray⟩ ∧ at' = .string ⟨(atP l i).toArray⟩)
  case first =>
    by_cases h0 : 0 ≤ i ∧ i < l.length
    · obtain ⟨k, rfl⟩ : ∃ k : Nat, i = k := ⟨i.toNat, by omega⟩
      have hk : k < l.length := by omega
      rw [show decide ((0 : Int) ≤ (k : Int) ∧ (k : Int) < l.length) = true from decide_eq_true h0]
      obtain ⟨b, off, rfl, hbl, x0, x7, x8, x9⟩ := (hG.below hb1) k hk
      have hok := hl l[k] (List.getElem_mem hk)
      have q3 := fun d os => cell_regrown k3 d os
      have q1 := fun d os => cell_regrown p1 d os
      have y0 := fun d os => cell_regrown x0 d os
      have y7 := fun d os => cell_regrown x7 d os
      have y8 := fun d os => cell_regrown x8 d os
      have y9 := fun d os => cell_regrown x9 d os
      have ca := fun d os => place_quiet l[k].at0 l[k].line l[k].col hok.2.1 hok.2.2 wc d os (hT.next hb1)
      have HN := hid (nmP_in hk)
      have HA := hid (atP_in hk)
      have hk2 : (k : Int) < l.length := by omega
      go_wp2_with fail
      refine wp_region_quiet_below (by kernel_rfl) (by kernel_rfl) ?_
      repeat (quiet_step (exact ca _ _))
      refine wpQuiet_nil ?_
      intro _ hw'
      obtain ⟨⟨dq, osq⟩, hw''⟩ := hw'
      subst hw''
      go_wp2_with fail
      go_meet
      case rel => exact ⟨hid (below_regrown wc dq osq), by rw [HN.out], by rw [HA.out]⟩
    · rw [show decide ((0 : Int) ≤ i ∧ i < l.length) = false from decide_eq_false h0]
      have HN := hid (nmP_out (l := l) (i := i) (by omega))
      have HA := hid (atP_out (l := l) (i := i) (by omega))
      go_wp2_with fail
      go_meet
      case rel => exact ⟨hid (Below.refl _ _), by rw [HN.out], by rw [HA.out]⟩
  case rest =>
  rename World => wd
  obtain ⟨hb2, rfl, rfl⟩ := hcut
  have hbd := hb2.out
  have hT1 := (hT.next hb1)
  have hTd := hT1.next hbd
  have hbw := hb1.trans (hbd.mono hb1.size)
  have hal := atP_len l hl i
  have hnl := nmP_len l hl i
  have p0 := (hbd.cell (p := ⟨w.heap.size + 1, 0, none⟩) (by show w.heap.size + 1 < _; omega)).trans p0
  have p2 := (hbd.cell (p := ⟨w.heap.size + 1, 2, none⟩) (by show w.heap.size + 1 < _; omega)).trans p2
  have hsd := hbd.size
  have hil := Lib.itoa_length_le (code : Int) (by omega) (by omega)
  have hPT : probT l code i named = if 9 ≤ code ∨ code = 0 then atP l i ++ [112, 114, 111, 98, 108, 101, 109, 32] ++ Lib.itoa code else atP l i ++ fillT (nmP l i) named (texts.getD code []) := rfl
  generalize atP l i = AT at *
  generalize nmP l i = NM at *
  have HPT := hid hPT
  clear hPT
  have z1 : ¬ 9223372036854775807 < AT.length + 8 := by omega
  have z2 : ¬ 9223372036854775807 < AT.length + 8 + (Lib.itoa (code : Int)).length := by omega
  by_cases h9 : 9 ≤ code
  · have d9 : decide ((9 : Int) ≤ (code : Int)) = true := decide_eq_true (by omega)
    go_wp2_with fail
    refine (itoa_any (code : Int) (by omega) (by omega) wd hTd).mono ?_
    rintro e w3 ⟨rfl, hb3⟩
    go_wp2_with fail
    go_ret
    refine ⟨?_, hbw.trans (hb3.mono hbw.size)⟩
    rw [HPT.out, if_pos (.inl h9)]
    rfl
  · have d9 : decide ((9 : Int) ≤ (code : Int)) = false := decide_eq_false (by omega)
    have d8 : (code : Int) < 9 := by omega
    have htx := hTd.txt code (by show code < 9; omega)
    have c9 : code < 9 := by omega
    have hem := texts_nil code c9
    have hsm := texts_small texts[code] (List.getElem_mem c9)
    have hTT : texts.getD code [] = texts[code] := by rw [List.getD_eq_getElem?_getD, List.getElem?_eq_getElem c9]; rfl
    generalize texts[code] = TT at *
    have HTT := hid hTT
    clear hTT
    by_cases h00 : code = 0
    · subst h00
      rw [show decide (0 = 0) = true from rfl] at hem
      go_wp2_with fail
      refine (itoa_any ((0 : Nat) : Int) (by omega) (by omega) wd hTd).mono ?_
      rintro e w3 ⟨rfl, hb3⟩
      go_wp2_with fail
      go_ret
      refine ⟨?_, hbw.trans (hb3.mono hbw.size)⟩
      rw [HPT.out, if_pos (.inr trivial)]
      rfl
    · rw [decide_eq_false h00] at hem
      have hpd : wd.drew.heap.size = wd.heap.size := rfl
      have HR : Hid (Reads (wd.alloc (.cells #[.string ⟨#[82]⟩, .string ⟨NM.toArray⟩, .string ⟨#[78]⟩, .string ⟨named.toArray⟩] 9)).drew (wd.heap.size + 1) 1 (some ⟨wd.heap.size, 0, none⟩) 4 [.string ⟨#[82]⟩, .string ⟨NM.toArray⟩, .string ⟨#[78]⟩, .string ⟨named.toArray⟩]) := hid (by
        refine ⟨rfl, fun _ => ⟨wd.heap.size, 0, rfl, by omega, fun j u hj => ?_⟩⟩
        rw [Nat.zero_add, ← hj]
        exact (Lib.cell_of_heap (w := (wd.alloc _).drew) (heap_alloc_new wd _) j).trans List.getElem?_toArray)
      have HH : Hid (TT.length + TT.count 78 * named.length + TT.count 82 * NM.length < 281474976710656) := hid (by
        have h1 := Nat.mul_le_mul hsm.1 hn
        have h2 := Nat.mul_le_mul hsm.2.1 hnl
        omega)
      have hfl := fillT_len NM named TT
      have hcc1 := List.count_le_length (a := (78 : UInt8)) (l := TT)
      have hcc2 := List.count_le_length (a := (82 : UInt8)) (l := TT)
      have hHH := HH.out
      have z3 : ¬ 9223372036854775807 < AT.length + (fillT NM named TT).length := by omega
      clear hfl hHH
      have m0 := fun O => (World.cell?_of_block (w := wd) (a := ⟨w.heap.size + 1, 0, none⟩) (Below.heap_alloc wd O _ (by show w.heap.size + 1 < _; omega))).trans p0
      have m1 := fun O => (World.cell?_of_block (w := wd) (a := ⟨0, code, none⟩) (Below.heap_alloc wd O _ (Nat.lt_of_lt_of_le (show 0 < 7 by decide) hTd.lt))).trans htx
      go_wp2_with fail
      go_region_law
        (first
          | (go_simp; go_at_call 24; refine (newRep_any _ 4 _ _ _ _ _ _ HR.out).mono ?_; rintro e w3 ⟨pb, v, rfl, hpb, hheap, hown, hb3⟩; obtain ⟨g, cap, rfl, hgp, hOld⟩ := old_of hheap hown; have e0 := cell_thru hb3 (p := ⟨w.heap.size + 1, 0, none⟩) (by show w.heap.size + 1 < _; omega) p0; have e1 := cell_thru hb3 (p := ⟨0, code, none⟩) (Nat.lt_of_lt_of_le (show 0 < 7 by decide) hTd.lt) htx)
          | (go_simp; go_at_call 25; refine (replace_any pb g cap wd.heap.size NM named TT _ hheap hOld hgp (by simp at hpb; omega) HH.out (by omega) (by omega) (by omega)).mono ?_; rintro e w4 ⟨rfl, hb4⟩))
      all_goals (
        go_wp2_with fail
        go_ret
        refine ⟨?_, hbw.trans (Below.mono (Below.trans (((Below.refl _ _).alloc (Nat.le_refl _) _).drew) ((hb3.mono (by simp)).trans hb4)) hbw.size)⟩
        rw [HPT.out, if_neg (by omega), HTT.out]
        rfl)
end Go.Proofs.YtcbilcfieoibbaaGreatDoor
