/-
  strings.Replacer by strings: Replace.
-/
import Derived.Test.YtcbilcfieoibbaaGreatDoorRep60
import Derived.Test.YtcbilcfieoibbaaGreatDoorRpTxt2
import Derived.Deep.DeepCutAuto
import Derived.Deep.CutRange
import Derived.BigQuiet
import Derived.Shelf.Spec.SlicesInsert
import Derived.WalkSpells
namespace Go.Proofs.YtcbilcfieoibbaaGreatDoor
open Go.RowKit
set_option maxRecDepth 100000
def rch (b : UInt8) : Bool := b == 82 || b == 78
def r1 (x y : List UInt8) (b : UInt8) : List UInt8 := if b = 82 then x else if b = 78 then y else [b]
theorem fillT_cons (x y : List UInt8) (b : UInt8) (s : List UInt8) : fillT x y (b :: s) = r1 x y b ++ fillT x y s := rfl
theorem fillT_append (x y a b : List UInt8) : fillT x y (a ++ b) = fillT x y a ++ fillT x y b := by unfold fillT; rw [List.flatMap_append]
theorem fillT_len (x y s : List UInt8) : (fillT x y s).length + s.count 78 + s.count 82 = s.length + s.count 78 * y.length + s.count 82 * x.length := by
  induction s with
  | nil => simp [fillT]
  | cons b s ih =>
    rw [fillT_cons, List.length_append, List.length_cons, List.count_cons, List.count_cons]
    unfold r1
    by_cases e1 : b = 82
    · subst e1
      simp [Nat.add_mul]
      omega
    · by_cases e2 : b = 78
      · subst e2
        simp [Nat.add_mul]
        omega
      · simp [e1, e2]
        omega
theorem fillT_none (x y s : List UInt8) (h : s.any rch = false) : fillT x y s = s := by
  induction s with
  | nil => rfl
  | cons b s ih =>
    rw [List.any_cons, Bool.or_eq_false_iff] at h
    rw [fillT_cons, ih h.2]
    unfold r1
    have h1 := h.1
    unfold rch at h1
    rw [Bool.or_eq_false_iff] at h1
    rw [if_neg (by simpa using h1.1), if_neg (by simpa using h1.2)]
    rfl
theorem any_rch (s : List UInt8) : s.any rch = (decide (s.count 78 ≠ 0) || decide (s.count 82 ≠ 0)) := by
  induction s with
  | nil => rfl
  | cons b s ih =>
    rw [List.any_cons, ih, List.count_cons, List.count_cons]
    unfold rch
    by_cases e1 : b = 82
    · subst e1; simp
    · by_cases e2 : b = 78
      · subst e2; simp
      · simp [e1, e2]
theorem fillT_le (x y s : List UInt8) (k : Nat) : (fillT x y (s.take k)).length ≤ (fillT x y s).length := by
  have := congrArg (fun l => (fillT x y l).length) (List.take_append_drop k s)
  simp only [fillT_append, List.length_append] at this
  omega
theorem fillT_take (x y s : List UInt8) (k : Nat) (h : k < s.length) : fillT x y (s.take (k + 1)) = fillT x y (s.take k) ++ r1 x y s[k] := by
  rw [List.take_succ_eq_append_getElem h, fillT_append, fillT_cons]
  simp [fillT]
/-- what a replacer holds for a byte -/
def vB (vx vy : Value) (b : UInt8) : Value := if b = 82 then vx else if b = 78 then vy else .slice none 0 0
theorem fB_byte (B : Nat) (vx vy : Value) (b : UInt8) : fB B 2 vx vy b.toNat = vB vx vy b := by
  unfold fB vB vN
  have h1 : (b = 82) ↔ b.toNat = 82 := u8_eq b 82 (by decide)
  have h2 : (b = 78) ↔ b.toNat = 78 := u8_eq b 78 (by decide)
  rw [if_neg (by have := b.toNat_lt; omega)]
  by_cases e1 : b = 82
  · rw [if_pos (h1.1 e1), if_pos e1]
  · rw [if_neg (fun q => e1 (h1.2 q)), if_neg e1]
    by_cases e2 : b = 78
    · rw [if_pos (h2.1 e2), if_pos e2]
    · rw [if_neg (fun q => e2 (h2.2 q)), if_neg e2]
theorem vB_cases (B b1 b2 cx cy : Nat) (x y : List UInt8) (w : World) (hx : RowB w B b1 (.slice (some ⟨b1, 0, none⟩) x.length cx) x) (hy : RowB w B b2 (.slice (some ⟨b2, 0, none⟩) y.length cy) y) (b : UInt8) :
    (∃ bb c, vB (.slice (some ⟨b1, 0, none⟩) x.length cx) (.slice (some ⟨b2, 0, none⟩) y.length cy) b = .slice (some ⟨bb, 0, none⟩) (r1 x y b).length c ∧ rch b = true ∧ RowB w B bb (.slice (some ⟨bb, 0, none⟩) (r1 x y b).length c) (r1 x y b)) ∨
      (vB (.slice (some ⟨b1, 0, none⟩) x.length cx) (.slice (some ⟨b2, 0, none⟩) y.length cy) b = .slice none 0 0 ∧ rch b = false ∧ r1 x y b = [b]) := by
  unfold vB r1 rch
  by_cases e1 : b = 82
  · subst e1; exact .inl ⟨b1, cx, rfl, rfl, hx⟩
  · by_cases e2 : b = 78
    · subst e2; exact .inl ⟨b2, cy, rfl, rfl, hy⟩
    · exact .inr ⟨by rw [if_neg e1, if_neg e2], by simp [e1, e2], by rw [if_neg e1, if_neg e2]⟩
theorem RowB.bytes {w wr : World} {B b c : Nat} {l : List UInt8} (h : RowB w B b (.slice (some ⟨b, 0, none⟩) l.length c) l) (hb : Below w.heap.size w wr) : ∀ j, j < l.length → wr.cell? ⟨b, j, none⟩ = some (.int .u8 (l.getD j 0).toNat) := by
  intro j hj
  have hl := h.lt
  obtain ⟨_, _, _, C, fr, h3, h4⟩ := h
  rw [hb.cell (p := ⟨b, j, none⟩) hl, Lib.cell_of_heap h3]
  exact h4 j hj
set_option maxHeartbeats 8000000 in
theorem repB_any (rb : Nat) (x y s : List UInt8) (w : World) (h : BS w rb x y) (H : s.length + s.count 78 * y.length + s.count 82 * x.length < 281474976710656) (hxl : x.length < 281474976710656) (hyl : y.length < 281474976710656) :
    Calls Tryz.prog 195 #[.pointer (some ⟨rb, 0, none⟩), .string ⟨s.toArray⟩] w fun e w' => e = .returned (.string ⟨(fillT x y s).toArray⟩) ∧ Below w.heap.size w w' := by
  have hBS := h
  obtain ⟨B, vx, vy, b1, b2, rfl, ⟨hcb, hss⟩, hx, hy⟩ := h
  have hlt := hBS.lt
  obtain ⟨cx, rfl, -⟩ := id hx
  obtain ⟨cy, rfl, -⟩ := id hy
  have hfl := fillT_len x y s
  have hc1 := List.count_le_length (a := (78 : UInt8)) (l := s)
  have hc2 := List.count_le_length (a := (82 : UInt8)) (l := s)
  have hsz : (⟨s.toArray⟩ : ByteArray).size = s.length := by simp [ByteArray.size]
  have hnn := fun w a n c => run_neq_slice_nil_any (P := Tryz.prog) w 96 5 a n c 0 0 Tryz.underlying96
  have c256 : w.cell? ⟨B + 1, 256, none⟩ = some (.slice (some ⟨B, 0, none⟩) 2 2) := (hcb.cell 256 (by decide)).1
  have s0 : w.cell? ⟨B, 0, none⟩ = some (.string ⟨#[78]⟩) := Lib.cell_of_heap hss 0
  have s1 : w.cell? ⟨B, 1, none⟩ = some (.string ⟨#[82]⟩) := Lib.cell_of_heap hss 1
  have c78 : w.cell? ⟨B + 1, 78, none⟩ = some (.slice (some ⟨b2, 0, none⟩) y.length cy) := (hcb.cell 78 (by decide)).1
  have c82 : w.cell? ⟨B + 1, 82, none⟩ = some (.slice (some ⟨b1, 0, none⟩) x.length cx) := (hcb.cell 82 (by decide)).1
  have HF : Hid (∀ wr, Below w.heap.size w wr → wr.cell? ⟨B + 1, 256, none⟩ = some (.slice (some ⟨B, 0, none⟩) 2 2) ∧ wr.cell? ⟨B, 0, none⟩ = some (.string ⟨#[78]⟩) ∧ wr.cell? ⟨B, 1, none⟩ = some (.string ⟨#[82]⟩) ∧ wr.cell? ⟨B + 1, 78, none⟩ = some (.slice (some ⟨b2, 0, none⟩) y.length cy) ∧ wr.cell? ⟨B + 1, 82, none⟩ = some (.slice (some ⟨b1, 0, none⟩) x.length cx)) := hid fun wr hb =>
    ⟨(hb.cell (p := ⟨B + 1, _, none⟩) hlt).trans c256, (hb.cell (p := ⟨B, _, none⟩) (by show B < _; omega)).trans s0, (hb.cell (p := ⟨B, _, none⟩) (by show B < _; omega)).trans s1, (hb.cell (p := ⟨B + 1, _, none⟩) hlt).trans c78, (hb.cell (p := ⟨B + 1, _, none⟩) hlt).trans c82⟩
  go_enter Tryz.func195, Tryz.ntmps195
  have eN : ((s.count 78 : Nat) : Int) * ((y.length : Int) - 1) = ((s.count 78 * y.length : Nat) : Int) - (s.count 78 : Nat) := by rw [Int.mul_sub, Int.mul_one]; push_cast; rfl
  have eM : ((s.count 82 : Nat) : Int) * ((x.length : Int) - 1) = ((s.count 82 * x.length : Nat) : Int) - (s.count 82 : Nat) := by rw [Int.mul_sub, Int.mul_one]; push_cast; rfl
  obtain ⟨n1, hn1⟩ : ∃ n1 : Nat, n1 = s.length + s.count 78 * y.length - s.count 78 := ⟨_, rfl⟩
  have pN : ((s.count 78 : Nat) : Int) * (y.length : Int) = ((s.count 78 * y.length : Nat) : Int) := by push_cast; rfl
  have pM : ((s.count 82 : Nat) : Int) * (x.length : Int) = ((s.count 82 * x.length : Nat) : Int) := by push_cast; rfl
  have PN := hid pN
  have PM := hid pM
  clear pN pM
  have i1 : ∀ w, (Instr.index 9 (.string ⟨#[78]⟩) (.int .i64 0)).run Tryz.prog w = .ok (.int .u8 78) w := str_index ⟨#[78]⟩ 0 (by decide)
  have i2 : ∀ w, (Instr.index 9 (.string ⟨#[82]⟩) (.int .i64 0)).run Tryz.prog w = .ok (.int .u8 82) w := str_index ⟨#[82]⟩ 0 (by decide)
  go_upto_if 26 with fail
  go_cut [5, 6] from 7 (fun ns an wx => Hid (Below w.heap.size w wx) ∧ ns = .int .i64 ((fillT x y s).length : Nat) ∧ an = .bool (s.any rch))
  case first =>
    by_cases h16 : 16 ≤ s.length
    · rw [show (decide ((16 : Int) ≤ (s.length : Int))) = true from decide_eq_true (by omega)]
      go_wp2_with fail
      go_loopw [5, 6, 32] (fun ns an j wr => Hid (Below w.heap.size w wr) ∧ ((j = .int .i64 0 ∧ ns = .int .i64 (s.length : Nat) ∧ an = .bool false) ∨ (j = .int .i64 1 ∧ ns = .int .i64 (n1 : Nat) ∧ an = .bool (decide (s.count 78 ≠ 0))) ∨ (j = .int .i64 2 ∧ ns = .int .i64 ((fillT x y s).length : Nat) ∧ an = .bool (s.any rch)))) (fun _ _ j _ => 2 - (intOf j).toNat)
      case atStart => exact ⟨hid (Below.refl _ _), .inl ⟨rfl, rfl, rfl⟩⟩
      case round =>
        obtain ⟨hb, hrel⟩ := hrel
        obtain ⟨c256, s0, s1, c78, c82⟩ := HF.out wr hb.out
        have hk1 : Calls Tryz.prog 197 #[.string ⟨s.toArray⟩, .string ⟨#[78]⟩] wr fun e w' => e = .returned (.int .i64 (s.count 78 : Nat)) ∧ w' = wr := Tryz.strings_Count_one ⟨s.toArray⟩ 78 wr
        have hk2 : Calls Tryz.prog 197 #[.string ⟨s.toArray⟩, .string ⟨#[82]⟩] wr fun e w' => e = .returned (.int .i64 (s.count 82 : Nat)) ∧ w' = wr := Tryz.strings_Count_one ⟨s.toArray⟩ 82 wr
        rcases hrel with ⟨rfl, rfl, rfl⟩ | ⟨rfl, rfl, rfl⟩ | ⟨rfl, rfl, rfl⟩
        · by_cases hN : s.count 78 = 0
          · have hbb : (((s.count 78 : Nat) : Int) != 0) = false := by rw [hN]; rfl
            go_wp2_with fail
            refine hk1.mono ?_
            rintro e w' ⟨rfl, rfl⟩
            go_wp2_with fail
            go_roundw
            case rel => exact ⟨hb, .inr (.inl ⟨rfl, by rw [hn1, hN]; simp, by rw [hN]; rfl⟩)⟩
            case measure => decide
          · have hbb : (((s.count 78 : Nat) : Int) != 0) = true := by simp [hN]
            go_wp2_with fail
            refine hk1.mono ?_
            rintro e w' ⟨rfl, rfl⟩
            go_wp2_with fail
            go_quiet (fail)
            go_wp2_with fail
            go_roundw
            case rel => exact ⟨hid (below_drewN hb.out _), .inr (.inl ⟨rfl, by congr 1; first | omega | (rw [PN.out]; omega) | (rw [eN]; omega), by simp [hN]⟩)⟩
            case measure => decide
        · by_cases hN : s.count 82 = 0
          · have hbb : (((s.count 82 : Nat) : Int) != 0) = false := by rw [hN]; rfl
            go_wp2_with fail
            refine hk2.mono ?_
            rintro e w' ⟨rfl, rfl⟩
            go_wp2_with fail
            go_roundw
            case rel => exact ⟨hb, .inr (.inr ⟨rfl, by congr 2; rw [hN] at hfl; omega, by rw [any_rch, hN]; simp⟩)⟩
            case measure => decide
          · have hbb : (((s.count 82 : Nat) : Int) != 0) = true := by simp [hN]
            go_wp2_with fail
            refine hk2.mono ?_
            rintro e w' ⟨rfl, rfl⟩
            go_wp2_with fail
            go_quiet (fail)
            go_wp2_with fail
            go_roundw
            case rel => exact ⟨hid (below_drewN hb.out _), .inr (.inr ⟨rfl, by congr 1; first | omega | (rw [PM.out]; omega) | (rw [eM]; omega), by rw [any_rch]; simp [hN]⟩)⟩
            case measure => decide
        · go_wp2_with fail
          go_meet
          case rel => exact ⟨hb, rfl, rfl⟩
    · rw [show (decide ((16 : Int) ≤ (s.length : Int))) = false from decide_eq_false (by omega)]
      go_wp2_with fail
      go_loopw [5, 6, 10] (fun ns an i wr => Hid (Below w.heap.size w wr) ∧ ∃ k : Nat, i = .int .i64 k ∧ k ≤ s.length ∧ ns = .int .i64 (((fillT x y (s.take k)).length + (s.length - k) : Nat) : Int) ∧ an = .bool ((s.take k).any rch)) (fun _ _ i _ => s.length - (intOf i).toNat)
      case atStart => exact ⟨hid (Below.refl _ _), 0, rfl, Nat.zero_le _, by simp [fillT], rfl⟩
      case round =>
        obtain ⟨hb, k, rfl, hk, rfl, rfl⟩ := hrel
        by_cases hlt2 : k < s.length
        · have hi : (⟨s.toArray⟩ : ByteArray)[k]'(by rw [hsz]; exact hlt2) = s[k] := rfl
          have hbt : s[k].toNat < 256 := s[k].toNat_lt
          have hF := fillT_take x y s k hlt2
          have hF1 := congrArg List.length hF
          rw [List.length_append] at hF1
          have hA : (s.take (k + 1)).any rch = ((s.take k).any rch || rch s[k]) := by rw [List.take_succ_eq_append_getElem hlt2, List.any_append]; simp
          have hle1 := fillT_le x y s k
          have hle2 := fillT_le x y s (k + 1)
          have cB := (hb.out.cell (p := ⟨B + 1, s[k].toNat, none⟩) hlt).trans ((hcb.cell s[k].toNat (by have := s[k].toNat_lt; omega)).1)
          rw [fB_byte] at cB
          rcases vB_cases _ b1 b2 cx cy x y w hx hy s[k] with ⟨bb, c, hv, hr, _⟩ | ⟨hv, hr, he⟩
          · rw [hv] at cB
            rw [hr] at hA
            have hrl : (r1 x y s[k]).length < 281474976710656 := by omega
            clear hF hle1
            go_wp2_with fail
            go_roundw
            case rel => exact ⟨hb, k + 1, by go_num, hlt2, by congr 1; omega, by rw [hA]; simp⟩
            case measure => simp [intOf]; omega
          · rw [hv] at cB
            rw [hr] at hA
            rw [he] at hF1
            clear hF hle1
            go_wp2_with fail
            go_roundw
            case rel => exact ⟨hb, k + 1, by go_num, hlt2, by congr 2; simp at hF1; omega, by rw [hA]; simp⟩
            case measure => simp [intOf]; omega
        · obtain rfl : k = s.length := by omega
          go_wp2_with fail
          go_meet
          case rel => exact ⟨hb, by rw [List.take_length, Nat.sub_self, Nat.add_zero], by rw [List.take_length]⟩
  case rest =>
    obtain ⟨hb0, rfl, rfl⟩ := hcut
    rename World => wc
    rcases Bool.eq_false_or_eq_true (s.any rch) with hany | hany
    · rw [hany]
      have hmk := mk_bytes (fillT x y s).length (by omega)
      go_wp2_with fail
      go_loopw [13, 14] (fun j i wr => Hid (Below w.heap.size w wr) ∧ ∃ k : Nat, i = .int .i64 k ∧ k ≤ s.length ∧ j = .int .i64 ((fillT x y (s.take k)).length : Nat) ∧ Hid (∃ z, wr.heap[wc.heap.size]? = some (.cells (bv (fillT x y (s.take k)) ++ z).toArray 5 (0, 0)) ∧ (fillT x y (s.take k)).length + z.length = (fillT x y s).length)) (fun _ i _ => s.length - (intOf i).toNat)
      case atStart => exact ⟨hid (hb0.out.alloc hb0.out.size _), 0, rfl, Nat.zero_le _, rfl, hid ⟨_, heap_alloc_new _ _, by simp [fillT]⟩⟩
      case round =>
        obtain ⟨hb, k, rfl, hk, rfl, hZ⟩ := hrel
        by_cases hlt2 : k < s.length
        · have hi : (⟨s.toArray⟩ : ByteArray)[k]'(by rw [hsz]; exact hlt2) = s[k] := rfl
          have hbt : s[k].toNat < 256 := s[k].toNat_lt
          have hF := fillT_take x y s k hlt2
          have hF1 := congrArg List.length hF
          rw [List.length_append] at hF1
          have hle1 := fillT_le x y s k
          have hle2 := fillT_le x y s (k + 1)
          have cB := (hb.out.cell (p := ⟨B + 1, s[k].toNat, none⟩) hlt).trans ((hcb.cell s[k].toNat (by have := s[k].toNat_lt; omega)).1)
          rw [fB_byte] at cB
          have HF1 := hid hF
          obtain ⟨z, hz, hzl⟩ := hZ.out
          rcases vB_cases _ b1 b2 cx cy x y w hx hy s[k] with ⟨bb, c, hv, hr, hrow⟩ | ⟨hv, hr, he⟩
          · rw [hv] at cB
            have hsl := slice_buf wc.heap.size (fillT x y s).length (fillT x y (s.take k)).length hle1
            have hbi : ((s[k].toNat : Nat) : Int) < 256 := by omega
            have hcp := copy_buf wr.drew wc.heap.size bb (fillT x y s).length c (fillT x y (s.take k)) (r1 x y s[k]) z hz hzl (by omega) (fun j hj => (hrow.bytes hb.out) j hj)
            have hw5 : IntKind.i64.wrap (((fillT x y (s.take k)).length : Int) + ((r1 x y s[k]).length : Int)) = ((fillT x y (s.take k)).length : Int) + ((r1 x y s[k]).length : Int) := IntWalk.i64_in _ (by omega)
            clear hF hrow
            go_wp2_with fail
            go_region_law (refine step_copy_runI rfl _ _ 96 96 rfl _ _ (by simp [Act.eval]) (by simp [Act.eval]) hcp ?_)
            all_goals (go_wp2_with fail; go_roundw)
            all_goals try (simp [intOf]; omega)
            all_goals (
              refine ⟨hid (hb.out.drew.trans ⟨rfl, rfl, rfl, by simp, fun q hq => setRow_other _ _ q _ (by have := hb0.out.size; omega)⟩), k + 1, by go_num, hlt2, by congr 1; omega, hid ⟨z.drop (r1 x y s[k]).length, ?_, by simp; omega⟩⟩
              rw [HF1.out]
              exact setRow_heap _ _ _ _ _ _ hz)
          · rw [hv] at cB
            rw [he] at hF1
            cases z with
            | nil => simp at hzl hF1; omega
            | cons z0 z =>
              obtain ⟨p1, p2, p3⟩ := put_buf wr wc.heap.size (fillT x y (s.take k)) s[k] z0 z hz
              have P3 := hid p3
              have hzl2 : (fillT x y (s.take k)).length < (fillT x y s).length := by simp at hzl; omega
              clear hF p3
              go_wp2_with fail
              go_roundw
              case rel =>
                refine ⟨hid (hb.out.setCell (p := ⟨wc.heap.size, _, none⟩) hb0.out.size _), k + 1, by go_num, hlt2, by congr 1; simp at hF1; omega, hid ⟨z, ?_, by simp at hF1 hzl; omega⟩⟩
                rw [HF1.out, he]
                exact P3.out
              case measure => simp [intOf]; omega
        · obtain rfl : k = s.length := by omega
          obtain ⟨z, hz, hzl⟩ := hZ.out
          rw [List.take_length] at hz hzl
          have hz0 : z = [] := List.eq_nil_of_length_eq_zero (by omega)
          subst hz0
          have hbk := run_convert_bytes_back (P := Tryz.prog) wr 96 9 5 ⟨wc.heap.size, 0, none⟩ (fillT x y s).length (fillT x y s) Tryz.underlying96 Tryz.underlying5 Tryz.underlying9 (fun j hj => by
            rw [Addr.add_lit, Nat.zero_add, Lib.cell_of_heap hz]
            simp [bv, hj])
          go_wp2_with fail
          go_ret
          exact ⟨rfl, hb.out⟩
    · rw [hany]
      go_wp2_with fail
      go_ret
      exact ⟨by rw [fillT_none _ _ _ hany]; rfl, hb0.out⟩
end Go.Proofs.YtcbilcfieoibbaaGreatDoor
