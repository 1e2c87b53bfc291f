/-
  The first rune of bytes: the document's Decode: the walk.
-/
import Derived.Test.YtcbilcfieoibbaaGreatDoorRpDec
import Derived.Lib.QuietBelow
namespace Go.Proofs.YtcbilcfieoibbaaGreatDoor
open Go.RowKit
open Go.Sort (grow)
set_option maxRecDepth 100000
namespace Rp
/-- a number amid its making -/
def part (l : By) (k : Nat) : Nat → Nat
  | 0 => 0
  | 1 => if k = 1 then nth l 0 else nth l 0 % 2 ^ (7 - k)
  | i + 2 => 64 * part l k (i + 1) + nth l (i + 1) % 64
theorem part_all (l : By) (k : Nat) (h1 : 1 ≤ k) (h4 : k ≤ 4) : part l k k = refN l k := by
  have : k = 1 ∨ k = 2 ∨ k = 3 ∨ k = 4 := by omega
  rcases this with rfl | rfl | rfl | rfl <;> simp [part, refN]
theorem refN_lt (l : By) (k : Nat) (h1 : 1 ≤ k) (h4 : k ≤ 4) : refN l k < 2147483648 := by
  have b0 := nth_lt l 0
  have : k = 1 ∨ k = 2 ∨ k = 3 ∨ k = 4 := by omega
  rcases this with rfl | rfl | rfl | rfl <;> simp only [refN] <;> omega
theorem part_lt (l : By) (k : Nat) (h4 : k ≤ 4) : ∀ i, i ≤ k → part l k i < 70000000 := by
  have b0 := nth_lt l 0
  have h1 : ∀ m, nth l 0 % m < 256 := fun m => Nat.lt_of_le_of_lt (Nat.mod_le _ _) b0
  have p1 : part l k 1 < 256 := by
    unfold part
    split
    · exact b0
    · exact h1 _
  have p2 : part l k 2 < 16448 := by
    show 64 * part l k 1 + nth l 1 % 64 < _
    omega
  have p3 : part l k 3 < 1052800 := by
    show 64 * part l k 2 + nth l 2 % 64 < _
    omega
  have p4 : part l k 4 < 70000000 := by
    show 64 * part l k 3 + nth l 3 % 64 < _
    omega
  intro i hi
  have : i = 0 ∨ i = 1 ∨ i = 2 ∨ i = 3 ∨ i = 4 := by omega
  rcases this with rfl | rfl | rfl | rfl | rfl
  · show 0 < _; omega
  · omega
  · omega
  · omega
  · omega
theorem refD_none {l : By} (h : ∀ j, 1 ≤ j → j ≤ 4 → ¬ hit l j) : refD l = none := by
  unfold refD
  rw [if_neg (h 1 (by omega) (by omega)), if_neg (h 2 (by omega) (by omega)), if_neg (h 3 (by omega) (by omega)), if_neg (h 4 (by omega) (by omega))]
theorem refD_some {l : By} {k : Nat} (h1 : 1 ≤ k) (h4 : k ≤ 4) (h : ∀ j, 1 ≤ j → j < k → ¬ hit l j) (hk : hit l k) : refD l = some (refN l k, k) := by
  unfold refD
  have : k = 1 ∨ k = 2 ∨ k = 3 ∨ k = 4 := by omega
  rcases this with rfl | rfl | rfl | rfl
  · rw [if_pos hk]
  · rw [if_neg (h 1 (by omega) (by omega)), if_pos hk]
  · rw [if_neg (h 1 (by omega) (by omega)), if_neg (h 2 (by omega) (by omega)), if_pos hk]
  · rw [if_neg (h 1 (by omega) (by omega)), if_neg (h 2 (by omega) (by omega)), if_neg (h 3 (by omega) (by omega)), if_pos hk]
end Rp
theorem enc_eq (s : ByteArray) (L : Rp.By) (a j : Nat) (hL : L = s.data.toList.drop a) (h : a + j ≤ s.size) : (Rp.encB (Rp.refN L j) == (s.extract a (a + j)).toList) = decide (Rp.hit L j) := by
  have e : (s.extract a (a + j)).toList = L.take j := by
    rw [ByteArray.toList_eq, ByteArray.data_extract, Array.toList_extract, List.extract_eq_take_drop, hL, Nat.add_sub_cancel_left]
  have hl : j ≤ L.length := by rw [hL, List.length_drop]; show j ≤ s.size - a; omega
  rw [e]
  by_cases hh : Rp.hit L j
  · rw [decide_eq_true hh, (show j ≤ L.length ∧ Rp.encB (Rp.refN L j) = L.take j from hh).2]
    exact beq_self_eq_true _
  · rw [decide_eq_false hh]
    exact beq_false_of_ne fun e => hh ⟨hl, e⟩
theorem slice_str (s : ByteArray) (a j : Nat) (h : a + j ≤ s.size) (w : World) : (Instr.slice 9 (.string s) (some (.int .i64 a)) (some (.int .i64 ((a : Int) + j))) none).run Tryz.prog w = .ok (.string (s.extract a (a + j))) w := by
  have h1 : (0 : Int) ≤ a := by omega
  have h2 : (a : Int) ≤ (a : Int) + j := by omega
  have h3 : (a : Int) + j ≤ s.size := by omega
  have h4 : ((a : Int) + j).toNat = a + j := by omega
  go_simp
def refV (l : Rp.By) : Value := match Rp.refD l with | some (r, k) => .tuple #[.int .i32 r, .int .i64 k, .bool true] | none => .tuple #[.int .i32 0, .int .i64 1, .bool false]
theorem refV_eq (l : Rp.By) (h : l ≠ []) : refV l = decV l := by
  unfold refV decV
  rw [Rp.ref_dec l h]
  by_cases e : Rp.decR l = (65533, 1)
  · rw [if_pos e, if_pos e]
  · rw [if_neg e, if_neg e]
set_option maxHeartbeats 4000000 in
theorem refDecode_any (s : ByteArray) (a : Nat) (h : a < s.size) (hs : s.size ≤ 1000000000) (w : World) :
    Calls Tryz.prog 29 #[.string s, .int .i64 a] w fun e w' => e = .returned (decV (s.data.toList.drop a)) ∧ Below w.heap.size w w' := by
  obtain ⟨L, hL⟩ : ∃ L, L = s.data.toList.drop a := ⟨_, rfl⟩
  have hLl : L.length = s.size - a := by rw [hL, List.length_drop]; rfl
  have hL0 : L ≠ [] := fun e => by rw [e] at hLl; simp at hLl; omega
  rw [← hL, ← refV_eq L hL0]
  have ha0 : decide ((a : Int) < 0) = false := decide_eq_false (by omega)
  have ha1 : decide (s.size ≤ a) = false := decide_eq_false (by omega)
  have HL := hid hL
  have HLl := hid hLl
  clear hL hLl hL0
  go_enter Tryz.func29, Tryz.ntmps29
  go_wp2_with fail
  go_loopw [7] (fun v wr => ∃ k : Nat, 1 ≤ k ∧ k ≤ 5 ∧ v = .int .i64 k ∧ Hid (∀ j, 1 ≤ j → j < k → ¬ Rp.hit L j) ∧ Below w.heap.size w wr) (fun v _ => 5 - (intOf v).toNat)
  case atStart => exact ⟨1, by omega, by omega, rfl, hid (by omega), Below.refl _ _⟩
  case round =>
    obtain ⟨k, hk1, hk5, rfl, hno, hb⟩ := hrel
    by_cases hk : k ≤ 4
    · by_cases hkl : a + k ≤ s.size
      · have hkl2 : decide ((a : Int) + (k : Int) ≤ (s.size : Int)) = true := decide_eq_true (by omega)
        go_wp2_with fail
        go_loop [8, 9] (fun n i => ∃ j : Nat, j ≤ k ∧ i = .int .i64 j ∧ n = .int .i64 (Rp.part L k j)) (fun _ i => k - (intOf i).toNat)
        case atStart => exact ⟨0, by omega, rfl, rfl⟩
        case round =>
          obtain ⟨j, hj, rfl, rfl⟩ := hrel
          have hpl := Rp.part_lt L k hk j hj
          by_cases hjk : j < k
          · have hin : a + j < s.size := by omega
            have hg : ((s[a + j]'hin).toNat : Int) = (Rp.nth L j : Nat) := by
              rw [HL.out]
              unfold Rp.nth
              rw [List.getD_eq_getElem?_getD, List.getElem?_drop, List.getElem?_eq_getElem (show a + j < s.data.toList.length from hin)]
              rfl
            have hwn : wrap64 (Rp.nth L j : Nat) = (Rp.nth L j : Nat) := by
              have := Rp.nth_lt L j
              unfold wrap64; omega
            by_cases hj0 : j = 0
            · subst hj0
              have hg : ((s[a]'hin).toNat : Int) = (Rp.nth L 0 : Nat) := hg
              by_cases hk1' : k = 1
              · subst hk1'
                go_wp2_with fail
                refine ⟨⟨1, by omega, rfl, ?_⟩, by simp [intOf]⟩
                first | rfl | (rw [hwn]; rfl)
              · have hk3 : k = 2 ∨ k = 3 ∨ k = 4 := by omega
                have hpw : (((2 : Int) ^ (7 - k)) = 32 ∧ k = 2) ∨ (((2 : Int) ^ (7 - k)) = 16 ∧ k = 3) ∨ (((2 : Int) ^ (7 - k)) = 8 ∧ k = 4) := by
                  rcases hk3 with rfl | rfl | rfl
                  · exact .inl ⟨rfl, rfl⟩
                  · exact .inr (.inl ⟨rfl, rfl⟩)
                  · exact .inr (.inr ⟨rfl, rfl⟩)
                clear hk3
                rcases hpw with ⟨hpw, hke⟩ | ⟨hpw, hke⟩ | ⟨hpw, hke⟩
                all_goals
                  have HK := hid hke
                  clear hke
                  go_wp2_with fail
                  refine ⟨⟨1, by omega, rfl, ?_⟩, by simp [intOf]; omega⟩
                  rw [HK.out]; rfl
            · go_wp2_with fail
              refine ⟨⟨j + 1, by omega, by go_num, ?_⟩, by simp [intOf]; omega⟩
              rw [show Rp.part L k (j + 1) = 64 * Rp.part L k j + Rp.nth L j % 64 from by
                obtain ⟨m, rfl⟩ : ∃ m, j = m + 1 := ⟨j - 1, by omega⟩
                rfl]
              go_num
          · have hjk : j = k := by omega
            subst hjk
            have hlt := Rp.refN_lt L j hk1 hk
            rw [Rp.part_all L j hk1 hk] at hpl ⊢
            have hw32 : IntKind.i32.wrap (Rp.refN L j : Nat) = (Rp.refN L j : Nat) := w32 (by omega) (by omega)
            have henc := fun d os => Calls.regrown_of (encode_any (Rp.refN L j) hlt (grow (redrawn wr d) os))
            have heq := enc_eq s L a j HL.out hkl
            have hb1 := hid hb
            have hwaj : IntKind.i64.wrap ((a : Int) + j) = (a : Int) + j := w64 (by omega) (by omega)
            have hsl := fun w' => slice_str s a j (by omega) w'
            clear hb hpl
            by_cases hh : Rp.hit L j
            · rw [decide_eq_true hh] at heq
              go_wp2_with fail
              refine wp_region_quiet_below (by kernel_rfl) (by kernel_rfl) ?_
              repeat (quiet_step (exact henc _ _))
              refine wpQuiet_nil ?_
              rintro _ ⟨⟨dq, osq⟩, rfl⟩
              have hb2 := hb1.out.trans ((below_regrown wr dq osq).mono hb1.out.size)
              clear henc
              generalize grow (redrawn wr dq) osq = w2 at hb2 ⊢
              go_wp2_with fail
              go_ret3
              refine ⟨?_, hb2⟩
              have hz := Rp.refD_some hk1 hk hno.out hh
              unfold refV
              rw [hz]
              rfl
            · rw [decide_eq_false hh] at heq
              go_wp2_with fail
              refine wp_region_quiet_below (by kernel_rfl) (by kernel_rfl) ?_
              repeat (quiet_step (exact henc _ _))
              refine wpQuiet_nil ?_
              rintro _ ⟨⟨dq, osq⟩, rfl⟩
              have hb2 := hb1.out.trans ((below_regrown wr dq osq).mono hb1.out.size)
              clear henc
              generalize grow (redrawn wr dq) osq = w2 at hb2 ⊢
              go_wp2_with fail
              go_roundw
              case rel =>
                refine ⟨j + 1, by omega, by omega, by go_num, hid fun i h1 h2 => ?_, hb2⟩
                by_cases e : i = j
                · rw [e]; exact hh
                · exact hno.out i h1 (by omega)
              case measure => simp [intOf]; omega
      · have hz : Rp.refD L = none := Rp.refD_none fun j h1 h4 => by
          by_cases e : j < k
          · exact hno.out j h1 e
          · exact Rp.hit_len (by have := HLl.out; omega)
        have hV : refV L = .tuple #[.int .i32 0, .int .i64 1, .bool false] := by unfold refV; rw [hz]
        have HV := hid hV
        clear hz hV
        go_wp2_with fail
        go_ret3
        exact ⟨by rw [HV.out]; rfl, hb⟩
    · have hz : Rp.refD L = none := Rp.refD_none fun j h1 h4 => hno.out j h1 (by omega)
      have hV : refV L = .tuple #[.int .i32 0, .int .i64 1, .bool false] := by unfold refV; rw [hz]
      have HV := hid hV
      clear hz hV
      go_wp2_with fail
      go_ret3
      exact ⟨by rw [HV.out]; rfl, hb⟩
end Go.Proofs.YtcbilcfieoibbaaGreatDoor
