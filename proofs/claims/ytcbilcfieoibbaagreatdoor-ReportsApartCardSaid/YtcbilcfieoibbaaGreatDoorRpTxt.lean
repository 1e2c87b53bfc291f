/-
  A rune as text: numbers in digits of 16; the program's: the walk.
-/
import Derived.Test.YtcbilcfieoibbaaGreatDoorRpTb
import Derived.Laws.Bits64b
namespace Go.Proofs.YtcbilcfieoibbaaGreatDoor
open Go.RowKit
set_option maxRecDepth 100000
theorem tz64_any (w : World) (hT : w.cell? ⟨6, 15, none⟩ = some (.int .u8 4)) :
    Calls Tryz.prog 126 #[.int .u64 16] w fun e w' => e = .returned (.int .i64 4) ∧ w' = w := by
  have hz : IntKind.u64.wrap (-16) = 18446744073709551600 := by decide
  have hand : bits .and .u64 16 18446744073709551600 = 16 := by decide +kernel
  have hm : IntKind.u64.wrap (16 * 285870213051353865) = 4573923408821661840 := by decide
  go_enter Tryz.func126, Tryz.ntmps126
  go_wp2
  go_ret
  exact ⟨rfl, rfl⟩
theorem tz_any (w : World) (hT : w.cell? ⟨6, 15, none⟩ = some (.int .u8 4)) :
    Calls Tryz.prog 102 #[.int .u64 16] w fun e w' => e = .returned (.int .i64 4) ∧ w' = w := by
  go_enter Tryz.func102, Tryz.ntmps102
  go_wp2_with fail
  refine (tz64_any w hT).mono ?_
  rintro e w1 ⟨rfl, rfl⟩
  go_wp2
  go_ret
  exact ⟨rfl, rfl⟩
theorem pow2_any (w : World) :
    Calls Tryz.prog 101 #[.int .i64 16] w fun e w' => e = .returned (.bool true) ∧ w' = w := by
  go_enter Tryz.func101, Tryz.ntmps101
  go_wp2
  go_ret
  exact ⟨rfl, rfl⟩
namespace Rp
/-- a number's digits amid their making -/
structure HexI (n k u : Nat) (acc : By) : Prop where
  le : k ≤ 5
  len : acc.length = k
  is : hexF (8 - k) u ++ acc = hexD n
  lt : u < 16 ^ (6 - k)
theorem HexI.start {n : Nat} (h : n < 16777216) : HexI n 0 n [] := ⟨by omega, rfl, by simp [hexD], h⟩
theorem HexI.next {n k u : Nat} {acc : By} (h : HexI n k u acc) (hu : 16 ≤ u) : HexI n (k + 1) (u / 16) (dig (u % 16) :: acc) := by
  have hk : k ≤ 4 := by
    rcases Nat.lt_or_ge k 5 with e | e
    · omega
    · have h1 := h.lt
      have h2 := h.le
      obtain rfl : k = 5 := by omega
      simp at h1
      omega
  refine ⟨by omega, by simp [h.len], ?_, ?_⟩
  · have := h.is
    rw [show 8 - k = (8 - (k + 1)) + 1 by omega] at this
    unfold hexF at this
    rw [if_neg (by omega)] at this
    simpa using this
  · have := h.lt
    rw [show 6 - k = (6 - (k + 1)) + 1 by omega, Nat.pow_succ] at this
    omega
theorem HexI.done {n k u : Nat} {acc : By} (h : HexI n k u acc) (hu : u < 16) : hexD n = dig u :: acc := by
  have := h.is
  have hk := h.le
  rw [show 8 - k = (7 - k) + 1 by omega] at this
  unfold hexF at this
  rw [if_pos hu] at this
  exact this.symm
end Rp
/-- the array, amid its filling -/
def hexCells (k : Nat) (acc : List UInt8) : Array Value := (List.replicate (65 - k) (Value.int .u8 0) ++ Lib.byteCells acc).toArray
theorem hexCells_zero : hexCells 0 [] = Tryz.zeroCells243 := by kernel_rfl
theorem hexCells_set {k : Nat} {acc : List UInt8} (hk : k ≤ 5) (c : UInt8) : (hexCells k acc).setIfInBounds (64 - k) (.int .u8 c.toNat) = hexCells (k + 1) (c :: acc) := by
  unfold hexCells
  rw [List.setIfInBounds_toArray]
  congr 1
  rw [show 65 - k = (64 - k) + 1 by omega, List.replicate_succ', List.append_assoc, List.set_append_right _ _ (by simp), List.length_replicate, Nat.sub_self, show 65 - (k + 1) = 64 - k by omega]
  rfl
theorem hexCells_size {k : Nat} {acc : List UInt8} (hk : k ≤ 65) (h : acc.length = k) : (hexCells k acc).size = 65 := by
  unfold hexCells
  simp [Lib.byteCells, h]
  omega
theorem and15 (u : Nat) (h : u < 16777216) : bits .and .u64 (u : Int) 15 = ((u % 16 : Nat) : Int) := by
  have := bits_and_u64_nat u 15 (by omega) (by omega)
  rw [show u &&& 15 = u % 16 from Nat.and_two_pow_sub_one_eq_mod u 4] at this
  exact this
theorem dig_at : ∀ (d : Nat) (h : d < 16), ((⟨#[48, 49, 50, 51, 52, 53, 54, 55, 56, 57, 97, 98, 99, 100, 101, 102, 103, 104, 105, 106, 107, 108, 109, 110, 111, 112, 113, 114, 115, 116, 117, 118, 119, 120, 121, 122]⟩ : ByteArray)[d]'(Nat.lt_of_lt_of_le h (by decide))) = Rp.dig d := by decide
theorem HexI_lt {n k u : Nat} {acc : List UInt8} (h : Rp.HexI n k u acc) : u < 16777216 := Nat.lt_of_lt_of_le h.lt (by
  have : 16 ^ (6 - k) ≤ 16 ^ 6 := Nat.pow_le_pow_right (by decide) (by omega)
  exact this)
theorem slice65 (w : World) (ab k : Nat) (hk : k ≤ 5) : (Instr.sliceAt 243 (.pointer (some ⟨ab, 0, none⟩)) (some (.int .i64 ((65 : Int) - k - 1))) none none).run Tryz.prog w = .ok (.slice (some ⟨ab, 64 - k, none⟩) (k + 1) (k + 1)) w := by
  have : k = 0 ∨ k = 1 ∨ k = 2 ∨ k = 3 ∨ k = 4 ∨ k = 5 := by omega
  rcases this with rfl | rfl | rfl | rfl | rfl | rfl
  all_goals go_simp
theorem hex_put {w : World} {b k : Nat} {acc : List UInt8} {T : TypeId} (hk : k ≤ 5) (c : UInt8) (h : w.heap[b]? = some (.cells (hexCells k acc) T (0, 0))) : (w.setCell ⟨b, 65 - k - 1, none⟩ (.int .u8 c.toNat)).heap[b]? = some (.cells (hexCells (k + 1) (c :: acc)) T (0, 0)) := by
  rw [← hexCells_set hk c, show 64 - k = 65 - k - 1 by omega]
  simp [World.setCell, Array.getElem?_modify, h]
theorem hex_conv {w : World} {b k : Nat} {l : List UInt8} (hl : l.length = k + 1) (h : w.heap[b]? = some (.cells (hexCells (k + 1) l) 243 (0, 0))) : (convert 96 9 (.slice (some ⟨b, 64 - k, none⟩) (k + 1) (k + 1))).run Tryz.prog w = .ok (.string ⟨l.toArray⟩) w := by
  have := run_convert_bytes_back w _ _ 5 ⟨b, 64 - k, none⟩ (k + 1) l Tryz.underlying96 Tryz.underlying5 Tryz.underlying9 fun j hj => by
    have e : (⟨b, 64 - k, none⟩ : Addr).add j = ⟨b, 64 - k + j, none⟩ := by
      unfold Addr.add; by_cases h : j = 0 <;> simp [h]
    rw [e, Lib.cell_of_heap h]
    unfold hexCells
    rw [List.getElem?_toArray, List.getElem?_append_right (by simp), List.length_replicate, show 64 - k + j - (65 - (k + 1)) = j by omega]
    simp [Lib.byteCells, List.getElem?_eq_getElem hj]
  rw [hl] at this
  exact this
set_option maxHeartbeats 4000000 in
theorem fmtBits_any (n : Nat) (h : n < 16777216) (w : World) (hT : w.cell? ⟨6, 15, none⟩ = some (.int .u8 4)) :
    Calls Tryz.prog 82 #[.slice none 0 0, .int .u64 n, .int .i64 16, .bool false, .bool false] w fun e w' => e = .returned (.tuple #[.slice none 0 0, .string ⟨(Rp.hexD n).toArray⟩]) ∧ Below w.heap.size w w' := by
  have hlt : 6 < w.heap.size := by
    rcases Nat.lt_or_ge 6 w.heap.size with h | h
    · exact h
    · simp [World.cell?, Array.getElem?_eq_none h] at hT
  have hT2 : (w.alloc (.cells Tryz.zeroCells243 243)).cell? ⟨6, 15, none⟩ = some (.int .u8 4) := ((below_new w _).cell (p := ⟨_, _, none⟩) hlt).trans hT
  go_enter Tryz.func82, Tryz.ntmps82
  go_wp2_with fail
  refine (pow2_any _).mono ?_
  rintro e w1 ⟨rfl, rfl⟩
  go_wp2_with fail
  refine (tz_any _ hT2).mono ?_
  rintro e w1 ⟨rfl, rfl⟩
  go_wp2_with fail
  clear hT2 hT
  go_loopw [1, 13] (fun u i wr => ∃ (k uu : Nat) (acc : List UInt8), Rp.HexI n k uu acc ∧ u = .int .u64 uu ∧ i = .int .i64 ((65 : Int) - k) ∧ wr.heap[w.heap.size]? = some (.cells (hexCells k acc) 243 (0, 0)) ∧ Below w.heap.size w wr) (fun u _ _ => (intOf u).toNat)
  case atStart => exact ⟨0, n, [], Rp.HexI.start h, rfl, rfl, by rw [hexCells_zero]; exact heap_alloc_new w _, below_new w _⟩
  case round =>
    obtain ⟨k, u, acc, hI, rfl, rfl, hhp, hb⟩ := hrel
    have hk := hI.le
    have hul := HexI_lt hI
    have hc : wr.cell? ⟨w.heap.size, 65 - k - 1, none⟩ = some (.int .u8 0) := by
      rw [Lib.cell_of_heap hhp]
      unfold hexCells
      rw [List.getElem?_toArray, List.getElem?_append_left (by simp; omega)]
      simp [List.getElem?_replicate]; omega
    have hf : wr.frozen? ⟨w.heap.size, 65 - k - 1, none⟩ = false := Lib.frozen_of_heap hhp _
    by_cases hu : 16 ≤ u
    · obtain ⟨d, hd⟩ : ∃ d, d = u % 16 := ⟨_, rfl⟩
      have hdl : d < 16 := by omega
      have hand := and15 u hul
      have hdg := dig_at d hdl
      have hI2 := hI.next hu
      rw [← hd] at hand hI2
      have HI := hid hI2
      clear hI hd hI2
      have HP := hid (hex_put hk (Rp.dig d) hhp)
      have HB := hid hb
      clear hb hhp
      go_wp2_with fail
      refine ⟨⟨k + 1, u / 16, Rp.dig d :: acc, HI.out, by simp, by go_num, HP.out, HB.out.setCell (p := ⟨w.heap.size, _, none⟩) (Nat.le_refl _) _⟩, ?_⟩
      simp [intOf]
      omega
    · have hu : u < 16 := by omega
      have hdg := dig_at u hu
      have HD := hid (hI.done hu)
      have hal := hid hI.len
      have hsl := fun w' => slice65 w' w.heap.size k hk
      have HC := hid (hex_conv (k := k) (l := Rp.dig u :: acc) (by simp [hI.len]) (hex_put hk (Rp.dig u) hhp))
      have HB := hid hb
      clear hI hb hhp
      go_wp2_with fail
      rw [HC.out]
      simp only [Result.andThen]
      rw [Oper.upon_value]
      go_wp2
      go_ret2
      exact ⟨by rw [HD.out]; rfl, HB.out.setCell (p := ⟨w.heap.size, _, none⟩) (Nat.le_refl _) _⟩
set_option maxHeartbeats 1000000 in
theorem fmtInt_any (n : Nat) (h : n < 16777216) (w : World) (hT : w.cell? ⟨6, 15, none⟩ = some (.int .u8 4)) :
    Calls Tryz.prog 60 #[.int .i64 n, .int .i64 16] w fun e w' => e = .returned (.string ⟨(Rp.hexD n).toArray⟩) ∧ Below w.heap.size w w' := by
  have hw : IntKind.u64.wrap (n : Int) = n := IntWalk.u64_in _ (by omega)
  have hn : decide ((n : Int) < 0) = false := decide_eq_false (by omega)
  have HH := hid h
  clear h
  go_enter Tryz.func60, Tryz.ntmps60
  go_wp2_with fail
  refine (fmtBits_any n HH.out w hT).mono ?_
  rintro e w1 ⟨rfl, hb⟩
  go_wp2
  go_ret
  exact ⟨rfl, hb⟩
theorem formatInt_any (n : Nat) (h : n < 16777216) (w : World) (hT : w.cell? ⟨6, 15, none⟩ = some (.int .u8 4)) :
    Calls Tryz.prog 112 #[.int .i64 n, .int .i64 16] w fun e w' => e = .returned (.string ⟨(Rp.hexD n).toArray⟩) ∧ Below w.heap.size w w' := by
  go_enter Tryz.func112, Tryz.ntmps112
  go_wp2_with fail
  refine (fmtInt_any n h w hT).mono ?_
  rintro e w1 ⟨rfl, hb⟩
  go_wp2
  go_ret
  exact ⟨rfl, hb⟩
end Go.Proofs.YtcbilcfieoibbaaGreatDoor
