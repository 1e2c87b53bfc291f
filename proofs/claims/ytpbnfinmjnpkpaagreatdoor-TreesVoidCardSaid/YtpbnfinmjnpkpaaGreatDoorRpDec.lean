/-
  The first rune of bytes: the program's Decode, the document's Encode and Decode: the walks.
-/
import Derived.Test.YtpbnfinmjnpkpaaGreatDoorShelf
import Derived.Test.YtpbnfinmjnpkpaaGreatDoorLib
import Derived.Test.YtpbnfinmjnpkpaaGreatDoorRpLaw
import Derived.Shelf.Unicode.DecodeAny
import Derived.Laws.IdiomStrings
namespace Go.Proofs.YtpbnfinmjnpkpaaGreatDoor
open Go.RowKit
set_option maxRecDepth 100000
def decV (l : Rp.By) : Value := if Rp.decR l = (65533, 1) then .tuple #[.int .i32 0, .int .i64 1, .bool false] else .tuple #[.int .i32 (Rp.decR l).1, .int .i64 (Rp.decR l).2, .bool true]
theorem decode_dec (s : ByteArray) (h : s.size ≠ 0) : Lib.decodeGo s = Rp.decR s.data.toList := by
  have hl : s.data.toList.length = s.data.size := Array.length_toList
  have hg : ∀ k, (s.get! k).toNat = Rp.nth s.data.toList k := by
    intro k
    unfold Rp.nth
    show (s.data[k]!).toNat = _
    by_cases hk : k < s.data.size
    · rw [List.getD_eq_getElem?_getD, List.getElem?_eq_getElem (by omega), getElem!_pos s.data k hk]
      rfl
    · rw [List.getD_eq_getElem?_getD, List.getElem?_eq_none (by omega), getElem!_neg s.data k hk]
      rfl
  unfold Lib.decodeGo
  rw [if_neg h, Lib.decode_at, hg, hg, hg, hg]
  unfold Rp.decR
  rw [hl]
  rfl
set_option maxHeartbeats 1000000 in
theorem runesDecode_any (s : ByteArray) (a : Nat) (h : a < s.size) (w : World) (hT : Lib.Utf8Tabs 1 2 w) :
    Calls Tryz.prog 195 #[.string s, .int .i64 a] w fun e w' => e = .returned (decV (s.data.toList.drop a)) ∧ Below w.heap.size w w' := by
  have hd : Lib.decodeGo (s.extract a s.size) = Rp.decR (s.data.toList.drop a) := by
    have e1 : (s.extract a s.size).data.toList = s.data.toList.drop a := by
      have hl : s.data.toList.length = s.data.size := Array.length_toList
      simp only [ByteArray.data_extract, Array.toList_extract, List.extract_eq_take_drop]
      rw [List.take_of_length_le]
      rw [List.length_drop, hl]
      exact Nat.le_refl _
    rw [decode_dec _ (by rw [ByteArray.size_extract]; omega), e1]
  have H := Tryz.utf8_DecodeRuneInString (s.extract a s.size) w hT
  rw [hd] at H
  unfold decV
  generalize Rp.decR (s.data.toList.drop a) = d at H ⊢
  obtain ⟨r, k⟩ := d
  have HH := hid H
  have ha0 : decide ((a : Int) < 0) = false := decide_eq_false (by omega)
  clear H hd hT
  by_cases hr : r = 65533
  · subst hr
    by_cases hk : k = 1
    · subst hk
      go_enter Tryz.func195, Tryz.ntmps195
      go_wp2_with fail
      refine HH.out.mono ?_
      rintro e w1 ⟨rfl, hb⟩
      go_wp2
      go_ret3
      exact ⟨rfl, hb⟩
    · have hk' : ((k : Int) == 1) = false := by simp; omega
      have hh : ¬ ((65533, k) : Nat × Nat) = (65533, 1) := fun e => hk (by injection e)
      simp only [if_neg hh]
      clear hh
      go_enter Tryz.func195, Tryz.ntmps195
      go_wp2_with fail
      refine HH.out.mono ?_
      rintro e w1 ⟨rfl, hb⟩
      go_wp2
      go_ret3
      exact ⟨rfl, hb⟩
  · have hr' : ((r : Int) == 65533) = false := by simp; omega
    have hh : ¬ ((r, k) : Nat × Nat) = (65533, 1) := fun e => hr (by injection e)
    simp only [if_neg hh]
    clear hh
    go_enter Tryz.func195, Tryz.ntmps195
    go_wp2_with fail
    refine HH.out.mono ?_
    rintro e w1 ⟨rfl, hb⟩
    go_wp2
    go_ret3
    exact ⟨rfl, hb⟩
/-! ## the document's -/
def isR (r : Int) : Bool := decide (0 ≤ r ∧ r < 55296 ∨ 57344 ≤ r ∧ r ≤ 1114111)
theorem is_any (r : Int) (w : World) :
    Calls Tryz.prog 169 #[.int .i32 r] w fun e w' => e = .returned (.bool (isR r)) ∧ w' = w := by
  obtain ⟨b, hb⟩ : ∃ b, isR r = b := ⟨_, rfl⟩
  rw [hb]
  by_cases h0 : 0 ≤ r
  · by_cases h1 : r < 55296
    · obtain rfl : b = true := by rw [← hb]; exact decide_eq_true (by omega)
      clear hb
      go_enter Tryz.func169, Tryz.ntmps169
      go_wp2
      go_ret
      exact ⟨rfl, rfl⟩
    · by_cases h2 : 57344 ≤ r
      · by_cases h3 : r ≤ 1114111
        · obtain rfl : b = true := by rw [← hb]; exact decide_eq_true (by omega)
          clear hb
          go_enter Tryz.func169, Tryz.ntmps169
          go_wp2
          go_ret
          exact ⟨rfl, rfl⟩
        · obtain rfl : b = false := by rw [← hb]; exact decide_eq_false (by omega)
          clear hb
          go_enter Tryz.func169, Tryz.ntmps169
          go_wp2
          go_ret
          exact ⟨rfl, rfl⟩
      · obtain rfl : b = false := by rw [← hb]; exact decide_eq_false (by omega)
        clear hb
        go_enter Tryz.func169, Tryz.ntmps169
        go_wp2
        go_ret
        exact ⟨rfl, rfl⟩
  · have h2 : ¬ 57344 ≤ r := by omega
    obtain rfl : b = false := by rw [← hb]; exact decide_eq_false (by omega)
    clear hb
    go_enter Tryz.func169, Tryz.ntmps169
    go_wp2
    go_ret
    exact ⟨rfl, rfl⟩
theorem conv_back (w : World) (l : List UInt8) (k : Nat) (c : Array Value) (hk : k = l.length) (hc : c = (Lib.byteCells l).toArray) : (convert 144 9 (.slice (some ⟨w.heap.size, 0, none⟩) k k)).run Tryz.prog (w.alloc (.cells c 5)) = .ok (.string ⟨l.toArray⟩) (w.alloc (.cells c 5)) := by
  subst hk hc
  exact run_convert_bytes_back _ _ _ 5 ⟨w.heap.size, 0, none⟩ l.length l Tryz.underlying144 Tryz.underlying5 Tryz.underlying9 fun j hj => by
    have : (⟨w.heap.size, 0, none⟩ : Addr).add j = ⟨w.heap.size, j, none⟩ := by
      unfold Addr.add; by_cases h : j = 0 <;> simp [h]
    rw [this, cell_new]
    simp [Lib.byteCells, List.getElem?_eq_getElem hj]
theorem encB_cells (n : Nat) : Lib.byteCells (Rp.encB n) = (Rp.encN n).map fun x => Value.int .u8 (x : Nat) := by
  unfold Lib.byteCells Rp.encB
  rw [List.map_map]
  refine List.map_congr_left fun x hx => ?_
  have := Rp.encN_lt n x hx
  have e : (Nat.toUInt8 x).toNat = x := by simp [Nat.toUInt8, UInt8.toNat_ofNat']; omega
  simp only [Function.comp, e]
theorem encB_len (n : Nat) : (Rp.encB n).length = (Rp.encN n).length := by unfold Rp.encB; simp
set_option maxHeartbeats 2000000 in
set_option maxRecDepth 1000000 in
theorem encode_any (n : Nat) (h : n < 2147483648) (w : World) :
    Calls Tryz.prog 199 #[.int .i32 n] w fun e w' => e = .returned (.string ⟨(Rp.encB n).toArray⟩) ∧ Below w.heap.size w w' := by
  have hw : IntKind.i64.wrap (n : Int) = n := w64 (by omega) (by omega)
  have HH := hid h
  clear h
  by_cases h0 : isR n = true
  · have hr : n < 55296 ∨ 57344 ≤ n ∧ n ≤ 1114111 := by
      have := of_decide_eq_true h0
      omega
    by_cases h1 : n < 128
    · skip
      have hE : Rp.encN n = [n] := by unfold Rp.encN; rw [if_pos h1]
      have hcv := fun w1 : World => conv_back w1 (Rp.encB n) 1 #[.int .u8 n] (by rw [encB_len, hE]; rfl) (by rw [encB_cells, hE]; rfl)
      clear hE
      generalize Rp.encB n = eb at hcv ⊢
      have HC := hid hcv
      clear hcv
      go_enter Tryz.func199, Tryz.ntmps199
      go_wp2_with fail
      refine (is_any n w).mono ?_
      rintro e w1 ⟨rfl, rfl⟩
      rw [h0]
      clear h0
      go_wp2_with fail
      rw [HC.out w1]
      simp only [Result.andThen]
      rw [Oper.upon_value]
      go_wp2
      go_ret
      exact ⟨rfl, below_new _ _⟩
    · by_cases h2 : n < 2048
      · skip
        have hE : Rp.encN n = [192 + n / 64, 128 + n % 64] := by unfold Rp.encN; rw [if_neg h1, if_pos h2]
        have hcv := fun w1 : World => conv_back w1 (Rp.encB n) 2 #[.int .u8 (192 + (n : Int) / 64), .int .u8 (128 + (n : Int) % 64)] (by rw [encB_len, hE]; rfl) (by rw [encB_cells, hE]; rfl)
        clear hE
        generalize Rp.encB n = eb at hcv ⊢
        have HC := hid hcv
        clear hcv
        go_enter Tryz.func199, Tryz.ntmps199
        go_wp2_with fail
        refine (is_any n w).mono ?_
        rintro e w1 ⟨rfl, rfl⟩
        rw [h0]
        clear h0
        go_wp2_with fail
        rw [HC.out w1]
        simp only [Result.andThen]
        rw [Oper.upon_value]
        go_wp2
        go_ret
        exact ⟨rfl, below_new _ _⟩
      · by_cases h3 : n < 65536
        · have h4 : n < 55296 ∨ 57344 ≤ n := by omega
          have hE : Rp.encN n = [224 + n / 4096, 128 + n / 64 % 64, 128 + n % 64] := by unfold Rp.encN; rw [if_neg h1, if_neg h2, if_pos h3, if_pos h4]
          have hcv := fun w1 : World => conv_back w1 (Rp.encB n) 3 #[.int .u8 (224 + (n : Int) / 4096), .int .u8 (128 + (n : Int) / 64 % 64), .int .u8 (128 + (n : Int) % 64)] (by rw [encB_len, hE]; rfl) (by rw [encB_cells, hE]; rfl)
          clear hE h4
          generalize Rp.encB n = eb at hcv ⊢
          have HC := hid hcv
          clear hcv
          go_enter Tryz.func199, Tryz.ntmps199
          go_wp2_with fail
          refine (is_any n w).mono ?_
          rintro e w1 ⟨rfl, rfl⟩
          rw [h0]
          clear h0
          go_wp2_with fail
          rw [HC.out w1]
          simp only [Result.andThen]
          rw [Oper.upon_value]
          go_wp2
          go_ret
          exact ⟨rfl, below_new _ _⟩
        · have h4 : n ≤ 1114111 := by omega
          have hE : Rp.encN n = [240 + n / 262144, 128 + n / 4096 % 64, 128 + n / 64 % 64, 128 + n % 64] := by unfold Rp.encN; rw [if_neg h1, if_neg h2, if_neg h3, if_pos h4]
          have hcv := fun w1 : World => conv_back w1 (Rp.encB n) 4 #[.int .u8 (240 + (n : Int) / 262144), .int .u8 (128 + (n : Int) / 4096 % 64), .int .u8 (128 + (n : Int) / 64 % 64), .int .u8 (128 + (n : Int) % 64)] (by rw [encB_len, hE]; rfl) (by rw [encB_cells, hE]; rfl)
          clear hE
          generalize Rp.encB n = eb at hcv ⊢
          have HC := hid hcv
          clear hcv
          go_enter Tryz.func199, Tryz.ntmps199
          go_wp2_with fail
          refine (is_any n w).mono ?_
          rintro e w1 ⟨rfl, rfl⟩
          rw [h0]
          clear h0
          go_wp2_with fail
          rw [HC.out w1]
          simp only [Result.andThen]
          rw [Oper.upon_value]
          go_wp2
          go_ret
          exact ⟨rfl, below_new _ _⟩
  · have h0' : isR n = false := by simpa using h0
    have hr : ¬ (n < 55296 ∨ 57344 ≤ n ∧ n ≤ 1114111) := by
      have := of_decide_eq_false h0'
      omega
    have hE : Rp.encB n = [] := by
      unfold Rp.encB Rp.encN
      rw [if_neg (by omega), if_neg (by omega)]
      split
      · rw [if_neg (by omega)]; rfl
      · rw [if_neg (by omega)]; rfl
    rw [hE]
    clear hE hr
    go_enter Tryz.func199, Tryz.ntmps199
    go_wp2_with fail
    refine (is_any n w).mono ?_
    rintro e w1 ⟨rfl, rfl⟩
    rw [h0']
    clear h0 h0'
    go_wp2
    go_ret
    exact ⟨rfl, Below.refl _ _⟩
end Go.Proofs.YtpbnfinmjnpkpaaGreatDoor
