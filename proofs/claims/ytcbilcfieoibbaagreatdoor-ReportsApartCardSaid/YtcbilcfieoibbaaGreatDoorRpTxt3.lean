/-
  A rune as text: the program's, and the document's: the walks.
-/
import Derived.Test.YtcbilcfieoibbaaGreatDoorRpTxt2
namespace Go.Proofs.YtcbilcfieoibbaaGreatDoor
open Go.RowKit
set_option maxRecDepth 100000
theorem str_def (l : List UInt8) : (⟨l.toArray⟩ : ByteArray).data.toList = l := rfl
theorem contains1 (r : Nat) (hv : isV r) (w : World) :
    Calls Tryz.prog 110 #[.string ⟨#[10, 13, 9]⟩, .int .i32 r] w fun e w' => e = .returned (.bool (decide (r = 10 ∨ r = 13 ∨ r = 9))) ∧ Below w.heap.size w w' := by
  by_cases h : r < 128
  · have hd : ∀ r : Nat, r < 128 → decide ((0 : Int) ≤ Lib.indexByte [10, 13, 9] (r : Int).toNat.toUInt8) = decide (r = 10 ∨ r = 13 ∨ r = 9) := by decide +kernel
    have H := Tryz.strings_ContainsRune_ascii ⟨#[10, 13, 9]⟩ r w (by omega) (by omega)
    rw [show (⟨#[10, 13, 9]⟩ : ByteArray).data.toList = [10, 13, 9] from rfl, hd r h] at H
    exact H.mono fun _ _ ⟨h1, h2⟩ => ⟨h1, by rw [h2]; exact Below.refl _ _⟩
  · rw [decide_eq_false (by omega)]
    exact contains_hi _ (by decide) r (by omega) hv w
theorem contains2 (r : Nat) (hv : isV r) (w : World) :
    Calls Tryz.prog 110 #[.string ⟨#[92, 39, 93, 91, 45]⟩, .int .i32 r] w fun e w' => e = .returned (.bool (decide (r = 92 ∨ r = 39 ∨ r = 93 ∨ r = 91 ∨ r = 45))) ∧ Below w.heap.size w w' := by
  by_cases h : r < 128
  · have hd : ∀ r : Nat, r < 128 → decide ((0 : Int) ≤ Lib.indexByte [92, 39, 93, 91, 45] (r : Int).toNat.toUInt8) = decide (r = 92 ∨ r = 39 ∨ r = 93 ∨ r = 91 ∨ r = 45) := by decide +kernel
    have H := Tryz.strings_ContainsRune_ascii ⟨#[92, 39, 93, 91, 45]⟩ r w (by omega) (by omega)
    rw [show (⟨#[92, 39, 93, 91, 45]⟩ : ByteArray).data.toList = [92, 39, 93, 91, 45] from rfl, hd r h] at H
    exact H.mono fun _ _ ⟨h1, h2⟩ => ⟨h1, by rw [h2]; exact Below.refl _ _⟩
  · rw [decide_eq_false (by omega)]
    exact contains_hi _ (by decide) r (by omega) hv w
theorem bytes_app (a b : List UInt8) : (⟨a.toArray⟩ ++ ⟨b.toArray⟩ : ByteArray) = ⟨(a ++ b).toArray⟩ := by
  apply ByteArray.ext
  simp
theorem enc_small {r : Nat} (h : r < 128) : Utf8.encode (r : Int) = ⟨#[r.toUInt8]⟩ := by
  rw [enc_model (.inl (by omega)), show Rp.encB r = [r.toUInt8] from by unfold Rp.encB Rp.encN; rw [if_pos h]; rfl]
def TextP (r : Nat) (w : World) (e : Ending) (w' : World) : Prop := e = .returned (.string ⟨(Rp.escT r).toArray⟩) ∧ Below w.heap.size w w'
set_option maxHeartbeats 4000000 in
set_option maxRecDepth 1000000 in
theorem text_10 (w : World) : Calls Tryz.prog 90 #[.int .i32 10] w (TextP 10 w) := by
  have hx : Lib.validRune (10 : Int) = true := by decide
  have he : Utf8.encode (110 : Int) = ⟨#[110]⟩ := enc_small (r := 110) (by decide)
  go_enter Tryz.func90, Tryz.ntmps90
  go_wp2_with fail
  refine (Tryz.utf8_ValidRune 10 w).mono ?_
  rintro e w1 ⟨rfl, rfl⟩
  rw [hx]
  go_wp2_with fail
  refine (contains1 10 (.inl (by decide)) w1).mono ?_
  rintro e w2 ⟨rfl, hb2⟩
  rw [show decide ((10 : Nat) = 10 ∨ 10 = 13 ∨ 10 = 9) = true from rfl]
  go_wp2_with fail
  refine (Tryz.strings_IndexRune_ascii ⟨#[10, 13, 9]⟩ 10 w2 (by decide) (by decide)).mono ?_
  rintro e w3 ⟨rfl, rfl⟩
  rw [show Lib.indexByte (⟨#[10, 13, 9]⟩ : ByteArray).data.toList (10 : Int).toNat.toUInt8 = 0 from by decide]
  go_wp2_with fail
  go_ret
  exact ⟨rfl, hb2⟩
set_option maxHeartbeats 4000000 in
set_option maxRecDepth 1000000 in
theorem text_13 (w : World) : Calls Tryz.prog 90 #[.int .i32 13] w (TextP 13 w) := by
  have hx : Lib.validRune (13 : Int) = true := by decide
  have he : Utf8.encode (114 : Int) = ⟨#[114]⟩ := enc_small (r := 114) (by decide)
  go_enter Tryz.func90, Tryz.ntmps90
  go_wp2_with fail
  refine (Tryz.utf8_ValidRune 13 w).mono ?_
  rintro e w1 ⟨rfl, rfl⟩
  rw [hx]
  go_wp2_with fail
  refine (contains1 13 (.inl (by decide)) w1).mono ?_
  rintro e w2 ⟨rfl, hb2⟩
  rw [show decide ((13 : Nat) = 10 ∨ 13 = 13 ∨ 13 = 9) = true from rfl]
  go_wp2_with fail
  refine (Tryz.strings_IndexRune_ascii ⟨#[10, 13, 9]⟩ 13 w2 (by decide) (by decide)).mono ?_
  rintro e w3 ⟨rfl, rfl⟩
  rw [show Lib.indexByte (⟨#[10, 13, 9]⟩ : ByteArray).data.toList (13 : Int).toNat.toUInt8 = 1 from by decide]
  go_wp2_with fail
  go_ret
  exact ⟨rfl, hb2⟩
set_option maxHeartbeats 4000000 in
set_option maxRecDepth 1000000 in
theorem text_9 (w : World) : Calls Tryz.prog 90 #[.int .i32 9] w (TextP 9 w) := by
  have hx : Lib.validRune (9 : Int) = true := by decide
  have he : Utf8.encode (116 : Int) = ⟨#[116]⟩ := enc_small (r := 116) (by decide)
  go_enter Tryz.func90, Tryz.ntmps90
  go_wp2_with fail
  refine (Tryz.utf8_ValidRune 9 w).mono ?_
  rintro e w1 ⟨rfl, rfl⟩
  rw [hx]
  go_wp2_with fail
  refine (contains1 9 (.inl (by decide)) w1).mono ?_
  rintro e w2 ⟨rfl, hb2⟩
  rw [show decide ((9 : Nat) = 10 ∨ 9 = 13 ∨ 9 = 9) = true from rfl]
  go_wp2_with fail
  refine (Tryz.strings_IndexRune_ascii ⟨#[10, 13, 9]⟩ 9 w2 (by decide) (by decide)).mono ?_
  rintro e w3 ⟨rfl, rfl⟩
  rw [show Lib.indexByte (⟨#[10, 13, 9]⟩ : ByteArray).data.toList (9 : Int).toNat.toUInt8 = 2 from by decide]
  go_wp2_with fail
  go_ret
  exact ⟨rfl, hb2⟩
set_option maxHeartbeats 4000000 in
set_option maxRecDepth 1000000 in
theorem text_set (r : Nat) (hr : r = 92 ∨ r = 39 ∨ r = 93 ∨ r = 91 ∨ r = 45) (w : World) : Calls Tryz.prog 90 #[.int .i32 r] w (TextP r w) := by
  have hl : r < 128 := by omega
  have hv : isV r := .inl (by omega)
  have hx := valid_of hv
  have he := enc_small hl
  have H1 := fun w => contains1 r hv w
  have H2 := fun w => contains2 r hv w
  rw [decide_eq_false (by omega)] at H1
  rw [decide_eq_true hr] at H2
  have hE : Rp.escT r = [92, r.toUInt8] := by
    unfold Rp.escT
    rw [if_neg (by omega), if_neg (by omega), if_neg (by omega), if_pos hr]
  unfold TextP
  rw [hE]
  clear hE hr hl hv
  go_enter Tryz.func90, Tryz.ntmps90
  go_wp2_with fail
  refine (Tryz.utf8_ValidRune r w).mono ?_
  rintro e w1 ⟨rfl, rfl⟩
  rw [hx]
  go_wp2_with fail
  refine (H1 w1).mono ?_
  rintro e w2 ⟨rfl, hb2⟩
  go_wp2_with fail
  refine (H2 w2).mono ?_
  rintro e w3 ⟨rfl, hb3⟩
  go_wp2_with fail
  go_ret
  exact ⟨congrArg (fun x => Ending.returned (Value.string x)) (bytes_app [92] [r.toUInt8]), hb2.trans (hb3.mono hb2.size)⟩
set_option maxHeartbeats 4000000 in
set_option maxRecDepth 1000000 in
theorem text_plain (r : Nat) (h1 : 32 ≤ r) (h2 : r ≤ 126) (hr : ¬ (r = 92 ∨ r = 39 ∨ r = 93 ∨ r = 91 ∨ r = 45)) (w : World) : Calls Tryz.prog 90 #[.int .i32 r] w (TextP r w) := by
  have hv : isV r := .inl (by omega)
  have hx := valid_of hv
  have he := enc_small (show r < 128 by omega)
  have H1 := fun w => contains1 r hv w
  have H2 := fun w => contains2 r hv w
  rw [decide_eq_false (by omega)] at H1
  rw [decide_eq_false hr] at H2
  have hE : Rp.escT r = [r.toUInt8] := by
    unfold Rp.escT
    rw [if_neg (by omega), if_neg (by omega), if_neg (by omega), if_neg hr, if_pos ⟨h1, h2⟩]
  unfold TextP
  rw [hE]
  have f1 : decide ((32 : Int) ≤ (r : Int)) = true := decide_eq_true (by omega)
  have f2 : decide ((r : Int) ≤ 126) = true := decide_eq_true (by omega)
  clear hE hr hv h1 h2
  go_enter Tryz.func90, Tryz.ntmps90
  go_wp2_with fail
  refine (Tryz.utf8_ValidRune r w).mono ?_
  rintro e w1 ⟨rfl, rfl⟩
  rw [hx]
  go_wp2_with fail
  refine (H1 w1).mono ?_
  rintro e w2 ⟨rfl, hb2⟩
  go_wp2_with fail
  refine (H2 w2).mono ?_
  rintro e w3 ⟨rfl, hb3⟩
  go_wp2_with fail
  go_ret
  exact ⟨rfl, hb2.trans (hb3.mono hb2.size)⟩
set_option maxHeartbeats 4000000 in
set_option maxRecDepth 1000000 in
theorem text_hex (r : Nat) (hv : isV r) (hp : ¬ (32 ≤ r ∧ r ≤ 126)) (hn : ¬ (r = 10 ∨ r = 13 ∨ r = 9)) (w : World) (hT : w.cell? ⟨6, 15, none⟩ = some (.int .u8 4)) : Calls Tryz.prog 90 #[.int .i32 r] w (TextP r w) := by
  have hx := valid_of hv
  have hr : ¬ (r = 92 ∨ r = 39 ∨ r = 93 ∨ r = 91 ∨ r = 45) := by omega
  have H1 := fun w => contains1 r hv w
  have H2 := fun w => contains2 r hv w
  rw [decide_eq_false hn] at H1
  rw [decide_eq_false hr] at H2
  have hE : Rp.escT r = [92, 117, 123] ++ Rp.hexD r ++ [125] := by
    unfold Rp.escT
    rw [if_neg (by omega), if_neg (by omega), if_neg (by omega), if_neg hr, if_neg hp]
  have hl : r < 16777216 := by unfold isV at hv; omega
  have hwr : IntKind.i64.wrap (r : Int) = r := w64 (by omega) (by omega)
  unfold TextP
  rw [hE]
  have hlt : 6 < w.heap.size := by
    rcases Nat.lt_or_ge 6 w.heap.size with h | h
    · exact h
    · simp [World.cell?, Array.getElem?_eq_none h] at hT
  have hff : decide ((32 : Int) ≤ (r : Int)) = true → decide ((r : Int) ≤ 126) = false := fun h => decide_eq_false (by have := of_decide_eq_true h; omega)
  have HL := hid hl
  have HT := hid hT
  have hz1 : ¬ 9223372036854775807 < 3 + List.length (Rp.hexD r) := by have := Rp.hexD_len r; omega
  have hz2 : ¬ 9223372036854775807 < 3 + List.length (Rp.hexD r) + 1 := by have := Rp.hexD_len r; omega
  obtain ⟨b, hb32⟩ : ∃ b, decide ((32 : Int) ≤ (r : Int)) = b := ⟨_, rfl⟩
  clear hE hr hv hl hT hp hn
  cases b with
  | true =>
    have h126 := hff hb32
    clear hff
    go_enter Tryz.func90, Tryz.ntmps90
    go_wp2_with fail
    refine (Tryz.utf8_ValidRune r w).mono ?_
    rintro e w1 ⟨rfl, rfl⟩
    rw [hx]
    go_wp2_with fail
    refine (H1 w1).mono ?_
    rintro e w2 ⟨rfl, hb2⟩
    go_wp2_with fail
    refine (H2 w2).mono ?_
    rintro e w3 ⟨rfl, hb3⟩
    have hbb := hb2.trans (hb3.mono hb2.size)
    go_wp2_with fail
    refine (formatInt_any r HL.out w3 ((hbb.cell (p := ⟨_, _, none⟩) hlt).trans HT.out)).mono ?_
    rintro e w4 ⟨rfl, hb4⟩
    go_wp2_with fail
    go_ret
    exact ⟨congrArg (fun x => Ending.returned (Value.string x)) ((congrArg (fun x : ByteArray => x ++ (⟨[125].toArray⟩ : ByteArray)) (bytes_app [92, 117, 123] (Rp.hexD r))).trans (bytes_app _ [125])), hbb.trans (hb4.mono hbb.size)⟩
  | false =>
    clear hff
    go_enter Tryz.func90, Tryz.ntmps90
    go_wp2_with fail
    refine (Tryz.utf8_ValidRune r w).mono ?_
    rintro e w1 ⟨rfl, rfl⟩
    rw [hx]
    go_wp2_with fail
    refine (H1 w1).mono ?_
    rintro e w2 ⟨rfl, hb2⟩
    go_wp2_with fail
    refine (H2 w2).mono ?_
    rintro e w3 ⟨rfl, hb3⟩
    have hbb := hb2.trans (hb3.mono hb2.size)
    go_wp2_with fail
    refine (formatInt_any r HL.out w3 ((hbb.cell (p := ⟨_, _, none⟩) hlt).trans HT.out)).mono ?_
    rintro e w4 ⟨rfl, hb4⟩
    go_wp2_with fail
    go_ret
    exact ⟨congrArg (fun x => Ending.returned (Value.string x)) ((congrArg (fun x : ByteArray => x ++ (⟨[125].toArray⟩ : ByteArray)) (bytes_app [92, 117, 123] (Rp.hexD r))).trans (bytes_app _ [125])), hbb.trans (hb4.mono hbb.size)⟩
theorem text_any (r : Nat) (hv : isV r) (w : World) (hT : w.cell? ⟨6, 15, none⟩ = some (.int .u8 4)) : Calls Tryz.prog 90 #[.int .i32 r] w (TextP r w) := by
  by_cases hn : r = 10 ∨ r = 13 ∨ r = 9
  · rcases hn with rfl | rfl | rfl
    · exact text_10 w
    · exact text_13 w
    · exact text_9 w
  · by_cases hs : r = 92 ∨ r = 39 ∨ r = 93 ∨ r = 91 ∨ r = 45
    · exact text_set r hs w
    · by_cases hp : 32 ≤ r ∧ r ≤ 126
      · exact text_plain r hp.1 hp.2 hs w
      · exact text_hex r hv hp hn w hT
/-! ## the document's -/
theorem own_any (r : Nat) (h : r < 256) (w : World) : Calls Tryz.prog 49 #[.int .u8 r] w fun e w' => e = .returned (.bool (decide (r = 92 ∨ r = 39 ∨ r = 93 ∨ r = 91 ∨ r = 45))) ∧ w' = w := by
  obtain ⟨b, hb⟩ : ∃ b, decide (r = 92 ∨ r = 39 ∨ r = 93 ∨ r = 91 ∨ r = 45) = b := ⟨_, rfl⟩
  rw [hb]
  by_cases h1 : r = 92
  · subst h1
    obtain rfl : b = true := hb.symm.trans rfl
    clear hb
    go_enter Tryz.func49, Tryz.ntmps49
    go_wp2
    go_ret
    exact ⟨rfl, rfl⟩
  · by_cases h2 : r = 39
    · subst h2
      obtain rfl : b = true := hb.symm.trans rfl
      clear hb
      go_enter Tryz.func49, Tryz.ntmps49
      go_wp2
      go_ret
      exact ⟨rfl, rfl⟩
    · by_cases h3 : r = 93
      · subst h3
        obtain rfl : b = true := hb.symm.trans rfl
        clear hb
        go_enter Tryz.func49, Tryz.ntmps49
        go_wp2
        go_ret
        exact ⟨rfl, rfl⟩
      · by_cases h4 : r = 91
        · subst h4
          obtain rfl : b = true := hb.symm.trans rfl
          clear hb
          go_enter Tryz.func49, Tryz.ntmps49
          go_wp2
          go_ret
          exact ⟨rfl, rfl⟩
        · by_cases h5 : r = 45
          · subst h5
            obtain rfl : b = true := hb.symm.trans rfl
            clear hb
            go_enter Tryz.func49, Tryz.ntmps49
            go_wp2
            go_ret
            exact ⟨rfl, rfl⟩
          · obtain rfl : b = false := hb.symm.trans (decide_eq_false (by omega))
            have g1 : ((r : Int) == 92) = false := by simp; omega
            have g2 : ((r : Int) == 39) = false := by simp; omega
            have g3 : ((r : Int) == 93) = false := by simp; omega
            have g4 : ((r : Int) == 91) = false := by simp; omega
            have g5 : ((r : Int) == 45) = false := by simp; omega
            clear hb h1 h2 h3 h4 h5
            go_enter Tryz.func49, Tryz.ntmps49
            go_wp2
            go_ret
            exact ⟨rfl, rfl⟩
end Go.Proofs.YtcbilcfieoibbaaGreatDoor
