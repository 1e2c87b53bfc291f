/-
  A rune as text: the document's: the walks.
-/
import Derived.Test.YtcbilcfieoibbaaGreatDoorRpTxt3
import Derived.Test.YtcbilcfieoibbaaGreatDoorRpDec2
namespace Go.Proofs.YtcbilcfieoibbaaGreatDoor
open Go.RowKit
open Go.Sort (grow)
set_option maxRecDepth 100000
theorem dig_str : ∀ d : Nat, d < 16 → (⟨#[48, 49, 50, 51, 52, 53, 54, 55, 56, 57, 97, 98, 99, 100, 101, 102]⟩ : ByteArray).extract d (d + 1) = ⟨#[Rp.dig d]⟩ := by
  intro d hd
  apply ByteArray.ext
  apply Array.toList_inj.1
  have : ∀ d : Nat, d < 16 → ([48, 49, 50, 51, 52, 53, 54, 55, 56, 57, 97, 98, 99, 100, 101, 102] : List UInt8).extract d (d + 1) = [Rp.dig d] := by decide
  rw [ByteArray.data_extract, Array.toList_extract]
  exact this d hd
theorem dig_slice (d : Nat) (hd : d < 16) (w : World) : (Instr.slice 9 (.string ⟨#[48, 49, 50, 51, 52, 53, 54, 55, 56, 57, 97, 98, 99, 100, 101, 102]⟩) (some (.int .i64 d)) (some (.int .i64 ((d : Int) + 1))) none).run Tryz.prog w = .ok (.string ⟨#[Rp.dig d]⟩) w := by
  have := slice_str ⟨#[48, 49, 50, 51, 52, 53, 54, 55, 56, 57, 97, 98, 99, 100, 101, 102]⟩ d 1 (by show d + 1 ≤ 16; omega) w
  rw [dig_str d hd] at this
  exact this
set_option maxHeartbeats 2000000 in
theorem hex_any : ∀ (f n : Nat) (w : World), n < 16 ^ (f + 1) → f ≤ 7 →
    Calls Tryz.prog 50 #[.int .i64 n] w fun e w' => e = .returned (.string ⟨(Rp.hexF (f + 1) n).toArray⟩) ∧ Below w.heap.size w w'
  | f, n, w, hn, hf => by
    have hlt : n < 4294967296 := Nat.lt_of_lt_of_le hn (by
      have : 16 ^ (f + 1) ≤ 16 ^ 8 := Nat.pow_le_pow_right (by decide) (by omega)
      exact this)
    by_cases h16 : n < 16
    · have hsl := fun w => dig_slice n h16 w
      have hE : Rp.hexF (f + 1) n = [Rp.dig n] := by unfold Rp.hexF; rw [if_pos h16]
      rw [hE]
      clear hE hn hf
      go_enter Tryz.func50, Tryz.ntmps50
      go_wp2
      go_ret
      exact ⟨rfl, Below.refl _ _⟩
    · obtain ⟨d, hd⟩ : ∃ d, d = n % 16 := ⟨_, rfl⟩
      obtain ⟨q, hq⟩ : ∃ q, q = n / 16 := ⟨_, rfl⟩
      have hd' : (n : Int) % 16 = d := by omega
      have hq' : (n : Int) / 16 = q := by omega
      have htm : (n : Int).tmod 16 = d := by rw [hd]; rfl
      have hdl : d < 16 := by omega
      have hsl := fun w => dig_slice d hdl w
      obtain ⟨g, rfl⟩ : ∃ g, f = g + 1 := ⟨f - 1, by
        rcases Nat.eq_zero_or_pos f with e | e
        · subst e; simp at hn; omega
        · omega⟩
      have hql : q < 16 ^ (g + 1) := by
        rw [Nat.pow_succ] at hn
        omega
      have hE : Rp.hexF (g + 1 + 1) n = Rp.hexF (g + 1) q ++ [Rp.dig d] := by
        show (if n < 16 then [Rp.dig n] else Rp.hexF (g + 1) (n / 16) ++ [Rp.dig (n % 16)]) = _
        rw [if_neg h16, ← hd, ← hq]
      rw [hE]
      have hlen : (Rp.hexF (g + 1) q).length ≤ g + 1 := by
        have : ∀ f n, (Rp.hexF f n).length ≤ f := by
          intro f
          induction f with
          | zero => intro n; simp [Rp.hexF]
          | succ f ih =>
            intro n
            unfold Rp.hexF
            split
            · simp
            · have := ih (n / 16)
              simp; omega
        exact this _ _
      have hwq : IntKind.i64.wrap (q : Int) = q := w64 (by omega) (by omega)
      have hwd : IntKind.i64.wrap (d : Int) = d := w64 (by omega) (by omega)
      have hwd1 : IntKind.i64.wrap ((d : Int) + 1) = (d : Int) + 1 := w64 (by omega) (by omega)
      have hz : ¬ 9223372036854775807 < (Rp.hexF (g + 1) q).length + 1 := by omega
      have hc := fun dd os => Calls.regrown_of (hex_any g q (grow (redrawn w dd) os) hql (by omega))
      clear hE hn hf hql hd hq hlen
      generalize Rp.hexF (g + 1) q = L at hc hz ⊢
      go_enter Tryz.func50, Tryz.ntmps50
      go_wp2_with fail
      refine wp_region_quiet_below (by kernel_rfl) (by kernel_rfl) ?_
      repeat (quiet_step (exact hc _ _))
      refine wpQuiet_nil ?_
      rintro _ ⟨⟨dq, osq⟩, rfl⟩
      have hb2 := below_regrown w dq osq
      go_wp2_with fail
      go_ret
      exact ⟨congrArg (fun x => Ending.returned (Value.string x)) (bytes_app L [Rp.dig d]), hb2⟩
  termination_by f => f
set_option maxHeartbeats 4000000 in
theorem refText_10 (w : World) : Calls Tryz.prog 30 #[.int .i32 10] w (TextP 10 w) := by
  go_enter Tryz.func30, Tryz.ntmps30
  go_wp2_with fail
  refine (is_any 10 w).mono ?_
  rintro e w1 ⟨rfl, rfl⟩
  rw [show isR 10 = true from by decide]
  go_wp2_with fail
  go_ret
  exact ⟨rfl, Below.refl _ _⟩
set_option maxHeartbeats 4000000 in
theorem refText_13 (w : World) : Calls Tryz.prog 30 #[.int .i32 13] w (TextP 13 w) := by
  go_enter Tryz.func30, Tryz.ntmps30
  go_wp2_with fail
  refine (is_any 13 w).mono ?_
  rintro e w1 ⟨rfl, rfl⟩
  rw [show isR 13 = true from by decide]
  go_wp2_with fail
  go_ret
  exact ⟨rfl, Below.refl _ _⟩
set_option maxHeartbeats 4000000 in
theorem refText_9 (w : World) : Calls Tryz.prog 30 #[.int .i32 9] w (TextP 9 w) := by
  go_enter Tryz.func30, Tryz.ntmps30
  go_wp2_with fail
  refine (is_any 9 w).mono ?_
  rintro e w1 ⟨rfl, rfl⟩
  rw [show isR 9 = true from by decide]
  go_wp2_with fail
  go_ret
  exact ⟨rfl, Below.refl _ _⟩
theorem isR_of {r : Nat} (h : isV r) : isR r = true := by
  unfold isV at h
  exact decide_eq_true (by omega)
theorem enc_small' {r : Nat} (h : r < 128) : Rp.encB r = [r.toUInt8] := by unfold Rp.encB Rp.encN; rw [if_pos h]; rfl
set_option maxHeartbeats 4000000 in
set_option maxRecDepth 1000000 in
theorem refText_set (r : Nat) (hr : r = 92 ∨ r = 39 ∨ r = 93 ∨ r = 91 ∨ r = 45) (w : World) : Calls Tryz.prog 30 #[.int .i32 r] w (TextP r w) := by
  have hl : r < 128 := by omega
  have hx := isR_of (r := r) (.inl (by omega))
  have H1 := fun w => own_any r (by omega) w
  rw [decide_eq_true hr] at H1
  have hE : Rp.escT r = [92, r.toUInt8] := by
    unfold Rp.escT
    rw [if_neg (by omega), if_neg (by omega), if_neg (by omega), if_pos hr]
  have H2 := fun w => encode_any r (by omega) w
  rw [enc_small' hl] at H2
  have f0 : decide ((r : Int) < 128) = true := decide_eq_true (by omega)
  have f1 : ((r : Int) == 10) = false := by simp; omega
  have f2 : ((r : Int) == 13) = false := by simp; omega
  have f3 : ((r : Int) == 9) = false := by simp; omega
  have f4 : IntKind.u8.wrap (r : Int) = r := IntWalk.u8_in _ (by omega)
  unfold TextP
  rw [hE]
  clear hE hr hl
  go_enter Tryz.func30, Tryz.ntmps30
  go_wp2_with fail
  refine (is_any r w).mono ?_
  rintro e w1 ⟨rfl, rfl⟩
  rw [hx]
  go_wp2_with fail
  refine (H1 w1).mono ?_
  rintro e w2 ⟨rfl, rfl⟩
  go_wp2_with fail
  refine (H2 w2).mono ?_
  rintro e w3 ⟨rfl, hb3⟩
  go_wp2_with fail
  go_ret
  exact ⟨congrArg (fun x => Ending.returned (Value.string x)) (bytes_app [92] [r.toUInt8]), hb3⟩
set_option maxHeartbeats 4000000 in
set_option maxRecDepth 1000000 in
theorem refText_plain (r : Nat) (h1 : 32 ≤ r) (h2 : r ≤ 126) (hr : ¬ (r = 92 ∨ r = 39 ∨ r = 93 ∨ r = 91 ∨ r = 45)) (w : World) : Calls Tryz.prog 30 #[.int .i32 r] w (TextP r w) := by
  have hl : r < 128 := by omega
  have hx := isR_of (r := r) (.inl (by omega))
  have H1 := fun w => own_any r (by omega) w
  rw [decide_eq_false hr] at H1
  have hE : Rp.escT r = [r.toUInt8] := by
    unfold Rp.escT
    rw [if_neg (by omega), if_neg (by omega), if_neg (by omega), if_neg hr, if_pos ⟨h1, h2⟩]
  have H2 := fun w => encode_any r (by omega) w
  rw [enc_small' hl] at H2
  have f0 : decide ((r : Int) < 128) = true := decide_eq_true (by omega)
  have f1 : ((r : Int) == 10) = false := by simp; omega
  have f2 : ((r : Int) == 13) = false := by simp; omega
  have f3 : ((r : Int) == 9) = false := by simp; omega
  have f4 : IntKind.u8.wrap (r : Int) = r := IntWalk.u8_in _ (by omega)
  have f5 : decide ((32 : Int) ≤ (r : Int)) = true := decide_eq_true (by omega)
  have f6 : decide ((r : Int) ≤ 126) = true := decide_eq_true (by omega)
  unfold TextP
  rw [hE]
  clear hE hr hl h1 h2
  go_enter Tryz.func30, Tryz.ntmps30
  go_wp2_with fail
  refine (is_any r w).mono ?_
  rintro e w1 ⟨rfl, rfl⟩
  rw [hx]
  go_wp2_with fail
  refine (H1 w1).mono ?_
  rintro e w2 ⟨rfl, rfl⟩
  go_wp2_with fail
  refine (H2 w2).mono ?_
  rintro e w3 ⟨rfl, hb3⟩
  go_wp2_with fail
  go_ret
  exact ⟨rfl, hb3⟩
set_option maxHeartbeats 4000000 in
set_option maxRecDepth 1000000 in
theorem refText_hex (r : Nat) (hv : isV r) (hp : ¬ (32 ≤ r ∧ r ≤ 126)) (hn : ¬ (r = 10 ∨ r = 13 ∨ r = 9)) (w : World) : Calls Tryz.prog 30 #[.int .i32 r] w (TextP r w) := by
  have hx := isR_of hv
  have hr : ¬ (r = 92 ∨ r = 39 ∨ r = 93 ∨ r = 91 ∨ r = 45) := by omega
  have hE : Rp.escT r = [92, 117, 123] ++ Rp.hexD r ++ [125] := by
    unfold Rp.escT
    rw [if_neg (by omega), if_neg (by omega), if_neg (by omega), if_neg hr, if_neg hp]
  have hl : r < 4294967296 := by unfold isV at hv; omega
  have HX : ∀ w, Calls Tryz.prog 50 #[.int .i64 r] w fun e w' => e = .returned (.string ⟨(Rp.hexD r).toArray⟩) ∧ Below w.heap.size w w' := fun w => hex_any 7 r w hl (by omega)
  have hwr : IntKind.i64.wrap (r : Int) = r := w64 (by omega) (by omega)
  have f1 : ((r : Int) == 10) = false := by simp; omega
  have f2 : ((r : Int) == 13) = false := by simp; omega
  have f3 : ((r : Int) == 9) = false := by simp; omega
  have hz1 : ¬ 9223372036854775807 < 3 + List.length (Rp.hexD r) := by have := Rp.hexD_len r; omega
  have hz2 : ¬ 9223372036854775807 < 3 + List.length (Rp.hexD r) + 1 := by have := Rp.hexD_len r; omega
  unfold TextP
  rw [hE]
  by_cases h128 : r < 128
  · have H1 := fun w => own_any r (by omega) w
    rw [decide_eq_false hr] at H1
    have f0 : decide ((r : Int) < 128) = true := decide_eq_true (by omega)
    have f4 : IntKind.u8.wrap (r : Int) = r := IntWalk.u8_in _ (by omega)
    by_cases h32 : 32 ≤ r
    · have f5 : decide ((32 : Int) ≤ (r : Int)) = true := decide_eq_true (by omega)
      have f6 : decide ((r : Int) ≤ 126) = false := decide_eq_false (by omega)
      clear hE hr hl hp hn hv h128 h32
      go_enter Tryz.func30, Tryz.ntmps30
      go_wp2_with fail
      refine (is_any r w).mono ?_
      rintro e w1 ⟨rfl, rfl⟩
      rw [hx]
      go_wp2_with fail
      refine (H1 w1).mono ?_
      rintro e w2 ⟨rfl, rfl⟩
      go_wp2_with fail
      refine (HX w2).mono ?_
      rintro e w4 ⟨rfl, hb4⟩
      go_wp2_with fail
      go_ret
      exact ⟨congrArg (fun x => Ending.returned (Value.string x)) ((congrArg (fun x : ByteArray => x ++ (⟨[125].toArray⟩ : ByteArray)) (bytes_app [92, 117, 123] (Rp.hexD r))).trans (bytes_app _ [125])), hb4⟩
    · have f5 : decide ((32 : Int) ≤ (r : Int)) = false := decide_eq_false (by omega)
      clear hE hr hl hp hn hv h128 h32
      go_enter Tryz.func30, Tryz.ntmps30
      go_wp2_with fail
      refine (is_any r w).mono ?_
      rintro e w1 ⟨rfl, rfl⟩
      rw [hx]
      go_wp2_with fail
      refine (H1 w1).mono ?_
      rintro e w2 ⟨rfl, rfl⟩
      go_wp2_with fail
      refine (HX w2).mono ?_
      rintro e w4 ⟨rfl, hb4⟩
      go_wp2_with fail
      go_ret
      exact ⟨congrArg (fun x => Ending.returned (Value.string x)) ((congrArg (fun x : ByteArray => x ++ (⟨[125].toArray⟩ : ByteArray)) (bytes_app [92, 117, 123] (Rp.hexD r))).trans (bytes_app _ [125])), hb4⟩
  · have f0 : decide ((r : Int) < 128) = false := decide_eq_false (by omega)
    have f5 : decide ((32 : Int) ≤ (r : Int)) = true := decide_eq_true (by omega)
    have f6 : decide ((r : Int) ≤ 126) = false := decide_eq_false (by omega)
    clear hE hr hl hp hn hv h128
    go_enter Tryz.func30, Tryz.ntmps30
    go_wp2_with fail
    refine (is_any r w).mono ?_
    rintro e w1 ⟨rfl, rfl⟩
    rw [hx]
    go_wp2_with fail
    refine (HX w1).mono ?_
    rintro e w4 ⟨rfl, hb4⟩
    go_wp2_with fail
    go_ret
    exact ⟨congrArg (fun x => Ending.returned (Value.string x)) ((congrArg (fun x : ByteArray => x ++ (⟨[125].toArray⟩ : ByteArray)) (bytes_app [92, 117, 123] (Rp.hexD r))).trans (bytes_app _ [125])), hb4⟩
theorem refText_any (r : Nat) (hv : isV r) (w : World) : Calls Tryz.prog 30 #[.int .i32 r] w (TextP r w) := by
  by_cases hn : r = 10 ∨ r = 13 ∨ r = 9
  · rcases hn with rfl | rfl | rfl
    · exact refText_10 w
    · exact refText_13 w
    · exact refText_9 w
  · by_cases hs : r = 92 ∨ r = 39 ∨ r = 93 ∨ r = 91 ∨ r = 45
    · exact refText_set r hs w
    · by_cases hp : 32 ≤ r ∧ r ≤ 126
      · exact refText_plain r hp.1 hp.2 hs w
      · exact refText_hex r hv hp hn w
end Go.Proofs.YtcbilcfieoibbaaGreatDoor
