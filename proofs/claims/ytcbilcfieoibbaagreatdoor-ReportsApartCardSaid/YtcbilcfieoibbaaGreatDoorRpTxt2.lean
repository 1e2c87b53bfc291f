/-
  A rune as text: the program's: is a rune in a text of ASCII: the walk.
-/
import Derived.Test.YtcbilcfieoibbaaGreatDoorRpTxt
import Derived.Deep.QuietTactic
import Derived.BigQuiet
namespace Go.Proofs.YtcbilcfieoibbaaGreatDoor
open Go.RowKit
set_option maxRecDepth 100000
def isV (r : Nat) : Prop := r < 55296 ∨ 57344 ≤ r ∧ r ≤ 1114111
theorem valid_of {r : Nat} (h : isV r) : Lib.validRune r = true := by
  unfold isV at h
  unfold Lib.validRune
  simp only [decide_eq_true_eq]
  omega
theorem enc_model {r : Nat} (h : isV r) : Utf8.encode (r : Int) = ⟨(Rp.encB r).toArray⟩ := by
  have hv : Utf8.valid (r : Int) = true := by
    unfold isV at h
    unfold Utf8.valid
    simp
    omega
  have hc : (r : Int).toNat = r := rfl
  unfold isV at h
  unfold Utf8.encode
  simp only [if_pos hv, hc]
  by_cases h1 : r < 128
  · rw [if_pos h1, show Rp.encB r = [r.toUInt8] from by unfold Rp.encB Rp.encN; rw [if_pos h1]; rfl]
  · by_cases h2 : r < 2048
    · rw [if_neg h1, if_pos h2, show Rp.encB r = [(192 + r / 64).toUInt8, (128 + r % 64).toUInt8] from by unfold Rp.encB Rp.encN; rw [if_neg h1, if_pos h2]; rfl]
    · by_cases h3 : r < 65536
      · rw [if_neg h1, if_neg h2, if_pos h3, show Rp.encB r = [(224 + r / 4096).toUInt8, (128 + r / 64 % 64).toUInt8, (128 + r % 64).toUInt8] from by unfold Rp.encB Rp.encN; rw [if_neg h1, if_neg h2, if_pos h3, if_pos (by omega)]; rfl]
      · rw [if_neg h1, if_neg h2, if_neg h3, show Rp.encB r = [(240 + r / 262144).toUInt8, (128 + r / 4096 % 64).toUInt8, (128 + r / 64 % 64).toUInt8, (128 + r % 64).toUInt8] from by unfold Rp.encB Rp.encN; rw [if_neg h1, if_neg h2, if_neg h3, if_pos (by omega)]; rfl]
theorem last_of (l : List UInt8) (m : Nat) (b : UInt8) (hl : l.length = m + 1) (hm : m ≤ 3) (hb : l[m]? = some b) (h : 128 ≤ b.toNat) : ∃ m, ∃ hm : (⟨l.toArray⟩ : ByteArray).size = m + 1, m ≤ 3 ∧ 128 ≤ ((⟨l.toArray⟩ : ByteArray)[m]'(by omega)).toNat := by
  have hs : (⟨l.toArray⟩ : ByteArray).size = m + 1 := by rw [← hl]; rfl
  refine ⟨m, hs, hm, ?_⟩
  have : (⟨l.toArray⟩ : ByteArray)[m]'(by omega) = l[m]'(by omega) := rfl
  rw [this]
  rw [List.getElem?_eq_getElem (by omega)] at hb
  injection hb with hb
  rw [hb]
  exact h
theorem enc_last {r : Nat} (h : isV r) (h0 : 128 ≤ r) : ∃ m, ∃ hm : (⟨(Rp.encB r).toArray⟩ : ByteArray).size = m + 1, m ≤ 3 ∧ 128 ≤ ((⟨(Rp.encB r).toArray⟩ : ByteArray)[m]'(by omega)).toNat := by
  unfold isV at h
  have hb : 128 ≤ (128 + r % 64).toUInt8.toNat := by
    rw [Nat.toUInt8, UInt8.toNat_ofNat']
    omega
  have h1 : ¬ r < 128 := by omega
  by_cases h2 : r < 2048
  · have e : Rp.encB r = [(192 + r / 64).toUInt8, (128 + r % 64).toUInt8] := by unfold Rp.encB Rp.encN; rw [if_neg h1, if_pos h2]; rfl
    exact last_of _ 1 _ (by rw [e]; rfl) (by omega) (by rw [e]; rfl) hb
  · by_cases h3 : r < 65536
    · have e : Rp.encB r = [(224 + r / 4096).toUInt8, (128 + r / 64 % 64).toUInt8, (128 + r % 64).toUInt8] := by unfold Rp.encB Rp.encN; rw [if_neg h1, if_neg h2, if_pos h3, if_pos (by omega)]; rfl
      exact last_of _ 2 _ (by rw [e]; rfl) (by omega) (by rw [e]; rfl) hb
    · have e : Rp.encB r = [(240 + r / 262144).toUInt8, (128 + r / 4096 % 64).toUInt8, (128 + r / 64 % 64).toUInt8, (128 + r % 64).toUInt8] := by unfold Rp.encB Rp.encN; rw [if_neg h1, if_neg h2, if_neg h3, if_pos (by omega)]; rfl
      exact last_of _ 3 _ (by rw [e]; rfl) (by omega) (by rw [e]; rfl) hb
theorem str_index (s : ByteArray) (m : Nat) (h : m < s.size) (w : World) : (Instr.index 9 (.string s) (.int .i64 m)).run Tryz.prog w = .ok (.int .u8 (s[m]'h).toNat) w := by
  have h1 : (m : Int) < s.size := by omega
  go_simp
theorem slice_from (s : ByteArray) (m : Nat) (h : m < s.size) (w : World) : (Instr.slice 9 (.string s) (some (.int .i64 ((m : Int) + 1))) none none).run Tryz.prog w = .ok (.string (s.extract (m + 1) s.size)) w := by
  have h1 : (0 : Int) ≤ (m : Int) + 1 := by omega
  have h2 : (m : Int) + 1 ≤ s.size := by omega
  have h3 : ((m : Int) + 1).toNat = m + 1 := by omega
  go_simp
theorem indexByte_none (s : ByteArray) (c : Int) (h : ∀ b ∈ s.data.toList, (b.toNat : Int) ≠ c) (h0 : 0 ≤ c) (h1 : c < 256) (w : World) : Calls Tryz.prog 137 #[.string s, .int .u8 c] w fun e w' => e = .returned (.int .i64 (-1)) ∧ w' = w := by
  have e : Lib.indexByte s.data.toList c.toNat.toUInt8 = -1 := by
    have hc : ∀ l : List UInt8, (∀ b ∈ l, (b.toNat : Int) ≠ c) → Lib.indexByte l c.toNat.toUInt8 = -1 := by
      intro l
      induction l with
      | nil => intro _; rfl
      | cons x l ih =>
        intro h
        unfold Lib.indexByte
        have hx : (x == c.toNat.toUInt8) = false := by
          refine beq_false_of_ne fun e => h x (by simp) ?_
          rw [e]
          simp [Nat.toUInt8, UInt8.toNat_ofNat']
          omega
        rw [hx, ih fun b hb => h b (by simp [hb])]
        rfl
    exact hc _ h
  have := Tryz.strings_IndexByte s c w
  rw [e] at this
  exact this
set_option maxHeartbeats 4000000 in
set_option maxRecDepth 1000000 in
theorem index_hi (s : ByteArray) (hs : ∀ b ∈ s.data.toList, b.toNat < 128) (r : Nat) (h0 : 128 ≤ r) (hne : r ≠ 65533) (hv : isV r) (rs : ByteArray) (m : Nat) (hm : rs.size = m + 1) (hm3 : m ≤ 3) (he : Utf8.encode (r : Int) = rs) (hx : 128 ≤ (rs[m]'(by omega)).toNat) (w : World) :
    Calls Tryz.prog 111 #[.string s, .int .i32 r] w fun e w' => e = .returned (.int .i64 (-1)) ∧ Below w.heap.size w w' := by
  have f1 : decide ((r : Int) < 128) = false := decide_eq_false (by omega)
  have f2 : ((r : Int) == 65533) = false := by simp; omega
  have fv := valid_of hv
  have HS := hid hs
  clear hv hne h0 hs
  by_cases hmn : m < s.size
  · have hq : (((s[m]'hmn).toNat : Int) != ((rs[m]'(by omega)).toNat : Int)) = true := by
      have h1 := HS.out (s[m]'hmn) (by
        have : s[m]'hmn = s.data.toList[m]'(by simpa using hmn) := rfl
        rw [this]; exact List.getElem_mem _)
      simp
      omega
    have hix : ∀ w, Calls Tryz.prog 137 #[.string (s.extract (m + 1) s.size), .int .u8 (rs[m]'(by omega)).toNat] w fun e w' => e = .returned (.int .i64 (-1)) ∧ w' = w := fun w =>
      indexByte_none _ _ (fun b hb => by
        have := HS.out b (by
          rw [ByteArray.data_extract, Array.toList_extract, List.extract_eq_take_drop] at hb
          exact List.mem_of_mem_drop (List.mem_of_mem_take hb))
        omega) (by omega) (by have := (rs[m]'(by omega)).toNat_lt; omega) w
    have hri := fun w => str_index rs m (by omega) w
    have hsl := fun w => slice_from s m hmn w
    have hwm : IntKind.i64.wrap ((m : Int) + 1) = (m : Int) + 1 := w64 (by omega) (by omega)
    go_enter Tryz.func111, Tryz.ntmps111
    go_wp2_with fail
    refine (Tryz.utf8_ValidRune r w).mono ?_
    rintro e w1 ⟨rfl, rfl⟩
    rw [fv]
    go_wp2_with fail
    go_step3
    go_wp2_with fail
    go_loop [9] (fun i => i = .int .i64 m) (fun _ => 0)
    case atStart => go_num
    case round =>
      subst hrel
      go_wp2_with fail
      go_step3
      go_wp2_with fail
      go_quiet (fail)
      go_wp2_with fail
      go_quiet ((exact (hix _).mono (fun _ _ ⟨h1, h2⟩ => ⟨h1, ⟨_, h2⟩⟩)))
      go_wp2_with fail
      show bodyPost Tryz.prog Tryz.f111 (fun e w' => e = .returned (.int .i64 (-1)) ∧ Below w1.heap.size w1 w') Exit.ret _ _
      go_ret
      exact ⟨rfl, below_drewN (Below.refl _ _) _⟩
  · go_enter Tryz.func111, Tryz.ntmps111
    go_wp2_with fail
    refine (Tryz.utf8_ValidRune r w).mono ?_
    rintro e w1 ⟨rfl, rfl⟩
    rw [fv]
    go_wp2_with fail
    go_step3
    go_wp2_with fail
    go_loop [9] (fun i => i = .int .i64 m) (fun _ => 0)
    case atStart => go_num
    case round =>
      subst hrel
      go_wp2_with fail
      go_ret
      exact ⟨rfl, Below.refl _ _⟩
set_option maxHeartbeats 4000000 in
set_option maxRecDepth 1000000 in
theorem index_err (s : ByteArray) (hs : ∀ b ∈ s.data.toList, b.toNat < 128) (w : World) :
    Calls Tryz.prog 111 #[.string s, .int .i32 65533] w fun e w' => e = .returned (.int .i64 (-1)) ∧ Below w.heap.size w w' := by
  have HS := hid hs
  clear hs
  go_enter Tryz.func111, Tryz.ntmps111
  go_wp2_with fail
  go_loopw [] (fun wr => ∃ pos : Nat, pos ≤ s.size ∧ wr.heap[w.heap.size]? = some (.stringIter s pos) ∧ Below w.heap.size w wr) (fun wr => s.size - wr.iterPos w.heap.size)
  case atStart => exact ⟨0, by omega, World.iter_heap w s 0, (Below.refl _ w).alloc (Nat.le_refl _) _⟩
  case round =>
    obtain ⟨pos, hps, hit, hb⟩ := hrel
    by_cases hp : pos < s.size
    · have ha : (s[pos]'hp).toNat < 128 := HS.out _ (by
        have : s[pos]'hp = s.data.toList[pos]'(by simpa using hp) := rfl
        rw [this]; exact List.getElem_mem _)
      have hnx : ∀ ty, (Instr.next (.pointer (some ⟨w.heap.size, 0, none⟩)) true ty).run Tryz.prog wr = _ := fun ty => Lib.run_next_ascii_at wr w.heap.size s pos ty hit hp ha
      have hne : (((s[pos]'hp).toNat : Int) == 65533) = false := by simp; omega
      have hit2 := Lib.iterAt_heap wr w.heap.size s pos (pos + 1) hit
      have hb2 := Lib.below_iterAt hb (k := w.heap.size) (Nat.le_refl _) s (pos + 1)
      have HI := hid hit2
      have HB := hid hb2
      have HIT := hid hit
      clear hit2 hb2 hb hit ha
      go_wp2_with fail
      go_roundw
      case rel => exact ⟨pos + 1, by omega, HI.out, HB.out⟩
      case measure =>
        simp only [World.iterPos, HI.out, HIT.out]
        omega
    · have hnx : ∀ ty, (Instr.next (.pointer (some ⟨w.heap.size, 0, none⟩)) true ty).run Tryz.prog wr = _ := fun ty => Lib.run_next_end_at wr w.heap.size s pos ty hit hp
      go_wp2_with fail
      go_ret
      exact ⟨rfl, hb⟩
theorem contains_hi (s : ByteArray) (hs : ∀ b ∈ s.data.toList, b.toNat < 128) (r : Nat) (h0 : 128 ≤ r) (hv : isV r) (w : World) :
    Calls Tryz.prog 110 #[.string s, .int .i32 r] w fun e w' => e = .returned (.bool false) ∧ Below w.heap.size w w' := by
  have H : Calls Tryz.prog 111 #[.string s, .int .i32 r] w fun e w' => e = .returned (.int .i64 (-1)) ∧ Below w.heap.size w w' := by
    by_cases hne : r = 65533
    · rw [hne]; exact index_err s hs w
    · have he := enc_model hv
      obtain ⟨m, hm, hm3, hx⟩ := enc_last hv h0
      exact index_hi s hs r h0 hne hv _ m hm hm3 he hx w
  go_enter Tryz.func110, Tryz.ntmps110
  go_wp2_with fail
  refine H.mono ?_
  rintro e w1 ⟨rfl, hb⟩
  go_wp2
  go_ret
  exact ⟨rfl, hb⟩
end Go.Proofs.YtcbilcfieoibbaaGreatDoor
