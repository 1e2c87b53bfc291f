/-
  Is a node, its Subs let be (nodes.plain and what it calls): the walks.
-/
import Derived.Test.YtpbnfinmjnpkpaaGreatDoorGrIx
import Derived.Test.YtpbnfinmjnpkpaaGreatDoorShelf
import Derived.Shelf.Strings.SlTrimAscii
import Derived.Lib.SlTrimSet
namespace Go.Proofs.YtpbnfinmjnpkpaaGreatDoor
open Go.RowKit
set_option maxRecDepth 100000
def restBytes : ByteArray := "abcdefghijklmnopqrstuvwxyzABCDEFGHIJKLMNOPQRSTUVWXYZ0123456789_".toUTF8
theorem dropWhile_nil {α : Type} (p : α → Bool) : ∀ l : List α, (l.dropWhile p = []) ↔ l.all p = true
  | [] => by simp
  | x :: l => by
    rw [List.dropWhile_cons, List.all_cons]
    by_cases h : p x = true
    · rw [if_pos h, dropWhile_nil p l, h, Bool.true_and]
    · rw [if_neg h]
      have : p x = false := by simpa using h
      simp [this]
theorem trimS_nil (l cs : List UInt8) : Lib.trimS l cs = [] ↔ l.all (fun b => cs.contains b) = true := by
  unfold Lib.trimS Lib.trimLeftS Lib.trimRightS
  rw [dropWhile_nil, List.all_reverse]
  constructor
  · intro h
    have h2 : l.reverse.dropWhile (cs.contains ·) = [] := by
      cases hd : l.reverse.dropWhile (cs.contains ·) with
      | nil => rfl
      | cons x t =>
        rw [hd] at h
        have h3 := List.head?_dropWhile_not (cs.contains ·) l.reverse
        rw [hd] at h3
        simp only [List.head?_cons] at h3
        rw [List.all_cons, h3] at h
        cases h
    rw [dropWhile_nil, List.all_reverse] at h2
    exact h2
  · intro h
    have h2 : l.reverse.dropWhile (cs.contains ·) = [] := by rw [dropWhile_nil, List.all_reverse]; exact h
    rw [h2]; rfl
def restL : List UInt8 := [97, 98, 99, 100, 101, 102, 103, 104, 105, 106, 107, 108, 109, 110, 111, 112, 113, 114, 115, 116, 117, 118, 119, 120, 121, 122, 65, 66, 67, 68, 69, 70, 71, 72, 73, 74, 75, 76, 77, 78, 79, 80, 81, 82, 83, 84, 85, 86, 87, 88, 89, 90, 48, 49, 50, 51, 52, 53, 54, 55, 56, 57, 95]
def lowL : List UInt8 := [97, 98, 99, 100, 101, 102, 103, 104, 105, 106, 107, 108, 109, 110, 111, 112, 113, 114, 115, 116, 117, 118, 119, 120, 121, 122]
def bigL : List UInt8 := [65, 66, 67, 68, 69, 70, 71, 72, 73, 74, 75, 76, 77, 78, 79, 80, 81, 82, 83, 84, 85, 86, 87, 88, 89, 90]
theorem all_bytes (p q : UInt8 → Bool) (h : ∀ n : Fin 256, p (UInt8.ofNat n.val) = q (UInt8.ofNat n.val)) (b : UInt8) : p b = q b := by
  have := h ⟨b.toNat, b.toNat_lt⟩
  simpa using this
theorem restL_eq (b : UInt8) : restL.contains b = Gr.restB b := all_bytes _ _ (by decide +kernel) b
theorem lowL_eq (b : UInt8) : lowL.contains b = Gr.lowB b := all_bytes _ _ (by decide +kernel) b
theorem bigL_eq (b : UInt8) : bigL.contains b = Gr.bigB b := all_bytes _ _ (by decide +kernel) b
theorem restL_ascii : ∀ (j : Nat) (b : UInt8), restL[j]? = some b → b.toNat < 128 := by
  have h : ∀ b ∈ restL, b.toNat < 128 := by decide
  intro j b hb
  exact h b (List.mem_of_getElem? hb)
theorem trim_any (s : List UInt8) (w : World) (hs : s.length ≤ Gr.bytesMax) : Calls Tryz.prog 175 #[Gr.strV s, .string ⟨restL.toArray⟩] w fun e w' => ∃ t : List UInt8, e = .returned (Gr.strV t) ∧ (t = [] ↔ s.all Gr.restB = true) ∧ Below w.heap.size w w' := by
  refine (Any.strings_Trim_laid Tryz.lays160 (by kernel_rfl) ⟨s.toArray⟩ ⟨restL.toArray⟩ w (by simp [ByteArray.size]; unfold Gr.bytesMax at hs; omega) (by decide) (by simpa using restL_ascii)).mono ?_
  rintro e w' ⟨rfl, hb⟩
  refine ⟨_, rfl, ?_, hb⟩
  have := trimS_nil s restL
  rw [show (fun b => restL.contains b) = Gr.restB from funext restL_eq] at this
  simpa using this
theorem index_any : ∀ (l : List UInt8) (c : UInt8), decide (0 ≤ Lib.indexByte l c) = l.contains c
  | [], c => by simp [Lib.indexByte]
  | b :: l, c => by
    have ih := index_any l c
    unfold Lib.indexByte
    by_cases h : (b == c) = true
    · rw [if_pos h]
      have : b = c := by simpa using h
      simp [this]
    · have hn : ¬ c = b := fun e => h (by simp [e])
      rw [if_neg h, List.contains_cons, show (c == b) = false by simpa using hn, Bool.false_or, ← ih]
      by_cases h2 : (Lib.indexByte l c == -1) = true
      · have : Lib.indexByte l c = -1 := by simpa using h2
        rw [if_pos h2, this]
      · rw [if_neg h2]
        have hge : -1 ≤ Lib.indexByte l c := Lib.indexByte_ge l c
        have hne : ¬ Lib.indexByte l c = -1 := by simpa using h2
        rw [decide_eq_decide]
        omega
set_option maxHeartbeats 4000000 in
theorem name_any (s F : List UInt8) (w : World) (hs : s.length ≤ Gr.bytesMax) : Calls Tryz.prog 151 #[Gr.strV s, .string ⟨F.toArray⟩] w fun e w' => e = .returned (.bool (Gr.nameOk (fun b => F.contains b) s)) ∧ Below w.heap.size w w' := by
  have HT := hid (fun (u : World) => trim_any s u hs)
  unfold Gr.strV at HT ⊢
  cases s with
  | nil =>
    go_enter Tryz.func151, Tryz.ntmps151
    go_wp2
    go_ret
    exact ⟨rfl, Below.refl _ _⟩
  | cons b r =>
    have hr : r.length ≤ Gr.bytesMax := by simp only [List.length_cons] at hs; omega
    obtain ⟨ans, hans⟩ : ∃ ans, Gr.nameOk (fun b => F.contains b) (b :: r) = ans := ⟨_, rfl⟩
    have hN := hid (show ans = (decide (r.length < 64) && F.contains b && (b :: r).all Gr.restB) by rw [← hans]; rfl)
    rw [hans]
    clear hans
    by_cases hl : r.length < 64
    · have hI := index_any F b
      have hib : (Lib.indexByte F b) = Lib.indexByte F ((((b.toNat : Nat) : Int)).toNat.toUInt8) := by simp
      have HIX := hid (Tryz.strings_IndexByte ⟨F.toArray⟩ (b.toNat : Int) w)
      obtain ⟨z, hz⟩ : ∃ z, Lib.indexByte F ((((b.toNat : Nat) : Int)).toNat.toUInt8) = z := ⟨_, rfl⟩
      rw [hib, hz] at hI
      have HIX : Hid (Calls Tryz.prog 174 #[.string ⟨F.toArray⟩, .int .u8 (b.toNat : Int)] w fun e w' => e = .returned (.int .i64 z) ∧ w' = w) := hid (by have := HIX.out; rw [show (⟨F.toArray⟩ : ByteArray).data.toList = F from rfl, hz] at this; exact this)
      have f1 : decide ((r.length : Int) + 1 ≤ 64) = true := decide_eq_true (by omega)
      have f1' : (r.length : Int) + 1 ≤ 64 := by omega
      have HL := hid hl
      clear hib hz hs hl
      obtain ⟨q, hq⟩ : ∃ q, F.contains b = q := ⟨_, rfl⟩
      rw [hq] at hI hN
      clear hq
      rw [HL.out |> decide_eq_true] at hN
      have HNN := hid hN.out
      clear hN
      cases q with
      | false =>
        have f2 : decide ((0 : Int) ≤ z) = false := hI
        clear hI
        go_enter Tryz.func151, Tryz.ntmps151
        go_wp2_with fail
        go_at_call 174
        refine HIX.out.mono ?_
        rintro _ _ ⟨rfl, rfl⟩
        go_wp2_with fail
        go_ret
        exact ⟨by rw [HNN.out]; rfl, Below.refl _ _⟩
      | true =>
        have f2 : decide ((0 : Int) ≤ z) = true := hI
        clear hI
        go_enter Tryz.func151, Tryz.ntmps151
        go_wp2_with fail
        go_at_call 174
        refine HIX.out.mono ?_
        rintro _ w2 ⟨rfl, rfl⟩
        go_wp2_with fail
        go_at_call 175
        refine (HT.out _).mono ?_
        rintro _ w3 ⟨t, rfl, ht, hb3⟩
        have HB3 := hid hb3
        have HA := hid ht
        clear hb3 ht
        cases t with
        | nil =>
          have HX := hid (HA.out.1 rfl)
          clear HA
          go_wp2_with fail
          go_ret
          exact ⟨by rw [HNN.out, HX.out]; rfl, HB3.out⟩
        | cons x t =>
          go_wp2_with fail
          go_ret
          have hf : (b :: r).all Gr.restB = false := by
            cases hx : (b :: r).all Gr.restB with
            | false => rfl
            | true => have := HA.out.2 hx; cases this
          exact ⟨by rw [HNN.out, hf]; rfl, HB3.out⟩
    · have f1 : decide ((r.length : Int) + 1 ≤ 64) = false := decide_eq_false (by omega)
      have f1' : ¬ (r.length : Int) + 1 ≤ 64 := by omega
      have HNN := hid (show ans = false by rw [hN.out, decide_eq_false hl]; rfl)
      clear hl hN
      go_enter Tryz.func151, Tryz.ntmps151
      go_wp2_with fail
      go_ret
      exact ⟨by rw [HNN.out]; rfl, Below.refl _ _⟩
end Go.Proofs.YtpbnfinmjnpkpaaGreatDoor
