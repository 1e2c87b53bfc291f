/-
  Is a grammar sound (grams.Sound and what it calls): the walks.
-/
import Derived.Test.YtpbnfinmjnpkpaaGreatDoorGrKp
namespace Go.Proofs.YtpbnfinmjnpkpaaGreatDoor
open Go.RowKit
set_option maxRecDepth 100000
theorem pa_name (k : Nat) (ok : UInt8 → Bool) (s : List UInt8) (h : (k = 5 ∧ ok = Gr.lowB) ∨ (k = 6 ∧ ok = Gr.bigB)) : Gr.plainAll Rp.good (.mk k s [] [] []) false = Gr.nameOk ok s := by
  rcases h with ⟨rfl, rfl⟩ | ⟨rfl, rfl⟩
  · simp [Gr.plainAll, Gr.preT, Gr.preL, Gr.plain, Gr.bare, Gr.Nd.kind, Gr.Nd.text, Gr.Nd.set, Gr.Nd.subs, Gr.Nd.name]
  · simp [Gr.plainAll, Gr.preT, Gr.preL, Gr.plain, Gr.bare, Gr.Nd.kind, Gr.Nd.text, Gr.Nd.set, Gr.Nd.subs, Gr.Nd.name]
theorem leaf_ndR (w : World) (B k : Nat) (s : List UInt8) : NdR w B (.mk k s [] [] []) [.int .u8 (k : Int), Gr.strV s, .string ⟨#[]⟩, .slice none 0 0, .slice none 0 0] := by
  unfold NdR
  exact ⟨none, 0, none, 0, [], rfl, ⟨rfl, fun h => absurd h (Nat.lt_irrefl 0)⟩, ⟨rfl, fun h => absurd h (Nat.lt_irrefl 0)⟩, by unfold NdsR; rfl, Nat.le_refl 0⟩
theorem leaf_ok (k : Nat) (s : List UInt8) (hk : k < 256) (hs : s.length ≤ Gr.bytesMax) : Gr.okN (.mk k s [] [] []) := by
  unfold Gr.okN
  exact ⟨hk, hs, Nat.zero_le _, Nat.zero_le _, fun r h => absurd h (List.not_mem_nil), Nat.zero_le _, by unfold Gr.okNs; trivial⟩
set_option maxHeartbeats 4000000 in
theorem word_any (s : List UInt8) (w : World) (hs : s.length ≤ Gr.bytesMax) (hT : UT w.heap.size w) : Calls Tryz.prog 90 #[Gr.strV s] w fun e w' => e = .returned (.bool (Gr.wordOk s)) ∧ Below w.heap.size w w' := by
  have H5 := hid (Plain_any (w0 := w) (B := w.heap.size) (.mk 5 s [] [] []) false _ w (leaf_ndR w _ 5 s) (leaf_ok 5 s (by omega) hs) (Below.refl _ _) (Nat.le_refl _) hT)
  have H6 := hid (fun u (h : Below w.heap.size w u) => Plain_any (w0 := w) (B := w.heap.size) (.mk 6 s [] [] []) false _ u (leaf_ndR w _ 6 s) (leaf_ok 6 s (by omega) hs) h h.size (hT.next h))
  obtain ⟨q1, h1⟩ : ∃ q, Gr.nameOk Gr.lowB s = q := ⟨_, rfl⟩
  obtain ⟨q2, h2⟩ : ∃ q, Gr.nameOk Gr.bigB s = q := ⟨_, rfl⟩
  rw [pa_name 5 Gr.lowB s (.inl ⟨rfl, rfl⟩), h1] at H5
  rw [pa_name 6 Gr.bigB s (.inr ⟨rfl, rfl⟩), h2] at H6
  have HF := hid (show Gr.wordOk s = (q1 || q2) by unfold Gr.wordOk; rw [h1, h2])
  clear h1 h2 hs hT
  unfold Gr.strV at *
  go_enter Tryz.func90, Tryz.ntmps90
  go_wp2_with fail
  go_at_call 94
  refine H5.out.mono ?_
  rintro _ w2 ⟨rfl, hb2⟩
  have HB2 := hid hb2
  clear hb2
  cases q1
  · go_wp2_with fail
    go_at_call 94
    refine (H6.out _ HB2.out).mono ?_
    rintro _ w3 ⟨rfl, hb3⟩
    have HB3 := hid (HB2.out.trans (hb3.mono HB2.out.size))
    clear hb3
    cases q2
    all_goals
      go_wp2_with fail
      go_ret
      exact ⟨by rw [HF.out]; rfl, HB3.out⟩
  · go_wp2_with fail
    go_ret
    exact ⟨by rw [HF.out]; rfl, HB2.out⟩
set_option maxHeartbeats 4000000 in
theorem named_any (s : List UInt8) (k : Nat) (w : World) (hk : k < 256) (hs : s.length ≤ Gr.bytesMax) (hT : UT w.heap.size w) : Calls Tryz.prog 93 #[Gr.strV s, .int .u8 (k : Int)] w fun e w' => e = .returned (.bool (Gr.namedOk s k)) ∧ Below w.heap.size w w' := by
  have H5 := hid (Plain_any (w0 := w) (B := w.heap.size) (.mk 5 s [] [] []) false _ w (leaf_ndR w _ 5 s) (leaf_ok 5 s (by omega) hs) (Below.refl _ _) (Nat.le_refl _) hT)
  have H6 := hid (Plain_any (w0 := w) (B := w.heap.size) (.mk 6 s [] [] []) false _ w (leaf_ndR w _ 6 s) (leaf_ok 6 s (by omega) hs) (Below.refl _ _) (Nat.le_refl _) hT)
  have HK := hid (fun u => kept_any s u)
  rw [pa_name 5 Gr.lowB s (.inl ⟨rfl, rfl⟩)] at H5
  rw [pa_name 6 Gr.bigB s (.inr ⟨rfl, rfl⟩)] at H6
  obtain ⟨q2, h2⟩ : ∃ q, Gr.kept s = q := ⟨_, rfl⟩
  rw [h2] at HK
  by_cases h : k = 0
  · subst h
    obtain ⟨q1, h1⟩ : ∃ q, Gr.nameOk Gr.lowB s = q := ⟨_, rfl⟩
    rw [h1] at H5
    have HF := hid (show Gr.namedOk s 0 = (q1 && !q2) by unfold Gr.namedOk; rw [if_pos rfl, h1, h2])
    clear h1 h2 hs hT H6 hk
    unfold Gr.strV at *
    go_enter Tryz.func93, Tryz.ntmps93
    go_wp2_with fail
    refine H5.out.mono ?_
    rintro _ w2 ⟨rfl, hb2⟩
    have HB2 := hid hb2
    clear hb2
    cases q1
    · go_wp2_with fail
      go_ret
      exact ⟨by rw [HF.out]; rfl, HB2.out⟩
    · go_wp2_with fail
      refine (HK.out w2).mono ?_
      rintro _ w3 ⟨rfl, hb3⟩
      have HB3 := hid (HB2.out.trans (hb3.mono HB2.out.size))
      clear hb3
      cases q2
      all_goals
        go_wp2_with fail
        go_ret
        exact ⟨by rw [HF.out]; rfl, HB3.out⟩
  · obtain ⟨q1, h1⟩ : ∃ q, Gr.nameOk Gr.bigB s = q := ⟨_, rfl⟩
    rw [h1] at H6
    have HF := hid (show Gr.namedOk s k = (q1 && !q2) by unfold Gr.namedOk; rw [if_neg h, h1, h2])
    obtain ⟨kz, hkz⟩ : ∃ kz : Int, (k : Int) = kz := ⟨_, rfl⟩
    have f1 : (kz == 0) = false := by rw [beq_eq_false_iff_ne]; omega
    rw [hkz]
    clear h1 h2 hs hT H5 hk h hkz
    unfold Gr.strV at *
    go_enter Tryz.func93, Tryz.ntmps93
    go_wp2_with fail
    refine H6.out.mono ?_
    rintro _ w2 ⟨rfl, hb2⟩
    have HB2 := hid hb2
    clear hb2
    cases q1
    · go_wp2_with fail
      go_ret
      exact ⟨by rw [HF.out]; rfl, HB2.out⟩
    · go_wp2_with fail
      refine (HK.out w2).mono ?_
      rintro _ w3 ⟨rfl, hb3⟩
      have HB3 := hid (HB2.out.trans (hb3.mono HB2.out.size))
      clear hb3
      cases q2
      all_goals
        go_wp2_with fail
        go_ret
        exact ⟨by rw [HF.out]; rfl, HB3.out⟩
end Go.Proofs.YtpbnfinmjnpkpaaGreatDoor
