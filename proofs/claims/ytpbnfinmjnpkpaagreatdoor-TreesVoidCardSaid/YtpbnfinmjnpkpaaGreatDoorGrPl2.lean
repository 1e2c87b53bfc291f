/-
  Is a node, its Subs let be (nodes.plain): the walk.
-/
import Derived.Test.YtpbnfinmjnpkpaaGreatDoorGrPl
import Derived.Test.YtpbnfinmjnpkpaaGreatDoorGrBad
namespace Go.Proofs.YtpbnfinmjnpkpaaGreatDoor
open Go.RowKit
set_option maxRecDepth 100000
theorem str_eq (s : List UInt8) : (s == []) = s.isEmpty := by cases s <;> rfl
theorem len_eq {α : Type} (s : List α) : ((s.length : Int) == 0) = s.isEmpty := by cases s with
  | nil => rfl
  | cons x l => simp; omega
section
variable {w0 : World} {B : Nat}
set_option maxHeartbeats 4000000 in
theorem bare_any (nd : Gr.Nd) (cs : List Value) (w : World) (hn : NdR w0 B nd cs) (hok : Gr.okN nd) : Calls Tryz.prog 149 #[.agg cs.toArray] w fun e w' => e = .returned (.bool (Gr.bare nd)) ∧ Below w.heap.size w w' := by
  cases nd with
  | mk k nm t st L =>
    unfold NdR at hn
    obtain ⟨SA, sc, UA, uc, xs, rfl, _, _, _⟩ := hn
    have hk : k < 256 := by unfold Gr.okN at hok; exact hok.1
    have hA := hid (show Gr.bare (.mk k nm t st L) = (if k = 5 ∨ k = 6 then t.isEmpty && st.isEmpty else if k = 8 then nm.isEmpty && st.isEmpty else if k = 9 then nm.isEmpty && t.isEmpty else nm.isEmpty && t.isEmpty && st.isEmpty) from rfl)
    generalize Gr.bare (.mk k nm t st L) = ans at hA
    have e1 := str_eq nm
    have e2 := str_eq t
    have e3 := len_eq st
    unfold Gr.strV
    obtain ⟨n1, h1⟩ : ∃ n1, nm.isEmpty = n1 := ⟨_, rfl⟩
    obtain ⟨n2, h2⟩ : ∃ n2, t.isEmpty = n2 := ⟨_, rfl⟩
    obtain ⟨n3, h3⟩ : ∃ n3, st.isEmpty = n3 := ⟨_, rfl⟩
    rw [h1] at e1 hA
    rw [h2] at e2 hA
    rw [h3] at e3 hA
    generalize st.length = sl at e3
    clear h1 h2 h3 hok
    rcases (by omega : (k = 5 ∨ k = 6) ∨ k = 8 ∨ k = 9 ∨ (k ≠ 5 ∧ k ≠ 6 ∧ k ≠ 8 ∧ k ≠ 9)) with h | h | h | h
    · have HF := hid (show ans = (n2 && n3) by rw [hA.out, if_pos h])
      clear hA hk
      cases n2 <;> cases n3 <;> rcases h with rfl | rfl
      all_goals
        go_enter Tryz.func149, Tryz.ntmps149
        go_wp2
        go_ret
        exact ⟨by rw [HF.out]; rfl, below_new _ _⟩
    · have HF := hid (show ans = (n1 && n3) by rw [hA.out, if_neg (by omega)]; rw [if_pos h])
      clear hA hk
      subst h
      cases n1 <;> cases n3
      all_goals
        go_enter Tryz.func149, Tryz.ntmps149
        go_wp2
        go_ret
        exact ⟨by rw [HF.out]; rfl, below_new _ _⟩
    · have HF := hid (show ans = (n1 && n2) by rw [hA.out, if_neg (by omega)]; rw [if_neg (by omega), if_pos h])
      clear hA hk
      subst h
      cases n1 <;> cases n2
      all_goals
        go_enter Tryz.func149, Tryz.ntmps149
        go_wp2
        go_ret
        exact ⟨by rw [HF.out]; rfl, below_new _ _⟩
    · have HF := hid (show ans = (n1 && n2 && n3) by rw [hA.out, if_neg (by omega), if_neg (by omega), if_neg (by omega)])
      obtain ⟨g5, g6, g8, g9⟩ := h
      have f5 : ((k : Int) == 5) = false := by rw [beq_eq_false_iff_ne]; omega
      have f6 : ((k : Int) == 6) = false := by rw [beq_eq_false_iff_ne]; omega
      have f8 : ((k : Int) == 8) = false := by rw [beq_eq_false_iff_ne]; omega
      have f9 : ((k : Int) == 9) = false := by rw [beq_eq_false_iff_ne]; omega
      clear hA hk g5 g6 g8 g9
      cases n1 <;> cases n2 <;> cases n3
      all_goals
        go_enter Tryz.func149, Tryz.ntmps149
        go_wp2
        go_ret
        exact ⟨by rw [HF.out]; rfl, below_new _ _⟩
theorem predicts_any (nd : Gr.Nd) (cs : List Value) (w : World) (hn : NdR w0 B nd cs) : Calls Tryz.prog 150 #[.agg cs.toArray] w fun e w' => e = .returned (.bool (nd.kind == 7)) ∧ Below w.heap.size w w' := by
  cases nd with
  | mk k nm t st L =>
    unfold NdR at hn
    obtain ⟨SA, sc, UA, uc, xs, rfl, _, _, _⟩ := hn
    unfold Gr.strV
    show Calls _ _ _ _ fun e w' => e = .returned (.bool (k == 7)) ∧ _
    have h : ((k : Int) == 7) = (k == 7) := by rw [Bool.eq_iff_iff]; simp; omega
    generalize (k == 7) = q at h
    cases q
    all_goals
      go_enter Tryz.func150, Tryz.ntmps150
      go_wp2
      go_ret
      exact ⟨rfl, below_new _ _⟩
theorem badR_any (lo hi : Int) (w : World) : Calls Tryz.prog 154 #[.agg #[.int .i32 lo, .int .i32 hi]] w fun e w' => e = .returned (.bool (Gr.badR (lo, hi))) ∧ Below w.heap.size w w' := by
  have hv : ∀ r : Int, Lib.validRune r = Gr.runeOk r := fun r => by unfold Lib.validRune Gr.runeOk; rw [Bool.decide_or]
  have H1 := hid (fun (u : World) => Tryz.utf8_ValidRune lo u)
  have H2 := hid (fun (u : World) => Tryz.utf8_ValidRune hi u)
  rw [hv lo] at H1
  rw [hv hi] at H2
  obtain ⟨ans, hans⟩ : ∃ ans, Gr.badR (lo, hi) = ans := ⟨_, rfl⟩
  have HA := hid (show ans = (decide (hi < lo) || !Gr.runeOk lo || !Gr.runeOk hi) by rw [← hans]; rfl)
  rw [hans]
  clear hans hv
  generalize Gr.runeOk lo = p at H1 HA
  generalize Gr.runeOk hi = q at H2 HA
  by_cases h : hi < lo
  · have f : decide (hi < lo) = true := decide_eq_true h
    rw [f] at HA
    clear h H1 H2
    go_enter Tryz.func154, Tryz.ntmps154
    go_wp2
    go_ret
    exact ⟨by rw [HA.out]; rfl, below_new _ _⟩
  · have f : decide (hi < lo) = false := decide_eq_false h
    rw [f] at HA
    clear h
    cases p with
    | false =>
      go_enter Tryz.func154, Tryz.ntmps154
      go_wp2_with fail
      go_at_call 178
      refine (H1.out _).mono ?_
      rintro _ _ ⟨rfl, rfl⟩
      go_wp2_with fail
      go_ret
      exact ⟨by rw [HA.out]; rfl, below_new _ _⟩
    | true =>
      cases q
      all_goals
        go_enter Tryz.func154, Tryz.ntmps154
        go_wp2_with fail
        go_at_call 178
        refine (H1.out _).mono ?_
        rintro _ _ ⟨rfl, rfl⟩
        go_wp2_with fail
        go_at_call 178
        refine (H2.out _).mono ?_
        rintro _ _ ⟨rfl, rfl⟩
        go_wp2_with fail
        go_ret
        exact ⟨by rw [HA.out]; rfl, below_new _ _⟩
theorem text_any (s : List UInt8) (w : World) (hT : UT w.heap.size w) (hl : s.length ≤ Gr.bytesMax) : Calls Tryz.prog 152 #[Gr.strV s] w fun e w' => e = .returned (.bool (!s.isEmpty && Rp.good s)) ∧ Below w.heap.size w w' := by
  have HB := hid (fun (u : World) (h : UT u.heap.size u) => bad_any s u h hl)
  unfold Gr.strV
  cases s with
  | nil =>
    go_enter Tryz.func152, Tryz.ntmps152
    go_wp2
    go_ret
    exact ⟨rfl, Below.refl _ _⟩
  | cons b r =>
    have HT := hid (HB.out w hT)
    unfold BadP at HT
    show Calls _ _ _ _ fun e w' => e = .returned (.bool (Rp.good (b :: r))) ∧ _
    generalize Rp.good (b :: r) = q at HT
    clear HB hT
    go_enter Tryz.func152, Tryz.ntmps152
    go_wp2_with fail
    go_at_call 176
    refine HT.out.mono ?_
    rintro _ w2 ⟨x, rfl, hx, hb⟩
    have HX := hid hx
    clear hx
    by_cases h0 : x < 0
    · have hq := hid (show q = true by
        cases q with
        | true => rfl
        | false => have := HX.out.2 rfl; omega)
      go_wp2_with fail
      go_ret
      exact ⟨by rw [hq.out]; rfl, hb⟩
    · have hq := hid (HX.out.1 (by omega))
      have f : decide (x < 0) = false := decide_eq_false h0
      clear h0
      go_wp2_with fail
      go_ret
      exact ⟨by rw [hq.out]; rfl, hb⟩
end
end Go.Proofs.YtpbnfinmjnpkpaaGreatDoor
