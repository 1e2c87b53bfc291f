/-
  Is a text one of runes (runes.Bad): the walk. (Printed by gen_grbad.py.)
-/
import Derived.Test.YtpbnfinmjnpkpaaGreatDoorGrIx
import Derived.Test.YtpbnfinmjnpkpaaGreatDoorRpDec
namespace Go.Proofs.YtpbnfinmjnpkpaaGreatDoor
namespace Rp
def goodN : Nat → By → Bool
  | 0, _ => true
  | n + 1, l => if l = [] then true else if decR l = (65533, 1) then false else goodN n (l.drop (decR l).2)
/-- is a text made of runes? -/
def good (l : By) : Bool := goodN l.length l
theorem goodN_more : ∀ (n m : Nat) (l : By), l.length ≤ n → l.length ≤ m → goodN n l = goodN m l
  | 0, 0, _, _, _ => rfl
  | 0, m + 1, l, h, _ => by
    have : l = [] := List.length_eq_zero_iff.1 (by omega)
    subst this
    rfl
  | n + 1, 0, l, _, h => by
    have : l = [] := List.length_eq_zero_iff.1 (by omega)
    subst this
    rfl
  | n + 1, m + 1, l, h1, h2 => by
    unfold goodN
    split
    · rfl
    · next e =>
      have hb := dec_bounds l e
      rw [goodN_more n m _ (by rw [List.length_drop]; omega) (by rw [List.length_drop]; omega)]
theorem good_step {l : By} (h : l ≠ []) : good l = if decR l = (65533, 1) then false else good (l.drop (decR l).2) := by
  have hb := dec_bounds l h
  unfold good
  obtain ⟨n, hn⟩ : ∃ n, l.length = n + 1 := ⟨l.length - 1, by omega⟩
  rw [hn]
  show (if l = [] then true else if decR l = (65533, 1) then false else goodN n (l.drop (decR l).2)) = _
  rw [if_neg h, goodN_more n _ _ (by rw [List.length_drop]; omega) (Nat.le_refl _)]
end Rp
open Go.RowKit
set_option maxRecDepth 100000
/-- the tables by which runes are told lie where they should, below B -/
structure UT (B : Nat) (w : World) : Prop where
  utf : Lib.Utf8Tabs 1 2 w
  l1 : 1 < B
  l2 : 2 < B
theorem UT.below {B : Nat} {w w' : World} (h : UT B w) (hb : Below B w w') : UT B w' :=
  ⟨⟨fun c hc => (hb.cell (p := ⟨_, _, none⟩) h.l1).trans (h.utf.1 c hc), fun i hi => ⟨(hb.cell (p := ⟨_, _, none⟩) h.l2).trans (h.utf.2 i hi).1, (hb.cell (p := ⟨_, _, none⟩) h.l2).trans (h.utf.2 i hi).2⟩⟩, h.l1, h.l2⟩
theorem UT.next {w w' : World} (h : UT w.heap.size w) (hb : Below w.heap.size w w') : UT w'.heap.size w' := ⟨(h.below hb).utf, Nat.lt_of_lt_of_le h.l1 hb.size, Nat.lt_of_lt_of_le h.l2 hb.size⟩
def BadP (l : Rp.By) (w : World) (e : Ending) (w' : World) : Prop := ∃ x : Int, e = .returned (.int .i64 x) ∧ (0 ≤ x ↔ Rp.good l = false) ∧ Below w.heap.size w w'
set_option maxHeartbeats 4000000 in
theorem bad_any (s : Rp.By) (w : World) (hT : UT w.heap.size w) (hl : s.length ≤ 140737488351232) : Calls Tryz.prog 176 #[.string ⟨s.toArray⟩] w (BadP s w) := by
  obtain ⟨S, hS⟩ : ∃ S : ByteArray, S = ⟨s.toArray⟩ := ⟨_, rfl⟩
  have hSs : S.size = s.length := by rw [hS]; simp [ByteArray.size]
  have hSl : S.data.toList = s := by rw [hS]
  rw [← hS]
  have HSL := hid hSl
  have HSS := hid hSs
  have HT := hid hT
  clear hS hSl hSs hT
  go_enter Tryz.func176, Tryz.ntmps176
  go_wp2_with fail
  go_loopw [3] (fun v wr => ∃ k : Nat, k ≤ s.length ∧ v = .int .i64 k ∧ Hid (Rp.good (s.drop k) = Rp.good s ∧ Below w.heap.size w wr)) (fun v _ => s.length - (intOf v).toNat)
  case atStart => exact ⟨0, by omega, rfl, hid ⟨by rw [List.drop_zero], Below.refl _ _⟩⟩
  case round =>
    obtain ⟨k, hk, rfl, hI⟩ := hrel
    obtain ⟨hI1, hb⟩ := hI.out
    by_cases hlt : k < s.length
    · have fk : decide (k < S.size) = true := decide_eq_true (by have := HSS.out; omega)
      have hne : s.drop k ≠ [] := fun e => by have := congrArg List.length e; simp at this; omega
      have hdb := Rp.dec_bounds _ hne
      have hst := Rp.good_step hne
      have hdl : (s.drop k).length = s.length - k := List.length_drop ..
      have HDEC := hid (runesDecode_any S k (by have := HSS.out; omega) wr (HT.out.below hb).utf)
      rw [HSL.out] at HDEC
      unfold decV at HDEC
      rw [List.drop_drop] at hst
      rw [hdl] at hdb
      rw [hI1] at hst
      generalize Rp.decR (s.drop k) = d at HDEC hdb hst
      obtain ⟨r, z⟩ := d
      dsimp only at hdb hst
      by_cases hbad : (r, z) = (65533, 1)
      · rw [if_pos hbad] at HDEC hst
        have HST := hid hst
        have HB := hid hb
        clear hbad hst hne hdl hdb hI1 hb hI
        go_wp2_with fail
        refine HDEC.out.mono ?_
        rintro e w2 ⟨rfl, hb2⟩
        go_wp2_with fail
        go_ret
        exact ⟨_, rfl, ⟨fun _ => HST.out, fun _ => by omega⟩, HB.out.trans (hb2.mono HB.out.size)⟩
      · rw [if_neg hbad] at HDEC hst
        have hwk : IntKind.i64.wrap ((k : Int) + z) = (k : Int) + z := w64 (by omega) (by omega)
        have HST := hid hst
        have HB := hid hb
        have HDB := hid hdb
        clear hbad hst hne hdl hdb hI1 hb hI
        go_wp2_with fail
        refine HDEC.out.mono ?_
        rintro e w2 ⟨rfl, hb2⟩
        go_wp2_with fail
        go_roundw
        case rel => exact ⟨k + z, by have := HDB.out; omega, by go_num, hid ⟨HST.out.symm, HB.out.trans (hb2.mono HB.out.size)⟩⟩
        case measure => simp [intOf]; have := HDB.out; omega
    · obtain rfl : k = s.length := by omega
      rw [List.drop_length] at hI1
      have fk : decide (s.length < S.size) = false := decide_eq_false (by have := HSS.out; omega)
      have HG := hid hI1
      have HB := hid hb
      clear hI hI1 hb
      go_wp2_with fail
      go_ret
      exact ⟨_, rfl, ⟨fun h => absurd h (by decide), fun h => by rw [← HG.out] at h; cases h⟩, HB.out⟩
end Go.Proofs.YtpbnfinmjnpkpaaGreatDoor
