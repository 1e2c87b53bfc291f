/-
  A writing: names, texts: the walks.
-/
import Derived.Test.YtcbilcfieoibbaaGreatDoorWrt
import Derived.Test.YtcbilcfieoibbaaGreatDoorRpTree
import Derived.Test.YtcbilcfieoibbaaGreatDoorRpTxt3
import Derived.Test.YtcbilcfieoibbaaGreatDoorRpDec
import Derived.Deep.RegionLaw
namespace Go.Proofs.YtcbilcfieoibbaaGreatDoor
open Go.RowKit
set_option maxRecDepth 100000
/-- a slice of strings that is readable -/
def SR (w : World) (B : Nat) (A : Option Addr) (l : List Rp.By) : Prop := Reads w B 1 A l.length (l.map fun x => Value.string ⟨x.toArray⟩)
theorem SR.at {w : World} {B : Nat} {A : Option Addr} {l : List Rp.By} (h : SR w B A l) (k : Nat) (hk : k < l.length) : ∃ b off, A = some ⟨b, off, none⟩ ∧ b < B ∧ w.cell? ⟨b, off + k, none⟩ = some (.string ⟨l[k].toArray⟩) := by
  obtain ⟨b, off, rfl, hbl, hcell⟩ := h.2 (by omega)
  exact ⟨b, off, rfl, hbl, hcell k _ (by simp [List.getElem?_eq_getElem hk])⟩
theorem SR.below {w w' : World} {B : Nat} {A : Option Addr} {l : List Rp.By} (h : SR w B A l) (hb : Below B w w') : SR w' B A l := Reads.below h hb
theorem name_in {l : List Rp.By} {k : Nat} (hk : k < l.length) : Rp.name l k = l[k] := by
  unfold Rp.name
  rw [if_pos ⟨by omega, by omega⟩, Int.toNat_natCast, List.getD_eq_getElem?_getD, List.getElem?_eq_getElem hk]
  rfl
theorem name_out {l : List Rp.By} {i : Int} (h : i < 0 ∨ (l.length : Int) ≤ i) : Rp.name l i = [63] := by
  unfold Rp.name
  rw [if_neg (by omega)]
theorem rname_any (w : World) (B : Nat) (A : Option Addr) (c : Nat) (l : List Rp.By) (i : Int) (h : SR w B A l) :
    Calls Tryz.prog 46 #[.slice A l.length c, .int .i64 i] w fun e w' => e = .returned (.string ⟨(Rp.name l i).toArray⟩) ∧ w' = w := by
  by_cases h0 : i < 0
  · rw [name_out (.inl h0)]
    go_enter Tryz.func46, Tryz.ntmps46
    go_wp2
    go_ret
    exact ⟨rfl, rfl⟩
  · obtain ⟨k, rfl⟩ : ∃ k : Nat, i = k := ⟨i.toNat, by omega⟩
    have f0 : decide ((k : Int) < 0) = false := decide_eq_false (by omega)
    by_cases hk : k < l.length
    · obtain ⟨b, off, rfl, hbl, c0⟩ := h.at k hk
      rw [name_in hk]
      generalize l[k] = s at c0 ⊢
      have f1 : decide ((l.length : Int) ≤ (k : Int)) = false := decide_eq_false (by omega)
      have f2 : decide (l.length ≤ k) = false := decide_eq_false (by omega)
      go_enter Tryz.func46, Tryz.ntmps46
      go_wp2
      go_ret
      exact ⟨rfl, rfl⟩
    · rw [name_out (.inr (by omega))]
      have f1 : decide ((l.length : Int) ≤ (k : Int)) = true := decide_eq_true (by omega)
      have f2 : decide (l.length ≤ k) = true := decide_eq_true (by omega)
      go_enter Tryz.func46, Tryz.ntmps46
      go_wp2
      go_ret
      exact ⟨rfl, rfl⟩
theorem refName_any (w : World) (B : Nat) (A : Option Addr) (c : Nat) (l : List Rp.By) (i : Int) (h : SR w B A l) :
    Calls Tryz.prog 28 #[.slice A l.length c, .int .i64 i] w fun e w' => e = .returned (.string ⟨(Rp.name l i).toArray⟩) ∧ w' = w := by
  by_cases h0 : i < 0
  · rw [name_out (.inl h0)]
    have f0 : decide ((0 : Int) ≤ i) = false := decide_eq_false (by omega)
    go_enter Tryz.func28, Tryz.ntmps28
    go_wp2
    go_ret
    exact ⟨rfl, rfl⟩
  · obtain ⟨k, rfl⟩ : ∃ k : Nat, i = k := ⟨i.toNat, by omega⟩
    by_cases hk : k < l.length
    · obtain ⟨b, off, rfl, hbl, c0⟩ := h.at k hk
      rw [name_in hk]
      generalize l[k] = s at c0 ⊢
      have f1 : decide ((k : Int) < (l.length : Int)) = true := decide_eq_true (by omega)
      have f2 : decide (k < l.length) = true := decide_eq_true (by omega)
      go_enter Tryz.func28, Tryz.ntmps28
      go_wp2
      go_ret
      exact ⟨rfl, rfl⟩
    · rw [name_out (.inr (by omega))]
      have f1 : decide ((k : Int) < (l.length : Int)) = false := decide_eq_false (by omega)
      have f2 : decide (k < l.length) = false := decide_eq_false (by omega)
      go_enter Tryz.func28, Tryz.ntmps28
      go_wp2
      go_ret
      exact ⟨rfl, rfl⟩
/-! ## texts of tokens -/
theorem WrAt.below {B b : Nat} {p : Value} {l : List UInt8} {x : Wr} {w w' : World} (h : WrAt B b p l x w) (hb : Below w.heap.size w w') : WrAt B b p l x w' := by
  obtain ⟨hB, v, hbk, hown⟩ := h
  exact ⟨hB, v, (hb.block b (Array.getElem?_eq_some_iff.1 hbk).1).trans hbk, ownsRow_below hown hb (Nat.le_refl _)⟩
theorem IsWr.below {B b : Nat} {l : List UInt8} {x : Wr} {w w' : World} (h : IsWr B b l x w) (hb : Below w.heap.size w w') : IsWr B b l x w' := h.imp (·.below hb) (·.below hb)
theorem Kp.of_below {B b : Nat} {w w' : World} (hb : Below w.heap.size w w') (hB : B ≤ w.heap.size) : Kp B b w w' :=
  ⟨hb.mono hB, fun k _ hk _ _ => (hb.block k (Array.getElem?_eq_some_iff.1 hk).1).trans hk⟩
set_option maxHeartbeats 4000000 in
theorem wtext_any (B b : Nat) (l : List UInt8) (x : Wr) (s : List UInt8) (w : World) (h : IsWr B b l x w) (hTB : TB B w) (hlen : l.length + 12 * s.length + 2 ≤ 140737488355328) (hs : s.length ≤ 1000000000) (hBw : B ≤ w.heap.size) :
    Calls Tryz.prog 65 #[.pointer (some ⟨b, 0, none⟩), .string ⟨s.toArray⟩] w fun e w' => e = .returned (.tuple #[]) ∧ (WrAt B b (.pointer (some ⟨b, 0, none⟩)) (l ++ [39] ++ Rp.spell s ++ [39]) x w' ∧ Kp B b w w') := by
  obtain ⟨S, hS⟩ : ∃ S : ByteArray, S = ⟨s.toArray⟩ := ⟨_, rfl⟩
  have hSs : S.size = s.length := by rw [hS]; simp [ByteArray.size]
  have hSl : S.data.toList = s := by rw [hS]
  rw [← hS]
  have HSL := hid hSl
  have HSS := hid hSs
  have HLEN := hid hlen
  have HS0 := hid hs
  have HTB := hid hTB
  clear hS hSl hSs hlen hs hTB
  go_enter Tryz.func65, Tryz.ntmps65
  go_wp2_with fail
  refine (writeByteW_any B b l x 39 w h (by have := HLEN.out; omega) hBw).mono ?_
  rintro e w1 ⟨rfl, h1, k1⟩
  go_wp2_with fail
  go_loopw [4] (fun v wr => ∃ (k : Nat) (done : List UInt8), k ≤ s.length ∧ v = .int .i64 k ∧ Hid (done ++ Rp.spell (s.drop k) = Rp.spell s ∧ WrAt B b (.pointer (some ⟨b, 0, none⟩)) (l ++ [39] ++ done) x wr ∧ Kp B b w wr)) (fun v _ => s.length - (intOf v).toNat)
  case atStart => exact ⟨0, [], by omega, rfl, hid ⟨by simp, by simpa using h1, k1⟩⟩
  case round =>
    obtain ⟨k, done, hk, rfl, hI⟩ := hrel
    obtain ⟨hI1, hI2, hI3⟩ := hI.out
    have hsz := hI3.1.size
    by_cases hlt : k < s.length
    · have fk : decide (k < S.size) = true := decide_eq_true (by have := HSS.out; omega)
      have hne : s.drop k ≠ [] := fun e => by have := congrArg List.length e; simp at this; omega
      have hdb := Rp.dec_bounds _ hne
      have hst := Rp.spell_step hne
      have hdl : (s.drop k).length = s.length - k := List.length_drop ..
      have hsp := Rp.spell_len s
      have HDEC := hid (runesDecode_any S k (by have := HSS.out; omega) wr (HTB.out.below hI3.1).utf)
      rw [HSL.out] at HDEC
      unfold decV at HDEC
      rw [List.drop_drop] at hst
      rw [hdl] at hdb
      obtain ⟨P, hP⟩ : ∃ P, P = Rp.piece (s.drop k) := ⟨_, rfl⟩
      have hP' := hP
      unfold Rp.piece at hP
      rw [← hP'] at hst
      have hI4 : done ++ P ++ Rp.spell (s.drop (k + (Rp.decR (s.drop k)).2)) = Rp.spell s := by rw [List.append_assoc, ← hst, hI1]
      have hPl : done.length + P.length ≤ (Rp.spell s).length := by rw [← hI4]; simp
      generalize Rp.decR (s.drop k) = d at HDEC hdb hst hP hI4
      obtain ⟨r, z⟩ := d
      dsimp only at hdb hI4 hP
      by_cases hbad : (r, z) = (65533, 1)
      · rw [if_pos hbad] at HDEC hP
        have hz1 : z = 1 := by injection hbad
        subst hz1
        have hwk : IntKind.i64.wrap ((k : Int) + 1) = (k : Int) + 1 := w64 (by have := HS0.out; omega) (by have := HS0.out; omega)
        subst hP
        clear hbad hst hne hdl hdb hP'
        go_wp2_with fail
        refine HDEC.out.mono ?_
        rintro e w2 ⟨rfl, hb2⟩
        go_wp2_with fail
        refine (writeStrW_any B b (l ++ [39] ++ done) x [63] w2 (.inr (hI2.below hb2)) (by have := HLEN.out; simp at hPl ⊢; omega) (by have := hb2.size; omega)).mono ?_
        rintro e w3 ⟨rfl, h3, k3⟩
        go_wp2_with fail
        go_roundw
        case rel => exact ⟨k + 1, done ++ [63], by omega, by go_num, hid ⟨hI4, by simpa using h3, hI3.trans ((Kp.of_below hb2 (by omega)).trans k3)⟩⟩
        case measure => simp [intOf]; omega
      · rw [if_neg hbad] at HDEC hP
        have hv : isV r := hdb.2.2.2
        have HT := hid fun W (hW : Below wr.heap.size wr W) => text_any r hv W (HTB.out.below (hI3.1.trans (hW.mono (by omega)))).tz
        have hwk : IntKind.i64.wrap ((k : Int) + z) = (k : Int) + z := w64 (by have := HS0.out; omega) (by have := HS0.out; omega)
        have hPe := hid hP'
        have HP := hid hP
        have HI4 := hid hI4
        have HPL := hid hPl
        have HDB := hid hdb
        have HI2 := hid hI2
        have HI3 := hid hI3
        clear hbad hst hne hdl hdb hP' hv hP hI4 hPl hI2 hI3 hI1
        go_wp2_with fail
        refine HDEC.out.mono ?_
        rintro e w2 ⟨rfl, hb2⟩
        go_wp2_with fail
        have hb2d : Below wr.heap.size wr w2.drew := Below.drew hb2
        have hw2 : IsWr B b (l ++ [39] ++ done) x w2.drew := .inr (HI2.out.below hb2d)
        have hb2s : B ≤ w2.drew.heap.size := Nat.le_trans hBw (Nat.le_trans hsz hb2.size)
        go_region_law
          (first
            | (go_simp; go_at_call 90; refine (HT.out _ hb2d).mono ?_; rintro e w3 ⟨rfl, hb3⟩)
            | (go_simp; go_at_call 45; refine (writeStrW_any B b (l ++ [39] ++ done) x (Rp.escT r) w3 (hw2.below hb3) (by have := HLEN.out; have := HPL.out; rw [HP.out] at this; simp; omega) (Nat.le_trans hb2s hb3.size)).mono ?_; rintro e w4 ⟨rfl, h4, k4⟩))
        go_wp2_with fail
        go_roundw
        case rel =>
          refine ⟨k + z, done ++ Rp.escT r, by have := HDB.out; omega, by go_num, hid ⟨?_, by simpa using h4, HI3.out.trans ((Kp.of_below hb2d (Nat.le_trans hBw hsz)).trans ((Kp.of_below hb3 hb2s).trans k4))⟩⟩
          have := HI4.out
          rw [HP.out] at this
          exact this
        case measure => simp [intOf]; have := HDB.out; omega
    · obtain rfl : k = s.length := by omega
      rw [List.drop_length, Rp.spell_nil, List.append_nil] at hI1
      subst hI1
      have hsp := Rp.spell_len s
      have fk : decide (s.length < S.size) = false := decide_eq_false (by have := HSS.out; omega)
      clear hI
      go_wp2_with fail
      refine (writeByteW_any B b _ x 39 wr (.inr hI2) (by have := HLEN.out; simp; omega) (by omega)).mono ?_
      rintro e w2 ⟨rfl, h2, k2⟩
      go_wp2_with fail
      go_end0
      exact ⟨rfl, h2, hI3.trans k2⟩
end Go.Proofs.YtcbilcfieoibbaaGreatDoor
