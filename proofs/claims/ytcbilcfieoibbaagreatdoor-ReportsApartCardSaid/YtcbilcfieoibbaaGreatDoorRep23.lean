/-
  Names that are unlike, plain names, texts that are runes: the walks.
-/
import Derived.Test.YtcbilcfieoibbaaGreatDoorRpTxt2
import Derived.Test.YtcbilcfieoibbaaGreatDoorRpDec
import Derived.Test.YtcbilcfieoibbaaGreatDoorRpWr
import Derived.Test.YtcbilcfieoibbaaGreatDoorRpInj
namespace Go.Proofs.YtcbilcfieoibbaaGreatDoor
open Go.RowKit
open Go.Sort (grow)
set_option maxRecDepth 100000
def UnI (l : List Rp.By) (i k : Nat) : Prop := (∀ p (hp : p < l.length), p < i → ∀ q (hq : q < p), l[q] ≠ l[p]) ∧ ∀ (hi : i < l.length) q (hq : q < i), q < k → l[q] ≠ l[i]
theorem UnI.start (l : List Rp.By) : UnI l 0 0 := ⟨fun _ _ h => by omega, fun _ _ _ h => by omega⟩
theorem UnI.back {l : List Rp.By} {i k : Nat} (h : UnI l i k) : UnI l i 0 := ⟨h.1, fun _ _ _ h => by omega⟩
theorem UnI.next {l : List Rp.By} {i k : Nat} (h : UnI l i k) (hk : k < i) (hi : i < l.length) (hne : l[k] ≠ l[i]) : UnI l i (k + 1) :=
  ⟨h.1, fun hi q hq hqk => by
    by_cases e : q = k
    · subst e; exact hne
    · exact h.2 hi q hq (by omega)⟩
theorem UnI.row {l : List Rp.By} {i : Nat} (h : UnI l i i) : UnI l (i + 1) 0 :=
  ⟨fun p hp hpi q hq => by
    by_cases e : p = i
    · subst e; exact h.2 hp q hq hq
    · exact h.1 p hp (by omega) q hq, fun _ _ _ h => by omega⟩
theorem UnI.done {l : List Rp.By} {k : Nat} (h : UnI l l.length k) : l.Nodup := by
  unfold List.Nodup
  rw [List.pairwise_iff_getElem]
  intro i j hi hj hij
  exact h.1 j hj hj i hij
def UnP (l : List Rp.By) (w : World) (e : Ending) (w' : World) : Prop := e = .returned (.bool (decide l.Nodup)) ∧ Below w.heap.size w w'
theorem UnP.yes {l : List Rp.By} {w w' : World} (h : l.Nodup) (hb : Below w.heap.size w w') : UnP l w (.returned (.bool true)) w' := ⟨by rw [decide_eq_true h], hb⟩
theorem UnP.no {l : List Rp.By} {w w' : World} {i k : Nat} (hi : i < l.length) (hk : k < i) (h : l[k] = l[i]) (hb : Below w.heap.size w w') : UnP l w (.returned (.bool false)) w' :=
  ⟨by rw [decide_eq_false fun hn => by have := Rp.nodup_inj hn (Nat.lt_trans hk hi) hi h; omega], hb⟩
theorem str_ne {s t : Rp.By} (h : s ≠ t) : (s == t) = false := by simpa using h
set_option maxHeartbeats 2000000 in
theorem unlike_any (w : World) (A : Option Addr) (c : Nat) (l : List Rp.By) (B : Nat) (h : SR w B A l) (hB : B ≤ w.heap.size) (hl : l.length ≤ 8796093022207) :
    Calls Tryz.prog 15 #[.slice A l.length c] w (UnP l w) := by
  have HS := hid h
  clear h
  go_enter Tryz.func15, Tryz.ntmps15
  go_wp2_with fail
  go_loopw [3] (fun v wr => ∃ i : Nat, i ≤ l.length ∧ v = .int .i64 i ∧ Hid (UnI l i 0 ∧ Below w.heap.size w wr)) (fun v _ => l.length - (intOf v).toNat)
  case atStart => exact ⟨0, Nat.zero_le _, rfl, hid ⟨UnI.start l, Below.refl _ _⟩⟩
  case round =>
    obtain ⟨i, hi, rfl, hI⟩ := hrel
    rename World => wo
    by_cases hlt : i < l.length
    · have f1 : decide ((i : Int) < (l.length : Int)) = true := decide_eq_true (by omega)
      have f1' : decide (i < l.length) = true := decide_eq_true hlt
      go_wp2_with fail
      go_loopw [4] (fun v wr => ∃ k : Nat, k ≤ i ∧ v = .int .i64 k ∧ Hid (UnI l i k ∧ Below w.heap.size w wr)) (fun v _ => i - (intOf v).toNat)
      case atStart => exact ⟨0, Nat.zero_le _, rfl, hI⟩
      case round =>
        obtain ⟨k, hk, rfl, hK⟩ := hrel
        obtain ⟨hU, hb⟩ := hK.out
        by_cases hki : k < i
        · have f2 : decide ((k : Int) < (i : Int)) = true := decide_eq_true (by omega)
          have f2' : decide (k < i) = true := decide_eq_true hki
          have hS := HS.out.below (hb.mono hB)
          obtain ⟨b, off, rfl, hbl, c0⟩ := hS.at k (by omega)
          obtain ⟨b', off', e, _, c1⟩ := hS.at i hlt
          injection e with e
          injection e with e1 e2
          subst e1 e2
          clear hS
          by_cases heq : l[k] = l[i]
          · rw [heq] at c0
            have HNO := hid fun w' (hb : Below w.heap.size w w') => UnP.no hlt hki heq hb
            have HB := hid hb
            clear heq hU hb hK hI
            generalize l[i] = s at c0 c1
            go_wp2_with fail
            go_quiet (fail)
            go_wp2_with fail
            go_ret
            exact HNO.out _ (below_drewN HB.out _)
          · have HN := hid (hU.next hki hlt heq)
            have hne := str_ne heq
            have HB := hid hb
            clear heq hU hb hK hI
            generalize l[i] = s at c0 c1 hne
            generalize l[k] = t at c0 c1 hne
            go_wp2_with fail
            go_quiet (fail)
            go_wp2_with fail
            go_roundw
            case rel => exact ⟨k + 1, by omega, by go_num, hid ⟨HN.out, below_drewN HB.out _⟩⟩
            case measure => simp [intOf]; omega
        · obtain rfl : k = i := by omega
          have f2 : decide ((k : Int) < (k : Int)) = false := decide_eq_false (by omega)
          have HB := hid hb
          have HN := hid hU.row
          clear hU hb hK hI
          go_wp2_with fail
          go_roundw
          case rel => exact ⟨k + 1, by omega, by go_num, hid ⟨HN.out, HB.out⟩⟩
          case measure => simp [intOf]; omega
    · obtain rfl : i = l.length := by omega
      have f1 : decide ((l.length : Int) < (l.length : Int)) = false := decide_eq_false (by omega)
      obtain ⟨hU, hb⟩ := hI.out
      have HY := hid (UnP.yes hU.done hb)
      clear hU hb hI
      go_wp2_with fail
      go_ret
      exact HY.out
/-! ## plain names -/
def PlP (l : Rp.By) (w : World) (e : Ending) (w' : World) : Prop := e = .returned (.bool (Rp.plainB l)) ∧ w' = w
theorem PlP.of {l : Rp.By} {b : Bool} {w : World} (h : Rp.plainB l = b) : PlP l w (.returned (.bool b)) w := ⟨by rw [h], rfl⟩
theorem plain_take {l : Rp.By} {k : Nat} (hk : k < l.length) (h : Rp.plainB (l.take k) = true) (hm : Rp.mark l[k] = false) : Rp.plainB (l.take (k + 1)) = true := by
  unfold Rp.plainB at h ⊢
  rw [List.take_succ_eq_append_getElem hk, List.all_append, h]
  simp [hm]
theorem plain_no {l : Rp.By} {k : Nat} (hk : k < l.length) (hm : Rp.mark l[k] = true) : Rp.plainB l = false := by
  unfold Rp.plainB
  rw [List.all_eq_false]
  exact ⟨_, List.getElem_mem hk, by simp [hm]⟩
set_option maxHeartbeats 4000000 in
theorem plain_any (l : Rp.By) (w : World) (hl : l.length ≤ 140737488351232) : Calls Tryz.prog 16 #[.string ⟨l.toArray⟩] w (PlP l w) := by
  obtain ⟨S, hS⟩ : ∃ S : ByteArray, S = ⟨l.toArray⟩ := ⟨_, rfl⟩
  have hSs : S.size = l.length := by rw [hS]; simp [ByteArray.size]
  have hSi : ∀ k (hk : k < l.length) (hk' : k < S.size), S[k] = l[k] := by intro k hk hk'; subst hS; rfl
  rw [← hS]
  have HSS := hid hSs
  have HSI := hid hSi
  clear hS hSs hSi
  go_enter Tryz.func16, Tryz.ntmps16
  go_wp2_with fail
  go_loop [3] (fun v => ∃ k : Nat, k ≤ l.length ∧ v = .int .i64 k ∧ Hid (Rp.plainB (l.take k) = true)) (fun v => l.length - (intOf v).toNat)
  case atStart => exact ⟨0, Nat.zero_le _, rfl, hid (by simp [Rp.plainB])⟩
  case round =>
    obtain ⟨k, hk, rfl, hI⟩ := hrel
    by_cases hlt : k < l.length
    · have hlt' : k < S.size := by have := HSS.out; omega
      have f1 : decide (k < S.size) = true := decide_eq_true hlt'
      have hc : (Instr.index 9 (.string S) (.int .i64 k)).run Tryz.prog w = .ok (.int .u8 (l[k].toNat)) w := by rw [str_index S k hlt' w, HSI.out k hlt hlt']
      cases hm : Rp.mark l[k] with
      | true =>
        have HNO := hid (plain_no hlt hm)
        have hor : l[k] = 40 ∨ l[k] = 41 ∨ l[k] = 91 ∨ l[k] = 93 ∨ l[k] = 39 ∨ l[k] = 63 ∨ l[k] = 33 ∨ l[k] = 32 := by
          unfold Rp.mark at hm
          simpa [or_assoc] using hm
        clear hm
        generalize l[k] = c at hc hor
        rcases hor with rfl | rfl | rfl | rfl | rfl | rfl | rfl | rfl
        all_goals
          simp only [UInt8.reduceToNat] at hc
          go_wp2_with fail
          go_ret
          exact PlP.of HNO.out
      | false =>
        have HN := hid (plain_take hlt hI.out hm)
        have hor : (l[k].toNat : Int) ≠ 40 ∧ (l[k].toNat : Int) ≠ 41 ∧ (l[k].toNat : Int) ≠ 91 ∧ (l[k].toNat : Int) ≠ 93 ∧ (l[k].toNat : Int) ≠ 39 ∧ (l[k].toNat : Int) ≠ 63 ∧ (l[k].toNat : Int) ≠ 33 ∧ (l[k].toNat : Int) ≠ 32 := by
          unfold Rp.mark at hm
          simp only [Bool.or_eq_false_iff, beq_eq_false_iff_ne] at hm
          obtain ⟨⟨⟨⟨⟨⟨⟨h1, h2⟩, h3⟩, h4⟩, h5⟩, h6⟩, h7⟩, h8⟩ := hm
          refine ⟨fun e => h1 ?_, fun e => h2 ?_, fun e => h3 ?_, fun e => h4 ?_, fun e => h5 ?_, fun e => h6 ?_, fun e => h7 ?_, fun e => h8 ?_⟩
          all_goals exact UInt8.toNat_inj.1 (by simp; omega)
        clear hm hI
        generalize (l[k].toNat : Int) = v at hc hor
        obtain ⟨h1, h2, h3, h4, h5, h6, h7, h8⟩ := hor
        have e1 : (v == 40) = false := by simpa using h1
        have e2 : (v == 41) = false := by simpa using h2
        have e3 : (v == 91) = false := by simpa using h3
        have e4 : (v == 93) = false := by simpa using h4
        have e5 : (v == 39) = false := by simpa using h5
        have e6 : (v == 63) = false := by simpa using h6
        have e7 : (v == 33) = false := by simpa using h7
        have e8 : (v == 32) = false := by simpa using h8
        clear h1 h2 h3 h4 h5 h6 h7 h8
        go_wp2_with fail
        go_round
        case rel => exact ⟨k + 1, by omega, by go_num, HN⟩
        case measure => simp [intOf]; omega
    · obtain rfl : k = l.length := by omega
      have f1 : decide (l.length < S.size) = false := decide_eq_false (by have := HSS.out; omega)
      rw [List.take_length] at hI
      go_wp2_with fail
      go_ret
      exact PlP.of hI.out
/-! ## runes -/
def BadP (l : Rp.By) (w : World) (e : Ending) (w' : World) : Prop := ∃ x : Int, e = .returned (.int .i64 x) ∧ (0 ≤ x ↔ Rp.good l = false) ∧ Below w.heap.size w w'
set_option maxHeartbeats 4000000 in
theorem bad_any (s : Rp.By) (w : World) (hT : TB w.heap.size w) (hl : s.length ≤ 140737488351232) : Calls Tryz.prog 17 #[.string ⟨s.toArray⟩] w (BadP s w) := by
  obtain ⟨S, hS⟩ : ∃ S : ByteArray, S = ⟨s.toArray⟩ := ⟨_, rfl⟩
  have hSs : S.size = s.length := by rw [hS]; simp [ByteArray.size]
  have hSl : S.data.toList = s := by rw [hS]
  rw [← hS]
  have HSL := hid hSl
  have HSS := hid hSs
  have HT := hid hT
  clear hS hSl hSs hT
  go_enter Tryz.func17, Tryz.ntmps17
  go_wp2_with fail
  go_loopw [3] (fun v wr => ∃ k : Nat, k ≤ s.length ∧ v = .int .i64 k ∧ Hid (Rp.good (s.drop k) = Rp.good s ∧ Below w.heap.size w wr)) (fun v _ => s.length - (intOf v).toNat)
  case atStart => exact ⟨0, by omega, rfl, hid ⟨by rw [List.drop_zero], Below.refl _ _⟩⟩
  case round =>
    obtain ⟨k, hk, rfl, hI⟩ := hrel
    obtain ⟨hI1, hb⟩ := hI.out
    by_cases hlt : k < s.length
    · have fk : decide (k < S.size) = true := decide_eq_true (by have := HSS.out; omega)
      have hne : s.drop k ≠ [] := fun e => by have := congrArg List.length e; simp at this; omega
      have hdb := Rp.dec_bounds _ hne
      have hst := Rp.good_step hne
      have hdl : (s.drop k).length = s.length - k := List.length_drop ..
      have HDEC := hid (runesDecode_any S k (by have := HSS.out; omega) wr (HT.out.below hb).utf)
      rw [HSL.out] at HDEC
      unfold decV at HDEC
      rw [List.drop_drop] at hst
      rw [hdl] at hdb
      rw [hI1] at hst
      generalize Rp.decR (s.drop k) = d at HDEC hdb hst
      obtain ⟨r, z⟩ := d
      dsimp only at hdb hst
      by_cases hbad : (r, z) = (65533, 1)
      · rw [if_pos hbad] at HDEC hst
        have HST := hid hst
        have HB := hid hb
        clear hbad hst hne hdl hdb hI1 hb hI
        go_wp2_with fail
        refine HDEC.out.mono ?_
        rintro e w2 ⟨rfl, hb2⟩
        go_wp2_with fail
        go_ret
        exact ⟨_, rfl, ⟨fun _ => HST.out, fun _ => by omega⟩, HB.out.trans (hb2.mono HB.out.size)⟩
      · rw [if_neg hbad] at HDEC hst
        have hwk : IntKind.i64.wrap ((k : Int) + z) = (k : Int) + z := w64 (by omega) (by omega)
        have HST := hid hst
        have HB := hid hb
        have HDB := hid hdb
        clear hbad hst hne hdl hdb hI1 hb hI
        go_wp2_with fail
        refine HDEC.out.mono ?_
        rintro e w2 ⟨rfl, hb2⟩
        go_wp2_with fail
        go_roundw
        case rel => exact ⟨k + z, by have := HDB.out; omega, by go_num, hid ⟨HST.out.symm, HB.out.trans (hb2.mono HB.out.size)⟩⟩
        case measure => simp [intOf]; have := HDB.out; omega
    · obtain rfl : k = s.length := by omega
      rw [List.drop_length] at hI1
      have fk : decide (s.length < S.size) = false := decide_eq_false (by have := HSS.out; omega)
      have HG := hid hI1
      have HB := hid hb
      clear hI hI1 hb
      go_wp2_with fail
      go_ret
      exact ⟨_, rfl, ⟨fun h => absurd h (by decide), fun h => by rw [← HG.out] at h; cases h⟩, HB.out⟩
end Go.Proofs.YtcbilcfieoibbaaGreatDoor
