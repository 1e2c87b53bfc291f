/-
  Subsets: the making of a table, as it lies in memory; ends, state: the walks.
-/
import Derived.Test.YtoclbcfgfaialaaGreatDoorOnly
namespace Go.Proofs.YtoclbcfgfaialaaGreatDoor
open Go.RowKit
set_option maxRecDepth 100000
theorem foldl_take {α β : Type} (f : β → α → β) (e : β) (l : List α) (k : Nat) (h : k < l.length) : (l.take (k+1)).foldl f e = f ((l.take k).foldl f e) l[k] := by
  rw [List.take_succ_eq_append_getElem h, List.foldl_append]; rfl
set_option maxHeartbeats 1600000 in
theorem ends_any (M cp c : Nat) (PA A : Option Addr) (a : Au) (l : List Int) (w : World) (hm : l.length ≤ 1000000000) (hp : Hid (∀ p ∈ l, 0 ≤ p ∧ p < a.places.length)) (hM : M < w.heap.size)
    (hc : w.cell? ⟨M, 0, none⟩ = some (.slice PA a.places.length cp)) (hP : PlsR w w.heap.size PA a.places) (hr : Reads w w.heap.size 1 A l.length (l.map (Value.int .i64))) :
    Calls Tryz.prog 84 #[.pointer (some ⟨M, 0, none⟩), .slice A l.length c] w fun e w' => e = .returned (.int .i64 (endOf a l)) ∧ Below w.heap.size w w' := by
  go_enter Tryz.func84, Tryz.ntmps84
  go_wp2
  go_loopw [5, 11] (fun e i wr => ∃ k : Nat, k ≤ l.length ∧ i = .int .i64 k ∧ e = .int .i64 ((l.take k).foldl (endStep a) (-1)) ∧ Below w.heap.size w wr) (fun _ i _ => l.length - (intOf i).toNat)
  case atStart => exact ⟨0, Nat.zero_le _, rfl, rfl, Below.refl _ _⟩
  case round =>
    obtain ⟨k, hk, rfl, rfl, hb⟩ := hrel
    by_cases hlt : k < l.length
    · obtain ⟨b, off, rfl, hbl, c0⟩ := readsI hr hb k hlt
      have hpk := hp.out _ (List.getElem_mem hlt)
      have HS := hid (foldl_take (endStep a) (-1) l k hlt)
      have cM := (hb.cell (p := ⟨M, 0, none⟩) hM).trans hc
      generalize l[k] = p at c0 hpk HS
      generalize (l.take k).foldl (endStep a) (-1) = E at HS
      obtain ⟨q, rfl⟩ : ∃ q : Nat, p = q := ⟨p.toNat, by omega⟩
      have hq : q < a.places.length := by omega
      obtain ⟨b2, off2, SA, cs, FA, cf, rfl, hbl2, d0, d1, d2, d3, _, _⟩ := (hP.below hb).at q hq
      have HA : Hid (a.at (q : Int) = a.places[q]) := by
        unfold Au.at
        rw [Int.toNat_natCast, List.getD_eq_getElem?_getD, List.getElem?_eq_getElem hq]; exact hid rfl
      have HE : Hid (endStep a E q = if (a.places[q]).last = true ∧ (E < 0 ∨ (a.places[q]).kind < E) then (a.places[q]).kind else E) := by
        unfold endStep; rw [HA.out]; exact hid rfl
      clear HA hpk
      generalize a.places[q] = x at d0 d1 d2 d3 HE
      obtain ⟨xs, xk, xl, xf⟩ := x
      simp only at d0 d1 d2 d3 HE
      have HB := hid hb
      cases xl with
      | false =>
        have HF : Hid (endStep a E q = E) := by rw [HE.out, if_neg (by simp)]; exact hid rfl
        clear HE
        go_wp2
        go_roundw
        case rel => exact ⟨k + 1, by omega, by go_num, by rw [HS.out, HF.out], HB.out.trans ((below_new _ _).mono HB.out.size)⟩
        case measure => simp [intOf]; omega
      | true =>
        by_cases h1 : E < 0
        · have HF : Hid (endStep a E q = xk) := by rw [HE.out, if_pos ⟨rfl, .inl h1⟩]; exact hid rfl
          clear HE
          go_wp2
          go_roundw
          case rel => exact ⟨k + 1, by omega, by go_num, by rw [HS.out, HF.out], HB.out.trans ((below_new _ _).mono HB.out.size)⟩
          case measure => simp [intOf]; omega
        · by_cases h2 : xk < E
          · have HF : Hid (endStep a E q = xk) := by rw [HE.out, if_pos ⟨rfl, .inr h2⟩]; exact hid rfl
            clear HE
            go_wp2
            go_roundw
            case rel => exact ⟨k + 1, by omega, by go_num, by rw [HS.out, HF.out], HB.out.trans ((below_new _ _).mono HB.out.size)⟩
            case measure => simp [intOf]; omega
          · have HF : Hid (endStep a E q = E) := by rw [HE.out, if_neg (fun h => h.2.elim h1 h2)]; exact hid rfl
            clear HE
            go_wp2
            go_roundw
            case rel => exact ⟨k + 1, by omega, by go_num, by rw [HS.out, HF.out], HB.out.trans ((below_new _ _).mono HB.out.size)⟩
            case measure => simp [intOf]; omega
    · have hkl : k = l.length := by omega
      subst hkl
      rw [List.take_length]
      go_wp2
      go_ret
      exact ⟨rfl, hb⟩
end Go.Proofs.YtoclbcfgfaialaaGreatDoor
