/-
  Subsets: huge, set, SameNums of the statements: the walks.
-/
import Derived.Test.YtoclbcfgfaialaaGreatDoorSub1
import Derived.Test.YtoclbcfgfaialaaGreatDoorIdx
namespace Go.Proofs.YtoclbcfgfaialaaGreatDoor
open Go.RowKit
set_option maxRecDepth 100000
def placeW (p : Pl) : Nat := 1 + p.follow.length + p.set.length
def totTo (a : Au) (k : Nat) : Nat := a.first.length + ((a.places.take k).map placeW).sum
def totOf (a : Au) : Nat := a.first.length + (a.places.map placeW).sum
def hugeB (a : Au) : Bool := decide (3000 < totOf a) || decide (80 < a.places.length)
theorem totTo_succ (a : Au) (k : Nat) (h : k < a.places.length) : totTo a (k + 1) = totTo a k + placeW a.places[k] := by
  unfold totTo
  rw [List.take_succ_eq_append_getElem h, List.map_append, List.sum_append]
  simp only [List.map_cons, List.map_nil, List.sum_cons, List.sum_nil]
  omega
theorem totTo_le (a : Au) (k : Nat) : totTo a k ≤ totOf a := by
  unfold totTo totOf
  have h : a.places.map placeW = (a.places.take k).map placeW ++ (a.places.drop k).map placeW := by rw [← List.map_append, List.take_append_drop]
  rw [h, List.sum_append]
  omega
theorem hugeB_no {a : Au} (h : hugeB a = false) : totOf a ≤ 3000 ∧ a.places.length ≤ 80 := by
  simp only [hugeB, Bool.or_eq_false_iff, decide_eq_false_iff_not] at h
  omega
theorem sum_mem {l : List Nat} {n : Nat} (h : n ∈ l) : n ≤ l.sum := by
  induction l with
  | nil => cases h
  | cons x r ih =>
    rw [List.sum_cons]
    rcases List.mem_cons.1 h with rfl | h
    · omega
    · have := ih h; omega
theorem hugeB_place {a : Au} (h : hugeB a = false) {p : Pl} (hp : p ∈ a.places) : p.follow.length ≤ 3000 ∧ p.set.length ≤ 3000 := by
  have h1 := (hugeB_no h).1
  have h2 := sum_mem (List.mem_map.2 ⟨p, hp, rfl⟩ : placeW p ∈ a.places.map placeW)
  unfold totOf at h1
  have h3 : placeW p = 1 + p.follow.length + p.set.length := rfl
  omega
theorem hugeB_sets {a : Au} (h : hugeB a = false) : (a.places.map (·.set)).flatten.length ≤ 3000 := by
  have h1 := (hugeB_no h).1
  unfold totOf at h1
  have h2 : ∀ ps : List Pl, (ps.map (·.set)).flatten.length ≤ (ps.map placeW).sum := by
    intro ps
    induction ps with
    | nil => simp
    | cons p r ih =>
      have h3 : placeW p = 1 + p.follow.length + p.set.length := rfl
      simp only [List.map_cons, List.flatten_cons, List.length_append, List.sum_cons]
      omega
  have := h2 a.places
  omega
set_option maxHeartbeats 1600000 in
theorem huge_any (a : Au) (PA FA : Option Addr) (cp cf : Nat) (v : Bool) (w : World) (hn : a.places.length ≤ 140737488351232) (hf : a.first.length ≤ 140737488351232) (hpf : Hid (∀ p ∈ a.places, p.follow.length ≤ 140737488351232 ∧ p.set.length ≤ 140737488351232))
    (hp : PlsR w w.heap.size PA a.places) (hv : Hid (hugeB a = v)) :
    Calls Tryz.prog 5 #[.agg #[.slice PA a.places.length cp, .slice FA a.first.length cf, .int .i64 a.kinds]] w fun e w' => e = .returned (.bool v) ∧ Below w.heap.size w w' := by
  obtain ⟨wx, hwx⟩ : ∃ wx, Hid (w.alloc (.cells #[.slice PA a.places.length cp, .slice FA a.first.length cf, .int .i64 a.kinds] 25) = wx) := ⟨_, rfl⟩
  have hb : Below w.heap.size w wx := by rw [← hwx.out]; exact below_new _ _
  have hs : w.heap.size < wx.heap.size := by rw [← hwx.out]; simp
  have c0 : wx.cell? ⟨w.heap.size, 0, none⟩ = some (.slice PA a.places.length cp) := by rw [← hwx.out, cell_new]; rfl
  have c1 : wx.cell? ⟨w.heap.size, 1, none⟩ = some (.slice FA a.first.length cf) := by rw [← hwx.out, cell_new]; rfl
  have hp1 : PlsR wx w.heap.size PA a.places := hp.below hb
  clear hp
  go_enter Tryz.func5, Tryz.ntmps5
  go_wp2_with fail
  rw [hwx.out]
  clear hwx
  go_wp2
  go_loopw [3, 4] (fun s i wr => ∃ k n : Nat, k ≤ a.places.length ∧ i = .int .i64 k ∧ s = .int .i64 n ∧ Hid (n = totTo a k) ∧ n ≤ 140737488351232 ∧ Below wx.heap.size wx wr) (fun _ i _ => a.places.length - (intOf i).toNat)
  case atStart => exact ⟨0, a.first.length, Nat.zero_le _, rfl, rfl, hid (by simp [totTo]), hf, Below.refl _ _⟩
  case round =>
    obtain ⟨k, n, hk, rfl, rfl, HN, hn47, hbr⟩ := hrel
    have e0 := (hbr.cell (p := ⟨w.heap.size, 0, none⟩) hs).trans c0
    have hbw : Below w.heap.size w wr := hb.trans (hbr.mono hb.size)
    by_cases hlt : k < a.places.length
    · have hHN : Hid (n + placeW a.places[k] = totTo a (k + 1)) := by rw [totTo_succ a k hlt, ← HN.out]; exact hid rfl
      obtain ⟨b, off, SA, cs, FA', cf', rfl, hbl, z0, z1, z2, z3, r0, r1⟩ := (hp1.below (hbr.mono (by omega))).at k hlt
      have hpk := hpf.out _ (List.getElem_mem hlt)
      unfold placeW at hHN
      generalize a.places[k].follow.length = f at hHN z3 hpk
      generalize a.places[k].set.length = g at hHN z0 hpk
      clear z1 z2 r0 r1
      have hle : Hid (n + (1 + f + g) ≤ totOf a) := by rw [hHN.out]; exact totTo_le a (k + 1)
      have q1 : IntKind.i64.wrap ((n : Int) + 1) = (n : Int) + 1 := w64 (by omega) (by omega)
      have q2 : IntKind.i64.wrap ((n : Int) + 1 + f) = (n : Int) + 1 + f := w64 (by omega) (by omega)
      have q3 : IntKind.i64.wrap ((n : Int) + 1 + f + g) = (n : Int) + 1 + f + g := w64 (by omega) (by omega)
      by_cases hbig : 3000 < n + (1 + f + g)
      · have hg1 : (3000 : Int) < (n : Int) + 1 + f + g := by omega
        have hfin : v = true := by
          rw [← hv.out]
          unfold hugeB
          rw [decide_eq_true (show 3000 < totOf a by have := hle.out; omega)]
          rfl
        subst hfin
        clear hv hle hHN HN
        go_wp2_with fail
        go_quiet (fail)
        go_wp2
        go_ret
        exact ⟨rfl, below_drewN hbw _⟩
      · have hg1 : ¬ (3000 : Int) < (n : Int) + 1 + f + g := by omega
        clear hle
        go_wp2_with fail
        go_quiet (fail)
        go_wp2
        go_roundw
        case rel => exact ⟨k + 1, n + (1 + f + g), by omega, by go_num, by simp; omega, hHN, by omega, below_drewN hbr _⟩
        case measure => simp [intOf]; omega
    · obtain rfl : k = a.places.length := by omega
      have hN : n = totOf a := by rw [HN.out]; unfold totTo totOf; rw [List.take_length]
      have hV := hv.out
      unfold hugeB at hV
      rw [← hN] at hV
      clear hN HN hv
      by_cases hbig : 3000 < n
      · have hg1 : (3000 : Int) < (n : Int) := by omega
        have hfin : v = true := by rw [← hV, decide_eq_true hbig]; rfl
        subst hfin
        clear hV
        go_wp2
        go_ret
        exact ⟨rfl, hbw⟩
      · have hg1 : ¬ (3000 : Int) < (n : Int) := by omega
        rw [decide_eq_false hbig, Bool.false_or] at hV
        have HV := hid hV
        clear hV
        go_wp2
        go_ret
        exact ⟨ret_bool (by rw [← HV.out]; by_cases h : 80 < a.places.length <;> simp [h] <;> omega), hbw⟩
set_option maxHeartbeats 400000 in
theorem set_any (x : Int) (w : World) : Calls Tryz.prog 19 #[.int .i32 x] w fun e w' => ∃ A, e = .returned (.slice A 1 1) ∧ Reads w' w'.heap.size 2 A 1 (flat encR [(x, x)]) ∧ Below w.heap.size w w' := by
  go_enter Tryz.func19, Tryz.ntmps19
  go_wp2
  go_ret
  exact ⟨_, rfl, reads_new encR 2 encR_len w [(x, x)] 66, below_new _ _⟩
set_option maxHeartbeats 1600000 in
theorem sameZ1_any (A B : Option Addr) (c d : Nat) (a : List Int) (w : World) (hm : a.length ≤ 1000000000000) (hra : Reads w w.heap.size 1 A a.length (a.map (Value.int .i64))) (hrb : Reads w w.heap.size 1 B a.length (a.map (Value.int .i64))) :
    Calls Tryz.prog 49 #[.slice A a.length c, .slice B a.length d] w fun e w' => e = .returned (.bool true) ∧ Below w.heap.size w w' := by
  go_enter Tryz.func49, Tryz.ntmps49
  go_wp2
  go_loopw [5] (fun i wr => ∃ k : Nat, k ≤ a.length ∧ i = .int .i64 k ∧ Below w.heap.size w wr) (fun i _ => a.length - (intOf i).toNat)
  case atStart => exact ⟨0, Nat.zero_le _, rfl, Below.refl _ _⟩
  case round =>
    obtain ⟨k, hk, rfl, hb⟩ := hrel
    by_cases hlt : k < a.length
    · obtain ⟨b, off, rfl, hbl, c0⟩ := readsZ hra hb k hlt
      obtain ⟨b', off', rfl, hbl', c1⟩ := readsZ hrb hb k hlt
      generalize a[k] = x at c0 c1
      have hx : (x == x) = true := by simp
      have hx' : (x != x) = false := by simp
      go_wp2_with fail
      go_quiet (fail)
      go_wp2
      go_roundw
      case rel => exact ⟨k + 1, by omega, by go_num, below_drewN hb _⟩
      case measure => simp [intOf]; omega
    · go_wp2
      go_ret
      exact ⟨rfl, hb⟩
theorem sameZ_eq (A B : Option Addr) (c d : Nat) (a : List Int) (w : World) (hm : a.length ≤ 1000000000000) (hra : Reads w w.heap.size 1 A a.length (a.map (Value.int .i64))) (hrb : Reads w w.heap.size 1 B a.length (a.map (Value.int .i64))) :
    Calls Tryz.prog 21 #[.slice A a.length c, .slice B a.length d] w fun e w' => e = .returned (.bool true) ∧ Below w.heap.size w w' := by
  go_enter Tryz.func21, Tryz.ntmps21
  go_wp2_with fail
  refine (sameZ1_any A B c d a w hm hra hrb).mono ?_
  rintro e w1 ⟨rfl, hb⟩
  go_wp2_with fail
  go_ret
  exact ⟨rfl, hb⟩
end Go.Proofs.YtoclbcfgfaialaaGreatDoor
