/-
  The chapter's example of configurations: what it comes to (plain); lists are the same; an empty edge: the walks.
-/
import Derived.Test.YtnpcjbdolmmaeaaDoorCfDn
namespace Go.Proofs.YtnpcjbdolmmaeaaDoor
open Go.RowKit Go.Maps
set_option maxRecDepth 100000
namespace Cf
open Drv
def d14 : NSt := ⟨0, [⟨0, 0, 4⟩, ⟨0, 0, 5⟩], [3, 3]⟩
def n14 : NNet := { states := [⟨0, [⟨0, 0, 2⟩], []⟩, ⟨0, [], []⟩, d14, ⟨0, [⟨0, 0, 1⟩], []⟩, ⟨0, [⟨1, 0, 3⟩], []⟩, ⟨0, [⟨1, 0, 6⟩], []⟩, ⟨0, [⟨1, 1, 3⟩], []⟩], starts := [0], stops := [1], preds := [], decs := [2] }
def v14 : Vw := ⟨n14, d14, 1⟩
def s14 : St := ⟨[⟨0, 4, [], true, false⟩, ⟨1, 5, [], true, false⟩], [0, 1], false⟩
def t14 : St := ⟨[⟨0, 3, [], true, true⟩], [0], false⟩
theorem may14 : mayNet n14 = true := by decide
theorem new14 : newV n14 0 1 = some v14 := by
  unfold newV
  rw [if_pos ⟨may14, by decide, by decide, by decide, by decide⟩]
  rfl
theorem few14 : fewN n14 := by
  refine ⟨by decide, by decide, by decide, by decide, by decide, ?_⟩
  decide
theorem start14 : startL v14 = [⟨0, 4, [], true, false⟩, ⟨1, 5, [], true, false⟩] := by kernel_rfl
theorem closed14 : closed v14 (startL v14) = ⟨[⟨0, 4, [], true, false⟩, ⟨1, 5, [], true, false⟩], [⟨0, 4, [], true, false⟩, ⟨1, 5, [], true, false⟩], false⟩ := by kernel_rfl
theorem move14 : moveL v14 s14 0 = [⟨0, 3, [], true, false⟩, ⟨1, 6, [], true, false⟩] := by kernel_rfl
theorem closed14b : closed v14 (moveL v14 s14 0) = ⟨[⟨0, 3, [], true, false⟩, ⟨1, 6, [], true, false⟩], [⟨0, 3, [], true, true⟩, ⟨1, 6, [], true, false⟩], false⟩ := by kernel_rfl
theorem set14 : IsSet v14 (startL v14) s14 := by
  unfold IsSet
  rw [closed14, if_neg (by decide)]
  refine ⟨rfl, ⟨by unfold Rise; decide, by decide, by decide, by decide⟩, ⟨by decide, fun a => ?_⟩⟩
  simp [s14]
  omega
theorem set14b : IsSet v14 (moveL v14 s14 0) t14 := by
  unfold IsSet
  rw [closed14b, if_neg (by decide)]
  refine ⟨rfl, ⟨by unfold Rise; decide, by decide, by decide, by decide⟩, ⟨by decide, fun a => ?_⟩⟩
  simp [t14]
  omega
theorem done14 : doneS s14 = false := by decide
theorem done14b : doneS t14 = true := by decide
end Cf
set_option maxHeartbeats 1600000 in
theorem sameZ1_any (A B : Option Addr) (c d : Nat) (a : List Int) (w : World) (hm : a.length ≤ 1000000000000) (hra : Reads w w.heap.size 1 A a.length (a.map (Value.int .i64))) (hrb : Reads w w.heap.size 1 B a.length (a.map (Value.int .i64))) :
    Calls Tryd.prog 29 #[.slice A a.length c, .slice B a.length d] w fun e w' => e = .returned (.bool true) ∧ Below w.heap.size w w' := by
  go_enter Tryd.func29, Tryd.ntmps29
  go_wp2
  go_loopw [5] (fun i wr => ∃ k : Nat, k ≤ a.length ∧ i = .int .i64 k ∧ Below w.heap.size w wr) (fun i _ => a.length - (intOf i).toNat)
  case atStart => exact ⟨0, Nat.zero_le _, rfl, Below.refl _ _⟩
  case round =>
    obtain ⟨k, hk, rfl, hb⟩ := hrel
    by_cases hlt : k < a.length
    · obtain ⟨b, off, rfl, hbl, c0⟩ := reads_atZ (hra.below hb) k hlt
      obtain ⟨b', off', rfl, hbl', c1⟩ := reads_atZ (hrb.below hb) k hlt
      generalize a[k] = x at c0 c1
      have hx : (x == x) = true := by simp
      have hx' : (x != x) = false := by simp
      go_wp2_with fail
      go_quiet (fail)
      go_wp2
      go_roundw
      case rel => exact ⟨k + 1, by omega, by go_num, below_drewN hb _⟩
      case measure => simp [intOf]; omega
    · go_wp2
      go_ret
      exact ⟨rfl, hb⟩
theorem sameZ_eq (A B : Option Addr) (c d : Nat) (a : List Int) (w : World) (hm : a.length ≤ 1000000000000) (hra : Reads w w.heap.size 1 A a.length (a.map (Value.int .i64))) (hrb : Reads w w.heap.size 1 B a.length (a.map (Value.int .i64))) :
    Calls Tryd.prog 14 #[.slice A a.length c, .slice B a.length d] w fun e w' => e = .returned (.bool true) ∧ Below w.heap.size w w' := by
  go_enter Tryd.func14, Tryd.ntmps14
  go_wp2_with fail
  refine (sameZ1_any A B c d a w hm hra hrb).mono ?_
  rintro e w1 ⟨rfl, hb⟩
  go_wp2_with fail
  go_ret
  exact ⟨rfl, hb⟩
theorem infoEd : (Tryd.prog.info? 45).map (·.size) = some 3 := by kernel_rfl
theorem empty_any (tt : Int) (w : World) : Calls Tryd.prog 11 #[.int .i64 tt] w fun e w' => e = .returned (.agg #[.int .u8 0, .int .i64 0, .int .i64 tt]) ∧ w' = w.alloc (.cells #[.int .u8 0, .int .i64 0, .int .i64 tt] 45) := by
  have HQ := hid (heap_alloc_new w (.cells #[.int .u8 0, .int .i64 0, .int .i64 tt] 45))
  go_enter Tryd.func11, Tryd.ntmps11
  go_wp2
  refine bodyPost_ret (results_cell_row rfl _ _ w.heap.size 45 _ _ _ rfl HQ.out Tryd.underlying45 rfl infoEd) rfl ?_
  exact ⟨rfl, rfl⟩
end Go.Proofs.YtnpcjbdolmmaeaaDoor
