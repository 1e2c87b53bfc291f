/-
  Have all ended? (configs.Set.Done): the walk.
-/
import Derived.Test.YtnpcjbdolmmaeaaGreatDoorCfMv
namespace Go.Proofs.YtnpcjbdolmmaeaaGreatDoor
open Go.RowKit Go.Maps
set_option maxRecDepth 100000
theorem done1_any (x0 x1 x2 x3 : Value) (b : Bool) (w : World) : Calls Tryz.prog 34 (#[.agg #[x0, x1, x2, x3, .bool b]] ++ #[]) w (fun e w' => e = .returned (.bool (!b)) ∧ Below w.heap.size w w') := by
  have hb := below_new w (.cells #[x0, x1, x2, x3, .bool b] 89)
  have HB := hid hb
  clear hb
  go_enter Tryz.func34, Tryz.ntmps34
  go_wp2
  go_ret
  exact ⟨rfl, HB.out⟩
theorem done1_enters : ∀ args w, (callFunc 34 args).run Tryz.prog w = .ok (.enter 34 args) w := fun _ _ => by kernel_rfl
theorem done1_pred {w w0 : World} {S : Nat → Prop} {l : List Cf.Cfg} {vs : List Value} (hc : CfsV w0 S l vs) : PredC5 34 #[] (fun x : Cf.Cfg => !x.ended) l vs w := by
  intro wr i x0 x1 x2 x3 x4 hi h0 h1 h2 h3 h4 hbl
  obtain ⟨A, c, _, _, hk⟩ := hc.at i hi
  have e4 := hk 4 (by omega)
  rw [h4] at e4
  injection e4 with e4
  subst e4
  exact done1_any x0 x1 x2 x3 l[i].ended wr
theorem done_eq (s : Cf.St) : Cf.doneS s = (!s.over && !s.configs.any fun x => !x.ended) := by
  unfold Cf.doneS
  congr 1
  rw [List.all_eq_not_any_not]
set_option maxHeartbeats 2000000 in
theorem done_any (s : Cf.St) (CA AA : Option Addr) (w : World) (hr : CfR w (fun _ => False) CA s.configs) (hl : s.configs.length ≤ 1000000) :
    Calls Tryz.prog 15 #[setAgg CA AA s] w (fun e w' => e = .returned (.bool (Cf.doneS s)) ∧ Below w.heap.size w w') := by
  unfold setAgg
  rw [done_eq]
  have hb := below_new w (.cells #[.slice CA s.configs.length s.configs.length, .slice AA s.alts.length s.alts.length, .bool s.over] 43)
  have hx := heap_alloc_new w (.cells #[.slice CA s.configs.length s.configs.length, .slice AA s.alts.length s.alts.length, .bool s.over] 43)
  obtain ⟨w1, hw1⟩ : ∃ w1, Hid (w.alloc (.cells #[.slice CA s.configs.length s.configs.length, .slice AA s.alts.length s.alts.length, .bool s.over] 43) = w1) := ⟨_, hid rfl⟩
  rw [hw1.out] at hb hx
  obtain ⟨s0, s1, s2⟩ := cells3 hx
  obtain ⟨vs, hro, hcv⟩ := hr.below hb
  have hco := containsCf_any 34 #[] (fun x : Cf.Cfg => !x.ended) done1_enters CA s.configs.length w1.heap.size s.configs vs w1 (by omega) (Nat.le_refl _) hro.reads (done1_pred hcv)
  obtain ⟨q, hq⟩ : ∃ q, (s.configs.any fun x => !x.ended) = q := ⟨_, rfl⟩
  rw [hq] at hco ⊢
  have HCO := hid hco
  have HB := hid hb
  clear hco hb hx hro hcv hr hq
  cases hov : s.over with
  | true =>
    rw [hov] at s2 hw1
    go_enter Tryz.func15, Tryz.ntmps15
    go_wp2_with fail
    rw [hw1.out]
    go_wp2_with fail
    go_ret
    exact ⟨rfl, HB.out⟩
  | false =>
    rw [hov] at s2 hw1
    go_enter Tryz.func15, Tryz.ntmps15
    go_wp2_with fail
    rw [hw1.out]
    go_wp2_with fail
    go_at_call 33
    refine HCO.out.mono ?_
    rintro _ w2 ⟨rfl, hb2⟩
    cases q
    all_goals
      go_wp2_with fail
      go_ret
      exact ⟨rfl, HB.out.trans (hb2.mono HB.out.size)⟩
end Go.Proofs.YtnpcjbdolmmaeaaGreatDoor

/-
  The chapter's example of configurations: what it comes to (plain); lists are the same; an empty edge: the walks.
-/
namespace Go.Proofs.YtnpcjbdolmmaeaaGreatDoor
open Go.RowKit Go.Maps
set_option maxRecDepth 100000
namespace Cf
open Drv
def d14 : NSt := ⟨0, [⟨0, 0, 4⟩, ⟨0, 0, 5⟩], [3, 3]⟩
def n14 : NNet := { states := [⟨0, [⟨0, 0, 2⟩], []⟩, ⟨0, [], []⟩, d14, ⟨0, [⟨0, 0, 1⟩], []⟩, ⟨0, [⟨1, 0, 3⟩], []⟩, ⟨0, [⟨1, 0, 6⟩], []⟩, ⟨0, [⟨1, 1, 3⟩], []⟩], starts := [0], stops := [1], preds := [], decs := [2] }
def v14 : Vw := ⟨n14, d14, 1⟩
def s14 : St := ⟨[⟨0, 4, [], true, false⟩, ⟨1, 5, [], true, false⟩], [0, 1], false⟩
def t14 : St := ⟨[⟨0, 3, [], true, true⟩], [0], false⟩
theorem may14 : mayNet n14 = true := by decide
theorem new14 : newV n14 0 1 = some v14 := by
  unfold newV
  rw [if_pos ⟨may14, by decide, by decide, by decide, by decide⟩]
  rfl
theorem few14 : fewN n14 := by
  refine ⟨by decide, by decide, by decide, by decide, by decide, ?_⟩
  decide
theorem start14 : startL v14 = [⟨0, 4, [], true, false⟩, ⟨1, 5, [], true, false⟩] := by kernel_rfl
theorem closed14 : closed v14 (startL v14) = ⟨[⟨0, 4, [], true, false⟩, ⟨1, 5, [], true, false⟩], [⟨0, 4, [], true, false⟩, ⟨1, 5, [], true, false⟩], false⟩ := by kernel_rfl
theorem move14 : moveL v14 s14 0 = [⟨0, 3, [], true, false⟩, ⟨1, 6, [], true, false⟩] := by kernel_rfl
theorem closed14b : closed v14 (moveL v14 s14 0) = ⟨[⟨0, 3, [], true, false⟩, ⟨1, 6, [], true, false⟩], [⟨0, 3, [], true, true⟩, ⟨1, 6, [], true, false⟩], false⟩ := by kernel_rfl
theorem set14 : IsSet v14 (startL v14) s14 := by
  unfold IsSet
  rw [closed14, if_neg (by decide)]
  refine ⟨rfl, ⟨by unfold Rise; decide, by decide, by decide, by decide⟩, ⟨by decide, fun a => ?_⟩⟩
  simp [s14]
  omega
theorem set14b : IsSet v14 (moveL v14 s14 0) t14 := by
  unfold IsSet
  rw [closed14b, if_neg (by decide)]
  refine ⟨rfl, ⟨by unfold Rise; decide, by decide, by decide, by decide⟩, ⟨by decide, fun a => ?_⟩⟩
  simp [t14]
  omega
theorem done14 : doneS s14 = false := by decide
theorem done14b : doneS t14 = true := by decide
end Cf
set_option maxHeartbeats 1600000 in
theorem sameZ1_any (A B : Option Addr) (c d : Nat) (a : List Int) (w : World) (hm : a.length ≤ 1000000000000) (hra : Reads w w.heap.size 1 A a.length (a.map (Value.int .i64))) (hrb : Reads w w.heap.size 1 B a.length (a.map (Value.int .i64))) :
    Calls Tryz.prog 43 #[.slice A a.length c, .slice B a.length d] w fun e w' => e = .returned (.bool true) ∧ Below w.heap.size w w' := by
  go_enter Tryz.func43, Tryz.ntmps43
  go_wp2
  go_loopw [5] (fun i wr => ∃ k : Nat, k ≤ a.length ∧ i = .int .i64 k ∧ Below w.heap.size w wr) (fun i _ => a.length - (intOf i).toNat)
  case atStart => exact ⟨0, Nat.zero_le _, rfl, Below.refl _ _⟩
  case round =>
    obtain ⟨k, hk, rfl, hb⟩ := hrel
    by_cases hlt : k < a.length
    · obtain ⟨b, off, rfl, hbl, c0⟩ := reads_atZ (hra.below hb) k hlt
      obtain ⟨b', off', rfl, hbl', c1⟩ := reads_atZ (hrb.below hb) k hlt
      generalize a[k] = x at c0 c1
      have hx : (x == x) = true := by simp
      have hx' : (x != x) = false := by simp
      go_wp2_with fail
      go_quiet (fail)
      go_wp2
      go_roundw
      case rel => exact ⟨k + 1, by omega, by go_num, below_drewN hb _⟩
      case measure => simp [intOf]; omega
    · go_wp2
      go_ret
      exact ⟨rfl, hb⟩
theorem sameZ_eq (A B : Option Addr) (c d : Nat) (a : List Int) (w : World) (hm : a.length ≤ 1000000000000) (hra : Reads w w.heap.size 1 A a.length (a.map (Value.int .i64))) (hrb : Reads w w.heap.size 1 B a.length (a.map (Value.int .i64))) :
    Calls Tryz.prog 27 #[.slice A a.length c, .slice B a.length d] w fun e w' => e = .returned (.bool true) ∧ Below w.heap.size w w' := by
  go_enter Tryz.func27, Tryz.ntmps27
  go_wp2_with fail
  refine (sameZ1_any A B c d a w hm hra hrb).mono ?_
  rintro e w1 ⟨rfl, hb⟩
  go_wp2_with fail
  go_ret
  exact ⟨rfl, hb⟩
theorem infoEd : (Tryz.prog.info? 86).map (·.size) = some 3 := by kernel_rfl
theorem empty_any (tt : Int) (w : World) : Calls Tryz.prog 26 #[.int .i64 tt] w fun e w' => e = .returned (.agg #[.int .u8 0, .int .i64 0, .int .i64 tt]) ∧ w' = w.alloc (.cells #[.int .u8 0, .int .i64 0, .int .i64 tt] 86) := by
  have HQ := hid (heap_alloc_new w (.cells #[.int .u8 0, .int .i64 0, .int .i64 tt] 86))
  go_enter Tryz.func26, Tryz.ntmps26
  go_wp2
  refine bodyPost_ret (results_cell_row rfl _ _ w.heap.size 86 _ _ _ rfl HQ.out Tryz.underlying86 rfl infoEd) rfl ?_
  exact ⟨rfl, rfl⟩
end Go.Proofs.YtnpcjbdolmmaeaaGreatDoor
