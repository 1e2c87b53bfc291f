/-
  Have all ended? (configs.Set.Done): the walk.
-/
import Derived.Test.YtnpcjbdolmmaeaaDoorCfMv
namespace Go.Proofs.YtnpcjbdolmmaeaaDoor
open Go.RowKit Go.Maps
set_option maxRecDepth 100000
theorem done1_any (x0 x1 x2 x3 : Value) (b : Bool) (w : World) : Calls Tryd.prog 28 (#[.agg #[x0, x1, x2, x3, .bool b]] ++ #[]) w (fun e w' => e = .returned (.bool (!b)) ∧ Below w.heap.size w w') := by
  have hb := below_new w (.cells #[x0, x1, x2, x3, .bool b] 40)
  have HB := hid hb
  clear hb
  go_enter Tryd.func28, Tryd.ntmps28
  go_wp2
  go_ret
  exact ⟨rfl, HB.out⟩
theorem done1_enters : ∀ args w, (callFunc 28 args).run Tryd.prog w = .ok (.enter 28 args) w := fun _ _ => by kernel_rfl
theorem done1_pred {w w0 : World} {S : Nat → Prop} {l : List Cf.Cfg} {vs : List Value} (hc : CfsV w0 S l vs) : PredC5 28 #[] (fun x : Cf.Cfg => !x.ended) l vs w := by
  intro wr i x0 x1 x2 x3 x4 hi h0 h1 h2 h3 h4 hbl
  obtain ⟨A, c, _, _, hk⟩ := hc.at i hi
  have e4 := hk 4 (by omega)
  rw [h4] at e4
  injection e4 with e4
  subst e4
  exact done1_any x0 x1 x2 x3 l[i].ended wr
theorem done_eq (s : Cf.St) : Cf.doneS s = (!s.over && !s.configs.any fun x => !x.ended) := by
  unfold Cf.doneS
  congr 1
  rw [List.all_eq_not_any_not]
set_option maxHeartbeats 2000000 in
theorem done_any (s : Cf.St) (CA AA : Option Addr) (w : World) (hr : CfR w (fun _ => False) CA s.configs) (hl : s.configs.length ≤ 1000000) :
    Calls Tryd.prog 13 #[setAgg CA AA s] w (fun e w' => e = .returned (.bool (Cf.doneS s)) ∧ Below w.heap.size w w') := by
  unfold setAgg
  rw [done_eq]
  have hb := below_new w (.cells #[.slice CA s.configs.length s.configs.length, .slice AA s.alts.length s.alts.length, .bool s.over] 36)
  have hx := heap_alloc_new w (.cells #[.slice CA s.configs.length s.configs.length, .slice AA s.alts.length s.alts.length, .bool s.over] 36)
  obtain ⟨w1, hw1⟩ : ∃ w1, Hid (w.alloc (.cells #[.slice CA s.configs.length s.configs.length, .slice AA s.alts.length s.alts.length, .bool s.over] 36) = w1) := ⟨_, hid rfl⟩
  rw [hw1.out] at hb hx
  obtain ⟨s0, s1, s2⟩ := cells3 hx
  obtain ⟨vs, hro, hcv⟩ := hr.below hb
  have hco := containsCf_any 28 #[] (fun x : Cf.Cfg => !x.ended) done1_enters CA s.configs.length w1.heap.size s.configs vs w1 (by omega) (Nat.le_refl _) hro.reads (done1_pred hcv)
  obtain ⟨q, hq⟩ : ∃ q, (s.configs.any fun x => !x.ended) = q := ⟨_, rfl⟩
  rw [hq] at hco ⊢
  have HCO := hid hco
  have HB := hid hb
  clear hco hb hx hro hcv hr hq
  cases hov : s.over with
  | true =>
    rw [hov] at s2 hw1
    go_enter Tryd.func13, Tryd.ntmps13
    go_wp2_with fail
    rw [hw1.out]
    go_wp2_with fail
    go_ret
    exact ⟨rfl, HB.out⟩
  | false =>
    rw [hov] at s2 hw1
    go_enter Tryd.func13, Tryd.ntmps13
    go_wp2_with fail
    rw [hw1.out]
    go_wp2_with fail
    go_at_call 27
    refine HCO.out.mono ?_
    rintro _ w2 ⟨rfl, hb2⟩
    cases q
    all_goals
      go_wp2_with fail
      go_ret
      exact ⟨rfl, HB.out.trans (hb2.mono HB.out.size)⟩
end Go.Proofs.YtnpcjbdolmmaeaaDoor
