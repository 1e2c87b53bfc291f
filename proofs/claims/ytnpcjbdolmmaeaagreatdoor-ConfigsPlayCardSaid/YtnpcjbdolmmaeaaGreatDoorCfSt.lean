/-
  Where a view begins (configs.View.Start), is it there: the walks.
-/
import Derived.Test.YtnpcjbdolmmaeaaGreatDoorCfNw
namespace Go.Proofs.YtnpcjbdolmmaeaaGreatDoor
open Go.RowKit Go.Maps
set_option maxRecDepth 100000
theorem NetR.more {w : World} {B B' : Nat} {SA TA UA QA DA : Option Addr} {n : Drv.NNet} (h : NetR w B SA TA UA QA DA n) (hB : B ≤ B') : NetR w B' SA TA UA QA DA n := ⟨h.sts.more hB, h.starts.more hB, h.stops.more hB, h.preds.more hB, h.decs.more hB⟩
theorem VwAt.more {w : World} {B B' V : Nat} {a : VwA} {v : Cf.Vw} (h : VwAt w B V a v) (hB : B ≤ B') : VwAt w B' V a v := ⟨h.blk, Nat.lt_of_lt_of_le h.lt hB, h.net.more hB, h.edges.more hB, h.ends.more hB, h.stops.more hB⟩
theorem VwAt.next {w w' : World} {V : Nat} {a : VwA} {v : Cf.Vw} (h : VwAt w w.heap.size V a v) (hb : Below w.heap.size w w') : VwAt w' w'.heap.size V a v := (h.below hb).more hb.size
theorem SetIn.still {w w' : World} {B : Nat} {CA AA : Option Addr} {s : Cf.St} {S : Nat → Prop} (h : SetIn w B CA AA s) (ho : Only S w w') (hS : ∀ k, S k → ∀ cs, w.heap[k]? ≠ some (.cells cs 3 (0, 0)) ∧ w.heap[k]? ≠ some (.cells cs 89 (0, 0))) : SetIn w' B CA AA s := by
  obtain ⟨vs, h1, h2⟩ := h.cfg
  refine ⟨⟨vs, ownC_only h1 ho (fun k hk hs => ?_), h2.only ho (fun k hk cs => (hS k hk cs).1)⟩, ownC_only h.alts ho (fun k hk hs => ?_)⟩
  · obtain ⟨cs, e⟩ := ownC_cells h1 hk
    exact (hS k hs cs).2 e
  · obtain ⟨cs, e⟩ := ownC_cells h.alts hk
    exact (hS k hs cs).1 e
theorem CfsO.base {w : World} {B B' : Nat} (hB : B' ≤ B) : ∀ {l : List Cf.Cfg} {vs : List Value}, CfsO w B l vs → CfsO w B' l vs
  | [], _, h => h
  | _ :: _, _, h => by
    obtain ⟨A, b, e, h1, h2⟩ := h
    exact ⟨A, b, e, h1.base hB, CfsO.base hB h2⟩
theorem SetIn.base {w : World} {B B' : Nat} {CA AA : Option Addr} {s : Cf.St} (h : SetIn w B CA AA s) (hB : B' ≤ B) : SetIn w B' CA AA s := by
  obtain ⟨vs, h1, h2⟩ := h.cfg
  exact ⟨⟨vs, h1.base hB, h2.base hB⟩, h.alts.base hB⟩
theorem SetIn.cfr {w : World} {B : Nat} {CA AA : Option Addr} {s : Cf.St} (h : SetIn w B CA AA s) : CfR w (fun _ => False) CA s.configs := by
  obtain ⟨vs, h1, h2⟩ := h.cfg
  exact ⟨vs, RO.of_reads h1.reads (Nat.le_refl _) (fun _ e => e.elim), h2.cfs (fun _ _ _ e => e)⟩
theorem SetIn.below {w w' : World} {B : Nat} {CA AA : Option Addr} {s : Cf.St} (h : SetIn w B CA AA s) (hb : Below w.heap.size w w') : SetIn w' B CA AA s := h.still (S := fun _ => False) (Only.of_below hb) (fun _ e => e.elim)
theorem there_any (w : World) (B V : Nat) (a : VwA) (v : Cf.Vw) (hv : VwAt w B V a v) (hb : 1 ≤ v.bound) : Calls Tryz.prog 30 #[.pointer (some ⟨V, 0, none⟩)] w fun e w' => e = .returned (.bool true) ∧ w' = w := by
  have v8 : w.cell? ⟨V, 8, none⟩ = some (.int .i64 v.bound) := by rw [Lib.cell_of_heap hv.blk]; rfl
  have f1 : decide ((0 : Int) < v.bound) = true := decide_eq_true (by omega)
  clear hv hb
  go_enter Tryz.func30, Tryz.ntmps30
  go_wp2
  go_ret
  exact ⟨rfl, rfl⟩
theorem there_nil (w : World) : Calls Tryz.prog 30 #[.pointer none] w fun e w' => e = .returned (.bool false) ∧ w' = w := by
  go_enter Tryz.func30, Tryz.ntmps30
  go_wp2
  go_ret
  exact ⟨rfl, rfl⟩
theorem there_zero (w : World) (V : Nat) (v8 : w.cell? ⟨V, 8, none⟩ = some (.int .i64 0)) : Calls Tryz.prog 30 #[.pointer (some ⟨V, 0, none⟩)] w fun e w' => e = .returned (.bool false) ∧ w' = w := by
  go_enter Tryz.func30, Tryz.ntmps30
  go_wp2
  go_ret
  exact ⟨rfl, rfl⟩
theorem startL_snoc (v : Cf.Vw) (j : Nat) (h : j < v.d.edges.length) : (Cf.startL v).take (j + 1) = (Cf.startL v).take j ++ [⟨(j : Int), v.d.edges[j].to, [], true, false⟩] := by
  have hl : j < (Cf.startL v).length := by unfold Cf.startL; rw [List.length_map, List.length_zipIdx]; exact h
  rw [List.take_succ_eq_append_getElem hl]
  congr 1
  simp [Cf.startL]
theorem startL_len (v : Cf.Vw) : (Cf.startL v).length = v.d.edges.length := by unfold Cf.startL; rw [List.length_map, List.length_zipIdx]
def encS (x : Cf.Cfg) : List Value := cfC x none 0
theorem cfs_start {w : World} {S : Nat → Prop} : ∀ l : List Cf.Cfg, (∀ x ∈ l, x.stack = []) → CfsV w S l (flat encS l)
  | [], _ => rfl
  | x :: l, h => by
    have hx := h x (by simp)
    refine ⟨encS x, flat encS l, rfl, ⟨none, 0, rfl, by rw [hx]; exact Nat.le_refl _, ?_⟩, cfs_start l fun y hy => h y (by simp [hy])⟩
    rw [hx]
    exact ⟨rfl, fun h => absurd h (Nat.lt_irrefl _)⟩
theorem startL_stack (v : Cf.Vw) : ∀ x ∈ Cf.startL v, x.stack = [] := by
  intro x hx
  unfold Cf.startL at hx
  obtain ⟨_, _, rfl⟩ := List.mem_map.1 hx
  rfl
set_option maxHeartbeats 4000000 in
theorem start_any (v : Cf.Vw) (a : VwA) (V : Nat) (w : World) (hv : VwAt w w.heap.size V a v) (W : Cf.OkW v) (hd : v.d ∈ v.n.states) (he : v.d.edges.length = v.d.ends.length) (hT : PT w) :
    Calls Tryz.prog 12 #[.pointer (some ⟨V, 0, none⟩)] w (SetP v (Cf.startL v) w) := by
  obtain ⟨w1, hw1⟩ : ∃ w1, Hid (w.alloc (.cells #[.slice none 0 0, .slice none 0 0, .bool false] 43) = w1) := ⟨_, hid rfl⟩
  have hb1 : Below w.heap.size w w1 := by rw [← hw1.out]; exact below_new _ _
  have h1 : w1.heap[w.heap.size]? = some (.cells #[.slice none 0 0, .slice none 0 0, .bool false] 43 (0, 0)) := by rw [← hw1.out]; exact heap_alloc_new _ _
  have hv1 := hv.next hb1
  have hwl : w.heap.size < w1.heap.size := heap_lt h1
  have v6 : w1.cell? ⟨V, 6, none⟩ = some (.slice a.EA v.d.edges.length a.ec) := by rw [Lib.cell_of_heap hv1.blk]; rfl
  have hth := there_any w1 _ V a v hv1 W.bound.1
  have hel := W.edges _ hd
  obtain ⟨iC, hiC, hzC, hsC, hyC⟩ := info_of infoCfg
  have HT := hid (hT.next hb1)
  have HV := hid hv1
  have HH1 := hid h1
  have HB1 := hid hb1
  have HTH := hid hth
  have HE := hid he
  clear hv h1 hb1 hv1 hth hT he
  go_enter Tryz.func12, Tryz.ntmps12
  go_wp2_with fail
  rw [hw1.out]
  go_at_call 30
  refine HTH.out.mono ?_
  rintro _ wx ⟨rfl, hwx⟩
  rw [hwx]
  clear hwx
  go_wp2_with fail
  go_loopw [3, 4, 5, 16] (fun o _ _ i wr => ∃ j : Nat, j ≤ v.d.edges.length ∧ i = .int .i64 (j : Int) ∧ wr.ownsRow w1.heap.size 89 5 o j (flat encS ((Cf.startL v).take j)) ∧ Below w1.heap.size w1 wr) (fun _ _ _ i _ => v.d.edges.length - (intOf i).toNat)
  case atStart => exact ⟨0, Nat.zero_le _, rfl, World.ownsRow_nil _ _ _ _, Below.refl _ _⟩
  case round =>
    obtain ⟨j, hj, rfl, hown, hb⟩ := hrel
    by_cases hlt : j < v.d.edges.length
    · obtain ⟨eb, eo, hEA, hebl, e0, e1, e2⟩ := edge_at (HV.out.edges.below hb) hlt
      have HSN := hid (show flat encS ((Cf.startL v).take (j + 1)) = flat encS ((Cf.startL v).take j) ++ [.int .i64 (j : Int), .int .i64 v.d.edges[j].to, .slice none 0 0, .bool true, .bool false] by
        rw [startL_snoc v j hlt, flat_snoc]; rfl)
      generalize v.d.edges[j] = ed at e0 e1 e2 HSN
      rw [hEA]
      have HEA := hid hEA
      clear hEA
      have hcs : ∀ u ∈ [Value.int .i64 (j : Int), .int .i64 ed.to, .slice none 0 0, .bool true, .bool false], u.oneCell' = true := fun u hu => by
        simp only [List.mem_cons, List.mem_nil_iff, or_false] at hu
        rcases hu with rfl | rfl | rfl | rfl | rfl <;> rfl
      obtain ⟨OA, oc, rfl⟩ := row_form hown
      go_wp2_with (at_builtin; refine wpList_push _ rfl _ _ 41 rfl w1.heap.size 89 iC _ 5 48 Tryz.underlying41 hiC hzC hsC hyC rfl (by omega) (.slice OA j oc) j _ rfl (hown.alloc _) [.int .i64 (j : Int), .int .i64 ed.to, .slice none 0 0, .bool true, .bool false] 1 _ rfl (by simp) rfl hcs (by simp only [maxLen]; omega) (by omega) (hb.alloc hb.size _).size ?_; intro v' w' hown' hsz' hB')
      go_roundw
      case rel => exact ⟨j + 1, hlt, by go_num, by rw [HSN.out]; exact hown', hB' _ (hb.alloc hb.size _)⟩
      case measure => simp [intOf]; omega
    · have hje : j = v.d.edges.length := by omega
      subst hje
      rw [show (Cf.startL v).take v.d.edges.length = Cf.startL v from List.take_of_length_le (by rw [startL_len]; exact Nat.le_refl _)] at hown
      obtain ⟨OA, oc, rfl⟩ := row_form hown
      obtain ⟨hbd, hl7⟩ := Cf.start_bd W hd
      have hcr : CfR wr (fun _ => False) OA (Cf.startL v) := ⟨_, by rw [startL_len]; exact RO.of_reads (Reads.of_own hown) (Nat.le_refl _) (fun _ e => e.elim), cfs_start _ (startL_stack v)⟩
      have hset := set_any (Cf.startL v) v a V OA oc wr (HV.out.next hb) W hbd (Cf.start_has W hd HE.out) (by omega) hcr (HT.out.next hb)
      rw [startL_len] at hset
      have HSET := hid hset
      have HB := hid hb
      have hr := (hb.block w.heap.size hwl).trans HH1.out
      have hbr := HB1.out.trans (hb.mono HB1.out.size)
      clear hset hcr hown hb v6 hbd
      go_wp2_with fail
      go_at_call 31
      refine HSET.out.mono ?_
      rintro _ w5 ⟨s, CA, AA, rfl, his, hsb, hin, hb5⟩
      have hr5 := (hb5.block w.heap.size (heap_lt hr)).trans hr
      have z5 : ∀ i, w5.frozen? ⟨w.heap.size, i, none⟩ = false := fun i => Lib.frozen_of_heap hr5 i
      obtain ⟨r0, r1, r2⟩ := cells3 hr5
      obtain ⟨hq6, ho6⟩ := set3 hr5 (.slice CA s.configs.length s.configs.length) (.slice AA s.alts.length s.alts.length) (.bool s.over)
      have HIS := hid (And.intro his hsb)
      have HIN := hid hin
      have hb05 := hbr.trans (hb5.mono hbr.size)
      have HB5 := hid hb05
      obtain ⟨w6, hw6⟩ : ∃ w6, Hid (((w5.setCell ⟨w.heap.size, 0, none⟩ (.slice CA s.configs.length s.configs.length)).setCell ⟨w.heap.size, 1, none⟩ (.slice AA s.alts.length s.alts.length)).setCell ⟨w.heap.size, 2, none⟩ (.bool s.over) = w6) := ⟨_, hid rfl⟩
      rw [hw6.out] at hq6 ho6
      have HQ6 := hid hq6
      have HO6 := hid ho6
      have HR5 := hid hr5
      clear his hsb hin hb5 hb05 hq6 ho6 hr hr5
      unfold setAgg
      go_wp2_with fail
      rw [hw6.out]
      refine bodyPost_ret (results_cell_row rfl _ _ w.heap.size 43 _ _ _ rfl HQ6.out Tryz.underlying43 rfl infoSet) rfl ?_
      refine ⟨s, CA, AA, rfl, HIS.out.1, HIS.out.2, (HIN.out.still HO6.out (fun k hk cs => ?_)).base hbr.size, HB5.out.trans (HO6.out.below' (fun b e => by omega) HB5.out.size)⟩
      rw [hk, HR5.out]
      constructor
      · intro e
        injection e with e
        injection e with _ e
        exact absurd e (by decide)
      · intro e
        injection e with e
        injection e with _ e
        exact absurd e (by decide)
end Go.Proofs.YtnpcjbdolmmaeaaGreatDoor
