/-
  Looks: CfSt, CfMv, CfDn (texts joined).
-/
import Derived.Test.YtnpcjbdolmmaeaaGreatDoorL18
namespace Go.Proofs.YtnpcjbdolmmaeaaGreatDoor
open Go.RowKit Go.Maps
set_option maxRecDepth 100000
theorem NetR.more {w : World} {B B' : Nat} {SA TA UA QA DA : Option Addr} {n : Drv.NNet} (h : NetR w B SA TA UA QA DA n) (hB : B ≤ B') : NetR w B' SA TA UA QA DA n := ⟨h.sts.more hB, h.starts.more hB, h.stops.more hB, h.preds.more hB, h.decs.more hB⟩
theorem VwAt.more {w : World} {B B' V : Nat} {a : VwA} {v : Cf.Vw} (h : VwAt w B V a v) (hB : B ≤ B') : VwAt w B' V a v := ⟨h.blk, Nat.lt_of_lt_of_le h.lt hB, h.net.more hB, h.edges.more hB, h.ends.more hB, h.stops.more hB⟩
theorem VwAt.next {w w' : World} {V : Nat} {a : VwA} {v : Cf.Vw} (h : VwAt w w.heap.size V a v) (hb : Below w.heap.size w w') : VwAt w' w'.heap.size V a v := (h.below hb).more hb.size
theorem SetIn.still {w w' : World} {B : Nat} {CA AA : Option Addr} {s : Cf.St} {S : Nat → Prop} (h : SetIn w B CA AA s) (ho : Only S w w') (hS : ∀ k, S k → ∀ cs, w.heap[k]? ≠ some (.cells cs 3 (0, 0)) ∧ w.heap[k]? ≠ some (.cells cs 89 (0, 0))) : SetIn w' B CA AA s := by
  obtain ⟨vs, h1, h2⟩ := h.cfg
  refine ⟨⟨vs, ownC_only h1 ho (fun k hk hs => ?_), h2.only ho (fun k hk cs => (hS k hk cs).1)⟩, ownC_only h.alts ho (fun k hk hs => ?_)⟩
  · obtain ⟨cs, e⟩ := ownC_cells h1 hk
    exact (hS k hs cs).2 e
  · obtain ⟨cs, e⟩ := ownC_cells h.alts hk
    exact (hS k hs cs).1 e
theorem CfsO.base {w : World} {B B' : Nat} (hB : B' ≤ B) : ∀ {l : List Cf.Cfg} {vs : List Value}, CfsO w B l vs → CfsO w B' l vs
  | [], _, h => h
  | _ :: _, _, h => by
    obtain ⟨A, b, e, h1, h2⟩ := h
    exact ⟨A, b, e, h1.base hB, CfsO.base hB h2⟩
theorem SetIn.base {w : World} {B B' : Nat} {CA AA : Option Addr} {s : Cf.St} (h : SetIn w B CA AA s) (hB : B' ≤ B) : SetIn w B' CA AA s := by
  obtain ⟨vs, h1, h2⟩ := h.cfg
  exact ⟨⟨vs, h1.base hB, h2.base hB⟩, h.alts.base hB⟩
theorem SetIn.cfr {w : World} {B : Nat} {CA AA : Option Addr} {s : Cf.St} (h : SetIn w B CA AA s) : CfR w (fun _ => False) CA s.configs := by
  obtain ⟨vs, h1, h2⟩ := h.cfg
  exact ⟨vs, RO.of_reads h1.reads (Nat.le_refl _) (fun _ e => e.elim), h2.cfs (fun _ _ _ e => e)⟩
theorem SetIn.below {w w' : World} {B : Nat} {CA AA : Option Addr} {s : Cf.St} (h : SetIn w B CA AA s) (hb : Below w.heap.size w w') : SetIn w' B CA AA s := h.still (S := fun _ => False) (Only.of_below hb) (fun _ e => e.elim)
theorem there_any (w : World) (B V : Nat) (a : VwA) (v : Cf.Vw) (hv : VwAt w B V a v) (hb : 1 ≤ v.bound) : Calls Tryz.prog 30 #[.pointer (some ⟨V, 0, none⟩)] w fun e w' => e = .returned (.bool true) ∧ w' = w := by
  have v8 : w.cell? ⟨V, 8, none⟩ = some (.int .i64 v.bound) := by rw [Lib.cell_of_heap hv.blk]; rfl
  have f1 : decide ((0 : Int) < v.bound) = true := decide_eq_true (by omega)
  clear hv hb
  go_enter Tryz.func30, Tryz.ntmps30
  go_wp2
  go_ret
  exact ⟨rfl, rfl⟩
theorem startL_snoc (v : Cf.Vw) (j : Nat) (h : j < v.d.edges.length) : (Cf.startL v).take (j + 1) = (Cf.startL v).take j ++ [⟨(j : Int), v.d.edges[j].to, [], true, false⟩] := by
  have hl : j < (Cf.startL v).length := by unfold Cf.startL; rw [List.length_map, List.length_zipIdx]; exact h
  rw [List.take_succ_eq_append_getElem hl]
  congr 1
  simp [Cf.startL]
theorem startL_len (v : Cf.Vw) : (Cf.startL v).length = v.d.edges.length := by unfold Cf.startL; rw [List.length_map, List.length_zipIdx]
def encS (x : Cf.Cfg) : List Value := cfC x none 0
theorem cfs_start {w : World} {S : Nat → Prop} : ∀ l : List Cf.Cfg, (∀ x ∈ l, x.stack = []) → CfsV w S l (flat encS l)
  | [], _ => rfl
  | x :: l, h => by
    have hx := h x (by simp)
    refine ⟨encS x, flat encS l, rfl, ⟨none, 0, rfl, by rw [hx]; exact Nat.le_refl _, ?_⟩, cfs_start l fun y hy => h y (by simp [hy])⟩
    rw [hx]
    exact ⟨rfl, fun h => absurd h (Nat.lt_irrefl _)⟩
theorem startL_stack (v : Cf.Vw) : ∀ x ∈ Cf.startL v, x.stack = [] := by
  intro x hx
  unfold Cf.startL at hx
  obtain ⟨_, _, rfl⟩ := List.mem_map.1 hx
  rfl
set_option maxHeartbeats 4000000 in
theorem start_any (v : Cf.Vw) (a : VwA) (V : Nat) (w : World) (hv : VwAt w w.heap.size V a v) (W : Cf.OkW v) (hd : v.d ∈ v.n.states) (he : v.d.edges.length = v.d.ends.length) (hT : PT w) :
    Calls Tryz.prog 12 #[.pointer (some ⟨V, 0, none⟩)] w (SetP v (Cf.startL v) w) := by
  obtain ⟨w1, hw1⟩ : ∃ w1, Hid (w.alloc (.cells #[.slice none 0 0, .slice none 0 0, .bool false] 43) = w1) := ⟨_, hid rfl⟩
  have hb1 : Below w.heap.size w w1 := by rw [← hw1.out]; exact below_new _ _
  have h1 : w1.heap[w.heap.size]? = some (.cells #[.slice none 0 0, .slice none 0 0, .bool false] 43 (0, 0)) := by rw [← hw1.out]; exact heap_alloc_new _ _
  have hv1 := hv.next hb1
  have hwl : w.heap.size < w1.heap.size := heap_lt h1
  have v6 : w1.cell? ⟨V, 6, none⟩ = some (.slice a.EA v.d.edges.length a.ec) := by rw [Lib.cell_of_heap hv1.blk]; rfl
  have hth := there_any w1 _ V a v hv1 W.bound.1
  have hel := W.edges _ hd
  obtain ⟨iC, hiC, hzC, hsC, hyC⟩ := info_of infoCfg
  have HT := hid (hT.next hb1)
  have HV := hid hv1
  have HH1 := hid h1
  have HB1 := hid hb1
  have HTH := hid hth
  have HE := hid he
  clear hv h1 hb1 hv1 hth hT he
  go_enter Tryz.func12, Tryz.ntmps12
  go_wp2_with fail
  rw [hw1.out]
  go_at_call 30
  refine HTH.out.mono ?_
  rintro _ wx ⟨rfl, hwx⟩
  rw [hwx]
  clear hwx
  go_wp2_with fail
  go_loopw [3, 4, 5, 16] (fun o _ _ i wr => ∃ j : Nat, j ≤ v.d.edges.length ∧ i = .int .i64 (j : Int) ∧ wr.ownsRow w1.heap.size 89 5 o j (flat encS ((Cf.startL v).take j)) ∧ Below w1.heap.size w1 wr) (fun _ _ _ i _ => v.d.edges.length - (intOf i).toNat)
  case atStart => exact ⟨0, Nat.zero_le _, rfl, World.ownsRow_nil _ _ _ _, Below.refl _ _⟩
  case round =>
    obtain ⟨j, hj, rfl, hown, hb⟩ := hrel
    by_cases hlt : j < v.d.edges.length
    · obtain ⟨eb, eo, hEA, hebl, e0, e1, e2⟩ := edge_at (HV.out.edges.below hb) hlt
      have HSN := hid (show flat encS ((Cf.startL v).take (j + 1)) = flat encS ((Cf.startL v).take j) ++ [.int .i64 (j : Int), .int .i64 v.d.edges[j].to, .slice none 0 0, .bool true, .bool false] by
        rw [startL_snoc v j hlt, flat_snoc]; rfl)
      generalize v.d.edges[j] = ed at e0 e1 e2 HSN
      rw [hEA]
      have HEA := hid hEA
      clear hEA
      have hcs : ∀ u ∈ [Value.int .i64 (j : Int), .int .i64 ed.to, .slice none 0 0, .bool true, .bool false], u.oneCell' = true := fun u hu => by
        simp only [List.mem_cons, List.mem_nil_iff, or_false] at hu
        rcases hu with rfl | rfl | rfl | rfl | rfl <;> rfl
      obtain ⟨OA, oc, rfl⟩ := row_form hown
      go_wp2_with (at_builtin; refine wpList_push _ rfl _ _ 41 rfl w1.heap.size 89 iC _ 5 48 Tryz.underlying41 hiC hzC hsC hyC rfl (by omega) (.slice OA j oc) j _ rfl (hown.alloc _) [.int .i64 (j : Int), .int .i64 ed.to, .slice none 0 0, .bool true, .bool false] 1 _ rfl (by simp) rfl hcs (by simp only [maxLen]; omega) (by omega) (hb.alloc hb.size _).size ?_; intro v' w' hown' hsz' hB')
      go_roundw
      case rel => exact ⟨j + 1, hlt, by go_num, by rw [HSN.out]; exact hown', hB' _ (hb.alloc hb.size _)⟩
      case measure => simp [intOf]; omega
    · have hje : j = v.d.edges.length := by omega
      subst hje
      rw [show (Cf.startL v).take v.d.edges.length = Cf.startL v from List.take_of_length_le (by rw [startL_len]; exact Nat.le_refl _)] at hown
      obtain ⟨OA, oc, rfl⟩ := row_form hown
      obtain ⟨hbd, hl7⟩ := Cf.start_bd W hd
      have hcr : CfR wr (fun _ => False) OA (Cf.startL v) := ⟨_, by rw [startL_len]; exact RO.of_reads (Reads.of_own hown) (Nat.le_refl _) (fun _ e => e.elim), cfs_start _ (startL_stack v)⟩
      have hset := set_any (Cf.startL v) v a V OA oc wr (HV.out.next hb) W hbd (Cf.start_has W hd HE.out) (by omega) hcr (HT.out.next hb)
      rw [startL_len] at hset
      have HSET := hid hset
      have HB := hid hb
      have hr := (hb.block w.heap.size hwl).trans HH1.out
      have hbr := HB1.out.trans (hb.mono HB1.out.size)
      clear hset hcr hown hb v6 hbd
      go_wp2_with fail
      go_at_call 31
      refine HSET.out.mono ?_
      rintro _ w5 ⟨s, CA, AA, rfl, his, hsb, hin, hb5⟩
      have hr5 := (hb5.block w.heap.size (heap_lt hr)).trans hr
      have z5 : ∀ i, w5.frozen? ⟨w.heap.size, i, none⟩ = false := fun i => Lib.frozen_of_heap hr5 i
      obtain ⟨r0, r1, r2⟩ := cells3 hr5
      obtain ⟨hq6, ho6⟩ := set3 hr5 (.slice CA s.configs.length s.configs.length) (.slice AA s.alts.length s.alts.length) (.bool s.over)
      have HIS := hid (And.intro his hsb)
      have HIN := hid hin
      have hb05 := hbr.trans (hb5.mono hbr.size)
      have HB5 := hid hb05
      obtain ⟨w6, hw6⟩ : ∃ w6, Hid (((w5.setCell ⟨w.heap.size, 0, none⟩ (.slice CA s.configs.length s.configs.length)).setCell ⟨w.heap.size, 1, none⟩ (.slice AA s.alts.length s.alts.length)).setCell ⟨w.heap.size, 2, none⟩ (.bool s.over) = w6) := ⟨_, hid rfl⟩
      rw [hw6.out] at hq6 ho6
      have HQ6 := hid hq6
      have HO6 := hid ho6
      have HR5 := hid hr5
      clear his hsb hin hb5 hb05 hq6 ho6 hr hr5
      unfold setAgg
      go_wp2_with fail
      rw [hw6.out]
      refine bodyPost_ret (results_cell_row rfl _ _ w.heap.size 43 _ _ _ rfl HQ6.out Tryz.underlying43 rfl infoSet) rfl ?_
      refine ⟨s, CA, AA, rfl, HIS.out.1, HIS.out.2, (HIN.out.still HO6.out (fun k hk cs => ?_)).base hbr.size, HB5.out.trans (HO6.out.below' (fun b e => by omega) HB5.out.size)⟩
      rw [hk, HR5.out]
      constructor
      · intro e
        injection e with e
        injection e with _ e
        exact absurd e (by decide)
      · intro e
        injection e with e
        injection e with _ e
        exact absurd e (by decide)
end Go.Proofs.YtnpcjbdolmmaeaaGreatDoor
namespace Go.Proofs.YtnpcjbdolmmaeaaGreatDoor
open Go.RowKit Go.Maps
set_option maxRecDepth 100000
def VoP (w : World) (e : Ending) (w' : World) : Prop := e = .returned (.agg #[.slice none 0 0, .slice none 0 0, .bool false]) ∧ Below w.heap.size w w'
def NotThere (p : Value) (w : World) : Prop := ∀ u, Below w.heap.size w u → Calls Tryz.prog 30 #[p] u fun e w' => e = .returned (.bool false) ∧ w' = u
theorem move_two (w : World) (c0 c1 c2 : Value) : ∃ w2, Hid ((w.alloc (.cells #[c0, c1, c2] 43)).alloc (.cells #[.slice none 0 0, .slice none 0 0, .bool false] 43) = w2) ∧ Below w.heap.size w w2 ∧
    w2.heap[w.heap.size]? = some (.cells #[c0, c1, c2] 43 (0, 0)) ∧ w2.heap[w.heap.size + 1]? = some (.cells #[.slice none 0 0, .slice none 0 0, .bool false] 43 (0, 0)) := by
  have z0 : (w.alloc (.cells #[c0, c1, c2] 43)).heap.size = w.heap.size + 1 := by simp
  refine ⟨_, hid rfl, (below_new _ _).alloc (by omega) _, ?_, ?_⟩
  · rw [Below.heap_alloc _ _ _ (by omega)]; exact heap_alloc_new _ _
  · rw [← z0]; exact heap_alloc_new _ _
def MvP (v : Cf.Vw) (s : Cf.St) (tok : Int) (w : World) (e : Ending) (w' : World) : Prop :=
  ∃ t CA AA, e = .returned (setAgg CA AA t) ∧ (if s.over = true then t = ⟨[], [], false⟩ else Cf.IsSet v (Cf.moveL v s tok) t) ∧ Cf.SetB v t ∧ SetIn w' w.heap.size CA AA t ∧ Below w.heap.size w w'
def mvF (tok : Int) (x : Cf.Cfg) (e : Drv.Ed) : Option Cf.Cfg := if e.kind = 1 ∧ e.what = tok then some (Cf.atC x e.to x.stack true) else none
def mvG (v : Cf.Vw) (tok : Int) (x : Cf.Cfg) : List Cf.Cfg := if x.ended = true then [x] else (Cf.stOf v x).edges.filterMap (mvF tok x)
theorem moveL_eq {v : Cf.Vw} {s : Cf.St} {tok : Int} (h : ∀ x ∈ s.configs, Cf.has v x = true) : Cf.moveL v s tok = s.configs.flatMap (mvG v tok) := by
  unfold Cf.moveL
  have : ∀ l : List Cf.Cfg, (∀ x ∈ l, Cf.has v x = true) → (l.flatMap fun x => if Cf.has v x = false then [] else if x.ended = true then [x] else (Cf.stOf v x).edges.filterMap fun e => if e.kind = 1 ∧ e.what = tok then some (Cf.atC x e.to x.stack true) else none) = l.flatMap (mvG v tok) := by
    intro l
    induction l with
    | nil => intro _; rfl
    | cons x l ih =>
      intro hl
      rw [List.flatMap_cons, List.flatMap_cons, ih fun y hy => hl y (by simp [hy])]
      congr 1
      rw [if_neg (by rw [hl x (by simp)]; decide)]
      rfl
  exact this _ h
theorem flat_take {α β : Type} (f : α → List β) (l : List α) (k : Nat) (h : k < l.length) : (l.take (k+1)).flatMap f = (l.take k).flatMap f ++ f l[k] := by
  rw [List.take_succ_eq_append_getElem h, List.flatMap_append]; simp
theorem fm_take {α β : Type} (f : α → Option β) (l : List α) (k : Nat) (h : k < l.length) : (l.take (k+1)).filterMap f = (l.take k).filterMap f ++ (f l[k]).toList := by
  rw [List.take_succ_eq_append_getElem h, List.filterMap_append]
  cases hf : f l[k] <;> simp [hf]
theorem mvG_len {v : Cf.Vw} (W : Cf.OkW v) (tok : Int) {x : Cf.Cfg} (h : Cf.has v x = true) : (mvG v tok x).length ≤ 700 := by
  unfold mvG
  split
  · simp
  · exact Nat.le_trans (List.length_filterMap_le _ _) (W.edges _ (Cf.stOf_mem (Cf.has_state h).2.2))
theorem push_box {OA : Option Addr} {n oc g c b size : Nat} (hn : (Value.slice OA n oc).ownBlock ≠ some b) (hg : (Value.slice OA n oc).ownBlock = some g ∨ size < g) (hb : b < size) (m : Nat) : (Value.slice (some ⟨g, 0, none⟩) m c).ownBlock ≠ some b := by
  intro e
  have e : g = b := by injection e
  rcases hg with h | h
  · exact hn (by rw [h, e])
  · omega
theorem kept_cells {w w' : World} {b : Nat} {o : Value} {x0 x1 x2 x3 x4 : Value} (h : w.heap[b]? = some (.cells #[x0, x1, x2, x3, x4] 89 (0, 0))) (hn : o.ownBlock ≠ some b) (ho : Only (fun k => o.ownBlock = some k) w w') : w'.heap[b]? = some (.cells #[x0, x1, x2, x3, x4] 89 (0, 0)) := (ho.block b (heap_lt h) hn).trans h
set_option maxHeartbeats 8000000 in
theorem move_any (v : Cf.Vw) (a : VwA) (V : Nat) (s : Cf.St) (tok : Int) (CA AA : Option Addr) (w : World) (hv : VwAt w w.heap.size V a v) (W : Cf.OkW v) (hs : Cf.SetB v s) (hr : CfR w (fun _ => False) CA s.configs) (hT : PT w) :
    Calls Tryz.prog 17 #[.pointer (some ⟨V, 0, none⟩), setAgg CA AA s, .int .i64 tok] w (MvP v s tok w) := by
  unfold setAgg
  obtain ⟨w2, hw2, hb2, h2, h2r⟩ := move_two w (.slice CA s.configs.length s.configs.length) (.slice AA s.alts.length s.alts.length) (.bool s.over)
  have hv2 := hv.next hb2
  have hth := there_any w2 _ V a v hv2 W.bound.1
  have z1 : ∀ i, w2.frozen? ⟨w.heap.size + 1, i, none⟩ = false := fun i => Lib.frozen_of_heap h2r i
  obtain ⟨s0, s1, s2⟩ := cells3 h2
  have hwl : w.heap.size + 1 < w2.heap.size := heap_lt h2r
  have HTH := hid hth
  have HB2 := hid hb2
  have HV2 := hid hv2
  have HT2 := hid (hT.next hb2)
  have HR2 := hid (hr.only (S' := fun k => w2.heap.size ≤ k) (Only.of_below hb2) (fun b hb e => absurd e (by omega)))
  have HH2R := hid h2r
  have HSB := hid hs
  cases hov : s.over with
  | true =>
    rw [hov] at s2
    have HOV := hid hov
    obtain ⟨r0, r1, r2⟩ := cells3 h2r
    obtain ⟨hq6, ho6⟩ := set3 h2r (.slice none 0 0) (.slice none 0 0) (.bool false)
    obtain ⟨w6, hw6⟩ : ∃ w6, Hid (((w2.setCell ⟨w.heap.size + 1, 0, none⟩ (.slice none 0 0)).setCell ⟨w.heap.size + 1, 1, none⟩ (.slice none 0 0)).setCell ⟨w.heap.size + 1, 2, none⟩ (.bool false) = w6) := ⟨_, hid rfl⟩
    rw [hw6.out] at hq6 ho6
    have HQ6 := hid hq6
    have HO6 := hid ho6
    rw [hov] at hw2
    clear hq6 ho6 hb2 hth h2 h2r hv hv2 hr hs hov hT
    go_enter Tryz.func17, Tryz.ntmps17
    go_wp2_with fail
    rw [hw2.out]
    go_at_call 30
    refine HTH.out.mono ?_
    rintro _ wx ⟨rfl, hwx⟩
    rw [hwx]
    clear hwx
    go_wp2_with fail
    rw [hw6.out]
    refine bodyPost_ret (results_cell_row rfl _ _ (w.heap.size + 1) 43 _ _ _ rfl HQ6.out Tryz.underlying43 rfl infoSet) rfl ?_
    refine ⟨⟨[], [], false⟩, none, none, rfl, by rw [if_pos HOV.out], ⟨fun _ h => (by cases h), Nat.zero_le _⟩, ⟨⟨[], OwnC.of (World.ownsRow_nil _ _ _ _), rfl⟩, OwnC.of (World.ownsRow_nil _ _ _ _)⟩, HB2.out.trans (HO6.out.below' (fun b e => by omega) HB2.out.size)⟩
  | false =>
    rw [hov] at s2
    have HOV := hid hov
    rw [hov] at hw2
    obtain ⟨iC, hiC, hzC, hsC, hyC⟩ := info_of infoCfg
    have hfew := hs.few
    have hnst := W.states
    clear hb2 hth h2 h2r hv hv2 hr hs hov hT
    go_enter Tryz.func17, Tryz.ntmps17
    go_wp2_with fail
    rw [hw2.out]
    go_at_call 30
    refine HTH.out.mono ?_
    rintro _ wx ⟨rfl, hwx⟩
    rw [hwx]
    clear hwx
    go_wp2_with fail
    go_loopw [7, 9, 11, 23] (fun o _ _ i wr => ∃ (j : Nat) (L : List Cf.Cfg) (vs : List Value), j ≤ s.configs.length ∧ i = .int .i64 (j : Int) ∧ wr.ownsRow w2.heap.size 89 5 o L.length vs ∧ Hid (CfsV w2 (fun k => w2.heap.size ≤ k) L vs ∧ L = (s.configs.take j).flatMap (mvG v tok) ∧ Below w2.heap.size w2 wr)) (fun _ _ _ i _ => s.configs.length - (intOf i).toNat)
    case atStart => exact ⟨0, [], [], Nat.zero_le _, rfl, World.ownsRow_nil _ _ _ _, hid ⟨rfl, rfl, Below.refl _ _⟩⟩
    case round =>
      obtain ⟨j, L, vs, hj, rfl, hown, HI⟩ := hrel
      obtain ⟨OA, oc, rfl⟩ := row_form hown
      have hLl : L.length ≤ 2800000 := by
        rw [HI.out.2.1]
        have h1 := Cf.flatMap_len (mvG v tok) 700 (s.configs.take j) (fun x hx => mvG_len W tok (HSB.out.ok x (List.mem_of_mem_take hx)).2)
        rw [List.length_take, Nat.min_eq_left hj] at h1
        omega
      have hb := HI.out.2.2
      by_cases hlt : j < s.configs.length
      · obtain ⟨b, off, B, cb, hA, hbl, _, hcx, hro, r0, r1, r2, r3, r4⟩ := HR2.out.at j hlt
        have HX := hid (HSB.out.ok _ (List.getElem_mem hlt))
        have HTK := hid (flat_take (mvG v tok) s.configs j hlt)
        generalize s.configs[j] = x at hcx hro r0 r1 r2 r3 r4 HX HTK
        have r0 := (hb.cell (p := ⟨b, off + j * 5, none⟩) hbl).trans r0
        have r1 := (hb.cell (p := ⟨b, off + j * 5 + 1, none⟩) hbl).trans r1
        have r2 := (hb.cell (p := ⟨b, off + j * 5 + 2, none⟩) hbl).trans r2
        have r3 := (hb.cell (p := ⟨b, off + j * 5 + 3, none⟩) hbl).trans r3
        have r4 := (hb.cell (p := ⟨b, off + j * 5 + 4, none⟩) hbl).trans r4
        have HRO := hid hro
        have HCX := hid hcx
        have HB := hid hb
        have HA := hid hA
        have HOWN := hid hown
        rw [hA]
        clear hro hcx hA hb hown
        go_wp2_with fail
        go_at_call 35
        have hbn := below_new wr (.cells #[.int .i64 x.alt, .int .i64 x.state, .slice B x.stack.length cb, .bool x.exact, .bool x.ended] 89)
        have hbx := heap_alloc_new wr (.cells #[.int .i64 x.alt, .int .i64 x.state, .slice B x.stack.length cb, .bool x.exact, .bool x.ended] 89)
        generalize wr.alloc (.cells #[.int .i64 x.alt, .int .i64 x.state, .slice B x.stack.length cb, .bool x.exact, .bool x.ended] 89) = w3 at hbn hbx ⊢
        have hb3 := HB.out.trans (hbn.mono HB.out.size)
        have hha := has_any x B cb w3 w2.heap.size V a v (HV2.out.below hb3) hb3.size
        rw [HX.out.2] at hha
        refine hha.mono ?_
        rintro _ w4 ⟨rfl, hb4⟩
        have hx4 := (hb4.block wr.heap.size (heap_lt hbx)).trans hbx
        have hB4 := hb3.trans (hb4.mono hb3.size)
        have hB4r := hbn.trans (hb4.mono hbn.size)
        have hown4 := ownsRow_below HOWN.out hB4r (Nat.le_refl _)
        have hnb4 : (Value.slice OA L.length oc).ownBlock ≠ some wr.heap.size := fun e => by have := (HOWN.out.lt _ e).2; omega
        have m0 : w4.cell? ⟨wr.heap.size, 0, none⟩ = some (.int .i64 x.alt) := by rw [Lib.cell_of_heap hx4]; rfl
        have m1 : w4.cell? ⟨wr.heap.size, 1, none⟩ = some (.int .i64 x.state) := by rw [Lib.cell_of_heap hx4]; rfl
        have m2 : w4.cell? ⟨wr.heap.size, 2, none⟩ = some (.slice B x.stack.length cb) := by rw [Lib.cell_of_heap hx4]; rfl
        have m3 : w4.cell? ⟨wr.heap.size, 3, none⟩ = some (.bool x.exact) := by rw [Lib.cell_of_heap hx4]; rfl
        have m4 : w4.cell? ⟨wr.heap.size, 4, none⟩ = some (.bool x.ended) := by rw [Lib.cell_of_heap hx4]; rfl
        have hwx : wr.heap.size < w4.heap.size := heap_lt hx4
        have HX4 := hid hx4
        have HB4 := hid hB4
        have HOWN4 := hid hown4
        have HNB4 := hid hnb4
        have HBR := hid hB4r
        clear hbn hbx hb3 hha hb4 hx4 hB4 hB4r r0 r1 r2 r3 r4
        cases hxe : x.ended with
        | true =>
          rw [hxe] at m4
          have HXE := hid hxe
          clear hxe
          have hcs : ∀ u ∈ [Value.int .i64 x.alt, .int .i64 x.state, .slice B x.stack.length cb, .bool x.exact, .bool true], u.oneCell' = true := fun u hu => by
            simp only [List.mem_cons, List.mem_nil_iff, or_false] at hu
            rcases hu with rfl | rfl | rfl | rfl | rfl <;> rfl
          have HFIN := hid (show mvG v tok x = [x] by unfold mvG; rw [if_pos HXE.out])
          go_wp2_with (at_builtin; refine wpList_push4 w4 rfl _ _ 41 rfl w2.heap.size 89 iC _ 5 48 Tryz.underlying41 hiC hzC hsC hyC rfl (by omega) (.slice OA L.length oc) L.length vs rfl hown4 [.int .i64 x.alt, .int .i64 x.state, .slice B x.stack.length cb, .bool x.exact, .bool true] 1 w4.heap.size rfl rfl rfl hcs Nat.zero_lt_one (by simp only [maxLen]; omega) (by omega) HB4.out.size ?_; intro g cg w12 hown12 hg12 ho12)
          go_roundw
          case rel =>
            refine ⟨j + 1, L ++ [x], vs ++ cfC x B cb, hlt, by go_num, by rw [List.length_append]; unfold cfC; rw [HXE.out]; exact hown12, hid ⟨CfsV.snoc ⟨B, cb, rfl, HCX.out, HRO.out⟩ HI.out.1, by rw [HTK.out, HFIN.out, ← HI.out.2.1], HB4.out.trans (ho12.below' (fun k hk => (HOWN4.out.lt k hk).1) HB4.out.size)⟩⟩
          case measure => simp [intOf]; omega
        | false =>
          rw [hxe] at m4
          have HXE := hid hxe
          clear hxe
          have hst := Cf.has_state HX.out.2
          obtain ⟨ix, hix⟩ : ∃ ix : Nat, x.state = (ix : Int) := ⟨x.state.toNat, by omega⟩
          have hil : ix < v.n.states.length := by omega
          rw [hix] at m1
          have hv4 := HV2.out.below HB4.out
          have v0 : w4.cell? ⟨V, 0, none⟩ = some (.slice a.SA v.n.states.length a.sc) := by rw [Lib.cell_of_heap hv4.blk]; rfl
          obtain ⟨sb, so, EA, ec, XA, xc, hSA, hsl, n0, n1, n2, rE, rX⟩ := hv4.net.sts.at hil
          rw [hSA] at v0
          obtain ⟨st, hsts⟩ : ∃ st, v.n.states[ix] = st := ⟨_, rfl⟩
          rw [hsts] at n0 n1 n2 rE rX
          have hso : Cf.stOf v x = st := by
            unfold Cf.stOf
            rw [hix, List.getD_eq_getElem?_getD, List.getElem?_eq_getElem (by simpa using hil)]
            simpa using hsts
          have hsm : st ∈ v.n.states := by rw [← hsts]; exact List.getElem_mem _
          have hel := W.edges _ hsm
          have HRE := hid rE
          have HFIN := hid (show mvG v tok x = st.edges.filterMap (mvF tok x) by unfold mvG; rw [if_neg (by rw [HXE.out]; decide), hso])
          have HIX := hid hix
          clear hst rE rX hSA hsts hso hix hv4 n0 n2
          go_upto_region 7 with fail
          go_quiet (fail)
          go_wp2_with fail
          have hb5 : Below w4.heap.size w4 (w4.drewN nq) := below_drewN (Below.refl _ _) _
          generalize w4.drewN nq = w5 at hb5 ⊢
          have hx5 := (hb5.block wr.heap.size hwx).trans HX4.out
          have hown5 := ownsRow_below HOWN4.out hb5 (Nat.le_refl _)
          have HX5 := hid hx5
          have HB5 := hid (HB4.out.trans (hb5.mono HB4.out.size))
          have HRE5 := hid (HRE.out.below (hb5.mono HB4.out.size))
          have HLL := hid hLl
          clear hb5 hx5 m0 m1 m2 m3 m4 v0 n1 hown4 hnb4
          go_loopw [7, 11, 38] (fun o _ p wi => ∃ (q : Nat) (L2 : List Cf.Cfg) (vs2 : List Value), q ≤ st.edges.length ∧ p = .int .i64 (q : Int) ∧ wi.ownsRow w2.heap.size 89 5 o L2.length vs2 ∧ Hid (CfsV w2 (fun k => w2.heap.size ≤ k) L2 vs2 ∧ L2 = L ++ (st.edges.take q).filterMap (mvF tok x) ∧ Below w2.heap.size w2 wi ∧ Below w2.heap.size w5 wi ∧ wi.heap[wr.heap.size]? = some (.cells #[.int .i64 x.alt, .int .i64 x.state, .slice B x.stack.length cb, .bool x.exact, .bool x.ended] 89 (0, 0)) ∧ o.ownBlock ≠ some wr.heap.size)) (fun _ _ p _ => st.edges.length - (intOf p).toNat)
          case atStart => exact ⟨0, L, vs, Nat.zero_le _, rfl, hown5, hid ⟨HI.out.1, by simp, HB5.out, Below.refl _ _, HX5.out, HNB4.out⟩⟩
          case round =>
            rename World => wi
            obtain ⟨q, L2, vs2, hq, rfl, hown6, HJ⟩ := hrel
            obtain ⟨OA2, oc2, rfl⟩ := row_form hown6
            have hL2l : L2.length ≤ 2800700 := by
              rw [HJ.out.2.1, List.length_append]
              have h1 := List.length_filterMap_le (mvF tok x) (st.edges.take q)
              rw [List.length_take] at h1
              have := HLL.out
              omega
            have hwi := heap_lt HJ.out.2.2.2.2.1
            by_cases hql : q < st.edges.length
            · obtain ⟨eb, eo, hEA, hebl, e0, e1, e2⟩ := edge_at (HRE5.out.below HJ.out.2.2.2.1) hql
              have HFT := hid (fm_take (mvF tok x) st.edges q hql)
              generalize st.edges[q] = ed at e0 e1 e2 HFT
              have hbn := below_new wi (.cells #[.int .u8 ed.kind, .int .i64 ed.what, .int .i64 ed.to] 86)
              have hxn := (hbn.block wr.heap.size hwi).trans HJ.out.2.2.2.2.1
              have hen := heap_alloc_new wi (.cells #[.int .u8 ed.kind, .int .i64 ed.what, .int .i64 ed.to] 86)
              obtain ⟨w7, hw7⟩ : ∃ w7, Hid (wi.alloc (.cells #[.int .u8 ed.kind, .int .i64 ed.what, .int .i64 ed.to] 86) = w7) := ⟨_, hid rfl⟩
              rw [hw7.out] at hbn hxn hen
              have m0 : w7.cell? ⟨wr.heap.size, 0, none⟩ = some (.int .i64 x.alt) := by rw [Lib.cell_of_heap hxn]; rfl
              have m1 : w7.cell? ⟨wr.heap.size, 1, none⟩ = some (.int .i64 x.state) := by rw [Lib.cell_of_heap hxn]; rfl
              have m2 : w7.cell? ⟨wr.heap.size, 2, none⟩ = some (.slice B x.stack.length cb) := by rw [Lib.cell_of_heap hxn]; rfl
              have m3 : w7.cell? ⟨wr.heap.size, 3, none⟩ = some (.bool x.exact) := by rw [Lib.cell_of_heap hxn]; rfl
              have m4 : w7.cell? ⟨wr.heap.size, 4, none⟩ = some (.bool x.ended) := by rw [Lib.cell_of_heap hxn]; rfl
              have g0 : w7.cell? ⟨wi.heap.size, 0, none⟩ = some (.int .u8 ed.kind) := by rw [Lib.cell_of_heap hen]; rfl
              have g1 : w7.cell? ⟨wi.heap.size, 1, none⟩ = some (.int .i64 ed.what) := by rw [Lib.cell_of_heap hen]; rfl
              have g2 : w7.cell? ⟨wi.heap.size, 2, none⟩ = some (.int .i64 ed.to) := by rw [Lib.cell_of_heap hen]; rfl
              have hown7 := ownsRow_below hown6 hbn (Nat.le_refl _)
              have hB7 := HJ.out.2.2.1.trans (hbn.mono HJ.out.2.2.1.size)
              have hB57 := HJ.out.2.2.2.1.trans (hbn.mono (Nat.le_trans HB5.out.size HJ.out.2.2.2.1.size))
              have HXN := hid hxn
              have HOWN7 := hid hown7
              have HB7 := hid hB7
              have HB57 := hid hB57
              have HEA := hid hEA
              rw [hEA]
              clear hbn hxn hen hown6 hB7 hB57 hEA
              by_cases hk : ed.kind = 1 ∧ ed.what = tok
              · have f1 : (ed.kind == 1) = true := by rw [hk.1]; rfl
                have f2 : (ed.what == tok) = true := by rw [hk.2]; exact beq_self_eq_true _
                have HFE := hid (show mvF tok x ed = some (Cf.atC x ed.to x.stack true) by unfold mvF; rw [if_pos hk])
                clear hk
                go_upto_region 10 with fail
                rw [hw7.out]
                go_wp2_with fail
                go_at_call 36
                refine (at_any x B cb ed.to B x.stack.length cb true w7).mono ?_
                rintro _ w8 ⟨rfl, hb8⟩
                rw [Bool.and_true]
                have hxn8 := (hb8.block wr.heap.size (heap_lt HXN.out)).trans HXN.out
                have hown8 := ownsRow_below HOWN7.out hb8 (Nat.le_refl _)
                have hB8 := HB7.out.trans (hb8.mono HB7.out.size)
                have hB58 := HB57.out.trans (hb8.mono (Nat.le_trans HB5.out.size HB57.out.size))
                have hcs : ∀ u ∈ [Value.int .i64 x.alt, .int .i64 ed.to, .slice B x.stack.length cb, .bool x.exact, .bool false], u.oneCell' = true := fun u hu => by
                  simp only [List.mem_cons, List.mem_nil_iff, or_false] at hu
                  rcases hu with rfl | rfl | rfl | rfl | rfl <;> rfl
                have HXN8 := hid hxn8
                have HB8 := hid hB8
                have HB58 := hid hB58
                have HN8 := hid (show (Value.slice OA2 L2.length oc2).ownBlock ≠ some wr.heap.size from HJ.out.2.2.2.2.2)
                have HLT8 := hid hown8.lt
                have h8z := heap_lt hxn8
                clear hb8 hxn8 hB8 hB58 m0 m1 m2 m3 m4 g0 g1 g2
                go_wp2_with (at_builtin; refine wpList_push4 w8 rfl _ _ 41 rfl w2.heap.size 89 iC _ 5 48 Tryz.underlying41 hiC hzC hsC hyC rfl (by omega) (.slice OA2 L2.length oc2) L2.length vs2 rfl hown8 [.int .i64 x.alt, .int .i64 ed.to, .slice B x.stack.length cb, .bool x.exact, .bool false] 1 w8.heap.size rfl rfl rfl hcs Nat.zero_lt_one (by simp only [maxLen]; omega) (by omega) HB8.out.size ?_; intro g cg w12 hown12 hg12 ho12)
                go_roundw
                case rel =>
                  have hge : Below w2.heap.size w8 w12 := ho12.below' (fun k hk => (HLT8.out k hk).1) HB8.out.size
                  refine ⟨q + 1, L2 ++ [Cf.atC x ed.to x.stack true], vs2 ++ cfC (Cf.atC x ed.to x.stack true) B cb, hql, by go_num, ?_, hid ⟨CfsV.snoc (x := Cf.atC x ed.to x.stack true) ⟨B, cb, rfl, HCX.out, HRO.out⟩ HJ.out.1, by rw [HFT.out, HFE.out, HJ.out.2.1, List.append_assoc]; rfl, HB8.out.trans hge, HB58.out.trans hge, kept_cells HXN8.out HN8.out ho12, push_box HN8.out hg12 h8z _⟩⟩
                  rw [List.length_append]
                  unfold cfC Cf.atC
                  dsimp only
                  rw [Bool.and_true]
                  exact hown12
                case measure => simp [intOf]; omega
              · have HFE := hid (show mvF tok x ed = none by unfold mvF; rw [if_neg hk])
                have hrel2 : ∃ (q_1 : Nat) (L2_1 : List Cf.Cfg) (vs2_1 : List Value), q_1 ≤ st.edges.length ∧ (q_1 = q + 1) ∧ w7.ownsRow w2.heap.size 89 5 (.slice OA2 L2.length oc2) L2_1.length vs2_1 ∧ Hid (CfsV w2 (fun k => w2.heap.size ≤ k) L2_1 vs2_1 ∧ L2_1 = L ++ (st.edges.take q_1).filterMap (mvF tok x) ∧ Below w2.heap.size w2 w7 ∧ Below w2.heap.size w5 w7 ∧ w7.heap[wr.heap.size]? = some (.cells #[.int .i64 x.alt, .int .i64 x.state, .slice B x.stack.length cb, .bool x.exact, .bool x.ended] 89 (0, 0)) ∧ (Value.slice OA2 L2.length oc2).ownBlock ≠ some wr.heap.size) :=
                  ⟨q + 1, L2, vs2, hql, rfl, HOWN7.out, hid ⟨HJ.out.1, by rw [HFT.out, HFE.out, HJ.out.2.1]; simp, HB7.out, HB57.out, HXN.out, HJ.out.2.2.2.2.2⟩⟩
                have HREL := hid hrel2
                clear hrel2
                by_cases hk1 : ed.kind = 1
                · have f1 : (ed.kind == 1) = true := by rw [hk1]; rfl
                  have f2 : (ed.what == tok) = false := by rw [beq_eq_false_iff_ne]; exact fun e => hk ⟨hk1, e⟩
                  clear hk hk1
                  go_upto_region 10 with fail
                  rw [hw7.out]
                  go_wp2_with fail
                  go_roundw
                  case rel =>
                    obtain ⟨q1, L3, vs3, h1, rfl, h2, h3⟩ := HREL.out
                    exact ⟨q + 1, L3, vs3, h1, by go_num, h2, h3⟩
                  case measure => simp [intOf]; omega
                · have f1 : (ed.kind == 1) = false := by rw [beq_eq_false_iff_ne]; exact hk1
                  clear hk hk1
                  go_upto_region 10 with fail
                  rw [hw7.out]
                  go_wp2_with fail
                  go_roundw
                  case rel =>
                    obtain ⟨q1, L3, vs3, h1, rfl, h2, h3⟩ := HREL.out
                    exact ⟨q + 1, L3, vs3, h1, by go_num, h2, h3⟩
                  case measure => simp [intOf]; omega
            · have hqe : q = st.edges.length := by omega
              subst hqe
              have hfin2 := HJ.out.2.1
              rw [List.take_length] at hfin2
              have HFI2 := hid hfin2
              clear hfin2
              go_wp2
              go_roundw
              case rel =>
                refine ⟨j + 1, L2, vs2, hlt, by go_num, hown6, hid ⟨HJ.out.1, by rw [HTK.out, HFIN.out, ← HI.out.2.1, HFI2.out], HJ.out.2.2.1⟩⟩
              case measure => simp [intOf]; omega
      · have hje : j = s.configs.length := by omega
        subst hje
        have hLm : L = Cf.moveL v s tok := by
          rw [moveL_eq (fun x hx => (HSB.out.ok x hx).2), HI.out.2.1, List.take_length]
        obtain ⟨hbd, _⟩ := Cf.move_bd W HSB.out tok
        have hhs := Cf.move_has W HSB.out tok
        rw [← hLm] at hbd hhs
        have hcr : CfR wr (fun _ => False) OA L := ⟨vs, RO.of_reads (Reads.of_own hown) (Nat.le_refl _) (fun _ e => e.elim), HI.out.1.only (S' := fun _ => False) ((Only.refl (fun k => w2.heap.size ≤ k) w2).trans ⟨hb.os, hb.tape, hb.output, hb.size, fun k _ hn => hb.block k (by omega)⟩ (fun _ _ e => e)) (fun _ _ e => e.elim)⟩
        have hset := set_any L v a V OA oc wr (HV2.out.next hb) W hbd hhs (by omega) hcr (HT2.out.next hb)
        rw [hLm] at hset
        have HSET := hid hset
        have hr := (hb.block (w.heap.size + 1) hwl).trans HH2R.out
        have hbr := HB2.out.trans (hb.mono HB2.out.size)
        have HLM := hid hLm
        clear hset hcr hown hbd hhs hb
        rw [← hLm] at HSET
        clear hLm
        go_wp2_with fail
        go_at_call 31
        rw [HLM.out]
        rw [HLM.out] at HSET
        refine HSET.out.mono ?_
        rintro _ w5 ⟨t, CA5, AA5, rfl, his, hsb, hin, hb5⟩
        have hr5 := (hb5.block (w.heap.size + 1) (heap_lt hr)).trans hr
        have z5 : ∀ i, w5.frozen? ⟨w.heap.size + 1, i, none⟩ = false := fun i => Lib.frozen_of_heap hr5 i
        obtain ⟨r0, r1, r2⟩ := cells3 hr5
        obtain ⟨hq6, ho6⟩ := set3 hr5 (.slice CA5 t.configs.length t.configs.length) (.slice AA5 t.alts.length t.alts.length) (.bool t.over)
        have HIS := hid (And.intro his hsb)
        have HIN := hid hin
        have hb05 := hbr.trans (hb5.mono hbr.size)
        have HB5 := hid hb05
        obtain ⟨w6, hw6⟩ : ∃ w6, Hid (((w5.setCell ⟨w.heap.size + 1, 0, none⟩ (.slice CA5 t.configs.length t.configs.length)).setCell ⟨w.heap.size + 1, 1, none⟩ (.slice AA5 t.alts.length t.alts.length)).setCell ⟨w.heap.size + 1, 2, none⟩ (.bool t.over) = w6) := ⟨_, hid rfl⟩
        rw [hw6.out] at hq6 ho6
        have HQ6 := hid hq6
        have HO6 := hid ho6
        have HR5 := hid hr5
        clear his hsb hin hb5 hb05 hq6 ho6 hr hr5
        unfold setAgg
        go_wp2_with fail
        rw [hw6.out]
        refine bodyPost_ret (results_cell_row rfl _ _ (w.heap.size + 1) 43 _ _ _ rfl HQ6.out Tryz.underlying43 rfl infoSet) rfl ?_
        refine ⟨t, CA5, AA5, rfl, by rw [if_neg (by rw [HOV.out]; decide)]; exact HIS.out.1, HIS.out.2, (HIN.out.still HO6.out (fun k hk cs => ?_)).base hbr.size, HB5.out.trans (HO6.out.below' (fun b e => by omega) HB5.out.size)⟩
        rw [hk, HR5.out]
        constructor
        · intro e
          injection e with e
          injection e with _ e
          exact absurd e (by decide)
        · intro e
          injection e with e
          injection e with _ e
          exact absurd e (by decide)
end Go.Proofs.YtnpcjbdolmmaeaaGreatDoor
namespace Go.Proofs.YtnpcjbdolmmaeaaGreatDoor
open Go.RowKit Go.Maps
set_option maxRecDepth 100000
theorem done1_any (x0 x1 x2 x3 : Value) (b : Bool) (w : World) : Calls Tryz.prog 34 (#[.agg #[x0, x1, x2, x3, .bool b]] ++ #[]) w (fun e w' => e = .returned (.bool (!b)) ∧ Below w.heap.size w w') := by
  have hb := below_new w (.cells #[x0, x1, x2, x3, .bool b] 89)
  have HB := hid hb
  clear hb
  go_enter Tryz.func34, Tryz.ntmps34
  go_wp2
  go_ret
  exact ⟨rfl, HB.out⟩
theorem done1_enters : ∀ args w, (callFunc 34 args).run Tryz.prog w = .ok (.enter 34 args) w := fun _ _ => by kernel_rfl
theorem done1_pred {w w0 : World} {S : Nat → Prop} {l : List Cf.Cfg} {vs : List Value} (hc : CfsV w0 S l vs) : PredC5 34 #[] (fun x : Cf.Cfg => !x.ended) l vs w := by
  intro wr i x0 x1 x2 x3 x4 hi h0 h1 h2 h3 h4 hbl
  obtain ⟨A, c, _, _, hk⟩ := hc.at i hi
  have e4 := hk 4 (by omega)
  rw [h4] at e4
  injection e4 with e4
  subst e4
  exact done1_any x0 x1 x2 x3 l[i].ended wr
theorem done_eq (s : Cf.St) : Cf.doneS s = (!s.over && !s.configs.any fun x => !x.ended) := by
  unfold Cf.doneS
  congr 1
  rw [List.all_eq_not_any_not]
set_option maxHeartbeats 2000000 in
theorem done_any (s : Cf.St) (CA AA : Option Addr) (w : World) (hr : CfR w (fun _ => False) CA s.configs) (hl : s.configs.length ≤ 1000000) :
    Calls Tryz.prog 15 #[setAgg CA AA s] w (fun e w' => e = .returned (.bool (Cf.doneS s)) ∧ Below w.heap.size w w') := by
  unfold setAgg
  rw [done_eq]
  have hb := below_new w (.cells #[.slice CA s.configs.length s.configs.length, .slice AA s.alts.length s.alts.length, .bool s.over] 43)
  have hx := heap_alloc_new w (.cells #[.slice CA s.configs.length s.configs.length, .slice AA s.alts.length s.alts.length, .bool s.over] 43)
  obtain ⟨w1, hw1⟩ : ∃ w1, Hid (w.alloc (.cells #[.slice CA s.configs.length s.configs.length, .slice AA s.alts.length s.alts.length, .bool s.over] 43) = w1) := ⟨_, hid rfl⟩
  rw [hw1.out] at hb hx
  obtain ⟨s0, s1, s2⟩ := cells3 hx
  obtain ⟨vs, hro, hcv⟩ := hr.below hb
  have hco := containsCf_any 34 #[] (fun x : Cf.Cfg => !x.ended) done1_enters CA s.configs.length w1.heap.size s.configs vs w1 (by omega) (Nat.le_refl _) hro.reads (done1_pred hcv)
  obtain ⟨q, hq⟩ : ∃ q, (s.configs.any fun x => !x.ended) = q := ⟨_, rfl⟩
  rw [hq] at hco ⊢
  have HCO := hid hco
  have HB := hid hb
  clear hco hb hx hro hcv hr hq
  cases hov : s.over with
  | true =>
    rw [hov] at s2 hw1
    go_enter Tryz.func15, Tryz.ntmps15
    go_wp2_with fail
    rw [hw1.out]
    go_wp2_with fail
    go_ret
    exact ⟨rfl, HB.out⟩
  | false =>
    rw [hov] at s2 hw1
    go_enter Tryz.func15, Tryz.ntmps15
    go_wp2_with fail
    rw [hw1.out]
    go_wp2_with fail
    go_at_call 33
    refine HCO.out.mono ?_
    rintro _ w2 ⟨rfl, hb2⟩
    cases q
    all_goals
      go_wp2_with fail
      go_ret
      exact ⟨rfl, HB.out.trans (hb2.mono HB.out.size)⟩
end Go.Proofs.YtnpcjbdolmmaeaaGreatDoor
namespace Go.Proofs.YtnpcjbdolmmaeaaGreatDoor
open Go.RowKit Go.Maps
set_option maxRecDepth 100000
namespace Cf
open Drv
def d14 : NSt := ⟨0, [⟨0, 0, 4⟩, ⟨0, 0, 5⟩], [3, 3]⟩
def n14 : NNet := { states := [⟨0, [⟨0, 0, 2⟩], []⟩, ⟨0, [], []⟩, d14, ⟨0, [⟨0, 0, 1⟩], []⟩, ⟨0, [⟨1, 0, 3⟩], []⟩, ⟨0, [⟨1, 0, 6⟩], []⟩, ⟨0, [⟨1, 1, 3⟩], []⟩], starts := [0], stops := [1], preds := [], decs := [2] }
def v14 : Vw := ⟨n14, d14, 1⟩
def s14 : St := ⟨[⟨0, 4, [], true, false⟩, ⟨1, 5, [], true, false⟩], [0, 1], false⟩
def t14 : St := ⟨[⟨0, 3, [], true, true⟩], [0], false⟩
theorem may14 : mayNet n14 = true := by decide
theorem new14 : newV n14 0 1 = some v14 := by
  unfold newV
  rw [if_pos ⟨may14, by decide, by decide, by decide, by decide⟩]
  rfl
theorem few14 : fewN n14 := by
  refine ⟨by decide, by decide, by decide, by decide, by decide, ?_⟩
  decide
theorem closed14 : closed v14 (startL v14) = ⟨[⟨0, 4, [], true, false⟩, ⟨1, 5, [], true, false⟩], [⟨0, 4, [], true, false⟩, ⟨1, 5, [], true, false⟩], false⟩ := by kernel_rfl
theorem closed14b : closed v14 (moveL v14 s14 0) = ⟨[⟨0, 3, [], true, false⟩, ⟨1, 6, [], true, false⟩], [⟨0, 3, [], true, true⟩, ⟨1, 6, [], true, false⟩], false⟩ := by kernel_rfl
theorem set14 : IsSet v14 (startL v14) s14 := by
  unfold IsSet
  rw [closed14, if_neg (by decide)]
  refine ⟨rfl, ⟨by unfold Rise; decide, by decide, by decide, by decide⟩, ⟨by decide, fun a => ?_⟩⟩
  simp [s14]
  omega
theorem set14b : IsSet v14 (moveL v14 s14 0) t14 := by
  unfold IsSet
  rw [closed14b, if_neg (by decide)]
  refine ⟨rfl, ⟨by unfold Rise; decide, by decide, by decide, by decide⟩, ⟨by decide, fun a => ?_⟩⟩
  simp [t14]
  omega
end Cf
set_option maxHeartbeats 1600000 in
theorem sameZ1_any (A B : Option Addr) (c d : Nat) (a : List Int) (w : World) (hm : a.length ≤ 1000000000000) (hra : Reads w w.heap.size 1 A a.length (a.map (Value.int .i64))) (hrb : Reads w w.heap.size 1 B a.length (a.map (Value.int .i64))) :
    Calls Tryz.prog 43 #[.slice A a.length c, .slice B a.length d] w fun e w' => e = .returned (.bool true) ∧ Below w.heap.size w w' := by
  go_enter Tryz.func43, Tryz.ntmps43
  go_wp2
  go_loopw [5] (fun i wr => ∃ k : Nat, k ≤ a.length ∧ i = .int .i64 k ∧ Below w.heap.size w wr) (fun i _ => a.length - (intOf i).toNat)
  case atStart => exact ⟨0, Nat.zero_le _, rfl, Below.refl _ _⟩
  case round =>
    obtain ⟨k, hk, rfl, hb⟩ := hrel
    by_cases hlt : k < a.length
    · obtain ⟨b, off, rfl, hbl, c0⟩ := reads_atZ (hra.below hb) k hlt
      obtain ⟨b', off', rfl, hbl', c1⟩ := reads_atZ (hrb.below hb) k hlt
      generalize a[k] = x at c0 c1
      have hx : (x == x) = true := by simp
      have hx' : (x != x) = false := by simp
      go_wp2_with fail
      go_quiet (fail)
      go_wp2
      go_roundw
      case rel => exact ⟨k + 1, by omega, by go_num, below_drewN hb _⟩
      case measure => simp [intOf]; omega
    · go_wp2
      go_ret
      exact ⟨rfl, hb⟩
theorem sameZ_eq (A B : Option Addr) (c d : Nat) (a : List Int) (w : World) (hm : a.length ≤ 1000000000000) (hra : Reads w w.heap.size 1 A a.length (a.map (Value.int .i64))) (hrb : Reads w w.heap.size 1 B a.length (a.map (Value.int .i64))) :
    Calls Tryz.prog 27 #[.slice A a.length c, .slice B a.length d] w fun e w' => e = .returned (.bool true) ∧ Below w.heap.size w w' := by
  go_enter Tryz.func27, Tryz.ntmps27
  go_wp2_with fail
  refine (sameZ1_any A B c d a w hm hra hrb).mono ?_
  rintro e w1 ⟨rfl, hb⟩
  go_wp2_with fail
  go_ret
  exact ⟨rfl, hb⟩
theorem infoEd : (Tryz.prog.info? 86).map (·.size) = some 3 := by kernel_rfl
end Go.Proofs.YtnpcjbdolmmaeaaGreatDoor
