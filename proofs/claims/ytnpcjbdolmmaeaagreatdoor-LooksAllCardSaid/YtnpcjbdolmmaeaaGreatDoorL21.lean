/-
  The document's view in memory; is a configuration one of it? (harbingerref14.View.has): the walk. Printed by wip/gen_cfrh.py out of CfHas.
-/
import Derived.Test.YtnpcjbdolmmaeaaGreatDoorL20
namespace Go.Proofs.YtnpcjbdolmmaeaaGreatDoor
open Go.RowKit Go.Maps
set_option maxRecDepth 100000
def rvCells (SA TA UA QA DA EA XA : Option Addr) (sc tc uc qc dc ec xc : Nat) (v : Cf.Vw) : Array Value :=
  #[.slice SA v.n.states.length sc, .slice TA v.n.starts.length tc, .slice UA v.n.stops.length uc, .slice QA v.n.preds.length qc, .slice DA v.n.decs.length dc, .int .i64 v.d.rule, .slice EA v.d.edges.length ec, .slice XA v.d.ends.length xc, .int .i64 v.bound]
structure RvAt (w : World) (B V : Nat) (a : VwA) (v : Cf.Vw) : Prop where
  blk : w.heap[V]? = some (.cells (rvCells a.SA a.TA a.UA a.QA a.DA a.EA a.XA a.sc a.tc a.uc a.qc a.dc a.ec a.xc v) 99 (0, 0))
  lt : V < B
  net : NetRf w B a.SA a.TA a.UA a.QA a.DA v.n
  edges : Reads w B 3 a.EA v.d.edges.length (flat encEf v.d.edges)
  ends : Reads w B 1 a.XA v.d.ends.length (v.d.ends.map (Value.int .i64))
theorem RvAt.below {w w' : World} {B V : Nat} {a : VwA} {v : Cf.Vw} (h : RvAt w B V a v) (hb : Below B w w') : RvAt w' B V a v :=
  ⟨(hb.block V h.lt).trans h.blk, h.lt, h.net.below hb, h.edges.below hb, h.ends.below hb⟩
set_option maxHeartbeats 4000000 in
theorem rhas_any (x : Cf.Cfg) (A : Option Addr) (c : Nat) (w : World) (B V : Nat) (a : VwA) (v : Cf.Vw) (hv : RvAt w B V a v) (hB : B ≤ w.heap.size) :
    Calls Tryz.prog 37 #[.pointer (some ⟨V, 0, none⟩), .agg #[.int .i64 x.alt, .int .i64 x.state, .slice A x.stack.length c, .bool x.exact, .bool x.ended]] w (BlP (Cf.has v x) w) := by
  rw [has_eq]
  obtain ⟨alt, state, stack, exact, ended⟩ := x
  dsimp only
  obtain ⟨W, hW⟩ : ∃ W, W = w.alloc (.cells #[.int .i64 alt, .int .i64 state, .slice A stack.length c, .bool exact, .bool ended] 103) := ⟨_, rfl⟩
  have hbW : Below w.heap.size w W := by rw [hW]; exact below_new _ _
  have k0 : W.cell? ⟨w.heap.size, 0, none⟩ = some (.int .i64 alt) := by rw [hW, cell_new]; rfl
  have k1 : W.cell? ⟨w.heap.size, 1, none⟩ = some (.int .i64 state) := by rw [hW, cell_new]; rfl
  have hvW := (hv.below (hbW.mono hB)).blk
  have v0 : W.cell? ⟨V, 0, none⟩ = some (.slice a.SA v.n.states.length a.sc) := by rw [Lib.cell_of_heap hvW]; rfl
  have v7 : W.cell? ⟨V, 7, none⟩ = some (.slice a.XA v.d.ends.length a.xc) := by rw [Lib.cell_of_heap hvW]; rfl
  generalize v.d.ends.length = ne at *
  generalize v.n.states.length = ns at *
  have HBW := hid hbW
  clear hbW hvW hv
  by_cases h1 : 0 ≤ alt
  · have f1 : decide (0 ≤ alt) = true := decide_eq_true h1
    rw [f1]
    by_cases h2 : alt < (ne : Int)
    · have f2 : decide (alt < (ne : Int)) = true := decide_eq_true h2
      rw [f2]
      by_cases h3 : 0 ≤ state
      · have f3 : decide (0 ≤ state) = true := decide_eq_true h3
        rw [f3]
        by_cases h4 : state < (ns : Int)
        · have f4 : decide (state < (ns : Int)) = true := decide_eq_true h4
          rw [f4]
          go_enter Tryz.func37, Tryz.ntmps37
          go_wp2_with fail
          rw [← hW]
          clear hW
          go_quiet (fail)
          go_wp2_with fail
          go_ret
          exact BlP.of rfl (below_drewN HBW.out _)
        · have f4 : decide (state < (ns : Int)) = false := decide_eq_false h4
          rw [f4]
          go_enter Tryz.func37, Tryz.ntmps37
          go_wp2_with fail
          rw [← hW]
          clear hW
          go_quiet (fail)
          go_wp2_with fail
          go_ret
          exact BlP.of rfl (below_drewN HBW.out _)
      · have f3 : decide (0 ≤ state) = false := decide_eq_false h3
        rw [f3]
        go_enter Tryz.func37, Tryz.ntmps37
        go_wp2_with fail
        rw [← hW]
        clear hW
        go_quiet (fail)
        go_wp2_with fail
        go_ret
        exact BlP.of rfl (below_drewN HBW.out _)
    · have f2 : decide (alt < (ne : Int)) = false := decide_eq_false h2
      rw [f2]
      go_enter Tryz.func37, Tryz.ntmps37
      go_wp2_with fail
      rw [← hW]
      clear hW
      go_quiet (fail)
      go_wp2_with fail
      go_ret
      exact BlP.of rfl (below_drewN HBW.out _)
  · have f1 : decide (0 ≤ alt) = false := decide_eq_false h1
    rw [f1]
    go_enter Tryz.func37, Tryz.ntmps37
    go_wp2_with fail
    rw [← hW]
    clear hW
    go_quiet (fail)
    go_wp2_with fail
    go_ret
    exact BlP.of rfl (below_drewN HBW.out _)
end Go.Proofs.YtnpcjbdolmmaeaaGreatDoor
namespace Go.Proofs.YtnpcjbdolmmaeaaGreatDoor
open Go.RowKit Go.Maps
set_option maxRecDepth 100000
def altsR (l : List Cf.Cfg) (n : Nat) : List Int := ((List.range n).filter fun a : Nat => l.any fun x => decide (x.alt = (a : Int))).map fun a : Nat => (a : Int)
theorem altsR_succ (l : List Cf.Cfg) (n : Nat) : altsR l (n + 1) = altsR l n ++ if l.any (fun x => decide (x.alt = (n : Int))) = true then [(n : Int)] else [] := by
  unfold altsR
  rw [List.range_succ, List.filter_append, List.map_append]
  congr 1
  by_cases h : l.any (fun x => decide (x.alt = (n : Int))) = true
  · rw [if_pos h, List.filter_cons_of_pos (p := fun a : Nat => l.any fun x => decide (x.alt = (a : Int))) h]; rfl
  · rw [if_neg h, List.filter_cons_of_neg (p := fun a : Nat => l.any fun x => decide (x.alt = (a : Int))) h]; rfl
theorem altsR_len (l : List Cf.Cfg) (n : Nat) : (altsR l n).length ≤ n := by
  unfold altsR
  rw [List.length_map]
  exact Nat.le_trans (List.length_filter_le _ _) (by rw [List.length_range]; exact Nat.le_refl _)
theorem altsR_alts {l : List Cf.Cfg} {n : Nat} (h0 : ∀ x ∈ l, 0 ≤ x.alt) (hn : ∀ x ∈ l, x.alt < n) : Cf.Alts l (altsR l n) := by
  constructor
  · unfold altsR
    rw [List.pairwise_map]
    exact (List.Pairwise.filter _ List.pairwise_lt_range).imp fun h => by omega
  · intro a
    unfold altsR
    simp only [List.mem_map, List.mem_filter, List.mem_range, List.any_eq_true, decide_eq_true_eq]
    constructor
    · rintro ⟨k, ⟨_, x, hx, hk⟩, rfl⟩
      exact ⟨x, hx, hk⟩
    · rintro ⟨x, hx, hk⟩
      have := h0 x hx
      have := hn x hx
      exact ⟨a.toNat, ⟨by omega, x, hx, by omega⟩, by omega⟩
theorem altsR_eq {l : List Cf.Cfg} {n : Nat} (h0 : ∀ x ∈ l, 0 ≤ x.alt) (hn : ∀ x ∈ l, x.alt < n) : altsR l n = altsOf l := Cf.Alts.unique (altsR_alts h0 hn) (altsOf_alts l)
def RalP (l : List Cf.Cfg) (w : World) (e : Ending) (w' : World) : Prop := ∃ v, e = .returned v ∧ w'.ownsRow w.heap.size 3 1 v (altsOf l).length ((altsOf l).map (Value.int .i64)) ∧ Below w.heap.size w w'
set_option maxHeartbeats 4000000 in
theorem ralts_any (l : List Cf.Cfg) (S : Nat → Prop) (A : Option Addr) (c : Nat) (w : World) (hr : CfR w S A l) (hl : l.length ≤ 100000000) (hs : ∀ x ∈ l, 0 ≤ x.alt ∧ x.alt ≤ 1000000) :
    Calls Tryz.prog 64 #[.slice A l.length c] w (RalP l w) := by
  obtain ⟨i0, hi, hz0, hz1, hz2⟩ := info_of infoZ
  have HR := hid (show CfR w (fun _ => False) A l from hr.only (Only.of_below (S := S) (Below.refl _ _)) (fun _ _ h => h.elim))
  have HS := hid hs
  clear hr hs
  go_enter Tryz.func64, Tryz.ntmps64
  go_wp2
  go_loopw [4, 5] (fun m i wr => ∃ (j : Nat) (mm : Int), j ≤ l.length ∧ i = .int .i64 (j : Int) ∧ m = .int .i64 mm ∧ -1 ≤ mm ∧ mm ≤ 1000000 ∧ Hid (Below w.heap.size w wr ∧ ∀ x ∈ l.take j, x.alt ≤ mm)) (fun _ i _ => l.length - (intOf i).toNat)
  case atStart => exact ⟨0, -1, Nat.zero_le _, rfl, rfl, by omega, by omega, hid ⟨Below.refl _ _, fun x hx => by cases hx⟩⟩
  case round =>
    obtain ⟨j, mm, hj, rfl, rfl, hm0, hm1, HI⟩ := hrel
    obtain ⟨hbw, hmx⟩ := HI.out
    have HMX := hid hmx
    have HBW := hid hbw
    clear hmx HI hbw
    by_cases hlt : j < l.length
    · obtain ⟨b, off, B, cb, hA, hbl, _, _, _, r0, r1, r2, r3, r4⟩ := (HR.out.below HBW.out).at j hlt
      have HT := hid (show l.take (j + 1) = l.take j ++ [l[j]] from List.take_succ_eq_append_getElem hlt)
      have hxs := HS.out l[j] (List.getElem_mem hlt)
      have HAX := hid (show ∃ y, y = l[j].alt from ⟨_, rfl⟩)
      obtain ⟨y, hy⟩ := HAX.out
      rw [← hy] at r0 hxs
      have HY := hid hy
      clear hy HAX r1 r2 r3 r4
      have HA := hid hA
      rw [hA]
      clear hA
      go_wp2_with fail
      go_roundw
      case rel =>
        refine ⟨j + 1, max mm y, hlt, by go_num, rfl, by omega, by omega, hid ⟨HBW.out, fun x hx => ?_⟩⟩
        · rw [HT.out] at hx
          rcases List.mem_append.1 hx with h | h
          · have := HMX.out x h; omega
          · rw [List.mem_singleton] at h; rw [h, ← HY.out]; omega
      case measure => simp [intOf]; omega
    · have hje : j = l.length := by omega
      subst hje
      obtain ⟨n, hn⟩ : ∃ n : Nat, (n : Int) = mm + 1 := ⟨(mm + 1).toNat, by omega⟩
      obtain rfl : mm = (n : Int) - 1 := by omega
      have HAL := hid (show altsR l n = altsOf l from altsR_eq (fun x hx => (HS.out x hx).1) fun x hx => by have := HMX.out x (by rw [List.take_length]; exact hx); omega)
      clear hn
      go_wp2
      go_loopw [3, 6] (fun v i wr => ∃ (a : Nat) (V : Value), V = v ∧ a ≤ n ∧ i = .int .i64 (a : Int) ∧ Hid (wr.ownsRow w.heap.size 3 1 V (altsR l a).length ((altsR l a).map (Value.int .i64)) ∧ Below w.heap.size w wr)) (fun _ i _ => n - (intOf i).toNat)
      case atStart => exact ⟨0, _, rfl, Nat.zero_le _, rfl, hid ⟨World.ownsRow_nil wr _ 3 1, HBW.out⟩⟩
      case round =>
        obtain ⟨a, V, rfl, ha, rfl, HI⟩ := hrel
        by_cases hlt2 : a < n
        · have f1 : decide ((a : Int) ≤ (n : Int) - 1) = true := decide_eq_true (by omega)
          have HSU := hid (altsR_succ l a)
          have HLE := hid (altsR_len l a)
          go_wp2
          go_loopw [3, 7] (fun v i w2 => ∃ j : Nat, V = v ∧ j ≤ l.length ∧ i = .int .i64 (j : Int) ∧ Hid (w2.ownsRow w.heap.size 3 1 V (altsR l a).length ((altsR l a).map (Value.int .i64)) ∧ Below w.heap.size w w2 ∧ ∀ x ∈ l.take j, x.alt ≠ (a : Int))) (fun _ i _ => l.length - (intOf i).toNat)
          case atStart => exact ⟨0, rfl, Nat.zero_le _, rfl, hid ⟨HI.out.1, HI.out.2, fun x hx => by cases hx⟩⟩
          case round =>
            obtain ⟨j, rfl, hj, rfl, HJ⟩ := hrel
            by_cases hlt : j < l.length
            · obtain ⟨b, off, B, cb, hA, hbl, _, _, _, r0, r1, r2, r3, r4⟩ := (HR.out.below HJ.out.2.1).at j hlt
              have HT := hid (show l.take (j + 1) = l.take j ++ [l[j]] from List.take_succ_eq_append_getElem hlt)
              have HMM := hid (List.getElem_mem hlt)
              generalize l[j] = x at r0 HT HMM
              have HA := hid hA
              rw [hA]
              clear hA r1 r2 r3 r4
              by_cases he : x.alt = (a : Int)
              · have f2 : (x.alt == (a : Int)) = true := by rw [beq_iff_eq]; exact he
                have HN := hid (show altsR l (a + 1) = altsR l a ++ [(a : Int)] by rw [HSU.out, if_pos (List.any_eq_true.2 ⟨x, HMM.out, by simpa using he⟩)])
                have hown := HJ.out.1
                have hbw := HJ.out.2.1
                have hle := HLE.out
                clear he
                go_wp2_with (at_builtin; (refine wpList_push wr rfl _ _ 23 rfl w.heap.size 3 i0 _ 1 8 Tryz.underlying23 hi hz0 hz1 hz2 rfl (by omega) V _ _ rfl hown [.int .i64 (a : Int)] 1 wr.heap.size rfl (by simp) rfl (by simp [Value.oneCell']) (by simp only [maxLen]; omega) (by omega) hbw.size ?_); intro v' w' hown' hsz' hB')
                rw [← HA.out]
                go_roundw
                case rel => exact ⟨a + 1, v', rfl, hlt2, by go_num, hid ⟨by rw [HN.out, List.length_append, List.map_append]; exact hown', hB' w hbw⟩⟩
                case measure => simp [intOf]; omega
              · have f2 : (x.alt == (a : Int)) = false := by rw [beq_eq_false_iff_ne]; exact he
                have HNE := hid he
                clear he
                go_wp2_with fail
                go_roundw
                case rel =>
                  refine ⟨j + 1, rfl, hlt, by go_num, hid ⟨HJ.out.1, HJ.out.2.1, fun y hy => ?_⟩⟩
                  rw [HT.out] at hy
                  rcases List.mem_append.1 hy with h | h
                  · exact HJ.out.2.2 y h
                  · rw [List.mem_singleton] at h; rw [h]; exact HNE.out
                case measure => simp [intOf]; omega
            · have hje : j = l.length := by omega
              subst hje
              have HN := hid (show altsR l (a + 1) = altsR l a by
                rw [HSU.out, if_neg, List.append_nil]
                intro h
                obtain ⟨x, hx, he⟩ := List.any_eq_true.1 h
                exact HJ.out.2.2 x (by rw [List.take_length]; exact hx) (by simpa using he))
              go_wp2_with fail
              go_roundw
              case rel => exact ⟨a + 1, _, rfl, hlt2, by go_num, hid ⟨by rw [HN.out]; exact HJ.out.1, HJ.out.2.1⟩⟩
              case measure => simp [intOf]; omega
        · have f1 : decide ((a : Int) ≤ (n : Int) - 1) = false := decide_eq_false (by omega)
          have hae : a = n := by omega
          subst hae
          go_wp2
          go_ret
          refine ⟨_, rfl, ?_, HI.out.2⟩
          rw [← HAL.out]
          exact HI.out.1
end Go.Proofs.YtnpcjbdolmmaeaaGreatDoor
