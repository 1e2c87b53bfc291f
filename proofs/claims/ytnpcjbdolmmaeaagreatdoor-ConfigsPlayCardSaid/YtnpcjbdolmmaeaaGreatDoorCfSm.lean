/-
  Is a set the document's (harbingerlaw14.Same)? Where both lie in memory as the same set: yes: the walk.
-/
import Derived.Test.YtnpcjbdolmmaeaaGreatDoorCfRs
import Derived.Test.YtnpcjbdolmmaeaaGreatDoorCfDn
import Derived.Test.YtnpcjbdolmmaeaaGreatDoorCfSt
namespace Go.Proofs.YtnpcjbdolmmaeaaGreatDoor
open Go.RowKit
set_option maxRecDepth 100000
def SameP (w : World) (e : Ending) (w' : World) : Prop := e = .returned (.bool true) ∧ Below w.heap.size w w'
set_option maxHeartbeats 4000000 in
theorem same14_any (s : Cf.St) (CA AA CB AB : Option Addr) (cb ab : Nat) (w : World) (hp : CfR w (fun _ => False) CA s.configs) (ha : Reads w w.heap.size 1 AA s.alts.length (s.alts.map (Value.int .i64))) (hr : CfR w (fun _ => False) CB s.configs)
    (hb : Reads w w.heap.size 1 AB s.alts.length (s.alts.map (Value.int .i64))) (hl : s.configs.length ≤ 1000000) (hla : s.alts.length ≤ 1000000) (hlx : ∀ x ∈ s.configs, x.stack.length ≤ 1000000) :
    Calls Tryz.prog 14 #[setAgg CA AA s, setAggR CB cb AB ab s] w (SameP w) := by
  unfold setAgg setAggR
  have z1 : (w.alloc (.cells #[.slice CA s.configs.length s.configs.length, .slice AA s.alts.length s.alts.length, .bool s.over] 43)).heap.size = w.heap.size + 1 := by simp
  obtain ⟨w1, hw1⟩ : ∃ w1, Hid ((w.alloc (.cells #[.slice CA s.configs.length s.configs.length, .slice AA s.alts.length s.alts.length, .bool s.over] 43)).alloc (.cells #[.slice CB s.configs.length cb, .slice AB s.alts.length ab, .bool s.over] 47) = w1) := ⟨_, hid rfl⟩
  have hb1 : Below w.heap.size w w1 := by rw [← hw1.out]; exact (below_new _ _).alloc (by omega) _
  have h0 : w1.heap[w.heap.size]? = some (.cells #[.slice CA s.configs.length s.configs.length, .slice AA s.alts.length s.alts.length, .bool s.over] 43 (0, 0)) := by
    rw [← hw1.out, Below.heap_alloc _ _ _ (by omega)]; exact heap_alloc_new _ _
  have h1 : w1.heap[w.heap.size + 1]? = some (.cells #[.slice CB s.configs.length cb, .slice AB s.alts.length ab, .bool s.over] 47 (0, 0)) := by
    rw [← hw1.out, ← z1]; exact heap_alloc_new _ _
  have HB1 := hid hb1
  have HP := hid (hp.below hb1)
  have HR := hid (hr.below hb1)
  have HLX := hid hlx
  have hsz := sameZ_eq AA AB s.alts.length ab s.alts w1 (by omega) ((ha.below hb1).more hb1.size) ((hb.below hb1).more hb1.size)
  have HSZ := hid hsz
  have HH0 := hid h0
  have HH1 := hid h1
  obtain ⟨p0, p1, p2⟩ := cells3 h0
  obtain ⟨q0, q1, q2⟩ := cells3 h1
  have hw1l := heap_lt h1
  generalize s.configs = l at p0 q0 hw1 HP HR HLX hl HH0 HH1
  generalize s.alts = A at p1 q1 hw1 HSZ hla HH0 HH1
  rcases Bool.eq_false_or_eq_true s.over with ho | ho
  all_goals (
    rw [ho] at p2 q2 hw1 HH0 HH1 ⊢
    clear hb1 h0 h1 hp ha hr hb hlx hsz z1 ho
    go_enter Tryz.func14, Tryz.ntmps14
    go_upto_region 1 with fail
    rw [hw1.out]
    clear hw1
    go_wp2_with fail
    go_at_call 27
    refine HSZ.out.mono ?_
    rintro _ w2 ⟨rfl, hb2⟩
    have hh0 := (hb2.block w.heap.size (by omega)).trans HH0.out
    have hh1 := (hb2.block (w.heap.size + 1) (by omega)).trans HH1.out
    obtain ⟨p0, p1, p2⟩ := cells3 hh0
    obtain ⟨q0, q1, q2⟩ := cells3 hh1
    have HB2 := hid hb2
    clear hb2 hh0 hh1
    go_wp2_with fail
    go_loopw [5] (fun i wr => ∃ j : Nat, j ≤ l.length ∧ i = .int .i64 (j : Int) ∧ Hid (Below w1.heap.size w1 wr)) (fun i _ => l.length - (intOf i).toNat)
    case atStart => exact ⟨0, Nat.zero_le _, rfl, HB2⟩
    case round =>
      clear p0 p1 p2 q0 q1 q2
      obtain ⟨j, hj, rfl, HI⟩ := hrel
      have hh0 := (HI.out.block w.heap.size (by omega)).trans HH0.out
      have hh1 := (HI.out.block (w.heap.size + 1) (by omega)).trans HH1.out
      obtain ⟨p0, p1, p2⟩ := cells3 hh0
      obtain ⟨q0, q1, q2⟩ := cells3 hh1
      clear p1 p2 q1 q2 hh0 hh1
      by_cases hlt : j < l.length
      · obtain ⟨b, off, B, c, hA, hbl, _, hfar⟩ := HP.out.far j hlt
        obtain ⟨b', off', B', c', hA', hbl', _, hfar'⟩ := HR.out.far j hlt
        have hst := HLX.out _ (List.getElem_mem hlt)
        generalize l[j] = x at hfar hfar' hst
        obtain ⟨_, r0, r1, r2, r3, r4⟩ := hfar wr HI.out
        have hsr := HI.out.size
        have hn1 := heap_alloc_new wr (.cells #[.int .i64 x.alt, .int .i64 x.state, .slice B x.stack.length c, .bool x.exact, .bool x.ended] 89)
        have hbn1 := below_new wr (.cells #[.int .i64 x.alt, .int .i64 x.state, .slice B x.stack.length c, .bool x.exact, .bool x.ended] 89)
        obtain ⟨wa, hwa⟩ : ∃ wa, Hid (wr.alloc (.cells #[.int .i64 x.alt, .int .i64 x.state, .slice B x.stack.length c, .bool x.exact, .bool x.ended] 89) = wa) := ⟨_, hid rfl⟩
        rw [hwa.out] at hn1 hbn1
        obtain ⟨_, r0', r1', r2', r3', r4'⟩ := hfar' wa (HI.out.trans (hbn1.mono hsr))
        have q0a := (hbn1.cell (p := ⟨w.heap.size + 1, 0, none⟩) (by show w.heap.size + 1 < wr.heap.size; omega)).trans q0
        have hn2 := heap_alloc_new wa (.cells #[.int .i64 x.alt, .int .i64 x.state, .slice B' x.stack.length c', .bool x.exact, .bool x.ended] 103)
        have hbn2 := below_new wa (.cells #[.int .i64 x.alt, .int .i64 x.state, .slice B' x.stack.length c', .bool x.exact, .bool x.ended] 103)
        obtain ⟨wb, hwb⟩ : ∃ wb, Hid (wa.alloc (.cells #[.int .i64 x.alt, .int .i64 x.state, .slice B' x.stack.length c', .bool x.exact, .bool x.ended] 103) = wb) := ⟨_, hid rfl⟩
        rw [hwb.out] at hn2 hbn2
        have hna := heap_lt hn1
        have hn1 := (hbn2.block _ hna).trans hn1
        have hbb : Below w1.heap.size w1 wb := HI.out.trans ((hbn1.trans (hbn2.mono hbn1.size)).mono hsr)
        obtain ⟨hro, _⟩ := hfar wb hbb
        obtain ⟨hro', _⟩ := hfar' wb hbb
        have hsz := sameZ_eq B B' c c' x.stack wb (by omega) hro.reads hro'.reads
        have k0 : wb.cell? ⟨wr.heap.size, 0, none⟩ = some (.int .i64 x.alt) := by rw [Lib.cell_of_heap hn1]; rfl
        have k1 : wb.cell? ⟨wr.heap.size, 1, none⟩ = some (.int .i64 x.state) := by rw [Lib.cell_of_heap hn1]; rfl
        have k2 : wb.cell? ⟨wr.heap.size, 2, none⟩ = some (.slice B x.stack.length c) := by rw [Lib.cell_of_heap hn1]; rfl
        have k3 : wb.cell? ⟨wr.heap.size, 3, none⟩ = some (.bool x.exact) := by rw [Lib.cell_of_heap hn1]; rfl
        have k4 : wb.cell? ⟨wr.heap.size, 4, none⟩ = some (.bool x.ended) := by rw [Lib.cell_of_heap hn1]; rfl
        have m0 : wb.cell? ⟨wa.heap.size, 0, none⟩ = some (.int .i64 x.alt) := by rw [Lib.cell_of_heap hn2]; rfl
        have m1 : wb.cell? ⟨wa.heap.size, 1, none⟩ = some (.int .i64 x.state) := by rw [Lib.cell_of_heap hn2]; rfl
        have m2 : wb.cell? ⟨wa.heap.size, 2, none⟩ = some (.slice B' x.stack.length c') := by rw [Lib.cell_of_heap hn2]; rfl
        have m3 : wb.cell? ⟨wa.heap.size, 3, none⟩ = some (.bool x.exact) := by rw [Lib.cell_of_heap hn2]; rfl
        have m4 : wb.cell? ⟨wa.heap.size, 4, none⟩ = some (.bool x.ended) := by rw [Lib.cell_of_heap hn2]; rfl
        have HS2 := hid hsz
        have HBB := hid hbb
        rw [hA] at p0
        rw [hA'] at q0 q0a
        clear hsz hbb hro hro' hfar hfar' hA hA' hn1 hn2 hbn1 hbn2
        go_upto_region 7 with fail
        rw [hwa.out]
        clear r0 r1 r2 r3 r4 p0 q0
        go_upto_region 8 with fail
        rw [hwb.out]
        clear r0' r1' r2' r3' r4' q0a
        generalize x.alt = xa at *
        generalize x.state = xs at *
        have f1 : (xa != xa) = false := by simp
        have f2 : (xs != xs) = false := by simp
        rcases Bool.eq_false_or_eq_true x.exact with he | he
        all_goals (
          rw [he] at k3 m3
          rcases Bool.eq_false_or_eq_true x.ended with hd | hd
          all_goals (
            rw [hd] at k4 m4
            go_wp2_with fail
            go_at_call 27
            refine HS2.out.mono ?_
            rintro _ w5 ⟨rfl, hb5⟩
            have HB5 := hid (HBB.out.trans (hb5.mono HBB.out.size))
            clear hb5
            go_wp2_with fail
            go_roundw
            case rel => exact ⟨j + 1, hlt, by go_num, HB5⟩
            case measure => simp [intOf]; omega))
      · have hje : j = l.length := by omega
        subst hje
        go_wp2_with fail
        go_ret
        exact ⟨rfl, HB1.out.trans (HI.out.mono HB1.out.size)⟩)
end Go.Proofs.YtnpcjbdolmmaeaaGreatDoor

/-
  A set that was answered is spoilt (harbingerlaw14.spoil): what there was ahead of the set stays: the walk.
-/
namespace Go.Proofs.YtnpcjbdolmmaeaaGreatDoor
open Go.RowKit
set_option maxRecDepth 100000
/-- a row of numbers that may be written -/
def WrZ (w : World) (B : Nat) (A : Option Addr) (n : Nat) : Prop := n = 0 ∨ ∃ g cs, A = some ⟨g, 0, none⟩ ∧ B ≤ g ∧ w.heap[g]? = some (.cells cs 3 (0, 0)) ∧ n ≤ cs.size
theorem WrZ.set {w : World} {B n : Nat} {A : Option Addr} (h : WrZ w B A n) (b o : Nat) (v : Value) : WrZ (w.setCell ⟨b, o, none⟩ v) B A n := by
  rcases h with h | ⟨g, cs, hA, hg, hh, hn⟩
  · exact .inl h
  · by_cases e : g = b
    · subst e
      exact .inr ⟨g, _, hA, hg, heap_setCell_same w g o cs _ v hh, by simpa using hn⟩
    · exact .inr ⟨g, cs, hA, hg, (heap_setCell_other w ⟨b, o, none⟩ g v e).trans hh, hn⟩
theorem WrZ.below {w w' : World} {B n : Nat} {A : Option Addr} (h : WrZ w B A n) (hb : Below w.heap.size w w') : WrZ w' B A n := by
  rcases h with h | ⟨g, cs, hA, hg, hh, hn⟩
  · exact .inl h
  · exact .inr ⟨g, cs, hA, hg, (hb.block g (heap_lt hh)).trans hh, hn⟩
theorem WrZ.of {w : World} {B n : Nat} {A : Option Addr} {xs : List Value} (h : OwnC w B 3 1 (.slice A n n) n xs) : WrZ w B A n := by
  rcases h.2 with ⟨_, h0⟩ | ⟨g, c, cur, hv, hg, hh, h3, _, h5, _⟩
  · exact .inl h0
  · injection hv with hv _ _
    exact .inr ⟨g, cur, hv, hg, hh, by omega⟩
/-- a row of configurations with stacks of these lengths, that may be written -/
def WrC (w : World) (B : Nat) (CA : Option Addr) (ns : List Nat) : Prop := ns = [] ∨ ∃ g cs, CA = some ⟨g, 0, none⟩ ∧ B ≤ g ∧ w.heap[g]? = some (.cells cs 89 (0, 0)) ∧ ns.length * 5 ≤ cs.size ∧ ∀ i (h : i < ns.length), ∃ A c, cs[i*5+2]? = some (.slice A ns[i] c) ∧ ns[i] ≤ c ∧ WrZ w B A ns[i]
theorem WrC.setZ {w : World} {B : Nat} {CA : Option Addr} {ns : List Nat} (h : WrC w B CA ns) {b : Nat} {cz : Array Value} (hb : w.heap[b]? = some (.cells cz 3 (0, 0))) (o : Nat) (v : Value) : WrC (w.setCell ⟨b, o, none⟩ v) B CA ns := by
  rcases h with h | ⟨g, cs, hA, hg, hh, hn, hk⟩
  · exact .inl h
  · have e : g ≠ b := fun e => by
      subst e
      rw [hh] at hb
      injection hb with hb
      injection hb with _ h2
      exact absurd h2 (by decide)
    exact .inr ⟨g, cs, hA, hg, (heap_setCell_other w ⟨b, o, none⟩ g v e).trans hh, hn, fun i hi => by
      obtain ⟨A, c, h1, h2, h3⟩ := hk i hi
      exact ⟨A, c, h1, h2, h3.set b o v⟩⟩
theorem WrC.setA {w : World} {B g : Nat} {ns : List Nat} (h : WrC w B (some ⟨g, 0, none⟩) ns) (i : Nat) (v : Value) : WrC (w.setCell ⟨g, i * 5, none⟩ v) B (some ⟨g, 0, none⟩) ns := by
  rcases h with h | ⟨g', cs, hA, hg, hh, hn, hk⟩
  · exact .inl h
  · injection hA with hA
    injection hA with hA _ _
    subst hA
    refine .inr ⟨g, _, rfl, hg, heap_setCell_same w g (i * 5) cs _ v hh, by simpa using hn, fun j hj => ?_⟩
    obtain ⟨A, c, h1, h2, h3⟩ := hk j hj
    refine ⟨A, c, ?_, h2, h3.set g (i * 5) v⟩
    rw [Array.getElem?_setIfInBounds_ne (by omega)]
    exact h1
theorem CfsO.at2 {w : World} {B : Nat} : ∀ {l : List Cf.Cfg} {vs : List Value}, CfsO w B l vs → ∀ (i : Nat) (hi : i < l.length), ∃ A, vs[i*5+2]? = some (.slice A l[i].stack.length l[i].stack.length) ∧ OwnC w B 3 1 (.slice A l[i].stack.length l[i].stack.length) l[i].stack.length (l[i].stack.map (Value.int .i64))
  | [], _, _, _, hi => absurd hi (Nat.not_lt_zero _)
  | x :: l, vs, h, i, hi => by
    obtain ⟨A, b, e, h1, h2⟩ := h
    cases i with
    | zero => exact ⟨A, by rw [e]; rfl, h1⟩
    | succ i =>
      obtain ⟨A', h3, h4⟩ := h2.at2 i (by simpa using hi)
      refine ⟨A', ?_, h4⟩
      rw [e, List.getElem?_append_right (by show 5 ≤ _; omega)]
      rw [show (i + 1) * 5 + 2 - (cfC x A x.stack.length).length = i * 5 + 2 by show (i + 1) * 5 + 2 - 5 = _; omega]
      exact h3
def lensOf (s : Cf.St) : List Nat := s.configs.map fun x => x.stack.length
theorem SetIn.wrc {w : World} {B : Nat} {CA AA : Option Addr} {s : Cf.St} (h : SetIn w B CA AA s) : WrC w B CA (lensOf s) := by
  obtain ⟨vs, h1, h2⟩ := h.cfg
  unfold lensOf
  rcases h1.2 with ⟨_, h0⟩ | ⟨g, c, cur, hv, hg, hh, h3, _, h5, h6⟩
  · exact .inl (by rw [List.eq_nil_of_length_eq_zero h0]; rfl)
  · injection hv with hv _ _
    refine .inr ⟨g, cur, hv, hg, hh, by rw [List.length_map]; omega, fun i hi => ?_⟩
    rw [List.length_map] at hi
    obtain ⟨A, h7, h8⟩ := h2.at2 i hi
    refine ⟨A, s.configs[i].stack.length, ?_, by simp, by simpa using WrZ.of h8⟩
    rw [← h6, List.getElem?_take] at h7
    split at h7
    · simpa using h7
    · cases h7
/-- amid the spoiling -/
structure Spl (w0 : World) (B box : Nat) (CA AA : Option Addr) (ns : List Nat) (nA : Nat) (o : Bool) (wr : World) : Prop where
  c : WrC wr B CA ns
  z : WrZ wr B AA nA
  below : Below B w0 wr
  blk : wr.heap[box]? = some (.cells #[.slice CA ns.length ns.length, .slice AA nA nA, .bool o] 43 (0, 0))
theorem set_ge {w w0 : World} {B b : Nat} (h : Below B w0 w) (hb : B ≤ b) (hs : B ≤ w.heap.size) (o : Nat) (v : Value) : Below B w0 (w.setCell ⟨b, o, none⟩ v) := h.trans ((Only.of_set w b o v).below' (fun k e => by omega) hs)
theorem Spl.setZ {w0 wr : World} {B box nA : Nat} {CA AA : Option Addr} {ns : List Nat} {o : Bool} (h : Spl w0 B box CA AA ns nA o wr) {b : Nat} {cz : Array Value} (hb : wr.heap[b]? = some (.cells cz 3 (0, 0))) (hB : B ≤ b) (i : Nat) (v : Value) : Spl w0 B box CA AA ns nA o (wr.setCell ⟨b, i, none⟩ v) := by
  have e : box ≠ b := fun e => by
    subst e
    have h1 := h.blk
    rw [hb] at h1
    injection h1 with h1
    injection h1 with _ h2
    exact absurd h2 (by decide)
  exact ⟨h.c.setZ hb i v, h.z.set b i v, set_ge h.below hB (by have := heap_lt hb; omega) i v, (heap_setCell_other wr ⟨b, i, none⟩ box v e).trans h.blk⟩
theorem Spl.setA {w0 wr : World} {B box nA g : Nat} {AA : Option Addr} {ns : List Nat} {o : Bool} (h : Spl w0 B box (some ⟨g, 0, none⟩) AA ns nA o wr) {cz : Array Value} (hb : wr.heap[g]? = some (.cells cz 89 (0, 0))) (hB : B ≤ g) (i : Nat) (v : Value) : Spl w0 B box (some ⟨g, 0, none⟩) AA ns nA o (wr.setCell ⟨g, i * 5, none⟩ v) := by
  have e : box ≠ g := fun e => by
    subst e
    have h1 := h.blk
    rw [hb] at h1
    injection h1 with h1
    injection h1 with _ h2
    exact absurd h2 (by decide)
  exact ⟨h.c.setA i v, h.z.set g (i * 5) v, set_ge h.below hB (by have := heap_lt hb; omega) _ v, (heap_setCell_other wr ⟨g, i * 5, none⟩ box v e).trans h.blk⟩
set_option maxHeartbeats 4000000 in
theorem spoil_any (s : Cf.St) (CA AA : Option Addr) (B : Nat) (w : World) (h : SetIn w B CA AA s) (hB : B ≤ w.heap.size) (hl : s.configs.length ≤ 1000000) (hla : s.alts.length ≤ 1000000) (hlx : ∀ x ∈ s.configs, x.stack.length ≤ 1000000) :
    Calls Tryz.prog 11 #[setAgg CA AA s] w fun e w' => e = .returned (.tuple #[]) ∧ Below B w w' := by
  unfold setAgg
  have hbn := below_new w (.cells #[.slice CA s.configs.length s.configs.length, .slice AA s.alts.length s.alts.length, .bool s.over] 43)
  have hxn := heap_alloc_new w (.cells #[.slice CA s.configs.length s.configs.length, .slice AA s.alts.length s.alts.length, .bool s.over] 43)
  obtain ⟨w1, hw1⟩ : ∃ w1, Hid (w.alloc (.cells #[.slice CA s.configs.length s.configs.length, .slice AA s.alts.length s.alts.length, .bool s.over] 43) = w1) := ⟨_, hid rfl⟩
  rw [hw1.out] at hbn hxn
  have hsp : Spl w B w.heap.size CA AA (lensOf s) s.alts.length s.over w1 := ⟨(h.below hbn).wrc, WrZ.of (h.below hbn).alts, hbn.mono hB, by rw [hxn]; unfold lensOf; rw [List.length_map]⟩
  have hln : (lensOf s).length = s.configs.length := by unfold lensOf; rw [List.length_map]
  have hlm : ∀ n ∈ lensOf s, n ≤ 1000000 := fun n hn => by
    obtain ⟨x, hx, rfl⟩ := List.mem_map.1 hn
    exact hlx x hx
  rw [← hln] at hl hw1 ⊢
  generalize lensOf s = ns at hsp hl hw1 hlm ⊢
  generalize s.alts.length = nA at hsp hla hw1 ⊢
  generalize s.over = ov at hsp hw1 ⊢
  have HSP := hid hsp
  have HLM := hid hlm
  clear hsp hlm hln h hbn hxn hlx
  go_enter Tryz.func11, Tryz.ntmps11
  go_upto_block 0 with fail
  rw [hw1.out]
  clear hw1
  go_wp2_with fail
  go_loopw [2] (fun i wr => ∃ j : Nat, j ≤ nA ∧ i = .int .i64 (j : Int) ∧ Hid (Spl w B w.heap.size CA AA ns nA ov wr)) (fun i _ => nA - (intOf i).toNat)
  case atStart => exact ⟨0, Nat.zero_le _, rfl, HSP⟩
  case round =>
    obtain ⟨j, hj, rfl, HI⟩ := hrel
    have b1 : wr.cell? ⟨w.heap.size, 1, none⟩ = some (.slice AA nA nA) := by rw [Lib.cell_of_heap HI.out.blk]; rfl
    by_cases hlt : j < nA
    · obtain ⟨g, cs, hA, hg, hh, hn⟩ := HI.out.z.resolve_left (by omega)
      have z9 : wr.frozen? ⟨g, j, none⟩ = false := Lib.frozen_of_heap hh j
      have c9 : wr.cell? ⟨g, j, none⟩ = some (cs[j]'(by omega)) := by rw [Lib.cell_of_heap hh, Array.getElem?_eq_getElem (by omega)]
      have HFIN := hid (HI.out.setZ hh hg j (.int .i64 (-7)))
      generalize cs[j]'(by omega) = old at c9
      rw [hA] at b1
      clear hh hA
      go_wp2_with fail
      go_roundw
      case rel => exact ⟨j + 1, hlt, by go_num, HFIN⟩
      case measure => simp [intOf]; omega
    · go_wp2_with fail
      go_loopw [3, 4] (fun i _ wq => ∃ k : Nat, k ≤ ns.length ∧ i = .int .i64 (k : Int) ∧ Hid (Spl w B w.heap.size CA AA ns nA ov wq)) (fun i _ _ => ns.length - (intOf i).toNat)
      case atStart => exact ⟨0, Nat.zero_le _, rfl, HI⟩
      case round =>
        rename World => wq
        obtain ⟨k, hk, rfl, HK⟩ := hrel
        have b0 : wq.cell? ⟨w.heap.size, 0, none⟩ = some (.slice CA ns.length ns.length) := by rw [Lib.cell_of_heap HK.out.blk]; rfl
        by_cases hlk : k < ns.length
        · go_wp2_with fail
          obtain ⟨m, hm⟩ : ∃ m, ns[k] = m := ⟨_, rfl⟩
          go_loopw [4] (fun i wi => ∃ p : Nat, p ≤ m ∧ i = .int .i64 (p : Int) ∧ Hid (Spl w B w.heap.size CA AA ns nA ov wi)) (fun i _ => m - (intOf i).toNat)
          case atStart => exact ⟨0, Nat.zero_le _, rfl, HK⟩
          case round =>
            rename World => wi
            obtain ⟨p, hp, rfl, HP⟩ := hrel
            obtain ⟨g, cs, hA, hg, hh, hn, hx⟩ := HP.out.c.resolve_left (fun e => by rw [e] at hlk; exact absurd hlk (Nat.not_lt_zero _))
            obtain ⟨A2, c2, h2, hc2, hz⟩ := hx k hlk
            have hml := HLM.out _ (List.getElem_mem hlk)
            rw [hm] at h2 hz hc2 hml
            have b0 : wi.cell? ⟨w.heap.size, 0, none⟩ = some (.slice (some ⟨g, 0, none⟩) ns.length ns.length) := by rw [← hA, Lib.cell_of_heap HP.out.blk]; rfl
            have c2 : wi.cell? ⟨g, k * 5 + 2, none⟩ = some (.slice A2 m c2) := by rw [Lib.cell_of_heap hh]; exact h2
            by_cases hlp : p < m
            · obtain ⟨g2, cs2, hA2, hg2, hh2, hn2⟩ := hz.resolve_left (by omega)
              have z9 : wi.frozen? ⟨g2, p, none⟩ = false := Lib.frozen_of_heap hh2 p
              have c9 : wi.cell? ⟨g2, p, none⟩ = some (cs2[p]'(by omega)) := by rw [Lib.cell_of_heap hh2, Array.getElem?_eq_getElem (by omega)]
              have HFIN := hid (HP.out.setZ hh2 hg2 p (.int .i64 (-7)))
              generalize cs2[p]'(by omega) = old at c9
              rw [hA2] at c2
              clear hh hh2 hA hA2 hx hz h2 hm
              go_wp2_with fail
              go_roundw
              case rel => exact ⟨p + 1, hlp, by go_num, HFIN⟩
              case measure => simp [intOf]; omega
            · have z9 : wi.frozen? ⟨g, k * 5, none⟩ = false := Lib.frozen_of_heap hh (k * 5)
              have c9 : wi.cell? ⟨g, k * 5, none⟩ = some (cs[k * 5]'(by omega)) := by rw [Lib.cell_of_heap hh, Array.getElem?_eq_getElem (by omega)]
              have HFIN : Hid (Spl w B w.heap.size CA AA ns nA ov (wi.setCell ⟨g, k * 5, none⟩ (.int .i64 (-7)))) := hid (by
                have := HP.out
                rw [hA] at this ⊢
                exact this.setA hh hg k (.int .i64 (-7)))
              generalize cs[k * 5]'(by omega) = old at c9
              clear hh hA hx hz h2 hm
              go_wp2_with fail
              go_roundw
              case rel => exact ⟨k + 1, hlk, by go_num, HFIN⟩
              case measure => simp [intOf]; omega
        · go_wp2_with fail
          go_end0
          exact ⟨rfl, HK.out.below⟩
end Go.Proofs.YtnpcjbdolmmaeaaGreatDoor
