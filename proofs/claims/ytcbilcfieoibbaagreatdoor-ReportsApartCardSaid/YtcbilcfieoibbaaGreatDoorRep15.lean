/-
  What came in, opened: places, faults, problems, rules, grammars. Printed by gen_rep15.py.
-/
import Derived.Test.YtcbilcfieoibbaaGreatDoorRep14
import Derived.Test.YtcbilcfieoibbaaGreatDoorOpn0
namespace Go.Proofs.YtcbilcfieoibbaaGreatDoor
open Go.ChangeShapes Go.WideShapes Go.Deep Go.RowKit
set_option maxRecDepth 100000
theorem sp_at {H : Type} {enc : TypeId × Value → H} {W : World} {spare : Nat → Bool} {held : Bool} {fuel : Nat} {cs : List Value} {x : DataW H × List MemPlace} {t : TypeId} {fs : Array Field} (hu : Tryz.prog.underlying t = some (.struct fs))
    (ht : DataW.trod enc Tryz.prog W 0 spare held fuel t cs = some x) (hfit : Fits x.1 t) :
    ∃ n', cs.length = Tryz.prog.cellsOf t ∧ ∀ (i : Nat) (f : Field), fs[i]? = some f → ∃ y, DataW.trod enc Tryz.prog W 0 spare held n' f.type ((cs.drop f.offset).take (Tryz.prog.cellsOf f.type)) = some y ∧ Fits y.1 f.type := by
  obtain ⟨ys, n', _, hy, hlen, hyl, hf⟩ := DataW.trod_struct hu ht
  refine ⟨n', hlen, fun i f hi => ?_⟩
  have hil : i < ys.length := by rw [hyl]; exact (Array.getElem?_eq_some_iff.1 hi).1
  have q : ys[i]? = some (ys[i]'hil) := List.getElem?_eq_getElem _
  refine ⟨_, (hf i f hi).trans q, ?_⟩
  subst hy
  exact Fits.struct hu hfit i f _ hi (by rw [List.getElem?_map, q]; rfl)
theorem open_u8 {H : Type} {enc : TypeId × Value → H} {W : World} {spare : Nat → Bool} {held : Bool} {fuel : Nat} {cs : List Value} {x : DataW H × List MemPlace} (t : TypeId) (hT : Tryz.prog.underlying t = some (.int .u8))
    (h : DataW.trod enc Tryz.prog W 0 spare held fuel t cs = some x) : ∃ n : Nat, cs = [.int .u8 (n : Nat)] ∧ n < 256 := by
  obtain ⟨n, e, _, w⟩ := DataW.trod_int hT h
  have hw : 0 ≤ n ∧ n ≤ 255 := by simp [Lit.wf, IntKind.min, IntKind.max, IntKind.signed, IntKind.bits] at w; exact w
  exact ⟨n.toNat, by rw [e]; congr 2; omega, by omega⟩
theorem open_str {H : Type} {enc : TypeId × Value → H} {W : World} {spare : Nat → Bool} {held : Bool} {fuel : Nat} {cs : List Value} {x : DataW H × List MemPlace} (t : TypeId) (hT : Tryz.prog.underlying t = some .string)
    (h : DataW.trod enc Tryz.prog W 0 spare held fuel t cs = some x) (hfit : Fits x.1 t) : ∃ l : List UInt8, cs = [.string ⟨l.toArray⟩] ∧ l.length ≤ 140737488351232 := by
  obtain ⟨s, e, hx, _⟩ := DataW.trod_string hT h
  subst hx
  refine ⟨s.data.toList, by rw [e], ?_⟩
  unfold Fits at hfit
  simp [DataW.weights, reachBytes] at hfit
  have h2 := of_decide_eq_true hfit
  simpa using h2
theorem open_Pos {H : Type} {enc : TypeId × Value → H} {W : World} {spare : Nat → Bool} {held : Bool} {fuel : Nat} {cs : List Value} {x : DataW H × List MemPlace} (hcl : cs.length = 3)
    (ht : DataW.trod enc Tryz.prog W 0 spare held fuel 24 cs = some x) (hfit : Fits x.1 24) : ∃ a l c : Int, cs = [.int .i64 a, .int .i64 l, .int .i64 c] ∧ i64b l ∧ i64b c := by
  obtain ⟨n, hlen, h⟩ := sp_at Tryz.underlying24 ht hfit
  match cs, hcl with
  | [c0, c1, c2], _ =>
    obtain ⟨y0, h0, f0⟩ := h 0 _ rfl
    change DataW.trod enc Tryz.prog W 0 spare held n 3 (([c0, c1, c2].drop 0).take (Tryz.prog.cellsOf 3)) = some y0 at h0
    rw [show Tryz.prog.cellsOf 3 = 1 by kernel_rfl] at h0
    change DataW.trod enc Tryz.prog W 0 spare held n 3 [c0] = some y0 at h0
    change Fits y0.1 3 at f0
    obtain ⟨y1, h1, f1⟩ := h 1 _ rfl
    change DataW.trod enc Tryz.prog W 0 spare held n 3 (([c0, c1, c2].drop 1).take (Tryz.prog.cellsOf 3)) = some y1 at h1
    rw [show Tryz.prog.cellsOf 3 = 1 by kernel_rfl] at h1
    change DataW.trod enc Tryz.prog W 0 spare held n 3 [c1] = some y1 at h1
    change Fits y1.1 3 at f1
    obtain ⟨y2, h2, f2⟩ := h 2 _ rfl
    change DataW.trod enc Tryz.prog W 0 spare held n 3 (([c0, c1, c2].drop 2).take (Tryz.prog.cellsOf 3)) = some y2 at h2
    rw [show Tryz.prog.cellsOf 3 = 1 by kernel_rfl] at h2
    change DataW.trod enc Tryz.prog W 0 spare held n 3 [c2] = some y2 at h2
    change Fits y2.1 3 at f2
    obtain ⟨a, e0, _⟩ := open_i64 3 Tryz.underlying3 h0
    obtain ⟨l, e1, o1⟩ := open_i64 3 Tryz.underlying3 h1
    obtain ⟨c, e2, o2⟩ := open_i64 3 Tryz.underlying3 h2
    injection e0 with e0 _
    injection e1 with e1 _
    injection e2 with e2 _
    subst e0 e1 e2
    exact ⟨a, l, c, rfl, o1, o2⟩
theorem open_Flt {H : Type} {enc : TypeId × Value → H} {W : World} {spare : Nat → Bool} {held : Bool} {fuel : Nat} {cs : List Value} {x : DataW H × List MemPlace} (hcl : cs.length = 4)
    (ht : DataW.trod enc Tryz.prog W 0 spare held fuel 26 cs = some x) (hfit : Fits x.1 26) : ∃ e a l c : Int, cs = [.int .i64 e, .int .i64 a, .int .i64 l, .int .i64 c] ∧ i64b e ∧ i64b l ∧ i64b c := by
  obtain ⟨n, hlen, h⟩ := sp_at Tryz.underlying26 ht hfit
  match cs, hcl with
  | [c0, c1, c2, c3], _ =>
    obtain ⟨y0, h0, f0⟩ := h 0 _ rfl
    change DataW.trod enc Tryz.prog W 0 spare held n 22 (([c0, c1, c2, c3].drop 0).take (Tryz.prog.cellsOf 22)) = some y0 at h0
    rw [show Tryz.prog.cellsOf 22 = 1 by kernel_rfl] at h0
    change DataW.trod enc Tryz.prog W 0 spare held n 22 [c0] = some y0 at h0
    change Fits y0.1 22 at f0
    obtain ⟨y1, h1, f1⟩ := h 1 _ rfl
    change DataW.trod enc Tryz.prog W 0 spare held n 24 (([c0, c1, c2, c3].drop 1).take (Tryz.prog.cellsOf 24)) = some y1 at h1
    rw [show Tryz.prog.cellsOf 24 = 3 by kernel_rfl] at h1
    change DataW.trod enc Tryz.prog W 0 spare held n 24 [c1, c2, c3] = some y1 at h1
    change Fits y1.1 24 at f1
    obtain ⟨e, e0, o0⟩ := open_i64 22 Tryz.underlying22 h0
    obtain ⟨a, l, c, e1, o1, o2⟩ := open_Pos rfl h1 f1
    injection e0 with e0 _
    injection e1 with e1 e2
    injection e2 with e2 e3
    injection e3 with e3 _
    subst e0 e1 e2 e3
    exact ⟨e, a, l, c, rfl, o0, o1, o2⟩
theorem open_Prb {H : Type} {enc : TypeId × Value → H} {W : World} {spare : Nat → Bool} {held : Bool} {fuel : Nat} {cs : List Value} {x : DataW H × List MemPlace} (hcl : cs.length = 3)
    (ht : DataW.trod enc Tryz.prog W 0 spare held fuel 34 cs = some x) (hfit : Fits x.1 34) : ∃ (k : Nat) (i : Int) (s : List UInt8), cs = [.int .u8 (k : Nat), .int .i64 i, .string ⟨s.toArray⟩] ∧ k < 256 ∧ i64b i ∧ s.length ≤ 140737488351232 := by
  obtain ⟨n, hlen, h⟩ := sp_at Tryz.underlying34 ht hfit
  match cs, hcl with
  | [c0, c1, c2], _ =>
    obtain ⟨y0, h0, f0⟩ := h 0 _ rfl
    change DataW.trod enc Tryz.prog W 0 spare held n 32 (([c0, c1, c2].drop 0).take (Tryz.prog.cellsOf 32)) = some y0 at h0
    rw [show Tryz.prog.cellsOf 32 = 1 by kernel_rfl] at h0
    change DataW.trod enc Tryz.prog W 0 spare held n 32 [c0] = some y0 at h0
    change Fits y0.1 32 at f0
    obtain ⟨y1, h1, f1⟩ := h 1 _ rfl
    change DataW.trod enc Tryz.prog W 0 spare held n 3 (([c0, c1, c2].drop 1).take (Tryz.prog.cellsOf 3)) = some y1 at h1
    rw [show Tryz.prog.cellsOf 3 = 1 by kernel_rfl] at h1
    change DataW.trod enc Tryz.prog W 0 spare held n 3 [c1] = some y1 at h1
    change Fits y1.1 3 at f1
    obtain ⟨y2, h2, f2⟩ := h 2 _ rfl
    change DataW.trod enc Tryz.prog W 0 spare held n 9 (([c0, c1, c2].drop 2).take (Tryz.prog.cellsOf 9)) = some y2 at h2
    rw [show Tryz.prog.cellsOf 9 = 1 by kernel_rfl] at h2
    change DataW.trod enc Tryz.prog W 0 spare held n 9 [c2] = some y2 at h2
    change Fits y2.1 9 at f2
    obtain ⟨k, e0, o0⟩ := open_u8 32 Tryz.underlying32 h0
    obtain ⟨i, e1, o1⟩ := open_i64 3 Tryz.underlying3 h1
    obtain ⟨s, e2, o2⟩ := open_str 9 Tryz.underlying9 h2 f2
    injection e0 with e0 _
    injection e1 with e1 _
    injection e2 with e2 _
    subst e0 e1 e2
    exact ⟨k, i, s, rfl, o0, o1, o2⟩
theorem open_Rul {H : Type} {enc : TypeId × Value → H} {W : World} {spare : Nat → Bool} {held : Bool} {fuel : Nat} {cs : List Value} {x : DataW H × List MemPlace} (hcl : cs.length = 10)
    (ht : DataW.trod enc Tryz.prog W 0 spare held fuel 86 cs = some x) (hfit : Fits x.1 86) : ∃ r : RuP, r.ok ∧ cs[0]? = some (.string ⟨r.name.toArray⟩) ∧ cs[7]? = some (.int .i64 r.at0) ∧ cs[8]? = some (.int .i64 r.line) ∧ cs[9]? = some (.int .i64 r.col) := by
  obtain ⟨n, hlen, h⟩ := sp_at Tryz.underlying86 ht hfit
  match cs, hcl with
  | [c0, c1, c2, c3, c4, c5, c6, c7, c8, c9], _ =>
    obtain ⟨y0, h0, f0⟩ := h 0 _ rfl
    change DataW.trod enc Tryz.prog W 0 spare held n 9 (([c0, c1, c2, c3, c4, c5, c6, c7, c8, c9].drop 0).take (Tryz.prog.cellsOf 9)) = some y0 at h0
    rw [show Tryz.prog.cellsOf 9 = 1 by kernel_rfl] at h0
    change DataW.trod enc Tryz.prog W 0 spare held n 9 [c0] = some y0 at h0
    change Fits y0.1 9 at f0
    obtain ⟨y3, h3, f3⟩ := h 3 _ rfl
    change DataW.trod enc Tryz.prog W 0 spare held n 24 (([c0, c1, c2, c3, c4, c5, c6, c7, c8, c9].drop 7).take (Tryz.prog.cellsOf 24)) = some y3 at h3
    rw [show Tryz.prog.cellsOf 24 = 3 by kernel_rfl] at h3
    change DataW.trod enc Tryz.prog W 0 spare held n 24 [c7, c8, c9] = some y3 at h3
    change Fits y3.1 24 at f3
    obtain ⟨s, e0, o0⟩ := open_str 9 Tryz.underlying9 h0 f0
    obtain ⟨a, l, c, e1, o1, o2⟩ := open_Pos rfl h3 f3
    injection e0 with e0 _
    injection e1 with e1 e2
    injection e2 with e2 e3
    injection e3 with e3 _
    subst e0 e1 e2 e3
    exact ⟨⟨s, a, l, c⟩, ⟨o0, o1, o2⟩, rfl, rfl, rfl, rfl⟩
theorem open_Grm {H : Type} {enc : TypeId × Value → H} {W : World} {spare : Nat → Bool} {held : Bool} {fuel : Nat} {cs : List Value} {x : DataW H × List MemPlace} (hcl : cs.length = 4)
    (ht : DataW.trod enc Tryz.prog W 0 spare held fuel 31 cs = some x) (hfit : Fits x.1 31) : ∃ (gn : ByteArray) (g1 g2 : Int) (A : Option Addr) (c : Nat) (l : List RuP), cs = [.string gn, .int .i64 g1, .int .i64 g2, .slice A l.length c] ∧ (∀ r ∈ l, r.ok) ∧ GRR W W.heap.size A l := by
  obtain ⟨n, hlen, h⟩ := sp_at Tryz.underlying31 ht hfit
  match cs, hcl with
  | [c0, c1, c2, c3], _ =>
    obtain ⟨y0, h0, f0⟩ := h 0 _ rfl
    change DataW.trod enc Tryz.prog W 0 spare held n 9 (([c0, c1, c2, c3].drop 0).take (Tryz.prog.cellsOf 9)) = some y0 at h0
    rw [show Tryz.prog.cellsOf 9 = 1 by kernel_rfl] at h0
    change DataW.trod enc Tryz.prog W 0 spare held n 9 [c0] = some y0 at h0
    change Fits y0.1 9 at f0
    obtain ⟨y1, h1, f1⟩ := h 1 _ rfl
    change DataW.trod enc Tryz.prog W 0 spare held n 28 (([c0, c1, c2, c3].drop 1).take (Tryz.prog.cellsOf 28)) = some y1 at h1
    rw [show Tryz.prog.cellsOf 28 = 2 by kernel_rfl] at h1
    change DataW.trod enc Tryz.prog W 0 spare held n 28 [c1, c2] = some y1 at h1
    change Fits y1.1 28 at f1
    obtain ⟨y2, h2, f2⟩ := h 2 _ rfl
    change DataW.trod enc Tryz.prog W 0 spare held n 29 (([c0, c1, c2, c3].drop 3).take (Tryz.prog.cellsOf 29)) = some y2 at h2
    rw [show Tryz.prog.cellsOf 29 = 1 by kernel_rfl] at h2
    change DataW.trod enc Tryz.prog W 0 spare held n 29 [c3] = some y2 at h2
    change Fits y2.1 29 at f2
    obtain ⟨s, e0, _⟩ := open_str 9 Tryz.underlying9 h0 f0
    obtain ⟨m, _, k⟩ := sp_at Tryz.underlying28 h1 f1
    obtain ⟨z0, k0, _⟩ := k 0 _ rfl
    obtain ⟨z1, k1, _⟩ := k 1 _ rfl
    change DataW.trod enc Tryz.prog W 0 spare held m 3 (([c1, c2].drop 0).take (Tryz.prog.cellsOf 3)) = some z0 at k0
    change DataW.trod enc Tryz.prog W 0 spare held m 3 (([c1, c2].drop 1).take (Tryz.prog.cellsOf 3)) = some z1 at k1
    rw [show Tryz.prog.cellsOf 3 = 1 by kernel_rfl] at k0 k1
    change DataW.trod enc Tryz.prog W 0 spare held m 3 [c1] = some z0 at k0
    change DataW.trod enc Tryz.prog W 0 spare held m 3 [c2] = some z1 at k1
    obtain ⟨g1, e1, _⟩ := open_i64 3 Tryz.underlying3 k0
    obtain ⟨g2, e2, _⟩ := open_i64 3 Tryz.underlying3 k1
    obtain ⟨l, A, cap, e3, _, _, vs, hrd, hel⟩ := open_list 29 86 10 Tryz.underlying29 (by kernel_rfl) (by decide)
      (fun (cs : List Value) (r : RuP) => r.ok ∧ cs[0]? = some (.string ⟨r.name.toArray⟩) ∧ cs[7]? = some (.int .i64 r.at0) ∧ cs[8]? = some (.int .i64 r.line) ∧ cs[9]? = some (.int .i64 r.col))
      (fun fuel' cs' y hcl' ht' hf' => open_Rul hcl' ht' hf') h2 f2
    injection e0 with e0 _
    injection e1 with e1 _
    injection e2 with e2 _
    injection e3 with e3 _
    subst e0 e1 e2 e3
    refine ⟨_, g1, g2, A, cap, l, rfl, fun r hr => ?_, fun q hq => ?_⟩
    · obtain ⟨i, hi, rfl⟩ := List.getElem_of_mem hr
      exact (hel i hi).1
    · obtain ⟨b, off, rfl, hbl, hcell⟩ := hrd.2 (by omega)
      obtain ⟨_, x0, x7, x8, x9⟩ := hel q hq
      have hk : ∀ j v, j < 10 → ((vs.drop (q * 10)).take 10)[j]? = some v → W.cell? ⟨b, off + q * 10 + j, none⟩ = some v := fun j v hj h => by
        rw [List.getElem?_take, if_pos hj, List.getElem?_drop] at h
        have := hcell (q * 10 + j) v h
        rwa [← Nat.add_assoc] at this
      exact ⟨b, off, rfl, hbl, hk 0 _ (by decide) x0, hk 7 _ (by decide) x7, hk 8 _ (by decide) x8, hk 9 _ (by decide) x9⟩
end Go.Proofs.YtcbilcfieoibbaaGreatDoor
