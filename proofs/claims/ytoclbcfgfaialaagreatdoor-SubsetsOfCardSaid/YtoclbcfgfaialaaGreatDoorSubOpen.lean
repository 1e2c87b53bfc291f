/-
  Subsets: places that came in, opened.
-/
import Derived.Test.YtoclbcfgfaialaaGreatDoorTrod
import Derived.Test.YtoclbcfgfaialaaGreatDoorSub1
namespace Go.Proofs.YtoclbcfgfaialaaGreatDoor
open Go.ChangeShapes Go.WideShapes Go.Deep Go.RowKit
set_option maxRecDepth 100000
/-- the four cells of a place that came in -/
def PlEl (W : World) (cs : List Value) (p : Pl) : Prop :=
  ∃ SA c FA cf, cs = [.slice SA p.set.length c, .int .i64 p.kind, .bool p.last, .slice FA p.follow.length cf] ∧ Reads W W.heap.size 2 SA p.set.length (flat encR p.set) ∧ Reads W W.heap.size 1 FA p.follow.length (p.follow.map (Value.int .i64)) ∧ WfL p.set ∧ p.follow.length * 8 ≤ reachBytes ∧ p.set.length * 8 ≤ reachBytes
theorem place_per {H : Type} {enc : TypeId × Value → H} {W : World} {spare : Nat → Bool} {held : Bool} (fuel : Nat) (cs : List Value) (x : DataW H × List MemPlace) (hcl : cs.length = 4)
    (ht : DataW.trod enc Tryz.prog W 0 spare held fuel 41 cs = some x) (hfit : Fits x.1 41) : ∃ p, PlEl W cs p := by
  obtain ⟨ys, n', hn', hy, hlen, hyl, hf⟩ := DataW.trod_struct Tryz.underlying41 ht
  have c1 : Tryz.prog.cellsOf 28 = 1 := by kernel_rfl
  have c2 : Tryz.prog.cellsOf 3 = 1 := by kernel_rfl
  have c3 : Tryz.prog.cellsOf 4 = 1 := by kernel_rfl
  have c4 : Tryz.prog.cellsOf 23 = 1 := by kernel_rfl
  match cs, hcl with
  | [u0, u1, u2, u3], _ =>
    have h0 := hf 0 _ rfl
    have h1 := hf 1 _ rfl
    have h2 := hf 2 _ rfl
    have h3 := hf 3 _ rfl
    change DataW.trod enc Tryz.prog W 0 spare held n' 28 (([u0, u1, u2, u3].drop 0).take (Tryz.prog.cellsOf 28)) = _ at h0
    change DataW.trod enc Tryz.prog W 0 spare held n' 3 (([u0, u1, u2, u3].drop 1).take (Tryz.prog.cellsOf 3)) = _ at h1
    change DataW.trod enc Tryz.prog W 0 spare held n' 4 (([u0, u1, u2, u3].drop 2).take (Tryz.prog.cellsOf 4)) = _ at h2
    change DataW.trod enc Tryz.prog W 0 spare held n' 23 (([u0, u1, u2, u3].drop 3).take (Tryz.prog.cellsOf 23)) = _ at h3
    rw [c1] at h0
    rw [c2] at h1
    rw [c3] at h2
    rw [c4] at h3
    change DataW.trod enc Tryz.prog W 0 spare held n' 28 [u0] = _ at h0
    change DataW.trod enc Tryz.prog W 0 spare held n' 3 [u1] = _ at h1
    change DataW.trod enc Tryz.prog W 0 spare held n' 4 [u2] = _ at h2
    change DataW.trod enc Tryz.prog W 0 spare held n' 23 [u3] = _ at h3
    have hyl4 : ys.length = 4 := hyl
    have q0 : ys[0]? = some (ys[0]'(by omega)) := List.getElem?_eq_getElem _
    have q1 : ys[1]? = some (ys[1]'(by omega)) := List.getElem?_eq_getElem _
    have q2 : ys[2]? = some (ys[2]'(by omega)) := List.getElem?_eq_getElem _
    have q3 : ys[3]? = some (ys[3]'(by omega)) := List.getElem?_eq_getElem _
    subst hy
    have f0 : Fits (ys[0]'(by omega)).1 28 := Fits.struct Tryz.underlying41 hfit 0 _ _ rfl (by rw [List.getElem?_map, q0]; rfl)
    have f3 : Fits (ys[3]'(by omega)).1 23 := Fits.struct Tryz.underlying41 hfit 3 _ _ rfl (by rw [List.getElem?_map, q3]; rfl)
    obtain ⟨l0, A0, k0, e0, b0, r0, wf0⟩ := open_Rg (h0.trans q0) f0
    obtain ⟨n1, e1, _⟩ := open_i64 3 Tryz.underlying3 (h1.trans q1)
    obtain ⟨b2, e2, _⟩ := DataW.trod_bool Tryz.underlying4 (h2.trans q2)
    obtain ⟨l3, A3, k3, e3, b3, r3, _⟩ := open_Z (h3.trans q3) f3
    injection e0 with e0 _
    injection e1 with e1 _
    injection e2 with e2 _
    injection e3 with e3 _
    subst e0 e1 e2 e3
    exact ⟨⟨l0, n1, b2, l3⟩, A0, k0, A3, k3, rfl, r0, r3, wf0, b3, b0⟩
/-- places that came in -/
theorem open_Pls {H : Type} {enc : TypeId × Value → H} {W : World} {spare : Nat → Bool} {held : Bool} {fuel : Nat} {cs0 : List Value} {x : DataW H × List MemPlace}
    (h : DataW.trod enc Tryz.prog W 0 spare held fuel 22 cs0 = some x) (hfit : Fits x.1 22) :
    ∃ (ps : List Pl) (A : Option Addr) (cap : Nat), cs0 = [.slice A ps.length cap] ∧ ps.length ≤ 140737488351232 ∧ PlsR W W.heap.size A ps ∧ WfL (ps.map (·.set)).flatten ∧ ∀ p ∈ ps, p.follow.length ≤ 140737488351232 ∧ p.set.length ≤ 140737488351232 := by
  have hb : Tryz.prog.bytesOf 41 = 64 := by kernel_rfl
  obtain ⟨ps, A, cap, e, _, hby, vs, hr, hel⟩ := open_list 22 41 4 Tryz.underlying22 (by kernel_rfl) (by decide) (PlEl W) (fun fuel cs x hcl ht hf => place_per fuel cs x hcl ht hf) h hfit
  rw [hb] at hby
  unfold reachBytes at hby
  refine ⟨ps, A, cap, e, by omega, ⟨vs, hr, fun i hi => ?_⟩, fun r hr' => ?_, fun p hp => ?_⟩
  · obtain ⟨SA, c, FA, cf, e, r0, r1, _⟩ := hel i hi
    have at' : ∀ j, j < 4 → vs[i * 4 + j]? = ([.slice SA ps[i].set.length c, .int .i64 ps[i].kind, .bool ps[i].last, .slice FA ps[i].follow.length cf] : List Value)[j]? := by
      intro j hj
      rw [← e, List.getElem?_take, if_pos hj, List.getElem?_drop]
    exact ⟨SA, c, FA, cf, at' 0 (by omega), at' 1 (by omega), at' 2 (by omega), at' 3 (by omega), r0, r1⟩
  · obtain ⟨l, hl, hr2⟩ := List.mem_flatten.1 hr'
    obtain ⟨p, hp, rfl⟩ := List.mem_map.1 hl
    obtain ⟨i, hi, rfl⟩ := List.getElem_of_mem hp
    obtain ⟨_, _, _, _, _, _, _, hw, _⟩ := hel i hi
    exact hw r hr2
  · obtain ⟨i, hi, rfl⟩ := List.getElem_of_mem hp
    obtain ⟨_, _, _, _, _, _, _, _, h1, h2⟩ := hel i hi
    unfold reachBytes at h1 h2
    exact ⟨by omega, by omega⟩
end Go.Proofs.YtoclbcfgfaialaaGreatDoor
