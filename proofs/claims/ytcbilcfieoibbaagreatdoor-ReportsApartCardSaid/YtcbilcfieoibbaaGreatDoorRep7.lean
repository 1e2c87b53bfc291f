/-
  strings.Replacer: Replace: the walk.
-/
import Derived.Test.YtcbilcfieoibbaaGreatDoorRep6
namespace Go.Proofs.YtcbilcfieoibbaaGreatDoor
open Go.RowKit
set_option maxRecDepth 100000
theorem BS.keep {w w' : World} {L rb : Nat} {x y : List UInt8} (h : BS w rb x y) (hL : L < rb) (he : ∀ b, L ≤ b → b < w.heap.size → w'.heap[b]? = w.heap[b]?) : BS w' rb x y := by
  obtain ⟨B, vx, vy, b1, b2, rfl, h1, h2, h3⟩ := h
  have hl := h1.lt
  have hb1 : B + 2 ≤ b1 := by obtain ⟨_, _, q, _⟩ := h2; exact q
  have hb2 : B + 2 ≤ b2 := by obtain ⟨_, _, q, _⟩ := h3; exact q
  exact ⟨B, vx, vy, b1, b2, rfl, ⟨h1.1.heap (he _ (by omega) hl), (he _ (by omega) (by omega)).trans h1.2⟩, h2.heap (he _ (by omega) h2.lt), h3.heap (he _ (by omega) h3.lt)⟩
theorem BR.lt {w : World} {rb : Nat} {f : Nat → Nat} (h : BR w rb f) : rb < w.heap.size := by
  obtain ⟨C, h1, _⟩ := h
  exact (Array.getElem?_eq_some_iff.1 h1).1
theorem BR.keep {w w' : World} {L rb : Nat} {f : Nat → Nat} (h : BR w rb f) (hL : L ≤ rb) (he : ∀ b, L ≤ b → b < w.heap.size → w'.heap[b]? = w.heap[b]?) : BR w' rb f := by
  have hl := h.lt
  obtain ⟨C, h1, h2⟩ := h
  exact ⟨C, (he _ hL hl).trans h1, h2⟩
/-- what was built -/
def RepOk (L : Nat) (w : World) (V : Value) (x y : List UInt8) : Prop :=
  (∃ rb x0 y0, x = [x0] ∧ y = [y0] ∧ V = .iface 223 (.pointer (some ⟨rb, 0, none⟩)) ∧ L ≤ rb ∧ BR w rb (fA x0.toNat y0.toNat)) ∨
  (∃ rb, V = .iface 227 (.pointer (some ⟨rb, 0, none⟩)) ∧ L < rb ∧ BS w rb x y)
theorem RepOk.keep {w w' : World} {L : Nat} {V : Value} {x y : List UInt8} (h : RepOk L w V x y) (he : ∀ b, L ≤ b → b < w.heap.size → w'.heap[b]? = w.heap[b]?) : RepOk L w' V x y := by
  rcases h with ⟨rb, x0, y0, h1, h2, h3, h4, h5⟩ | ⟨rb, h1, h2, h3⟩
  · exact .inl ⟨rb, x0, y0, h1, h2, h3, h4, h5.keep h4 he⟩
  · exact .inr ⟨rb, h1, h2, h3.keep h2 he⟩
theorem build_any (pb g cap : Nat) (x y : List UInt8) (w : World) (h : Old w pb g cap x y) :
    Calls Tryz.prog 63 #[.pointer (some ⟨pb, 0, none⟩)] w fun e w' => ∃ V, e = .returned V ∧ RepOk w.heap.size w' V x y ∧ Below w.heap.size w w' := by
  by_cases hxy : x.length = 1 ∧ y.length = 1
  · obtain ⟨x0, rfl⟩ := List.length_eq_one_iff.1 hxy.1
    obtain ⟨y0, rfl⟩ := List.length_eq_one_iff.1 hxy.2
    refine (build_a pb g cap x0 y0 w h).mono ?_
    rintro e w' ⟨rb, rfl, h1, h2, h3⟩
    exact ⟨_, rfl, .inl ⟨rb, x0, y0, rfl, rfl, rfl, h1, h2⟩, h3⟩
  · refine (build_b pb g cap x y w h hxy).mono ?_
    rintro e w' ⟨rb, rfl, h1, h2, h3⟩
    exact ⟨_, rfl, .inr ⟨rb, rfl, h1, h2⟩, h3⟩
theorem once_any (pb g cap B : Nat) (x y : List UInt8) (w : World) (hp : w.heap[pb]? = some (.cells (rplCells 0 1 .nilIface (.slice (some ⟨g, 0, none⟩) 4 cap)) 142 (0, 0))) (h : Old w pb g cap x y) (hB : B ≤ pb) :
    Calls Tryz.prog 42 #[.pointer (some ⟨pb, 0, none⟩)] w fun e w' => e = .returned (.tuple #[]) ∧ ∃ V, w'.heap[pb]? = some (.cells (rplCells 0 1 V (.slice none 0 0)) 142 (0, 0)) ∧ RepOk w.heap.size w' V x y ∧ Below B w w' := by
  have hl : pb < w.heap.size := (Array.getElem?_eq_some_iff.1 hp).1
  go_enter Tryz.func42, Tryz.ntmps42
  go_wp2_with fail
  refine (build_any pb g cap x y w h).mono ?_
  rintro e w1 ⟨V, rfl, hV, hb⟩
  have hp1 := (hb.block pb hl).trans hp
  have c3 : w1.cell? ⟨pb, 3, none⟩ = some .nilIface := Lib.cell_of_heap hp1 3
  have c4 : w1.cell? ⟨pb, 4, none⟩ = some (.slice (some ⟨g, 0, none⟩) 4 cap) := Lib.cell_of_heap hp1 4
  have f3 := Lib.frozen_of_heap hp1 3
  have f4 := Lib.frozen_of_heap hp1 4
  obtain ⟨T', P', rfl⟩ : ∃ T' P', V = .iface T' P' := by
    rcases hV with ⟨_, _, _, _, _, rfl, _⟩ | ⟨_, rfl, _⟩ <;> exact ⟨_, _, rfl⟩
  go_wp2_with fail
  go_end0
  refine ⟨rfl, _, heap_setCell_same _ pb 4 _ _ _ (heap_setCell_same w1 pb 3 _ _ _ hp1), hV.keep (fun b h1 h2 => ?_), ((hb.mono (by omega)).setCell (p := ⟨pb, 3, none⟩) hB _).setCell (p := ⟨pb, 4, none⟩) hB _⟩
  rw [Below.heap_setCell _ _ _ _ (by show b ≠ pb; omega), Below.heap_setCell _ _ _ _ (by show b ≠ pb; omega)]
set_option maxHeartbeats 2000000 in
/-- what strings.Replacer's Replace answers -/
theorem replace_any (pb g cap B : Nat) (x y s : List UInt8) (w : World) (hp : w.heap[pb]? = some (.cells (rplCells 0 0 .nilIface (.slice (some ⟨g, 0, none⟩) 4 cap)) 142 (0, 0))) (h : Old w pb g cap x y) (hgp : g ≠ pb) (hB : B ≤ pb)
    (H : s.length + s.count 78 * y.length + s.count 82 * x.length < 281474976710656) (hxl : x.length < 281474976710656) (hyl : y.length < 281474976710656) (hsl : s.length < 140737488355328) :
    Calls Tryz.prog 25 #[.pointer (some ⟨pb, 0, none⟩), .string ⟨s.toArray⟩] w fun e w' => e = .returned (.string ⟨(fillT x y s).toArray⟩) ∧ Below B w w' := by
  have hl : pb < w.heap.size := (Array.getElem?_eq_some_iff.1 hp).1
  have hs1 := heap_setCell_same w pb 1 _ _ (.int .i32 1) hp
  have hO : Old (w.setCell ⟨pb, 1, none⟩ (.int .i32 1)) pb g cap x y := by
    obtain ⟨v, s0, s1, s2, s3⟩ := h
    have k : ∀ j, (w.setCell ⟨pb, 1, none⟩ (.int .i32 1)).cell? ⟨g, j, none⟩ = w.cell? ⟨g, j, none⟩ := fun j => World.cell?_setCell_other w _ _ _ (fun e => hgp (congrArg Addr.block e).symm)
    exact ⟨(World.cell?_setCell_other w _ _ _ (by simp)).trans v, (k 0).trans s0, (k 1).trans s1, (k 2).trans s2, (k 3).trans s3⟩
  have hdo := do_any pb (fun w1 => ∃ V, w1.heap[pb]? = some (.cells (rplCells 0 1 V (.slice none 0 0)) 142 (0, 0)) ∧ RepOk w.heap.size w1 V x y ∧ Below B w w1) w
    (Lib.cell_of_heap hp 0) (Lib.cell_of_heap hp 1) (Lib.frozen_of_heap hp 1)
    ((once_any pb g cap B x y (w.setCell ⟨pb, 1, none⟩ (.int .i32 1)) hs1 hO hB).mono (fun e w1 ⟨h1, V, h2, h3, h4⟩ => ⟨h1, V, h2, by simpa using h3, ((Below.refl _ _).setCell (p := ⟨pb, 1, none⟩) hB _).trans h4⟩))
    (fun w1 ⟨V, h2, _⟩ => ⟨Lib.cell_of_heap h2 0, Lib.cell_of_heap h2 1, fun o => Lib.frozen_of_heap h2 o⟩)
  go_enter Tryz.func25, Tryz.ntmps25
  go_wp2_with fail
  refine hdo.mono ?_
  rintro e w' ⟨rfl, w1, ⟨V, h2, h3, h4⟩, hw'⟩
  have c3 : w'.cell? ⟨pb, 3, none⟩ = some V := by
    rw [hw', World.cell?_setCell_other _ _ _ _ (by simp), World.cell?_setCell_other _ _ _ _ (by simp)]
    exact Lib.cell_of_heap h2 3
  have hK : RepOk w.heap.size w' V x y := h3.keep (fun b e1 e2 => by
    rw [hw', Below.heap_setCell _ _ _ _ (by show b ≠ pb; omega), Below.heap_setCell _ _ _ _ (by show b ≠ pb; omega)]; rfl)
  have hbw : Below B w w' := by
    rw [hw']
    exact ((h4.drew).setCell (p := ⟨pb, 0, none⟩) hB _).setCell (p := ⟨pb, 1, none⟩) hB _
  have hBw := hbw.size
  have hBl : B ≤ w'.heap.size := by omega
  clear hw' hdo hs1 hO h3
  rcases hK with ⟨rb, x0, y0, rfl, rfl, rfl, k1, k2⟩ | ⟨rb, rfl, k1, k2⟩
  · go_wp2_with fail
    refine (repA_any rb x0 y0 s w' k2 hsl).mono ?_
    rintro e w2 ⟨rfl, hb2⟩
    go_wp2_with fail
    go_ret
    exact ⟨rfl, hbw.trans (hb2.mono hBl)⟩
  · go_wp2_with fail
    refine (repB_any rb x y s w' k2 H hxl hyl).mono ?_
    rintro e w2 ⟨rfl, hb2⟩
    go_wp2_with fail
    go_ret
    exact ⟨rfl, hbw.trans (hb2.mono hBl)⟩
end Go.Proofs.YtcbilcfieoibbaaGreatDoor
