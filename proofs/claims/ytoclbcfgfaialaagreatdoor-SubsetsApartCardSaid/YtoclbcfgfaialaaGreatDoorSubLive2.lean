/-
  Subsets: a table that was made may be; lives of the statements of subsets: the walk.
-/
import Derived.Test.YtoclbcfgfaialaaGreatDoorOf
import Derived.Test.YtoclbcfgfaialaaGreatDoorStep
import Derived.Test.YtoclbcfgfaialaaGreatDoorSubTail
import Derived.Test.YtoclbcfgfaialaaGreatDoorSubLives
namespace Go.Proofs.YtoclbcfgfaialaaGreatDoor
open Go.RowKit
set_option maxRecDepth 100000
theorem TableAt.tab {w : World} {base : Nat} {RA CA NA EA : Option Addr} {gs : List Nat} {rs : List Rg} {m : Mk} {rows : List (List Int)} (h : TableAt w base RA CA NA EA gs rs m rows) : TabR w w.heap.size RA CA NA EA rs rows m.ends := by
  refine ⟨h.rng.reads, ?_, ?_, h.ends.reads⟩
  · have := h.cls.reads
    unfold iotaI
    rw [List.map_map]
    exact this
  · refine ⟨_, h.nxt.reads, fun i hi => ?_⟩
    obtain ⟨g, e, _, hl, _, hr, hh⟩ := h.row.each i hi
    refine ⟨some ⟨g, 0, none⟩, rs.length, ?_, by simp, fun _ => ⟨g, 0, rfl, hl, fun j u hu => ?_⟩⟩
    · rw [List.getElem?_map, e, hr]; rfl
    · rw [Nat.zero_add]
      simp only [World.cell?, hh]
      simpa using hu
theorem loopM_len (a : Au) (rs : List Rg) : ∀ (f s : Nat) (m : Mk) (rows : List (List Int)) (m' : Mk) (rows' : List (List Int)), loopM a rs f s m rows = some (m', rows') → rows'.length ≤ rows.length + f
  | 0, _, _, _, _, _, h => by cases h
  | f + 1, s, m, rows, m', rows', h => by
    unfold loopM at h
    split at h
    · split at h
      · cases h
      · have := loopM_len a rs f _ _ _ _ _ h
        simp at this
        omega
    · injection h with h
      injection h with _ h
      subst h
      omega
theorem splitP_of (a : Au) (hwf : WfL (a.places.map (·.set)).flatten) : SplitP (a.places.map (·.set)) (-2147483649) (rsOf a) := by
  refine splitOf_law _ _ fun l hl x hx => ?_
  obtain ⟨r, hr, h1, _⟩ := hx
  have := (hwf r (List.mem_flatten.2 ⟨l, hl, hr⟩)).1.1
  omega
theorem goodT_of {a : Au} {m : Mk} {rows : List (List Int)} (hm : mayB a = true) (hsl : (a.places.map (·.set)).flatten.length ≤ 100000) (hwf : WfL (a.places.map (·.set)).flatten) (ht : tableM a (rsOf a) = some (m, rows)) : GoodT (rsOf a) rows m.ends := by
  obtain ⟨hI, hl, hr⟩ := tableM_law hm ht
  have hP := splitP_of a hwf
  have hn := loopM_len a (rsOf a) 4098 0 start0 [] m rows ht
  refine ⟨by have := rsOf_len a hsl; omega, ⟨hP.some, fun j hj => ?_⟩, by rw [hl]; exact hI.one, by simp at hn; omega, by rw [hl]; exact hI.ends, hI.endsIn, hr, fun r hr' x hx => ?_⟩
  · exact List.pairwise_iff_getElem.1 hP.rise j (j + 1) (by omega) hj (by omega)
  · have := hI.cell r hr' x hx
    rw [hl]; omega
end Go.Proofs.YtoclbcfgfaialaaGreatDoor
