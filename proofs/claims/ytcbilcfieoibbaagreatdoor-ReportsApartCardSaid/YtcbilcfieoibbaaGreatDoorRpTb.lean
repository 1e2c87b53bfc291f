/-
  The library's tables, and the texts of problems, as they lie in memory.
-/
import Derived.Test.YtcbilcfieoibbaaGreatDoorShelf
import Derived.Test.YtcbilcfieoibbaaGreatDoorLib
import Derived.Test.YtcbilcfieoibbaaGreatDoorRpLaw
import Derived.Shelf.Unicode.DecodeAny
import Derived.Laws.IdiomStrings
namespace Go.Proofs.YtcbilcfieoibbaaGreatDoor
open Go.RowKit
set_option maxRecDepth 100000
/-- the texts of problems, by their codes -/
def texts : List (List UInt8) := [[], [78, 32, 105, 115, 32, 116, 104, 101, 114, 101, 32, 97, 108, 114, 101, 97, 100, 121], [82, 58, 32, 116, 104, 101, 114, 101, 32, 105, 115, 32, 110, 111, 32, 78], [82, 58, 32, 78, 32, 109, 97, 121, 32, 110, 111, 116, 32, 98, 101, 32, 110, 97, 109, 101, 100], [82, 32, 99, 97, 108, 108, 115, 32, 105, 116, 115, 101, 108, 102, 32, 97, 104, 101, 97, 100, 32, 111, 102, 32, 97, 110, 121, 32, 116, 111, 107, 101, 110], [82, 32, 110, 97, 109, 101, 115, 32, 105, 116, 115, 101, 108, 102], [82, 58, 32, 97, 32, 108, 111, 111, 112, 32, 116, 104, 97, 116, 32, 116, 97, 107, 101, 115, 32, 110, 111, 116, 104, 105, 110, 103], [82, 32, 109, 97, 121, 32, 98, 101, 32, 101, 109, 112, 116, 121], [116, 104, 101, 114, 101, 32, 105, 115, 32, 110, 111, 32, 114, 117, 108, 101, 32, 102, 111, 114, 32, 112, 97, 114, 115, 105, 110, 103]]
/-- the tables lie where they should, below B -/
structure TB (B : Nat) (w : World) : Prop where
  utf : Lib.Utf8Tabs 1 2 w
  pow : Lib.TabIs Tryz.prog w "internal/strconv.uint64pow10" .u64 Lib.pow10Tab
  tz : w.cell? ⟨6, 15, none⟩ = some (.int .u8 4)
  txt : ∀ i (h : i < texts.length), w.cell? ⟨0, i, none⟩ = some (.string ⟨texts[i].toArray⟩)
  lt : 7 ≤ B
theorem powNamed : Tryz.prog.globalNamed "internal/strconv.uint64pow10" = some 3 := by kernel_rfl
theorem TB.below {B : Nat} {w w' : World} (h : TB B w) (hb : Below B w w') : TB B w' := by
  have lt : ∀ k, k < 7 → k < B := fun k hk => Nat.lt_of_lt_of_le hk h.lt
  have l1 : 1 < B := lt _ (by decide)
  have l2 : 2 < B := lt _ (by decide)
  have l3 : 0 < B := lt _ (by decide)
  have l4 : 6 < B := lt _ (by decide)
  have l5 : 3 < B := lt _ (by decide)
  refine ⟨⟨fun c hc => (hb.cell (p := ⟨_, _, none⟩) l1).trans (h.utf.1 c hc), fun i hi => ⟨(hb.cell (p := ⟨_, _, none⟩) l2).trans (h.utf.2 i hi).1, (hb.cell (p := ⟨_, _, none⟩) l2).trans (h.utf.2 i hi).2⟩⟩, ?_, (hb.cell (p := ⟨_, _, none⟩) l4).trans h.tz, fun i hi => (hb.cell (p := ⟨_, _, none⟩) l3).trans (h.txt i hi), h.lt⟩
  have hp := h.pow
  unfold Lib.TabIs World.var? at hp ⊢
  rw [powNamed] at hp ⊢
  simp only [Option.bind_some] at hp ⊢
  rw [hb.block _ l5]
  exact hp
theorem TB.next {w w' : World} (h : TB w.heap.size w) (hb : Below w.heap.size w w') : TB w'.heap.size w' := by
  have k := h.below hb
  exact ⟨k.utf, k.pow, k.tz, k.txt, Nat.le_trans k.lt hb.size⟩
end Go.Proofs.YtcbilcfieoibbaaGreatDoor
