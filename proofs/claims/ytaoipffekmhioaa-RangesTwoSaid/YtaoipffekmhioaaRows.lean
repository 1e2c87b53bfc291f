/-
  No cell of these rows narrows 'for every input' (looked for: loops, veiled, ifaces, maps, wideKeys, modest, calm, conditions, laid).
  DERIVED. THE GIVEN ROWS OF THIS SEAT. 4 by the template 'for every input the law returns true; each argument reads behind the call as it read before'; 0 by the template 'total and deterministic' (their statements: YtaoipffekmhioaaTotals.lean).
  GIVEN WITH THE SEED: the statements are not yours to turn. If you find one false, say at which input.
  Laid BY PROGRAM, IN A SANDBOX (cutbox-rows.mjs): the forced cells as the released guide's own fill.sh prints them over the translation 34fedec261b836fd… (all of the seat's roots in one cut). By AI agents, Wed Nov 11 2026. No macro, syntax, notation, axiom, sorry.
-/
import Derived.Test.YtaoipffekmhioaaChecked
import GoSem.Claim
import GoSem.ClaimJoined
import GoSem.ClaimMapViews
import Derived.JoinedTies
import Derived.KernelRfl
namespace Go.Proofs.Ytaoipffekmhioaa
/- THE CELL 'sum', in the pinned program and in every row, IS THE sha256 OF THE DUMP (.gsa) THAT YtaoipffekmhioaaProg.lean LOADS. Nothing in Lean hashes anything: it is a label: what it is worth is what the hold of that sum in a sandbox is worth. -/
noncomputable def Try.pinned : Pinned := { name := "ytaoipffekmhioaa", sum := "34fedec261b836fdfb141343e767dfb1e8ad6a50558fcffd48b3b134b351bafb", checked := Try.checked }
namespace Rows
def none {H : Type} : Left H := { results := [], args := [] }

/-- 'harbingerlaw07.RangesSplit': WHATEVER THE INPUT: true; the input reads as it did. -/
def rangesSplitSpec : ChangeSpec := { name := "rangesSplit", fn := fun _ => fun
  | [d1, d2] => { results := [.lit (.bool true)], args := [d1, d2] }
  | _ => none }
def rangesSplitRow : OpenClaim := { program := "ytaoipffekmhioaa", sum := "34fedec261b836fdfb141343e767dfb1e8ad6a50558fcffd48b3b134b351bafb", func := "harbinger/harbingerlaw07.RangesSplit", spec := "rangesSplit", unfollowed := true, recurses := true, apart := false }
def RangesSplitSaid : Prop := rangesSplitRow.holds Try.pinned (OpenSpec.ofChange rangesSplitSpec)

/-- ITS FALSE NEIGHBOUR: 'it returns false'. Refute it at one input. -/
def rangesSplitWrong : ChangeSpec := { name := "rangesSplit", fn := fun _ => fun
  | [d1, d2] => { results := [.lit (.bool false)], args := [d1, d2] }
  | _ => none }
def RangesSplitWrongFalsely : Prop := rangesSplitRow.holds Try.pinned (OpenSpec.ofChange rangesSplitWrong)

/-- 'harbingerlaw07.RangesTwo': WHATEVER THE INPUT: true; the input reads as it did. -/
def rangesTwoSpec : ChangeSpec := { name := "rangesTwo", fn := fun _ => fun
  | [d1, d2] => { results := [.lit (.bool true)], args := [d1, d2] }
  | _ => none }
def rangesTwoRow : OpenClaim := { program := "ytaoipffekmhioaa", sum := "34fedec261b836fdfb141343e767dfb1e8ad6a50558fcffd48b3b134b351bafb", func := "harbinger/harbingerlaw07.RangesTwo", spec := "rangesTwo", unfollowed := true, recurses := true, apart := false }
def RangesTwoSaid : Prop := rangesTwoRow.holds Try.pinned (OpenSpec.ofChange rangesTwoSpec)

/-- ITS FALSE NEIGHBOUR: 'it returns false'. Refute it at one input. -/
def rangesTwoWrong : ChangeSpec := { name := "rangesTwo", fn := fun _ => fun
  | [d1, d2] => { results := [.lit (.bool false)], args := [d1, d2] }
  | _ => none }
def RangesTwoWrongFalsely : Prop := rangesTwoRow.holds Try.pinned (OpenSpec.ofChange rangesTwoWrong)

/-- 'harbingerlaw07.RangesHold': WHATEVER THE INPUT: true; the input reads as it did. -/
def rangesHoldSpec : ChangeSpec := { name := "rangesHold", fn := fun _ => fun
  | [d1, d2, d3] => { results := [.lit (.bool true)], args := [d1, d2, d3] }
  | _ => none }
def rangesHoldRow : OpenClaim := { program := "ytaoipffekmhioaa", sum := "34fedec261b836fdfb141343e767dfb1e8ad6a50558fcffd48b3b134b351bafb", func := "harbinger/harbingerlaw07.RangesHold", spec := "rangesHold", unfollowed := true, recurses := true, apart := false }
def RangesHoldSaid : Prop := rangesHoldRow.holds Try.pinned (OpenSpec.ofChange rangesHoldSpec)

/-- ITS FALSE NEIGHBOUR: 'it returns false'. Refute it at one input. -/
def rangesHoldWrong : ChangeSpec := { name := "rangesHold", fn := fun _ => fun
  | [d1, d2, d3] => { results := [.lit (.bool false)], args := [d1, d2, d3] }
  | _ => none }
def RangesHoldWrongFalsely : Prop := rangesHoldRow.holds Try.pinned (OpenSpec.ofChange rangesHoldWrong)

/-- 'harbingerlaw07.RangesParts': WHATEVER THE INPUT: true; the input reads as it did. -/
def rangesPartsSpec : ChangeSpec := { name := "rangesParts", fn := fun _ => fun
  | [d1, d2, d3] => { results := [.lit (.bool true)], args := [d1, d2, d3] }
  | _ => none }
def rangesPartsRow : OpenClaim := { program := "ytaoipffekmhioaa", sum := "34fedec261b836fdfb141343e767dfb1e8ad6a50558fcffd48b3b134b351bafb", func := "harbinger/harbingerlaw07.RangesParts", spec := "rangesParts", unfollowed := true, recurses := true, apart := false }
def RangesPartsSaid : Prop := rangesPartsRow.holds Try.pinned (OpenSpec.ofChange rangesPartsSpec)

/-- ITS FALSE NEIGHBOUR: 'it returns false'. Refute it at one input. -/
def rangesPartsWrong : ChangeSpec := { name := "rangesParts", fn := fun _ => fun
  | [d1, d2, d3] => { results := [.lit (.bool false)], args := [d1, d2, d3] }
  | _ => none }
def RangesPartsWrongFalsely : Prop := rangesPartsRow.holds Try.pinned (OpenSpec.ofChange rangesPartsWrong)

/- THE SECOND FORM. 'bulk': how many values and letters a reading holds, each counted each time it is reached (what is shared counts as often as it is met; a slice's spare places count too). A statement '..UptoSaid' is the law's where the arguments, and the package variables that the reading takes, are together of bulk at most 1048576: NARROWER than '..Said'. Prove '..Said' where nothing that the law and all that it calls make is longer than what came in: it says more and counts as full. Else prove '..UptoSaid'. A law counts once. -/
mutual
def uptoBulk {H : Type} : DataW H → Nat
  | .lit (.string bytes) => bytes.length + 1
  | .lit _ => 1
  | .nil => 1
  | .ptr d => uptoBulk d + 1
  | .slice elems spare => uptoBulkAll elems + uptoBulkAll spare + 1
  | .agg parts => uptoBulkAll parts + 1
  | .iface _ d => uptoBulk d + 1
  | .map entries => uptoBulkEntries entries + 1
  | .held _ => 1
def uptoBulkAll {H : Type} : List (DataW H) → Nat
  | [] => 0
  | d :: r => uptoBulk d + uptoBulkAll r
def uptoBulkEntries {H : Type} : List (Lit × DataW H) → Nat
  | [] => 0
  | x :: r => uptoBulkEntry x + uptoBulkEntries r
def uptoBulkEntry {H : Type} : Lit × DataW H → Nat
  | (.string bytes, d) => bytes.length + uptoBulk d + 1
  | (_, d) => uptoBulk d + 1
 end
def uptoSmall : (H : Type) → List (DataW H) → Bool := fun _ ds => decide (uptoBulkAll ds ≤ 1048576)
def OpenSpec.upto (s : _root_.Go.ChangeSpec) : _root_.Go.OpenSpec := { _root_.Go.OpenSpec.ofChange s with cond := some uptoSmall }

/-- 'harbingerlaw07.RangesSplit', WHERE WHAT IT READS IS OF BULK AT MOST 1048576: true; the input reads as it did. -/
def rangesSplitUptoRow : OpenClaim := { program := "ytaoipffekmhioaa", sum := "34fedec261b836fdfb141343e767dfb1e8ad6a50558fcffd48b3b134b351bafb", func := "harbinger/harbingerlaw07.RangesSplit", spec := "rangesSplit", unfollowed := true, recurses := true, apart := false, narrowed := true }
def RangesSplitUptoSaid : Prop := rangesSplitUptoRow.holds Try.pinned (OpenSpec.upto rangesSplitSpec)

/-- 'harbingerlaw07.RangesTwo', WHERE WHAT IT READS IS OF BULK AT MOST 1048576: true; the input reads as it did. -/
def rangesTwoUptoRow : OpenClaim := { program := "ytaoipffekmhioaa", sum := "34fedec261b836fdfb141343e767dfb1e8ad6a50558fcffd48b3b134b351bafb", func := "harbinger/harbingerlaw07.RangesTwo", spec := "rangesTwo", unfollowed := true, recurses := true, apart := false, narrowed := true }
def RangesTwoUptoSaid : Prop := rangesTwoUptoRow.holds Try.pinned (OpenSpec.upto rangesTwoSpec)

/-- 'harbingerlaw07.RangesHold', WHERE WHAT IT READS IS OF BULK AT MOST 1048576: true; the input reads as it did. -/
def rangesHoldUptoRow : OpenClaim := { program := "ytaoipffekmhioaa", sum := "34fedec261b836fdfb141343e767dfb1e8ad6a50558fcffd48b3b134b351bafb", func := "harbinger/harbingerlaw07.RangesHold", spec := "rangesHold", unfollowed := true, recurses := true, apart := false, narrowed := true }
def RangesHoldUptoSaid : Prop := rangesHoldUptoRow.holds Try.pinned (OpenSpec.upto rangesHoldSpec)

/-- 'harbingerlaw07.RangesParts', WHERE WHAT IT READS IS OF BULK AT MOST 1048576: true; the input reads as it did. -/
def rangesPartsUptoRow : OpenClaim := { program := "ytaoipffekmhioaa", sum := "34fedec261b836fdfb141343e767dfb1e8ad6a50558fcffd48b3b134b351bafb", func := "harbinger/harbingerlaw07.RangesParts", spec := "rangesParts", unfollowed := true, recurses := true, apart := false, narrowed := true }
def RangesPartsUptoSaid : Prop := rangesPartsUptoRow.holds Try.pinned (OpenSpec.upto rangesPartsSpec)

end Rows
end Go.Proofs.Ytaoipffekmhioaa
