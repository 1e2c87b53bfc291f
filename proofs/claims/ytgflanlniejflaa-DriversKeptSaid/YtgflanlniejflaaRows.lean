/-
  No cell of these rows narrows 'for every input' (looked for: loops, veiled, ifaces, maps, wideKeys, modest, calm, conditions, laid).
  DERIVED. THE GIVEN ROWS OF THIS SEAT. 3 by the template 'for every input the law returns true; each argument reads behind the call as it read before'; 0 by the template 'total and deterministic' (their statements: YtgflanlniejflaaTotals.lean).
  GIVEN WITH THE SEED: the statements are not yours to turn. If you find one false, say at which input.
  Laid BY PROGRAM, IN A SANDBOX (cutbox-rows.mjs): the forced cells as the released guide's own fill.sh prints them over the translation 0644001c207c1d31… (all of the seat's roots in one cut). By AI agents, Wed Nov 11 2026. No macro, syntax, notation, axiom, sorry.
-/
import Derived.Test.YtgflanlniejflaaChecked
import GoSem.Claim
import GoSem.ClaimJoined
import GoSem.ClaimMapViews
import Derived.JoinedTies
import Derived.KernelRfl
namespace Go.Proofs.Ytgflanlniejflaa
/- THE CELL 'sum', in the pinned program and in every row, IS THE sha256 OF THE DUMP (.gsa) THAT YtgflanlniejflaaProg.lean LOADS. Nothing in Lean hashes anything: it is a label: what it is worth is what the hold of that sum in a sandbox is worth. -/
noncomputable def Try.pinned : Pinned := { name := "ytgflanlniejflaa", sum := "0644001c207c1d31205a2b78fce0be9ff17997ea8d4fc6a550ff0ab7a24f4384", checked := Try.checked }
namespace Rows
def none {H : Type} : Left H := { results := [], args := [] }

/-- 'harbingerlaw21.DriversKept': WHATEVER THE INPUT: true; the input reads as it did. -/
def driversKeptSpec : ChangeSpec := { name := "driversKept", fn := fun _ => fun
  | [d1, d2, d3] => { results := [.lit (.bool true)], args := [d1, d2, d3] }
  | _ => none }
def driversKeptRow : OpenClaim := { program := "ytgflanlniejflaa", sum := "0644001c207c1d31205a2b78fce0be9ff17997ea8d4fc6a550ff0ab7a24f4384", func := "harbinger/harbingerlaw21.DriversKept", spec := "driversKept", inPlace := ["sync/atomic.AddInt64"], unfollowed := true, recurses := true, plainKeys := false, apart := false }
def DriversKeptSaid : Prop := driversKeptRow.holds Try.pinned (OpenSpec.ofChange driversKeptSpec)

/-- ITS FALSE NEIGHBOUR: 'it returns false'. Refute it at one input. -/
def driversKeptWrong : ChangeSpec := { name := "driversKept", fn := fun _ => fun
  | [d1, d2, d3] => { results := [.lit (.bool false)], args := [d1, d2, d3] }
  | _ => none }
def DriversKeptWrongFalsely : Prop := driversKeptRow.holds Try.pinned (OpenSpec.ofChange driversKeptWrong)

/-- 'harbingerlaw21.DriversAny': WHATEVER THE INPUT: true; the input reads as it did. -/
def driversAnySpec : ChangeSpec := { name := "driversAny", fn := fun _ => fun
  | [d1, d2, d3] => { results := [.lit (.bool true)], args := [d1, d2, d3] }
  | _ => none }
def driversAnyRow : OpenClaim := { program := "ytgflanlniejflaa", sum := "0644001c207c1d31205a2b78fce0be9ff17997ea8d4fc6a550ff0ab7a24f4384", func := "harbinger/harbingerlaw21.DriversAny", spec := "driversAny", inPlace := ["sync/atomic.AddInt64"], unfollowed := true, recurses := true, plainKeys := false, apart := false }
def DriversAnySaid : Prop := driversAnyRow.holds Try.pinned (OpenSpec.ofChange driversAnySpec)

/-- ITS FALSE NEIGHBOUR: 'it returns false'. Refute it at one input. -/
def driversAnyWrong : ChangeSpec := { name := "driversAny", fn := fun _ => fun
  | [d1, d2, d3] => { results := [.lit (.bool false)], args := [d1, d2, d3] }
  | _ => none }
def DriversAnyWrongFalsely : Prop := driversAnyRow.holds Try.pinned (OpenSpec.ofChange driversAnyWrong)

/-- 'harbingerlaw21.DriversVoid': WHATEVER THE INPUT: true; the input reads as it did. -/
def driversVoidSpec : ChangeSpec := { name := "driversVoid", fn := fun _ => fun
  | [d] => { results := [.lit (.bool true)], args := [d] }
  | _ => none }
def driversVoidRow : OpenClaim := { program := "ytgflanlniejflaa", sum := "0644001c207c1d31205a2b78fce0be9ff17997ea8d4fc6a550ff0ab7a24f4384", func := "harbinger/harbingerlaw21.DriversVoid", spec := "driversVoid", inPlace := ["sync/atomic.AddInt64"], unfollowed := true, recurses := true, plainKeys := false, apart := false }
def DriversVoidSaid : Prop := driversVoidRow.holds Try.pinned (OpenSpec.ofChange driversVoidSpec)

/-- ITS FALSE NEIGHBOUR: 'it returns false'. Refute it at one input. -/
def driversVoidWrong : ChangeSpec := { name := "driversVoid", fn := fun _ => fun
  | [d] => { results := [.lit (.bool false)], args := [d] }
  | _ => none }
def DriversVoidWrongFalsely : Prop := driversVoidRow.holds Try.pinned (OpenSpec.ofChange driversVoidWrong)

/- THE SECOND FORM. 'bulk': how many values and letters a reading holds, each counted each time it is reached (what is shared counts as often as it is met; a slice's spare places count too). A statement '..UptoSaid' is the law's where the arguments, and the package variables that the reading takes, are together of bulk at most 1048576: NARROWER than '..Said'. Prove '..Said' where nothing that the law and all that it calls make is longer than what came in: it says more and counts as full. Else prove '..UptoSaid'. A law counts once. -/
mutual
def uptoBulk {H : Type} : DataW H → Nat
  | .lit (.string bytes) => bytes.length + 1
  | .lit _ => 1
  | .nil => 1
  | .ptr d => uptoBulk d + 1
  | .slice elems spare => uptoBulkAll elems + uptoBulkAll spare + 1
  | .agg parts => uptoBulkAll parts + 1
  | .iface _ d => uptoBulk d + 1
  | .map entries => uptoBulkEntries entries + 1
  | .held _ => 1
def uptoBulkAll {H : Type} : List (DataW H) → Nat
  | [] => 0
  | d :: r => uptoBulk d + uptoBulkAll r
def uptoBulkEntries {H : Type} : List (Lit × DataW H) → Nat
  | [] => 0
  | x :: r => uptoBulkEntry x + uptoBulkEntries r
def uptoBulkEntry {H : Type} : Lit × DataW H → Nat
  | (.string bytes, d) => bytes.length + uptoBulk d + 1
  | (_, d) => uptoBulk d + 1
 end
def uptoSmall : (H : Type) → List (DataW H) → Bool := fun _ ds => decide (uptoBulkAll ds ≤ 1048576)
def OpenSpec.upto (s : _root_.Go.ChangeSpec) : _root_.Go.OpenSpec := { _root_.Go.OpenSpec.ofChange s with cond := some uptoSmall }

/-- 'harbingerlaw21.DriversKept', WHERE WHAT IT READS IS OF BULK AT MOST 1048576: true; the input reads as it did. -/
def driversKeptUptoRow : OpenClaim := { program := "ytgflanlniejflaa", sum := "0644001c207c1d31205a2b78fce0be9ff17997ea8d4fc6a550ff0ab7a24f4384", func := "harbinger/harbingerlaw21.DriversKept", spec := "driversKept", inPlace := ["sync/atomic.AddInt64"], unfollowed := true, recurses := true, plainKeys := false, apart := false, narrowed := true }
def DriversKeptUptoSaid : Prop := driversKeptUptoRow.holds Try.pinned (OpenSpec.upto driversKeptSpec)

/-- 'harbingerlaw21.DriversAny', WHERE WHAT IT READS IS OF BULK AT MOST 1048576: true; the input reads as it did. -/
def driversAnyUptoRow : OpenClaim := { program := "ytgflanlniejflaa", sum := "0644001c207c1d31205a2b78fce0be9ff17997ea8d4fc6a550ff0ab7a24f4384", func := "harbinger/harbingerlaw21.DriversAny", spec := "driversAny", inPlace := ["sync/atomic.AddInt64"], unfollowed := true, recurses := true, plainKeys := false, apart := false, narrowed := true }
def DriversAnyUptoSaid : Prop := driversAnyUptoRow.holds Try.pinned (OpenSpec.upto driversAnySpec)

/-- 'harbingerlaw21.DriversVoid', WHERE WHAT IT READS IS OF BULK AT MOST 1048576: true; the input reads as it did. -/
def driversVoidUptoRow : OpenClaim := { program := "ytgflanlniejflaa", sum := "0644001c207c1d31205a2b78fce0be9ff17997ea8d4fc6a550ff0ab7a24f4384", func := "harbinger/harbingerlaw21.DriversVoid", spec := "driversVoid", inPlace := ["sync/atomic.AddInt64"], unfollowed := true, recurses := true, plainKeys := false, apart := false, narrowed := true }
def DriversVoidUptoSaid : Prop := driversVoidUptoRow.holds Try.pinned (OpenSpec.upto driversVoidSpec)

end Rows
end Go.Proofs.Ytgflanlniejflaa
