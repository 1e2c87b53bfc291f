/-
  NARROWER THAN 'FOR EVERY INPUT', by the rows' own cells (each row's printed sentence says how): TreesVoid: loops, laid · TreesWays: loops, laid · CoversAdd: loops, laid · CoversFew: laid · CoversJoin: loops, laid · CoversOrder: loops, laid.
  DERIVED. THE GIVEN ROWS OF THIS SEAT. 6 by the template 'for every input the law returns true; each argument reads behind the call as it read before'; 0 by the template 'total and deterministic' (their statements: YtpbnfinmjnpkpaaGreatDoorTotals.lean).
  GIVEN WITH THE SEED: the statements are not yours to turn. If you find one false, say at which input.
  Laid BY PROGRAM, IN A SANDBOX (cutbox-rows.mjs): the forced cells as the released guide's own fill.sh prints them over the translation bfc29350eec6ce98… (all of the seat's roots in one cut). By AI agents, Wed Nov 11 2026. No macro, syntax, notation, axiom, sorry.
-/
import Derived.Test.YtpbnfinmjnpkpaaGreatDoorChecked
import GoSem.PinnedTables
import GoSem.Claim
import GoSem.ClaimJoined
import GoSem.ClaimMapViews
import Derived.JoinedTies
import Derived.KernelRfl
namespace Go.Proofs.YtpbnfinmjnpkpaaGreatDoor
/- THE CELL 'sum', in the pinned program and in every row, IS THE sha256 OF THE DUMP (.gsa) THAT YtpbnfinmjnpkpaaGreatDoorProg.lean LOADS. Nothing in Lean hashes anything: it is a label: what it is worth is what the hold of that sum in a sandbox is worth. -/
noncomputable def Tryz.pinned : Pinned := { name := "ytpbnfinmjnpkpaagreatdoor", sum := "bfc29350eec6ce98611dacd34d05c0eadc19f67f2170c59915dd2f221806374e", checked := Tryz.checked }
namespace Rows
def none {H : Type} : Left H := { results := [], args := [] }

/- WHAT THE LISTED PACKAGE-LEVEL VARIABLES READ AS WHEN THE CALL BEGINS. Each datum BY PROGRAM (the guide's laid-datum.mjs) off the statement by which the dump's own 'gosem.cut.vars' lays the variable. In a bare row this is a premise. The card (YtpbnfinmjnpkpaaGreatDoorCards.lean) ties it to the program's text. -/
def laid_unicode_utf8_acceptRanges {H : Type} : DataW H := .agg [.agg [.lit (.int .u8 128), .lit (.int .u8 191)], .agg [.lit (.int .u8 160), .lit (.int .u8 191)], .agg [.lit (.int .u8 128), .lit (.int .u8 159)], .agg [.lit (.int .u8 144), .lit (.int .u8 191)], .agg [.lit (.int .u8 128), .lit (.int .u8 143)], .agg [.lit (.int .u8 0), .lit (.int .u8 0)], .agg [.lit (.int .u8 0), .lit (.int .u8 0)], .agg [.lit (.int .u8 0), .lit (.int .u8 0)], .agg [.lit (.int .u8 0), .lit (.int .u8 0)], .agg [.lit (.int .u8 0), .lit (.int .u8 0)], .agg [.lit (.int .u8 0), .lit (.int .u8 0)], .agg [.lit (.int .u8 0), .lit (.int .u8 0)], .agg [.lit (.int .u8 0), .lit (.int .u8 0)], .agg [.lit (.int .u8 0), .lit (.int .u8 0)], .agg [.lit (.int .u8 0), .lit (.int .u8 0)], .agg [.lit (.int .u8 0), .lit (.int .u8 0)]]
/-- One of Go's own tables, pinned by name: the form's constant. -/
def laid_unicode_utf8_first : DataW Unit := Go.Pinned.utf8First

/-- 'harbingerlaw29.TreesVoid': WHATEVER THE INPUT: true; the input reads as it did. -/
def treesVoidSpec : ChangeSpec := { name := "treesVoid", fn := fun _ => fun
  | [d1, d2] => { results := [.lit (.bool true)], args := [d1, d2] }
  | _ => none }
def treesVoidRow : OpenClaim := { program := "ytpbnfinmjnpkpaagreatdoor", sum := "bfc29350eec6ce98611dacd34d05c0eadc19f67f2170c59915dd2f221806374e", func := "harbinger/harbingerlaw29.TreesVoid", spec := "treesVoid", inPlace := ["internal/bytealg.IndexByteString", "internal/bytealg.IndexString"], unfollowed := true, recurses := true, named := ["unicode/utf8.first", "unicode/utf8.acceptRanges", "internal/bytealg.MaxLen"], loops := true, plainKeys := false, apart := false, laid := [("unicode/utf8.acceptRanges", laid_unicode_utf8_acceptRanges), ("unicode/utf8.first", laid_unicode_utf8_first)] }
def TreesVoidSaid : Prop := treesVoidRow.holds Tryz.pinned (OpenSpec.ofChange treesVoidSpec)

/-- ITS FALSE NEIGHBOUR: 'it returns false'. Refute it at one input. -/
def treesVoidWrong : ChangeSpec := { name := "treesVoid", fn := fun _ => fun
  | [d1, d2] => { results := [.lit (.bool false)], args := [d1, d2] }
  | _ => none }
def TreesVoidWrongFalsely : Prop := treesVoidRow.holds Tryz.pinned (OpenSpec.ofChange treesVoidWrong)

/-- 'harbingerlaw29.TreesWays': WHATEVER THE INPUT: true; the input reads as it did. -/
def treesWaysSpec : ChangeSpec := { name := "treesWays", fn := fun _ => fun
  | [d] => { results := [.lit (.bool true)], args := [d] }
  | _ => none }
def treesWaysRow : OpenClaim := { program := "ytpbnfinmjnpkpaagreatdoor", sum := "bfc29350eec6ce98611dacd34d05c0eadc19f67f2170c59915dd2f221806374e", func := "harbinger/harbingerlaw29.TreesWays", spec := "treesWays", inPlace := ["internal/bytealg.IndexByteString", "internal/bytealg.IndexString", "internal/abi.NoEscape", "internal/bytealg.MakeNoZero"], unfollowed := true, recurses := true, named := ["unicode/utf8.first", "unicode/utf8.acceptRanges", "internal/bytealg.MaxLen"], loops := true, plainKeys := false, apart := false, laid := [("unicode/utf8.acceptRanges", laid_unicode_utf8_acceptRanges), ("unicode/utf8.first", laid_unicode_utf8_first)] }
def TreesWaysSaid : Prop := treesWaysRow.holds Tryz.pinned (OpenSpec.ofChange treesWaysSpec)

/-- ITS FALSE NEIGHBOUR: 'it returns false'. Refute it at one input. -/
def treesWaysWrong : ChangeSpec := { name := "treesWays", fn := fun _ => fun
  | [d] => { results := [.lit (.bool false)], args := [d] }
  | _ => none }
def TreesWaysWrongFalsely : Prop := treesWaysRow.holds Tryz.pinned (OpenSpec.ofChange treesWaysWrong)

/-- 'harbingerlaw31.CoversAdd': WHATEVER THE INPUT: true; the input reads as it did. -/
def coversAddSpec : ChangeSpec := { name := "coversAdd", fn := fun _ => fun
  | [d1, d2] => { results := [.lit (.bool true)], args := [d1, d2] }
  | _ => none }
def coversAddRow : OpenClaim := { program := "ytpbnfinmjnpkpaagreatdoor", sum := "bfc29350eec6ce98611dacd34d05c0eadc19f67f2170c59915dd2f221806374e", func := "harbinger/harbingerlaw31.CoversAdd", spec := "coversAdd", inPlace := ["internal/bytealg.IndexByteString", "internal/bytealg.IndexString"], unfollowed := true, recurses := true, named := ["unicode/utf8.first", "unicode/utf8.acceptRanges", "internal/bytealg.MaxLen"], loops := true, plainKeys := false, apart := false, laid := [("unicode/utf8.acceptRanges", laid_unicode_utf8_acceptRanges), ("unicode/utf8.first", laid_unicode_utf8_first)] }
def CoversAddSaid : Prop := coversAddRow.holds Tryz.pinned (OpenSpec.ofChange coversAddSpec)

/-- ITS FALSE NEIGHBOUR: 'it returns false'. Refute it at one input. -/
def coversAddWrong : ChangeSpec := { name := "coversAdd", fn := fun _ => fun
  | [d1, d2] => { results := [.lit (.bool false)], args := [d1, d2] }
  | _ => none }
def CoversAddWrongFalsely : Prop := coversAddRow.holds Tryz.pinned (OpenSpec.ofChange coversAddWrong)

/-- 'harbingerlaw31.CoversFew': WHATEVER THE INPUT: true; the input reads as it did. -/
def coversFewSpec : ChangeSpec := { name := "coversFew", fn := fun _ => fun
  | [d] => { results := [.lit (.bool true)], args := [d] }
  | _ => none }
def coversFewRow : OpenClaim := { program := "ytpbnfinmjnpkpaagreatdoor", sum := "bfc29350eec6ce98611dacd34d05c0eadc19f67f2170c59915dd2f221806374e", func := "harbinger/harbingerlaw31.CoversFew", spec := "coversFew", inPlace := ["internal/bytealg.IndexByteString", "internal/bytealg.IndexString"], unfollowed := true, recurses := true, named := ["unicode/utf8.first", "unicode/utf8.acceptRanges", "internal/bytealg.MaxLen"], plainKeys := false, apart := false, laid := [("unicode/utf8.acceptRanges", laid_unicode_utf8_acceptRanges), ("unicode/utf8.first", laid_unicode_utf8_first)] }
def CoversFewSaid : Prop := coversFewRow.holds Tryz.pinned (OpenSpec.ofChange coversFewSpec)

/-- ITS FALSE NEIGHBOUR: 'it returns false'. Refute it at one input. -/
def coversFewWrong : ChangeSpec := { name := "coversFew", fn := fun _ => fun
  | [d] => { results := [.lit (.bool false)], args := [d] }
  | _ => none }
def CoversFewWrongFalsely : Prop := coversFewRow.holds Tryz.pinned (OpenSpec.ofChange coversFewWrong)

/-- 'harbingerlaw31.CoversJoin': WHATEVER THE INPUT: true; the input reads as it did. -/
def coversJoinSpec : ChangeSpec := { name := "coversJoin", fn := fun _ => fun
  | [d1, d2, d3] => { results := [.lit (.bool true)], args := [d1, d2, d3] }
  | _ => none }
def coversJoinRow : OpenClaim := { program := "ytpbnfinmjnpkpaagreatdoor", sum := "bfc29350eec6ce98611dacd34d05c0eadc19f67f2170c59915dd2f221806374e", func := "harbinger/harbingerlaw31.CoversJoin", spec := "coversJoin", inPlace := ["internal/bytealg.IndexByteString", "internal/bytealg.IndexString"], unfollowed := true, recurses := true, named := ["unicode/utf8.first", "unicode/utf8.acceptRanges", "internal/bytealg.MaxLen"], loops := true, plainKeys := false, apart := false, laid := [("unicode/utf8.acceptRanges", laid_unicode_utf8_acceptRanges), ("unicode/utf8.first", laid_unicode_utf8_first)] }
def CoversJoinSaid : Prop := coversJoinRow.holds Tryz.pinned (OpenSpec.ofChange coversJoinSpec)

/-- ITS FALSE NEIGHBOUR: 'it returns false'. Refute it at one input. -/
def coversJoinWrong : ChangeSpec := { name := "coversJoin", fn := fun _ => fun
  | [d1, d2, d3] => { results := [.lit (.bool false)], args := [d1, d2, d3] }
  | _ => none }
def CoversJoinWrongFalsely : Prop := coversJoinRow.holds Tryz.pinned (OpenSpec.ofChange coversJoinWrong)

/-- 'harbingerlaw31.CoversOrder': WHATEVER THE INPUT: true; the input reads as it did. -/
def coversOrderSpec : ChangeSpec := { name := "coversOrder", fn := fun _ => fun
  | [d1, d2] => { results := [.lit (.bool true)], args := [d1, d2] }
  | _ => none }
def coversOrderRow : OpenClaim := { program := "ytpbnfinmjnpkpaagreatdoor", sum := "bfc29350eec6ce98611dacd34d05c0eadc19f67f2170c59915dd2f221806374e", func := "harbinger/harbingerlaw31.CoversOrder", spec := "coversOrder", inPlace := ["internal/bytealg.IndexByteString", "internal/bytealg.IndexString"], unfollowed := true, recurses := true, named := ["unicode/utf8.first", "unicode/utf8.acceptRanges", "internal/bytealg.MaxLen"], loops := true, plainKeys := false, apart := false, laid := [("unicode/utf8.acceptRanges", laid_unicode_utf8_acceptRanges), ("unicode/utf8.first", laid_unicode_utf8_first)] }
def CoversOrderSaid : Prop := coversOrderRow.holds Tryz.pinned (OpenSpec.ofChange coversOrderSpec)

/-- ITS FALSE NEIGHBOUR: 'it returns false'. Refute it at one input. -/
def coversOrderWrong : ChangeSpec := { name := "coversOrder", fn := fun _ => fun
  | [d1, d2] => { results := [.lit (.bool false)], args := [d1, d2] }
  | _ => none }
def CoversOrderWrongFalsely : Prop := coversOrderRow.holds Tryz.pinned (OpenSpec.ofChange coversOrderWrong)

/- THE SECOND FORM. 'bulk': how many values and letters a reading holds, each counted each time it is reached (what is shared counts as often as it is met; a slice's spare places count too). A statement '..UptoSaid' is the law's where the arguments, and the package variables that the reading takes, are together of bulk at most 1048576: NARROWER than '..Said'. Prove '..Said' where nothing that the law and all that it calls make is longer than what came in: it says more and counts as full. Else prove '..UptoSaid'. A law counts once. -/
mutual
def uptoBulk {H : Type} : DataW H → Nat
  | .lit (.string bytes) => bytes.length + 1
  | .lit _ => 1
  | .nil => 1
  | .ptr d => uptoBulk d + 1
  | .slice elems spare => uptoBulkAll elems + uptoBulkAll spare + 1
  | .agg parts => uptoBulkAll parts + 1
  | .iface _ d => uptoBulk d + 1
  | .map entries => uptoBulkEntries entries + 1
  | .held _ => 1
def uptoBulkAll {H : Type} : List (DataW H) → Nat
  | [] => 0
  | d :: r => uptoBulk d + uptoBulkAll r
def uptoBulkEntries {H : Type} : List (Lit × DataW H) → Nat
  | [] => 0
  | x :: r => uptoBulkEntry x + uptoBulkEntries r
def uptoBulkEntry {H : Type} : Lit × DataW H → Nat
  | (.string bytes, d) => bytes.length + uptoBulk d + 1
  | (_, d) => uptoBulk d + 1
 end
def uptoSmall : (H : Type) → List (DataW H) → Bool := fun _ ds => decide (uptoBulkAll ds ≤ 1048576)
def OpenSpec.upto (s : _root_.Go.ChangeSpec) : _root_.Go.OpenSpec := { _root_.Go.OpenSpec.ofChange s with cond := some uptoSmall }

/-- 'harbingerlaw29.TreesVoid', WHERE WHAT IT READS IS OF BULK AT MOST 1048576: true; the input reads as it did. -/
def treesVoidUptoRow : OpenClaim := { program := "ytpbnfinmjnpkpaagreatdoor", sum := "bfc29350eec6ce98611dacd34d05c0eadc19f67f2170c59915dd2f221806374e", func := "harbinger/harbingerlaw29.TreesVoid", spec := "treesVoid", inPlace := ["internal/bytealg.IndexByteString", "internal/bytealg.IndexString"], unfollowed := true, recurses := true, named := ["unicode/utf8.first", "unicode/utf8.acceptRanges", "internal/bytealg.MaxLen"], loops := true, plainKeys := false, apart := false, laid := [("unicode/utf8.acceptRanges", laid_unicode_utf8_acceptRanges), ("unicode/utf8.first", laid_unicode_utf8_first)], narrowed := true }
def TreesVoidUptoSaid : Prop := treesVoidUptoRow.holds Tryz.pinned (OpenSpec.upto treesVoidSpec)

/-- 'harbingerlaw29.TreesWays', WHERE WHAT IT READS IS OF BULK AT MOST 1048576: true; the input reads as it did. -/
def treesWaysUptoRow : OpenClaim := { program := "ytpbnfinmjnpkpaagreatdoor", sum := "bfc29350eec6ce98611dacd34d05c0eadc19f67f2170c59915dd2f221806374e", func := "harbinger/harbingerlaw29.TreesWays", spec := "treesWays", inPlace := ["internal/bytealg.IndexByteString", "internal/bytealg.IndexString", "internal/abi.NoEscape", "internal/bytealg.MakeNoZero"], unfollowed := true, recurses := true, named := ["unicode/utf8.first", "unicode/utf8.acceptRanges", "internal/bytealg.MaxLen"], loops := true, plainKeys := false, apart := false, laid := [("unicode/utf8.acceptRanges", laid_unicode_utf8_acceptRanges), ("unicode/utf8.first", laid_unicode_utf8_first)], narrowed := true }
def TreesWaysUptoSaid : Prop := treesWaysUptoRow.holds Tryz.pinned (OpenSpec.upto treesWaysSpec)

/-- 'harbingerlaw31.CoversAdd', WHERE WHAT IT READS IS OF BULK AT MOST 1048576: true; the input reads as it did. -/
def coversAddUptoRow : OpenClaim := { program := "ytpbnfinmjnpkpaagreatdoor", sum := "bfc29350eec6ce98611dacd34d05c0eadc19f67f2170c59915dd2f221806374e", func := "harbinger/harbingerlaw31.CoversAdd", spec := "coversAdd", inPlace := ["internal/bytealg.IndexByteString", "internal/bytealg.IndexString"], unfollowed := true, recurses := true, named := ["unicode/utf8.first", "unicode/utf8.acceptRanges", "internal/bytealg.MaxLen"], loops := true, plainKeys := false, apart := false, laid := [("unicode/utf8.acceptRanges", laid_unicode_utf8_acceptRanges), ("unicode/utf8.first", laid_unicode_utf8_first)], narrowed := true }
def CoversAddUptoSaid : Prop := coversAddUptoRow.holds Tryz.pinned (OpenSpec.upto coversAddSpec)

/-- 'harbingerlaw31.CoversFew', WHERE WHAT IT READS IS OF BULK AT MOST 1048576: true; the input reads as it did. -/
def coversFewUptoRow : OpenClaim := { program := "ytpbnfinmjnpkpaagreatdoor", sum := "bfc29350eec6ce98611dacd34d05c0eadc19f67f2170c59915dd2f221806374e", func := "harbinger/harbingerlaw31.CoversFew", spec := "coversFew", inPlace := ["internal/bytealg.IndexByteString", "internal/bytealg.IndexString"], unfollowed := true, recurses := true, named := ["unicode/utf8.first", "unicode/utf8.acceptRanges", "internal/bytealg.MaxLen"], plainKeys := false, apart := false, laid := [("unicode/utf8.acceptRanges", laid_unicode_utf8_acceptRanges), ("unicode/utf8.first", laid_unicode_utf8_first)], narrowed := true }
def CoversFewUptoSaid : Prop := coversFewUptoRow.holds Tryz.pinned (OpenSpec.upto coversFewSpec)

/-- 'harbingerlaw31.CoversJoin', WHERE WHAT IT READS IS OF BULK AT MOST 1048576: true; the input reads as it did. -/
def coversJoinUptoRow : OpenClaim := { program := "ytpbnfinmjnpkpaagreatdoor", sum := "bfc29350eec6ce98611dacd34d05c0eadc19f67f2170c59915dd2f221806374e", func := "harbinger/harbingerlaw31.CoversJoin", spec := "coversJoin", inPlace := ["internal/bytealg.IndexByteString", "internal/bytealg.IndexString"], unfollowed := true, recurses := true, named := ["unicode/utf8.first", "unicode/utf8.acceptRanges", "internal/bytealg.MaxLen"], loops := true, plainKeys := false, apart := false, laid := [("unicode/utf8.acceptRanges", laid_unicode_utf8_acceptRanges), ("unicode/utf8.first", laid_unicode_utf8_first)], narrowed := true }
def CoversJoinUptoSaid : Prop := coversJoinUptoRow.holds Tryz.pinned (OpenSpec.upto coversJoinSpec)

/-- 'harbingerlaw31.CoversOrder', WHERE WHAT IT READS IS OF BULK AT MOST 1048576: true; the input reads as it did. -/
def coversOrderUptoRow : OpenClaim := { program := "ytpbnfinmjnpkpaagreatdoor", sum := "bfc29350eec6ce98611dacd34d05c0eadc19f67f2170c59915dd2f221806374e", func := "harbinger/harbingerlaw31.CoversOrder", spec := "coversOrder", inPlace := ["internal/bytealg.IndexByteString", "internal/bytealg.IndexString"], unfollowed := true, recurses := true, named := ["unicode/utf8.first", "unicode/utf8.acceptRanges", "internal/bytealg.MaxLen"], loops := true, plainKeys := false, apart := false, laid := [("unicode/utf8.acceptRanges", laid_unicode_utf8_acceptRanges), ("unicode/utf8.first", laid_unicode_utf8_first)], narrowed := true }
def CoversOrderUptoSaid : Prop := coversOrderUptoRow.holds Tryz.pinned (OpenSpec.upto coversOrderSpec)

end Rows
end Go.Proofs.YtpbnfinmjnpkpaaGreatDoor
