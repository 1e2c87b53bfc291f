/-
  DERIVED. GIVEN WITH THE SEED: THE CARDS: each row of YtoclbcfgfaialaaGreatDoorRows.lean that lists a variable, with what it lists TIED to the program's text (the seventh form; the later family's looks); each row that meets fmt, with fmt's text TOLD by the authors' own Lean function (tested against real Go, not proved from fmt's source: count such statements apart). THE CARD IS WHAT COUNTS. Prove the row's statement (the work); the ties are given (YtoclbcfgfaialaaGreatDoorTie.lean); close each card by the builder's one call (the guide's Derived/Test/ToyasCard.lean, 'card_holds'). Laid BY PROGRAM, IN A SANDBOX (cutbox-door.mjs). By AI agents, Wed Nov 11 2026. No macro, syntax, notation, axiom, sorry.
-/
import Derived.Test.YtoclbcfgfaialaaGreatDoorRows
import GoSem.ClaimSeven
namespace Go.Proofs.YtoclbcfgfaialaaGreatDoor
namespace Rows

/-- THE TIED CARD OF 'harbingerlaw09.SubsetsOf'. -/
def subsetsOfCard : Claim7 := { stood := { row := subsetsOfRow, standIns := [], harness := (true, "1bcdd2a45de94dbfca70b505750fa1c9e54fed22113ecbc8a269e5bf495265b5"), looks := false }, kinds := [], alts := [], laidByText := true, laidKinds := [.data, .data, .data], laidTests := true, laidLooks := .later }
def SubsetsOfCardSaid : Prop := Claim7.holds Tryz.pinned (.plain (OpenSpec.ofChange subsetsOfSpec)) subsetsOfCard

/-- THE TIED CARD OF 'harbingerlaw09.SubsetsApart'. -/
def subsetsApartCard : Claim7 := { stood := { row := subsetsApartRow, standIns := [], harness := (true, "1bcdd2a45de94dbfca70b505750fa1c9e54fed22113ecbc8a269e5bf495265b5"), looks := false }, kinds := [], alts := [], laidByText := true, laidKinds := [.data, .data, .data], laidTests := true, laidLooks := .later }
def SubsetsApartCardSaid : Prop := Claim7.holds Tryz.pinned (.plain (OpenSpec.ofChange subsetsApartSpec)) subsetsApartCard

/-- THE SECOND FORM's CARD OF 'harbingerlaw09.SubsetsOf'. -/
def subsetsOfUptoCard : Claim7 := { stood := { row := subsetsOfUptoRow, standIns := [], harness := (true, "1bcdd2a45de94dbfca70b505750fa1c9e54fed22113ecbc8a269e5bf495265b5"), looks := false }, kinds := [], alts := [], laidByText := true, laidKinds := [.data, .data, .data], laidTests := true, laidLooks := .later }
def SubsetsOfUptoCardSaid : Prop := Claim7.holds Tryz.pinned (.plain (OpenSpec.upto subsetsOfSpec)) subsetsOfUptoCard

/-- THE SECOND FORM's CARD OF 'harbingerlaw09.SubsetsApart'. -/
def subsetsApartUptoCard : Claim7 := { stood := { row := subsetsApartUptoRow, standIns := [], harness := (true, "1bcdd2a45de94dbfca70b505750fa1c9e54fed22113ecbc8a269e5bf495265b5"), looks := false }, kinds := [], alts := [], laidByText := true, laidKinds := [.data, .data, .data], laidTests := true, laidLooks := .later }
def SubsetsApartUptoCardSaid : Prop := Claim7.holds Tryz.pinned (.plain (OpenSpec.upto subsetsApartSpec)) subsetsApartUptoCard
end Rows
end Go.Proofs.YtoclbcfgfaialaaGreatDoor
