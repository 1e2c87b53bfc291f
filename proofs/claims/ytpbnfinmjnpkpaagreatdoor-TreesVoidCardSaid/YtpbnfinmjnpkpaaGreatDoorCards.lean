/-
  DERIVED. GIVEN WITH THE SEED: THE CARDS: each row of YtpbnfinmjnpkpaaGreatDoorRows.lean that lists a variable, with what it lists TIED to the program's text (the seventh form; the later family's looks); each row that meets fmt, with fmt's text TOLD by the authors' own Lean function (tested against real Go, not proved from fmt's source: count such statements apart). THE CARD IS WHAT COUNTS. Prove the row's statement (the work); the ties are given (YtpbnfinmjnpkpaaGreatDoorTie.lean); close each card by the builder's one call (the guide's Derived/Test/ToyasCard.lean, 'card_holds'). Laid BY PROGRAM, IN A SANDBOX (cutbox-door.mjs). By AI agents, Wed Nov 11 2026. No macro, syntax, notation, axiom, sorry.
-/
import Derived.Test.YtpbnfinmjnpkpaaGreatDoorRows
import GoSem.ClaimSeven
namespace Go.Proofs.YtpbnfinmjnpkpaaGreatDoor
namespace Rows

/-- THE TIED CARD OF 'harbingerlaw29.TreesVoid'. -/
def treesVoidCard : Claim7 := { stood := { row := treesVoidRow, standIns := [], harness := (true, "08b9a10a077bf5d5fc22049de8d2f9d7632b933475507d487da352ebd49c0ffd"), looks := true }, kinds := [], alts := [], laidByText := true, laidKinds := [.data, .pinned], laidTests := true, laidLooks := .later }
def TreesVoidCardSaid : Prop := Claim7.holds Tryz.pinned (.plain (OpenSpec.ofChange treesVoidSpec)) treesVoidCard

/-- THE TIED CARD OF 'harbingerlaw29.TreesWays'. -/
def treesWaysCard : Claim7 := { stood := { row := treesWaysRow, standIns := [], harness := (true, "08b9a10a077bf5d5fc22049de8d2f9d7632b933475507d487da352ebd49c0ffd"), looks := true }, kinds := [], alts := [], laidByText := true, laidKinds := [.data, .pinned], laidTests := true, laidLooks := .later }
def TreesWaysCardSaid : Prop := Claim7.holds Tryz.pinned (.plain (OpenSpec.ofChange treesWaysSpec)) treesWaysCard

/-- THE TIED CARD OF 'harbingerlaw31.CoversAdd'. -/
def coversAddCard : Claim7 := { stood := { row := coversAddRow, standIns := [], harness := (true, "08b9a10a077bf5d5fc22049de8d2f9d7632b933475507d487da352ebd49c0ffd"), looks := true }, kinds := [], alts := [], laidByText := true, laidKinds := [.data, .pinned], laidTests := true, laidLooks := .later }
def CoversAddCardSaid : Prop := Claim7.holds Tryz.pinned (.plain (OpenSpec.ofChange coversAddSpec)) coversAddCard

/-- THE TIED CARD OF 'harbingerlaw31.CoversFew'. -/
def coversFewCard : Claim7 := { stood := { row := coversFewRow, standIns := [], harness := (true, "08b9a10a077bf5d5fc22049de8d2f9d7632b933475507d487da352ebd49c0ffd"), looks := true }, kinds := [], alts := [], laidByText := true, laidKinds := [.data, .pinned], laidTests := true, laidLooks := .later }
def CoversFewCardSaid : Prop := Claim7.holds Tryz.pinned (.plain (OpenSpec.ofChange coversFewSpec)) coversFewCard

/-- THE TIED CARD OF 'harbingerlaw31.CoversJoin'. -/
def coversJoinCard : Claim7 := { stood := { row := coversJoinRow, standIns := [], harness := (true, "08b9a10a077bf5d5fc22049de8d2f9d7632b933475507d487da352ebd49c0ffd"), looks := true }, kinds := [], alts := [], laidByText := true, laidKinds := [.data, .pinned], laidTests := true, laidLooks := .later }
def CoversJoinCardSaid : Prop := Claim7.holds Tryz.pinned (.plain (OpenSpec.ofChange coversJoinSpec)) coversJoinCard

/-- THE TIED CARD OF 'harbingerlaw31.CoversOrder'. -/
def coversOrderCard : Claim7 := { stood := { row := coversOrderRow, standIns := [], harness := (true, "08b9a10a077bf5d5fc22049de8d2f9d7632b933475507d487da352ebd49c0ffd"), looks := true }, kinds := [], alts := [], laidByText := true, laidKinds := [.data, .pinned], laidTests := true, laidLooks := .later }
def CoversOrderCardSaid : Prop := Claim7.holds Tryz.pinned (.plain (OpenSpec.ofChange coversOrderSpec)) coversOrderCard

/-- THE SECOND FORM's CARD OF 'harbingerlaw29.TreesVoid'. -/
def treesVoidUptoCard : Claim7 := { stood := { row := treesVoidUptoRow, standIns := [], harness := (true, "08b9a10a077bf5d5fc22049de8d2f9d7632b933475507d487da352ebd49c0ffd"), looks := true }, kinds := [], alts := [], laidByText := true, laidKinds := [.data, .pinned], laidTests := true, laidLooks := .later }
def TreesVoidUptoCardSaid : Prop := Claim7.holds Tryz.pinned (.plain (OpenSpec.upto treesVoidSpec)) treesVoidUptoCard

/-- THE SECOND FORM's CARD OF 'harbingerlaw29.TreesWays'. -/
def treesWaysUptoCard : Claim7 := { stood := { row := treesWaysUptoRow, standIns := [], harness := (true, "08b9a10a077bf5d5fc22049de8d2f9d7632b933475507d487da352ebd49c0ffd"), looks := true }, kinds := [], alts := [], laidByText := true, laidKinds := [.data, .pinned], laidTests := true, laidLooks := .later }
def TreesWaysUptoCardSaid : Prop := Claim7.holds Tryz.pinned (.plain (OpenSpec.upto treesWaysSpec)) treesWaysUptoCard

/-- THE SECOND FORM's CARD OF 'harbingerlaw31.CoversAdd'. -/
def coversAddUptoCard : Claim7 := { stood := { row := coversAddUptoRow, standIns := [], harness := (true, "08b9a10a077bf5d5fc22049de8d2f9d7632b933475507d487da352ebd49c0ffd"), looks := true }, kinds := [], alts := [], laidByText := true, laidKinds := [.data, .pinned], laidTests := true, laidLooks := .later }
def CoversAddUptoCardSaid : Prop := Claim7.holds Tryz.pinned (.plain (OpenSpec.upto coversAddSpec)) coversAddUptoCard

/-- THE SECOND FORM's CARD OF 'harbingerlaw31.CoversFew'. -/
def coversFewUptoCard : Claim7 := { stood := { row := coversFewUptoRow, standIns := [], harness := (true, "08b9a10a077bf5d5fc22049de8d2f9d7632b933475507d487da352ebd49c0ffd"), looks := true }, kinds := [], alts := [], laidByText := true, laidKinds := [.data, .pinned], laidTests := true, laidLooks := .later }
def CoversFewUptoCardSaid : Prop := Claim7.holds Tryz.pinned (.plain (OpenSpec.upto coversFewSpec)) coversFewUptoCard

/-- THE SECOND FORM's CARD OF 'harbingerlaw31.CoversJoin'. -/
def coversJoinUptoCard : Claim7 := { stood := { row := coversJoinUptoRow, standIns := [], harness := (true, "08b9a10a077bf5d5fc22049de8d2f9d7632b933475507d487da352ebd49c0ffd"), looks := true }, kinds := [], alts := [], laidByText := true, laidKinds := [.data, .pinned], laidTests := true, laidLooks := .later }
def CoversJoinUptoCardSaid : Prop := Claim7.holds Tryz.pinned (.plain (OpenSpec.upto coversJoinSpec)) coversJoinUptoCard

/-- THE SECOND FORM's CARD OF 'harbingerlaw31.CoversOrder'. -/
def coversOrderUptoCard : Claim7 := { stood := { row := coversOrderUptoRow, standIns := [], harness := (true, "08b9a10a077bf5d5fc22049de8d2f9d7632b933475507d487da352ebd49c0ffd"), looks := true }, kinds := [], alts := [], laidByText := true, laidKinds := [.data, .pinned], laidTests := true, laidLooks := .later }
def CoversOrderUptoCardSaid : Prop := Claim7.holds Tryz.pinned (.plain (OpenSpec.upto coversOrderSpec)) coversOrderUptoCard
end Rows
end Go.Proofs.YtpbnfinmjnpkpaaGreatDoor
