/-
  DERIVED. GIVEN WITH THE SEED: THE CARDS: each row of YtcbilcfieoibbaaGreatDoorRows.lean that lists a variable, with what it lists TIED to the program's text (the seventh form; the later family's looks); each row that meets fmt, with fmt's text TOLD by the authors' own Lean function (tested against real Go, not proved from fmt's source: count such statements apart). THE CARD IS WHAT COUNTS. Prove the row's statement (the work); the ties are given (YtcbilcfieoibbaaGreatDoorTie.lean); close each card by the builder's one call (the guide's Derived/Test/ToyasCard.lean, 'card_holds'). Laid BY PROGRAM, IN A SANDBOX (cutbox-door.mjs). By AI agents, Wed Nov 11 2026. No macro, syntax, notation, axiom, sorry.
-/
import Derived.Test.YtcbilcfieoibbaaGreatDoorRows
import GoSem.ClaimSeven
namespace Go.Proofs.YtcbilcfieoibbaaGreatDoor
namespace Rows

/-- THE TIED CARD OF 'harbingerlaw25.ReportsText'. -/
def reportsTextCard : Claim7 := { stood := { row := reportsTextRow, standIns := [], harness := (true, "554e6ba92bb16c79c0260e8b520ec8018dfef6709fbf4407680e65a0eb0d3df4"), looks := true }, kinds := [], alts := [], laidByText := true, laidKinds := [.data, .data, .data, .data, .data, .pinned], laidTests := true, laidLooks := .later }
def ReportsTextCardSaid : Prop := Claim7.holds Tryz.pinned (.plain (OpenSpec.ofChange reportsTextSpec)) reportsTextCard

/-- THE TIED CARD OF 'harbingerlaw25.ReportsTree'. -/
def reportsTreeCard : Claim7 := { stood := { row := reportsTreeRow, standIns := [], harness := (true, "554e6ba92bb16c79c0260e8b520ec8018dfef6709fbf4407680e65a0eb0d3df4"), looks := true }, kinds := [], alts := [], laidByText := true, laidKinds := [.data, .data, .data, .data, .data, .pinned], laidTests := true, laidLooks := .later }
def ReportsTreeCardSaid : Prop := Claim7.holds Tryz.pinned (.plain (OpenSpec.ofChange reportsTreeSpec)) reportsTreeCard

/-- THE TIED CARD OF 'harbingerlaw25.ReportsApart'. -/
def reportsApartCard : Claim7 := { stood := { row := reportsApartRow, standIns := [], harness := (true, "554e6ba92bb16c79c0260e8b520ec8018dfef6709fbf4407680e65a0eb0d3df4"), looks := true }, kinds := [], alts := [], laidByText := true, laidKinds := [.data, .data, .data, .data, .data, .pinned], laidTests := true, laidLooks := .later }
def ReportsApartCardSaid : Prop := Claim7.holds Tryz.pinned (.plain (OpenSpec.ofChange reportsApartSpec)) reportsApartCard

/-- THE SECOND FORM's CARD OF 'harbingerlaw25.ReportsText'. -/
def reportsTextUptoCard : Claim7 := { stood := { row := reportsTextUptoRow, standIns := [], harness := (true, "554e6ba92bb16c79c0260e8b520ec8018dfef6709fbf4407680e65a0eb0d3df4"), looks := true }, kinds := [], alts := [], laidByText := true, laidKinds := [.data, .data, .data, .data, .data, .pinned], laidTests := true, laidLooks := .later }
def ReportsTextUptoCardSaid : Prop := Claim7.holds Tryz.pinned (.plain (OpenSpec.upto reportsTextSpec)) reportsTextUptoCard

/-- THE SECOND FORM's CARD OF 'harbingerlaw25.ReportsTree'. -/
def reportsTreeUptoCard : Claim7 := { stood := { row := reportsTreeUptoRow, standIns := [], harness := (true, "554e6ba92bb16c79c0260e8b520ec8018dfef6709fbf4407680e65a0eb0d3df4"), looks := true }, kinds := [], alts := [], laidByText := true, laidKinds := [.data, .data, .data, .data, .data, .pinned], laidTests := true, laidLooks := .later }
def ReportsTreeUptoCardSaid : Prop := Claim7.holds Tryz.pinned (.plain (OpenSpec.upto reportsTreeSpec)) reportsTreeUptoCard

/-- THE SECOND FORM's CARD OF 'harbingerlaw25.ReportsApart'. -/
def reportsApartUptoCard : Claim7 := { stood := { row := reportsApartUptoRow, standIns := [], harness := (true, "554e6ba92bb16c79c0260e8b520ec8018dfef6709fbf4407680e65a0eb0d3df4"), looks := true }, kinds := [], alts := [], laidByText := true, laidKinds := [.data, .data, .data, .data, .data, .pinned], laidTests := true, laidLooks := .later }
def ReportsApartUptoCardSaid : Prop := Claim7.holds Tryz.pinned (.plain (OpenSpec.upto reportsApartSpec)) reportsApartUptoCard
end Rows
end Go.Proofs.YtcbilcfieoibbaaGreatDoor
