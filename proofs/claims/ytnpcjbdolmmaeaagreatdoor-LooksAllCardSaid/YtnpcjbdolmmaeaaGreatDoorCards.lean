/-
  DERIVED. GIVEN WITH THE SEED: THE CARDS: each row of YtnpcjbdolmmaeaaGreatDoorRows.lean that lists a variable, with what it lists TIED to the program's text (the seventh form; the later family's looks); each row that meets fmt, with fmt's text TOLD by the authors' own Lean function (tested against real Go, not proved from fmt's source: count such statements apart). THE CARD IS WHAT COUNTS. Prove the row's statement (the work); the ties are given (YtnpcjbdolmmaeaaGreatDoorTie.lean); close each card by the builder's one call (the guide's Derived/Test/ToyasCard.lean, 'card_holds'). Laid BY PROGRAM, IN A SANDBOX (cutbox-door.mjs). By AI agents, Wed Nov 11 2026. No macro, syntax, notation, axiom, sorry.
-/
import Derived.Test.YtnpcjbdolmmaeaaGreatDoorRows
import GoSem.ClaimSeven
namespace Go.Proofs.YtnpcjbdolmmaeaaGreatDoor
namespace Rows

/-- THE TIED CARD OF 'harbingerlaw14.ConfigsPlay'. -/
def configsPlayCard : Claim7 := { stood := { row := configsPlayRow, standIns := [], harness := (true, "2670f583e912d58b60a07f9e7b1e9dbe3fc9164704eeae6a9ffca2cf0ddedec2"), looks := true }, kinds := [], alts := [], laidByText := true, laidKinds := [.data, .data, .data], laidTests := true, laidLooks := .later }
def ConfigsPlayCardSaid : Prop := Claim7.holds Tryz.pinned (.plain (OpenSpec.ofChange configsPlaySpec)) configsPlayCard

/-- THE TIED CARD OF 'harbingerlaw15.LooksBuild'. -/
def looksBuildCard : Claim7 := { stood := { row := looksBuildRow, standIns := [], harness := (true, "2670f583e912d58b60a07f9e7b1e9dbe3fc9164704eeae6a9ffca2cf0ddedec2"), looks := true }, kinds := [], alts := [], laidByText := true, laidKinds := [.data, .data, .data], laidTests := true, laidLooks := .later }
def LooksBuildCardSaid : Prop := Claim7.holds Tryz.pinned (.plain (OpenSpec.ofChange looksBuildSpec)) looksBuildCard

/-- THE TIED CARD OF 'harbingerlaw15.LooksAll'. -/
def looksAllCard : Claim7 := { stood := { row := looksAllRow, standIns := [], harness := (true, "2670f583e912d58b60a07f9e7b1e9dbe3fc9164704eeae6a9ffca2cf0ddedec2"), looks := true }, kinds := [], alts := [], laidByText := true, laidKinds := [.data, .data, .data], laidTests := true, laidLooks := .later }
def LooksAllCardSaid : Prop := Claim7.holds Tryz.pinned (.plain (OpenSpec.ofChange looksAllSpec)) looksAllCard

/-- THE SECOND FORM's CARD OF 'harbingerlaw14.ConfigsPlay'. -/
def configsPlayUptoCard : Claim7 := { stood := { row := configsPlayUptoRow, standIns := [], harness := (true, "2670f583e912d58b60a07f9e7b1e9dbe3fc9164704eeae6a9ffca2cf0ddedec2"), looks := true }, kinds := [], alts := [], laidByText := true, laidKinds := [.data, .data, .data], laidTests := true, laidLooks := .later }
def ConfigsPlayUptoCardSaid : Prop := Claim7.holds Tryz.pinned (.plain (OpenSpec.upto configsPlaySpec)) configsPlayUptoCard

/-- THE SECOND FORM's CARD OF 'harbingerlaw15.LooksBuild'. -/
def looksBuildUptoCard : Claim7 := { stood := { row := looksBuildUptoRow, standIns := [], harness := (true, "2670f583e912d58b60a07f9e7b1e9dbe3fc9164704eeae6a9ffca2cf0ddedec2"), looks := true }, kinds := [], alts := [], laidByText := true, laidKinds := [.data, .data, .data], laidTests := true, laidLooks := .later }
def LooksBuildUptoCardSaid : Prop := Claim7.holds Tryz.pinned (.plain (OpenSpec.upto looksBuildSpec)) looksBuildUptoCard

/-- THE SECOND FORM's CARD OF 'harbingerlaw15.LooksAll'. -/
def looksAllUptoCard : Claim7 := { stood := { row := looksAllUptoRow, standIns := [], harness := (true, "2670f583e912d58b60a07f9e7b1e9dbe3fc9164704eeae6a9ffca2cf0ddedec2"), looks := true }, kinds := [], alts := [], laidByText := true, laidKinds := [.data, .data, .data], laidTests := true, laidLooks := .later }
def LooksAllUptoCardSaid : Prop := Claim7.holds Tryz.pinned (.plain (OpenSpec.upto looksAllSpec)) looksAllUptoCard
end Rows
end Go.Proofs.YtnpcjbdolmmaeaaGreatDoor
