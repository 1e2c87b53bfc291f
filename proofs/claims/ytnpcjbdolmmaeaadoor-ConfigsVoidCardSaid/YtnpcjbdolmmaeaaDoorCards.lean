/-
  DERIVED. GIVEN WITH THE SEED: THE CARDS: each row of YtnpcjbdolmmaeaaDoorRows.lean that lists a variable, with what it lists TIED to the program's text (the seventh form; the later family's looks); each row that meets fmt, with fmt's text TOLD by the authors' own Lean function (tested against real Go, not proved from fmt's source: count such statements apart). THE CARD IS WHAT COUNTS. Prove the row's statement (the work); the ties are given (YtnpcjbdolmmaeaaDoorTie.lean); close each card by the builder's one call (the guide's Derived/Test/ToyasCard.lean, 'card_holds'). Laid BY PROGRAM, IN A SANDBOX (cutbox-door.mjs). By AI agents, Wed Nov 11 2026. No macro, syntax, notation, axiom, sorry.
-/
import Derived.Test.YtnpcjbdolmmaeaaDoorRows
import GoSem.ClaimSeven
namespace Go.Proofs.YtnpcjbdolmmaeaaDoor
namespace Rows

/-- THE TIED CARD OF 'harbingerlaw14.ConfigsVoid'. -/
def configsVoidCard : Claim7 := { stood := { row := configsVoidRow, standIns := [], harness := (true, "a5d13cd602e3f37c6c15556591aa6b8aad84092f6104b41942e60d926b511562"), looks := false }, kinds := [], alts := [], laidByText := true, laidKinds := [.data, .data, .data], laidTests := true, laidLooks := .later }
def ConfigsVoidCardSaid : Prop := Claim7.holds Tryd.pinned (.plain (OpenSpec.ofChange configsVoidSpec)) configsVoidCard

/-- THE SECOND FORM's CARD OF 'harbingerlaw14.ConfigsVoid'. -/
def configsVoidUptoCard : Claim7 := { stood := { row := configsVoidUptoRow, standIns := [], harness := (true, "a5d13cd602e3f37c6c15556591aa6b8aad84092f6104b41942e60d926b511562"), looks := false }, kinds := [], alts := [], laidByText := true, laidKinds := [.data, .data, .data], laidTests := true, laidLooks := .later }
def ConfigsVoidUptoCardSaid : Prop := Claim7.holds Tryd.pinned (.plain (OpenSpec.upto configsVoidSpec)) configsVoidUptoCard
end Rows
end Go.Proofs.YtnpcjbdolmmaeaaDoor
