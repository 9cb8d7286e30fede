/-
  DERIVED. GIVEN WITH THE SEED: THE CARDS: each row of YtcknbmdkefcinaaGreatDoorRows.lean that lists a variable, with what it lists TIED to the program's text (the seventh form; the later family's looks); each row that meets fmt, with fmt's text TOLD by the authors' own Lean function (tested against real Go, not proved from fmt's source: count such statements apart). THE CARD IS WHAT COUNTS. Prove the row's statement (the work); the ties are given (YtcknbmdkefcinaaGreatDoorTie.lean); close each card by the builder's one call (the guide's Derived/Test/ToyasCard.lean, 'card_holds'). Laid BY PROGRAM, IN A SANDBOX (cutbox-door.mjs). By AI agents, Wed Nov 11 2026. No macro, syntax, notation, axiom, sorry.
-/
import Derived.Test.YtcknbmdkefcinaaGreatDoorRows
import GoSem.ClaimSeven
namespace Go.Proofs.YtcknbmdkefcinaaGreatDoor
namespace Rows

/-- THE TIED CARD OF 'whittlerlaw5.PrintTurn'. -/
def printTurnCard : Claim7 := { stood := { row := printTurnRow, standIns := [], harness := (true, "976d7d070ccae62888779f1ab03d585f794fc104ccaf5782f0a2e51da894295d"), looks := false }, kinds := [], alts := [], laidByText := true, laidKinds := [.data, .data, .data], laidTests := true, laidLooks := .later }
def PrintTurnCardSaid : Prop := Claim7.holds Tryz.pinned (.plain (OpenSpec.ofChange printTurnSpec)) printTurnCard

/-- THE TIED CARD OF 'whittlerlaw5.PrintSwap'. -/
def printSwapCard : Claim7 := { stood := { row := printSwapRow, standIns := [], harness := (true, "976d7d070ccae62888779f1ab03d585f794fc104ccaf5782f0a2e51da894295d"), looks := false }, kinds := [], alts := [], laidByText := true, laidKinds := [.data, .data, .data], laidTests := true, laidLooks := .later }
def PrintSwapCardSaid : Prop := Claim7.holds Tryz.pinned (.plain (OpenSpec.ofChange printSwapSpec)) printSwapCard

/-- THE SECOND FORM's CARD OF 'whittlerlaw5.PrintTurn'. -/
def printTurnUptoCard : Claim7 := { stood := { row := printTurnUptoRow, standIns := [], harness := (true, "976d7d070ccae62888779f1ab03d585f794fc104ccaf5782f0a2e51da894295d"), looks := false }, kinds := [], alts := [], laidByText := true, laidKinds := [.data, .data, .data], laidTests := true, laidLooks := .later }
def PrintTurnUptoCardSaid : Prop := Claim7.holds Tryz.pinned (.plain (OpenSpec.upto printTurnSpec)) printTurnUptoCard

/-- THE SECOND FORM's CARD OF 'whittlerlaw5.PrintSwap'. -/
def printSwapUptoCard : Claim7 := { stood := { row := printSwapUptoRow, standIns := [], harness := (true, "976d7d070ccae62888779f1ab03d585f794fc104ccaf5782f0a2e51da894295d"), looks := false }, kinds := [], alts := [], laidByText := true, laidKinds := [.data, .data, .data], laidTests := true, laidLooks := .later }
def PrintSwapUptoCardSaid : Prop := Claim7.holds Tryz.pinned (.plain (OpenSpec.upto printSwapSpec)) printSwapUptoCard
end Rows
end Go.Proofs.YtcknbmdkefcinaaGreatDoor
