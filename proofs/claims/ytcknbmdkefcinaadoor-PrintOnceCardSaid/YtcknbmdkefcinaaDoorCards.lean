/-
  DERIVED. GIVEN WITH THE SEED: THE CARDS: each row of YtcknbmdkefcinaaDoorRows.lean that lists a variable, with what it lists TIED to the program's text (the seventh form; the later family's looks); each row that meets fmt, with fmt's text TOLD by the authors' own Lean function (tested against real Go, not proved from fmt's source: count such statements apart). THE CARD IS WHAT COUNTS. Prove the row's statement (the work); the ties are given (YtcknbmdkefcinaaDoorTie.lean); close each card by the builder's one call (the guide's Derived/Test/ToyasCard.lean, 'card_holds'). Laid BY PROGRAM, IN A SANDBOX (cutbox-door.mjs). By AI agents, Wed Nov 11 2026. No macro, syntax, notation, axiom, sorry.
-/
import Derived.Test.YtcknbmdkefcinaaDoorRows
import GoSem.ClaimSeven
namespace Go.Proofs.YtcknbmdkefcinaaDoor
namespace Rows

/-- THE TIED CARD OF 'whittlerlaw5.PrintAll'. -/
def printAllCard : Claim7 := { stood := { row := printAllRow, standIns := [], harness := (true, "c4602d4ef5bdffa21f560167e243406d26df7374ad6c9b92d056c6ba37991ec5"), looks := false }, kinds := [], alts := [], laidByText := true, laidKinds := [.data, .data, .data], laidTests := true, laidLooks := .later }
def PrintAllCardSaid : Prop := Claim7.holds Tryd.pinned (.plain (OpenSpec.ofChange printAllSpec)) printAllCard

/-- THE TIED CARD OF 'whittlerlaw5.PrintExpr'. -/
def printExprCard : Claim7 := { stood := { row := printExprRow, standIns := [], harness := (true, "c4602d4ef5bdffa21f560167e243406d26df7374ad6c9b92d056c6ba37991ec5"), looks := false }, kinds := [], alts := [], laidByText := true, laidKinds := [.data, .data, .data], laidTests := true, laidLooks := .later }
def PrintExprCardSaid : Prop := Claim7.holds Tryd.pinned (.plain (OpenSpec.ofChange printExprSpec)) printExprCard

/-- THE TIED CARD OF 'whittlerlaw5.PrintSame'. -/
def printSameCard : Claim7 := { stood := { row := printSameRow, standIns := [], harness := (true, "c4602d4ef5bdffa21f560167e243406d26df7374ad6c9b92d056c6ba37991ec5"), looks := false }, kinds := [], alts := [], laidByText := true, laidKinds := [.data, .data, .data], laidTests := true, laidLooks := .later }
def PrintSameCardSaid : Prop := Claim7.holds Tryd.pinned (.plain (OpenSpec.ofChange printSameSpec)) printSameCard

/-- THE TIED CARD OF 'whittlerlaw5.PrintLines'. -/
def printLinesCard : Claim7 := { stood := { row := printLinesRow, standIns := [], harness := (true, "c4602d4ef5bdffa21f560167e243406d26df7374ad6c9b92d056c6ba37991ec5"), looks := false }, kinds := [], alts := [], laidByText := true, laidKinds := [.data, .data, .data], laidTests := true, laidLooks := .later }
def PrintLinesCardSaid : Prop := Claim7.holds Tryd.pinned (.plain (OpenSpec.ofChange printLinesSpec)) printLinesCard

/-- THE TIED CARD OF 'whittlerlaw5.PrintTurnExpr'. -/
def printTurnExprCard : Claim7 := { stood := { row := printTurnExprRow, standIns := [], harness := (true, "c4602d4ef5bdffa21f560167e243406d26df7374ad6c9b92d056c6ba37991ec5"), looks := false }, kinds := [], alts := [], laidByText := true, laidKinds := [.data, .data, .data], laidTests := true, laidLooks := .later }
def PrintTurnExprCardSaid : Prop := Claim7.holds Tryd.pinned (.plain (OpenSpec.ofChange printTurnExprSpec)) printTurnExprCard

/-- THE TIED CARD OF 'whittlerlaw5.PrintFew'. -/
def printFewCard : Claim7 := { stood := { row := printFewRow, standIns := [], harness := (true, "c4602d4ef5bdffa21f560167e243406d26df7374ad6c9b92d056c6ba37991ec5"), looks := false }, kinds := [], alts := [], laidByText := true, laidKinds := [.data, .data, .data], laidTests := true, laidLooks := .later }
def PrintFewCardSaid : Prop := Claim7.holds Tryd.pinned (.plain (OpenSpec.ofChange printFewSpec)) printFewCard

/-- THE TIED CARD OF 'whittlerlaw5.PrintOnce'. -/
def printOnceCard : Claim7 := { stood := { row := printOnceRow, standIns := [], harness := (true, "c4602d4ef5bdffa21f560167e243406d26df7374ad6c9b92d056c6ba37991ec5"), looks := false }, kinds := [], alts := [], laidByText := true, laidKinds := [.data, .data, .data], laidTests := true, laidLooks := .later }
def PrintOnceCardSaid : Prop := Claim7.holds Tryd.pinned (.plain (OpenSpec.ofChange printOnceSpec)) printOnceCard

/-- THE SECOND FORM's CARD OF 'whittlerlaw5.PrintAll'. -/
def printAllUptoCard : Claim7 := { stood := { row := printAllUptoRow, standIns := [], harness := (true, "c4602d4ef5bdffa21f560167e243406d26df7374ad6c9b92d056c6ba37991ec5"), looks := false }, kinds := [], alts := [], laidByText := true, laidKinds := [.data, .data, .data], laidTests := true, laidLooks := .later }
def PrintAllUptoCardSaid : Prop := Claim7.holds Tryd.pinned (.plain (OpenSpec.upto printAllSpec)) printAllUptoCard

/-- THE SECOND FORM's CARD OF 'whittlerlaw5.PrintExpr'. -/
def printExprUptoCard : Claim7 := { stood := { row := printExprUptoRow, standIns := [], harness := (true, "c4602d4ef5bdffa21f560167e243406d26df7374ad6c9b92d056c6ba37991ec5"), looks := false }, kinds := [], alts := [], laidByText := true, laidKinds := [.data, .data, .data], laidTests := true, laidLooks := .later }
def PrintExprUptoCardSaid : Prop := Claim7.holds Tryd.pinned (.plain (OpenSpec.upto printExprSpec)) printExprUptoCard

/-- THE SECOND FORM's CARD OF 'whittlerlaw5.PrintSame'. -/
def printSameUptoCard : Claim7 := { stood := { row := printSameUptoRow, standIns := [], harness := (true, "c4602d4ef5bdffa21f560167e243406d26df7374ad6c9b92d056c6ba37991ec5"), looks := false }, kinds := [], alts := [], laidByText := true, laidKinds := [.data, .data, .data], laidTests := true, laidLooks := .later }
def PrintSameUptoCardSaid : Prop := Claim7.holds Tryd.pinned (.plain (OpenSpec.upto printSameSpec)) printSameUptoCard

/-- THE SECOND FORM's CARD OF 'whittlerlaw5.PrintLines'. -/
def printLinesUptoCard : Claim7 := { stood := { row := printLinesUptoRow, standIns := [], harness := (true, "c4602d4ef5bdffa21f560167e243406d26df7374ad6c9b92d056c6ba37991ec5"), looks := false }, kinds := [], alts := [], laidByText := true, laidKinds := [.data, .data, .data], laidTests := true, laidLooks := .later }
def PrintLinesUptoCardSaid : Prop := Claim7.holds Tryd.pinned (.plain (OpenSpec.upto printLinesSpec)) printLinesUptoCard

/-- THE SECOND FORM's CARD OF 'whittlerlaw5.PrintTurnExpr'. -/
def printTurnExprUptoCard : Claim7 := { stood := { row := printTurnExprUptoRow, standIns := [], harness := (true, "c4602d4ef5bdffa21f560167e243406d26df7374ad6c9b92d056c6ba37991ec5"), looks := false }, kinds := [], alts := [], laidByText := true, laidKinds := [.data, .data, .data], laidTests := true, laidLooks := .later }
def PrintTurnExprUptoCardSaid : Prop := Claim7.holds Tryd.pinned (.plain (OpenSpec.upto printTurnExprSpec)) printTurnExprUptoCard

/-- THE SECOND FORM's CARD OF 'whittlerlaw5.PrintFew'. -/
def printFewUptoCard : Claim7 := { stood := { row := printFewUptoRow, standIns := [], harness := (true, "c4602d4ef5bdffa21f560167e243406d26df7374ad6c9b92d056c6ba37991ec5"), looks := false }, kinds := [], alts := [], laidByText := true, laidKinds := [.data, .data, .data], laidTests := true, laidLooks := .later }
def PrintFewUptoCardSaid : Prop := Claim7.holds Tryd.pinned (.plain (OpenSpec.upto printFewSpec)) printFewUptoCard

/-- THE SECOND FORM's CARD OF 'whittlerlaw5.PrintOnce'. -/
def printOnceUptoCard : Claim7 := { stood := { row := printOnceUptoRow, standIns := [], harness := (true, "c4602d4ef5bdffa21f560167e243406d26df7374ad6c9b92d056c6ba37991ec5"), looks := false }, kinds := [], alts := [], laidByText := true, laidKinds := [.data, .data, .data], laidTests := true, laidLooks := .later }
def PrintOnceUptoCardSaid : Prop := Claim7.holds Tryd.pinned (.plain (OpenSpec.upto printOnceSpec)) printOnceUptoCard
end Rows
end Go.Proofs.YtcknbmdkefcinaaDoor
