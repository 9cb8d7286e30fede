/-
  NARROWER THAN 'FOR EVERY INPUT', by the rows' own cells (each row's printed sentence says how): CheckAll: loops · CheckOrder: loops · CheckSwap: loops · CheckMore: loops · CheckLess: loops · CheckTurn: loops · CheckMove: loops.
  DERIVED. THE GIVEN ROWS OF THIS SEAT. 9 by the template 'for every input the law returns true; each argument reads behind the call as it read before'; 0 by the template 'total and deterministic' (their statements: YtiopamakecmpkaaGreatTotals.lean).
  GIVEN WITH THE SEED: the statements are not yours to turn. If you find one false, say at which input.
  Laid BY PROGRAM, IN A SANDBOX (cutbox-rows.mjs): the forced cells as the released guide's own fill.sh prints them over the translation ccee9bab3f13c52a… (all of the seat's roots in one cut). By AI agents, Wed Nov 11 2026. No macro, syntax, notation, axiom, sorry.
-/
import Derived.Test.YtiopamakecmpkaaGreatChecked
import GoSem.Claim
import GoSem.ClaimJoined
import GoSem.ClaimMapViews
import Derived.JoinedTies
import Derived.KernelRfl
namespace Go.Proofs.YtiopamakecmpkaaGreat
/- THE CELL 'sum', in the pinned program and in every row, IS THE sha256 OF THE DUMP (.gsa) THAT YtiopamakecmpkaaGreatProg.lean LOADS. Nothing in Lean hashes anything: it is a label: what it is worth is what the hold of that sum in a sandbox is worth. -/
noncomputable def Tryz.pinned : Pinned := { name := "ytiopamakecmpkaagreat", sum := "ccee9bab3f13c52a4ba30b081dd4cc0778c1e9a96d4c00dfe00cd32304cacbed", checked := Tryz.checked }
namespace Rows
def none {H : Type} : Left H := { results := [], args := [] }

/-- 'whittlerlaw11.CheckAll': WHATEVER THE INPUT: true; the input reads as it did. -/
def checkAllSpec : ChangeSpec := { name := "checkAll", fn := fun _ => fun
  | [d] => { results := [.lit (.bool true)], args := [d] }
  | _ => none }
def checkAllRow : OpenClaim := { program := "ytiopamakecmpkaagreat", sum := "ccee9bab3f13c52a4ba30b081dd4cc0778c1e9a96d4c00dfe00cd32304cacbed", func := "whittler/whittlerlaw11.CheckAll", spec := "checkAll", unfollowed := true, recurses := true, loops := true, apart := false }
def CheckAllSaid : Prop := checkAllRow.holds Tryz.pinned (OpenSpec.ofChange checkAllSpec)

/-- ITS FALSE NEIGHBOUR: 'it returns false'. Refute it at one input. -/
def checkAllWrong : ChangeSpec := { name := "checkAll", fn := fun _ => fun
  | [d] => { results := [.lit (.bool false)], args := [d] }
  | _ => none }
def CheckAllWrongFalsely : Prop := checkAllRow.holds Tryz.pinned (OpenSpec.ofChange checkAllWrong)

/-- 'whittlerlaw11.CheckText': WHATEVER THE INPUT: true; the input reads as it did. -/
def checkTextSpec : ChangeSpec := { name := "checkText", fn := fun _ => fun
  | [d] => { results := [.lit (.bool true)], args := [d] }
  | _ => none }
def checkTextRow : OpenClaim := { program := "ytiopamakecmpkaagreat", sum := "ccee9bab3f13c52a4ba30b081dd4cc0778c1e9a96d4c00dfe00cd32304cacbed", func := "whittler/whittlerlaw11.CheckText", spec := "checkText", unfollowed := true, recurses := true, apart := false }
def CheckTextSaid : Prop := checkTextRow.holds Tryz.pinned (OpenSpec.ofChange checkTextSpec)

/-- ITS FALSE NEIGHBOUR: 'it returns false'. Refute it at one input. -/
def checkTextWrong : ChangeSpec := { name := "checkText", fn := fun _ => fun
  | [d] => { results := [.lit (.bool false)], args := [d] }
  | _ => none }
def CheckTextWrongFalsely : Prop := checkTextRow.holds Tryz.pinned (OpenSpec.ofChange checkTextWrong)

/-- 'whittlerlaw11.CheckOrder': WHATEVER THE INPUT: true; the input reads as it did. -/
def checkOrderSpec : ChangeSpec := { name := "checkOrder", fn := fun _ => fun
  | [d] => { results := [.lit (.bool true)], args := [d] }
  | _ => none }
def checkOrderRow : OpenClaim := { program := "ytiopamakecmpkaagreat", sum := "ccee9bab3f13c52a4ba30b081dd4cc0778c1e9a96d4c00dfe00cd32304cacbed", func := "whittler/whittlerlaw11.CheckOrder", spec := "checkOrder", unfollowed := true, recurses := true, loops := true, apart := false }
def CheckOrderSaid : Prop := checkOrderRow.holds Tryz.pinned (OpenSpec.ofChange checkOrderSpec)

/-- ITS FALSE NEIGHBOUR: 'it returns false'. Refute it at one input. -/
def checkOrderWrong : ChangeSpec := { name := "checkOrder", fn := fun _ => fun
  | [d] => { results := [.lit (.bool false)], args := [d] }
  | _ => none }
def CheckOrderWrongFalsely : Prop := checkOrderRow.holds Tryz.pinned (OpenSpec.ofChange checkOrderWrong)

/-- 'whittlerlaw11.CheckParts': WHATEVER THE INPUT: true; the input reads as it did. -/
def checkPartsSpec : ChangeSpec := { name := "checkParts", fn := fun _ => fun
  | [d] => { results := [.lit (.bool true)], args := [d] }
  | _ => none }
def checkPartsRow : OpenClaim := { program := "ytiopamakecmpkaagreat", sum := "ccee9bab3f13c52a4ba30b081dd4cc0778c1e9a96d4c00dfe00cd32304cacbed", func := "whittler/whittlerlaw11.CheckParts", spec := "checkParts", unfollowed := true, recurses := true, apart := false }
def CheckPartsSaid : Prop := checkPartsRow.holds Tryz.pinned (OpenSpec.ofChange checkPartsSpec)

/-- ITS FALSE NEIGHBOUR: 'it returns false'. Refute it at one input. -/
def checkPartsWrong : ChangeSpec := { name := "checkParts", fn := fun _ => fun
  | [d] => { results := [.lit (.bool false)], args := [d] }
  | _ => none }
def CheckPartsWrongFalsely : Prop := checkPartsRow.holds Tryz.pinned (OpenSpec.ofChange checkPartsWrong)

/-- 'whittlerlaw11.CheckSwap': WHATEVER THE INPUT: true; the input reads as it did. -/
def checkSwapSpec : ChangeSpec := { name := "checkSwap", fn := fun _ => fun
  | [d1, d2, d3] => { results := [.lit (.bool true)], args := [d1, d2, d3] }
  | _ => none }
def checkSwapRow : OpenClaim := { program := "ytiopamakecmpkaagreat", sum := "ccee9bab3f13c52a4ba30b081dd4cc0778c1e9a96d4c00dfe00cd32304cacbed", func := "whittler/whittlerlaw11.CheckSwap", spec := "checkSwap", unfollowed := true, recurses := true, loops := true, apart := false }
def CheckSwapSaid : Prop := checkSwapRow.holds Tryz.pinned (OpenSpec.ofChange checkSwapSpec)

/-- ITS FALSE NEIGHBOUR: 'it returns false'. Refute it at one input. -/
def checkSwapWrong : ChangeSpec := { name := "checkSwap", fn := fun _ => fun
  | [d1, d2, d3] => { results := [.lit (.bool false)], args := [d1, d2, d3] }
  | _ => none }
def CheckSwapWrongFalsely : Prop := checkSwapRow.holds Tryz.pinned (OpenSpec.ofChange checkSwapWrong)

/-- 'whittlerlaw11.CheckMore': WHATEVER THE INPUT: true; the input reads as it did. -/
def checkMoreSpec : ChangeSpec := { name := "checkMore", fn := fun _ => fun
  | [d1, d2, d3] => { results := [.lit (.bool true)], args := [d1, d2, d3] }
  | _ => none }
def checkMoreRow : OpenClaim := { program := "ytiopamakecmpkaagreat", sum := "ccee9bab3f13c52a4ba30b081dd4cc0778c1e9a96d4c00dfe00cd32304cacbed", func := "whittler/whittlerlaw11.CheckMore", spec := "checkMore", unfollowed := true, recurses := true, loops := true, apart := false }
def CheckMoreSaid : Prop := checkMoreRow.holds Tryz.pinned (OpenSpec.ofChange checkMoreSpec)

/-- ITS FALSE NEIGHBOUR: 'it returns false'. Refute it at one input. -/
def checkMoreWrong : ChangeSpec := { name := "checkMore", fn := fun _ => fun
  | [d1, d2, d3] => { results := [.lit (.bool false)], args := [d1, d2, d3] }
  | _ => none }
def CheckMoreWrongFalsely : Prop := checkMoreRow.holds Tryz.pinned (OpenSpec.ofChange checkMoreWrong)

/-- 'whittlerlaw11.CheckLess': WHATEVER THE INPUT: true; the input reads as it did. -/
def checkLessSpec : ChangeSpec := { name := "checkLess", fn := fun _ => fun
  | [d1, d2] => { results := [.lit (.bool true)], args := [d1, d2] }
  | _ => none }
def checkLessRow : OpenClaim := { program := "ytiopamakecmpkaagreat", sum := "ccee9bab3f13c52a4ba30b081dd4cc0778c1e9a96d4c00dfe00cd32304cacbed", func := "whittler/whittlerlaw11.CheckLess", spec := "checkLess", unfollowed := true, recurses := true, loops := true, apart := false }
def CheckLessSaid : Prop := checkLessRow.holds Tryz.pinned (OpenSpec.ofChange checkLessSpec)

/-- ITS FALSE NEIGHBOUR: 'it returns false'. Refute it at one input. -/
def checkLessWrong : ChangeSpec := { name := "checkLess", fn := fun _ => fun
  | [d1, d2] => { results := [.lit (.bool false)], args := [d1, d2] }
  | _ => none }
def CheckLessWrongFalsely : Prop := checkLessRow.holds Tryz.pinned (OpenSpec.ofChange checkLessWrong)

/-- 'whittlerlaw11.CheckTurn': WHATEVER THE INPUT: true; the input reads as it did. -/
def checkTurnSpec : ChangeSpec := { name := "checkTurn", fn := fun _ => fun
  | [d] => { results := [.lit (.bool true)], args := [d] }
  | _ => none }
def checkTurnRow : OpenClaim := { program := "ytiopamakecmpkaagreat", sum := "ccee9bab3f13c52a4ba30b081dd4cc0778c1e9a96d4c00dfe00cd32304cacbed", func := "whittler/whittlerlaw11.CheckTurn", spec := "checkTurn", unfollowed := true, recurses := true, loops := true, apart := false }
def CheckTurnSaid : Prop := checkTurnRow.holds Tryz.pinned (OpenSpec.ofChange checkTurnSpec)

/-- ITS FALSE NEIGHBOUR: 'it returns false'. Refute it at one input. -/
def checkTurnWrong : ChangeSpec := { name := "checkTurn", fn := fun _ => fun
  | [d] => { results := [.lit (.bool false)], args := [d] }
  | _ => none }
def CheckTurnWrongFalsely : Prop := checkTurnRow.holds Tryz.pinned (OpenSpec.ofChange checkTurnWrong)

/-- 'whittlerlaw11.CheckMove': WHATEVER THE INPUT: true; the input reads as it did. -/
def checkMoveSpec : ChangeSpec := { name := "checkMove", fn := fun _ => fun
  | [d1, d2] => { results := [.lit (.bool true)], args := [d1, d2] }
  | _ => none }
def checkMoveRow : OpenClaim := { program := "ytiopamakecmpkaagreat", sum := "ccee9bab3f13c52a4ba30b081dd4cc0778c1e9a96d4c00dfe00cd32304cacbed", func := "whittler/whittlerlaw11.CheckMove", spec := "checkMove", unfollowed := true, recurses := true, loops := true, apart := false }
def CheckMoveSaid : Prop := checkMoveRow.holds Tryz.pinned (OpenSpec.ofChange checkMoveSpec)

/-- ITS FALSE NEIGHBOUR: 'it returns false'. Refute it at one input. -/
def checkMoveWrong : ChangeSpec := { name := "checkMove", fn := fun _ => fun
  | [d1, d2] => { results := [.lit (.bool false)], args := [d1, d2] }
  | _ => none }
def CheckMoveWrongFalsely : Prop := checkMoveRow.holds Tryz.pinned (OpenSpec.ofChange checkMoveWrong)

/- THE SECOND FORM. 'bulk': how many values and letters a reading holds, each counted each time it is reached (what is shared counts as often as it is met; a slice's spare places count too). A statement '..UptoSaid' is the law's where the arguments, and the package variables that the reading takes, are together of bulk at most 1048576: NARROWER than '..Said'. Prove '..Said' where nothing that the law and all that it calls make is longer than what came in: it says more and counts as full. Else prove '..UptoSaid'. A law counts once. -/
mutual
def uptoBulk {H : Type} : DataW H → Nat
  | .lit (.string bytes) => bytes.length + 1
  | .lit _ => 1
  | .nil => 1
  | .ptr d => uptoBulk d + 1
  | .slice elems spare => uptoBulkAll elems + uptoBulkAll spare + 1
  | .agg parts => uptoBulkAll parts + 1
  | .iface _ d => uptoBulk d + 1
  | .map entries => uptoBulkEntries entries + 1
  | .held _ => 1
def uptoBulkAll {H : Type} : List (DataW H) → Nat
  | [] => 0
  | d :: r => uptoBulk d + uptoBulkAll r
def uptoBulkEntries {H : Type} : List (Lit × DataW H) → Nat
  | [] => 0
  | x :: r => uptoBulkEntry x + uptoBulkEntries r
def uptoBulkEntry {H : Type} : Lit × DataW H → Nat
  | (.string bytes, d) => bytes.length + uptoBulk d + 1
  | (_, d) => uptoBulk d + 1
 end
def uptoSmall : (H : Type) → List (DataW H) → Bool := fun _ ds => decide (uptoBulkAll ds ≤ 1048576)
def OpenSpec.upto (s : _root_.Go.ChangeSpec) : _root_.Go.OpenSpec := { _root_.Go.OpenSpec.ofChange s with cond := some uptoSmall }

/-- 'whittlerlaw11.CheckAll', WHERE WHAT IT READS IS OF BULK AT MOST 1048576: true; the input reads as it did. -/
def checkAllUptoRow : OpenClaim := { program := "ytiopamakecmpkaagreat", sum := "ccee9bab3f13c52a4ba30b081dd4cc0778c1e9a96d4c00dfe00cd32304cacbed", func := "whittler/whittlerlaw11.CheckAll", spec := "checkAll", unfollowed := true, recurses := true, loops := true, apart := false, narrowed := true }
def CheckAllUptoSaid : Prop := checkAllUptoRow.holds Tryz.pinned (OpenSpec.upto checkAllSpec)

/-- 'whittlerlaw11.CheckText', WHERE WHAT IT READS IS OF BULK AT MOST 1048576: true; the input reads as it did. -/
def checkTextUptoRow : OpenClaim := { program := "ytiopamakecmpkaagreat", sum := "ccee9bab3f13c52a4ba30b081dd4cc0778c1e9a96d4c00dfe00cd32304cacbed", func := "whittler/whittlerlaw11.CheckText", spec := "checkText", unfollowed := true, recurses := true, apart := false, narrowed := true }
def CheckTextUptoSaid : Prop := checkTextUptoRow.holds Tryz.pinned (OpenSpec.upto checkTextSpec)

/-- 'whittlerlaw11.CheckOrder', WHERE WHAT IT READS IS OF BULK AT MOST 1048576: true; the input reads as it did. -/
def checkOrderUptoRow : OpenClaim := { program := "ytiopamakecmpkaagreat", sum := "ccee9bab3f13c52a4ba30b081dd4cc0778c1e9a96d4c00dfe00cd32304cacbed", func := "whittler/whittlerlaw11.CheckOrder", spec := "checkOrder", unfollowed := true, recurses := true, loops := true, apart := false, narrowed := true }
def CheckOrderUptoSaid : Prop := checkOrderUptoRow.holds Tryz.pinned (OpenSpec.upto checkOrderSpec)

/-- 'whittlerlaw11.CheckParts', WHERE WHAT IT READS IS OF BULK AT MOST 1048576: true; the input reads as it did. -/
def checkPartsUptoRow : OpenClaim := { program := "ytiopamakecmpkaagreat", sum := "ccee9bab3f13c52a4ba30b081dd4cc0778c1e9a96d4c00dfe00cd32304cacbed", func := "whittler/whittlerlaw11.CheckParts", spec := "checkParts", unfollowed := true, recurses := true, apart := false, narrowed := true }
def CheckPartsUptoSaid : Prop := checkPartsUptoRow.holds Tryz.pinned (OpenSpec.upto checkPartsSpec)

/-- 'whittlerlaw11.CheckSwap', WHERE WHAT IT READS IS OF BULK AT MOST 1048576: true; the input reads as it did. -/
def checkSwapUptoRow : OpenClaim := { program := "ytiopamakecmpkaagreat", sum := "ccee9bab3f13c52a4ba30b081dd4cc0778c1e9a96d4c00dfe00cd32304cacbed", func := "whittler/whittlerlaw11.CheckSwap", spec := "checkSwap", unfollowed := true, recurses := true, loops := true, apart := false, narrowed := true }
def CheckSwapUptoSaid : Prop := checkSwapUptoRow.holds Tryz.pinned (OpenSpec.upto checkSwapSpec)

/-- 'whittlerlaw11.CheckMore', WHERE WHAT IT READS IS OF BULK AT MOST 1048576: true; the input reads as it did. -/
def checkMoreUptoRow : OpenClaim := { program := "ytiopamakecmpkaagreat", sum := "ccee9bab3f13c52a4ba30b081dd4cc0778c1e9a96d4c00dfe00cd32304cacbed", func := "whittler/whittlerlaw11.CheckMore", spec := "checkMore", unfollowed := true, recurses := true, loops := true, apart := false, narrowed := true }
def CheckMoreUptoSaid : Prop := checkMoreUptoRow.holds Tryz.pinned (OpenSpec.upto checkMoreSpec)

/-- 'whittlerlaw11.CheckLess', WHERE WHAT IT READS IS OF BULK AT MOST 1048576: true; the input reads as it did. -/
def checkLessUptoRow : OpenClaim := { program := "ytiopamakecmpkaagreat", sum := "ccee9bab3f13c52a4ba30b081dd4cc0778c1e9a96d4c00dfe00cd32304cacbed", func := "whittler/whittlerlaw11.CheckLess", spec := "checkLess", unfollowed := true, recurses := true, loops := true, apart := false, narrowed := true }
def CheckLessUptoSaid : Prop := checkLessUptoRow.holds Tryz.pinned (OpenSpec.upto checkLessSpec)

/-- 'whittlerlaw11.CheckTurn', WHERE WHAT IT READS IS OF BULK AT MOST 1048576: true; the input reads as it did. -/
def checkTurnUptoRow : OpenClaim := { program := "ytiopamakecmpkaagreat", sum := "ccee9bab3f13c52a4ba30b081dd4cc0778c1e9a96d4c00dfe00cd32304cacbed", func := "whittler/whittlerlaw11.CheckTurn", spec := "checkTurn", unfollowed := true, recurses := true, loops := true, apart := false, narrowed := true }
def CheckTurnUptoSaid : Prop := checkTurnUptoRow.holds Tryz.pinned (OpenSpec.upto checkTurnSpec)

/-- 'whittlerlaw11.CheckMove', WHERE WHAT IT READS IS OF BULK AT MOST 1048576: true; the input reads as it did. -/
def checkMoveUptoRow : OpenClaim := { program := "ytiopamakecmpkaagreat", sum := "ccee9bab3f13c52a4ba30b081dd4cc0778c1e9a96d4c00dfe00cd32304cacbed", func := "whittler/whittlerlaw11.CheckMove", spec := "checkMove", unfollowed := true, recurses := true, loops := true, apart := false, narrowed := true }
def CheckMoveUptoSaid : Prop := checkMoveUptoRow.holds Tryz.pinned (OpenSpec.upto checkMoveSpec)

end Rows
end Go.Proofs.YtiopamakecmpkaaGreat
