/-
  NARROWER THAN 'FOR EVERY INPUT', by the rows' own cells (each row's printed sentence says how): RunAll: loops · RunForm: loops · RunFuel: loops · RunWatch: loops · RunTape: loops · RunTold: loops · RunOut: loops · RunSwap: loops · RunMove: loops · RunRound: loops · RunElse: loops · RunMeter: loops.
  DERIVED. THE GIVEN ROWS OF THIS SEAT. 12 by the template 'for every input the law returns true; each argument reads behind the call as it read before'; 0 by the template 'total and deterministic' (their statements: YtpjadlleefgcpaaGreatTotals.lean).
  GIVEN WITH THE SEED: the statements are not yours to turn. If you find one false, say at which input.
  Laid BY PROGRAM, IN A SANDBOX (cutbox-rows.mjs): the forced cells as the released guide's own fill.sh prints them over the translation 70cb90a1855b41cd… (all of the seat's roots in one cut). By AI agents, Wed Nov 11 2026. No macro, syntax, notation, axiom, sorry.
-/
import Derived.Test.YtpjadlleefgcpaaGreatChecked
import GoSem.Claim
import GoSem.ClaimJoined
import GoSem.ClaimMapViews
import Derived.JoinedTies
import Derived.KernelRfl
namespace Go.Proofs.YtpjadlleefgcpaaGreat
/- THE CELL 'sum', in the pinned program and in every row, IS THE sha256 OF THE DUMP (.gsa) THAT YtpjadlleefgcpaaGreatProg.lean LOADS. Nothing in Lean hashes anything: it is a label: what it is worth is what the hold of that sum in a sandbox is worth. -/
noncomputable def Tryz.pinned : Pinned := { name := "ytpjadlleefgcpaagreat", sum := "70cb90a1855b41cdffb5b7b4c11285e98a84dc18535973fb34b99ebdc7efdf7d", checked := Tryz.checked }
namespace Rows
def none {H : Type} : Left H := { results := [], args := [] }

/-- 'whittlerlaw13.RunAll': WHATEVER THE INPUT: true; the input reads as it did. -/
def runAllSpec : ChangeSpec := { name := "runAll", fn := fun _ => fun
  | [d1, d2, d3, d4] => { results := [.lit (.bool true)], args := [d1, d2, d3, d4] }
  | _ => none }
def runAllRow : OpenClaim := { program := "ytpjadlleefgcpaagreat", sum := "70cb90a1855b41cdffb5b7b4c11285e98a84dc18535973fb34b99ebdc7efdf7d", func := "whittler/whittlerlaw13.RunAll", spec := "runAll", unfollowed := true, recurses := true, loops := true, apart := false }
def RunAllSaid : Prop := runAllRow.holds Tryz.pinned (OpenSpec.ofChange runAllSpec)

/-- ITS FALSE NEIGHBOUR: 'it returns false'. Refute it at one input. -/
def runAllWrong : ChangeSpec := { name := "runAll", fn := fun _ => fun
  | [d1, d2, d3, d4] => { results := [.lit (.bool false)], args := [d1, d2, d3, d4] }
  | _ => none }
def RunAllWrongFalsely : Prop := runAllRow.holds Tryz.pinned (OpenSpec.ofChange runAllWrong)

/-- 'whittlerlaw13.RunForm': WHATEVER THE INPUT: true; the input reads as it did. -/
def runFormSpec : ChangeSpec := { name := "runForm", fn := fun _ => fun
  | [d1, d2, d3] => { results := [.lit (.bool true)], args := [d1, d2, d3] }
  | _ => none }
def runFormRow : OpenClaim := { program := "ytpjadlleefgcpaagreat", sum := "70cb90a1855b41cdffb5b7b4c11285e98a84dc18535973fb34b99ebdc7efdf7d", func := "whittler/whittlerlaw13.RunForm", spec := "runForm", unfollowed := true, recurses := true, loops := true, apart := false }
def RunFormSaid : Prop := runFormRow.holds Tryz.pinned (OpenSpec.ofChange runFormSpec)

/-- ITS FALSE NEIGHBOUR: 'it returns false'. Refute it at one input. -/
def runFormWrong : ChangeSpec := { name := "runForm", fn := fun _ => fun
  | [d1, d2, d3] => { results := [.lit (.bool false)], args := [d1, d2, d3] }
  | _ => none }
def RunFormWrongFalsely : Prop := runFormRow.holds Tryz.pinned (OpenSpec.ofChange runFormWrong)

/-- 'whittlerlaw13.RunFuel': WHATEVER THE INPUT: true; the input reads as it did. -/
def runFuelSpec : ChangeSpec := { name := "runFuel", fn := fun _ => fun
  | [d1, d2, d3, d4] => { results := [.lit (.bool true)], args := [d1, d2, d3, d4] }
  | _ => none }
def runFuelRow : OpenClaim := { program := "ytpjadlleefgcpaagreat", sum := "70cb90a1855b41cdffb5b7b4c11285e98a84dc18535973fb34b99ebdc7efdf7d", func := "whittler/whittlerlaw13.RunFuel", spec := "runFuel", unfollowed := true, recurses := true, loops := true, apart := false }
def RunFuelSaid : Prop := runFuelRow.holds Tryz.pinned (OpenSpec.ofChange runFuelSpec)

/-- ITS FALSE NEIGHBOUR: 'it returns false'. Refute it at one input. -/
def runFuelWrong : ChangeSpec := { name := "runFuel", fn := fun _ => fun
  | [d1, d2, d3, d4] => { results := [.lit (.bool false)], args := [d1, d2, d3, d4] }
  | _ => none }
def RunFuelWrongFalsely : Prop := runFuelRow.holds Tryz.pinned (OpenSpec.ofChange runFuelWrong)

/-- 'whittlerlaw13.RunWatch': WHATEVER THE INPUT: true; the input reads as it did. -/
def runWatchSpec : ChangeSpec := { name := "runWatch", fn := fun _ => fun
  | [d1, d2, d3, d4] => { results := [.lit (.bool true)], args := [d1, d2, d3, d4] }
  | _ => none }
def runWatchRow : OpenClaim := { program := "ytpjadlleefgcpaagreat", sum := "70cb90a1855b41cdffb5b7b4c11285e98a84dc18535973fb34b99ebdc7efdf7d", func := "whittler/whittlerlaw13.RunWatch", spec := "runWatch", unfollowed := true, recurses := true, loops := true, apart := false }
def RunWatchSaid : Prop := runWatchRow.holds Tryz.pinned (OpenSpec.ofChange runWatchSpec)

/-- ITS FALSE NEIGHBOUR: 'it returns false'. Refute it at one input. -/
def runWatchWrong : ChangeSpec := { name := "runWatch", fn := fun _ => fun
  | [d1, d2, d3, d4] => { results := [.lit (.bool false)], args := [d1, d2, d3, d4] }
  | _ => none }
def RunWatchWrongFalsely : Prop := runWatchRow.holds Tryz.pinned (OpenSpec.ofChange runWatchWrong)

/-- 'whittlerlaw13.RunTape': WHATEVER THE INPUT: true; the input reads as it did. -/
def runTapeSpec : ChangeSpec := { name := "runTape", fn := fun _ => fun
  | [d1, d2, d3, d4] => { results := [.lit (.bool true)], args := [d1, d2, d3, d4] }
  | _ => none }
def runTapeRow : OpenClaim := { program := "ytpjadlleefgcpaagreat", sum := "70cb90a1855b41cdffb5b7b4c11285e98a84dc18535973fb34b99ebdc7efdf7d", func := "whittler/whittlerlaw13.RunTape", spec := "runTape", unfollowed := true, recurses := true, loops := true, apart := false }
def RunTapeSaid : Prop := runTapeRow.holds Tryz.pinned (OpenSpec.ofChange runTapeSpec)

/-- ITS FALSE NEIGHBOUR: 'it returns false'. Refute it at one input. -/
def runTapeWrong : ChangeSpec := { name := "runTape", fn := fun _ => fun
  | [d1, d2, d3, d4] => { results := [.lit (.bool false)], args := [d1, d2, d3, d4] }
  | _ => none }
def RunTapeWrongFalsely : Prop := runTapeRow.holds Tryz.pinned (OpenSpec.ofChange runTapeWrong)

/-- 'whittlerlaw13.RunTold': WHATEVER THE INPUT: true; the input reads as it did. -/
def runToldSpec : ChangeSpec := { name := "runTold", fn := fun _ => fun
  | [d1, d2, d3] => { results := [.lit (.bool true)], args := [d1, d2, d3] }
  | _ => none }
def runToldRow : OpenClaim := { program := "ytpjadlleefgcpaagreat", sum := "70cb90a1855b41cdffb5b7b4c11285e98a84dc18535973fb34b99ebdc7efdf7d", func := "whittler/whittlerlaw13.RunTold", spec := "runTold", unfollowed := true, recurses := true, loops := true, apart := false }
def RunToldSaid : Prop := runToldRow.holds Tryz.pinned (OpenSpec.ofChange runToldSpec)

/-- ITS FALSE NEIGHBOUR: 'it returns false'. Refute it at one input. -/
def runToldWrong : ChangeSpec := { name := "runTold", fn := fun _ => fun
  | [d1, d2, d3] => { results := [.lit (.bool false)], args := [d1, d2, d3] }
  | _ => none }
def RunToldWrongFalsely : Prop := runToldRow.holds Tryz.pinned (OpenSpec.ofChange runToldWrong)

/-- 'whittlerlaw13.RunOut': WHATEVER THE INPUT: true; the input reads as it did. -/
def runOutSpec : ChangeSpec := { name := "runOut", fn := fun _ => fun
  | [d1, d2, d3] => { results := [.lit (.bool true)], args := [d1, d2, d3] }
  | _ => none }
def runOutRow : OpenClaim := { program := "ytpjadlleefgcpaagreat", sum := "70cb90a1855b41cdffb5b7b4c11285e98a84dc18535973fb34b99ebdc7efdf7d", func := "whittler/whittlerlaw13.RunOut", spec := "runOut", unfollowed := true, recurses := true, loops := true, apart := false }
def RunOutSaid : Prop := runOutRow.holds Tryz.pinned (OpenSpec.ofChange runOutSpec)

/-- ITS FALSE NEIGHBOUR: 'it returns false'. Refute it at one input. -/
def runOutWrong : ChangeSpec := { name := "runOut", fn := fun _ => fun
  | [d1, d2, d3] => { results := [.lit (.bool false)], args := [d1, d2, d3] }
  | _ => none }
def RunOutWrongFalsely : Prop := runOutRow.holds Tryz.pinned (OpenSpec.ofChange runOutWrong)

/-- 'whittlerlaw13.RunSwap': WHATEVER THE INPUT: true; the input reads as it did. -/
def runSwapSpec : ChangeSpec := { name := "runSwap", fn := fun _ => fun
  | [d1, d2, d3, d4, d5] => { results := [.lit (.bool true)], args := [d1, d2, d3, d4, d5] }
  | _ => none }
def runSwapRow : OpenClaim := { program := "ytpjadlleefgcpaagreat", sum := "70cb90a1855b41cdffb5b7b4c11285e98a84dc18535973fb34b99ebdc7efdf7d", func := "whittler/whittlerlaw13.RunSwap", spec := "runSwap", unfollowed := true, recurses := true, loops := true, apart := false }
def RunSwapSaid : Prop := runSwapRow.holds Tryz.pinned (OpenSpec.ofChange runSwapSpec)

/-- ITS FALSE NEIGHBOUR: 'it returns false'. Refute it at one input. -/
def runSwapWrong : ChangeSpec := { name := "runSwap", fn := fun _ => fun
  | [d1, d2, d3, d4, d5] => { results := [.lit (.bool false)], args := [d1, d2, d3, d4, d5] }
  | _ => none }
def RunSwapWrongFalsely : Prop := runSwapRow.holds Tryz.pinned (OpenSpec.ofChange runSwapWrong)

/-- 'whittlerlaw13.RunMove': WHATEVER THE INPUT: true; the input reads as it did. -/
def runMoveSpec : ChangeSpec := { name := "runMove", fn := fun _ => fun
  | [d1, d2, d3, d4] => { results := [.lit (.bool true)], args := [d1, d2, d3, d4] }
  | _ => none }
def runMoveRow : OpenClaim := { program := "ytpjadlleefgcpaagreat", sum := "70cb90a1855b41cdffb5b7b4c11285e98a84dc18535973fb34b99ebdc7efdf7d", func := "whittler/whittlerlaw13.RunMove", spec := "runMove", unfollowed := true, recurses := true, loops := true, apart := false }
def RunMoveSaid : Prop := runMoveRow.holds Tryz.pinned (OpenSpec.ofChange runMoveSpec)

/-- ITS FALSE NEIGHBOUR: 'it returns false'. Refute it at one input. -/
def runMoveWrong : ChangeSpec := { name := "runMove", fn := fun _ => fun
  | [d1, d2, d3, d4] => { results := [.lit (.bool false)], args := [d1, d2, d3, d4] }
  | _ => none }
def RunMoveWrongFalsely : Prop := runMoveRow.holds Tryz.pinned (OpenSpec.ofChange runMoveWrong)

/-- 'whittlerlaw13.RunRound': WHATEVER THE INPUT: true; the input reads as it did. -/
def runRoundSpec : ChangeSpec := { name := "runRound", fn := fun _ => fun
  | [d1, d2, d3, d4] => { results := [.lit (.bool true)], args := [d1, d2, d3, d4] }
  | _ => none }
def runRoundRow : OpenClaim := { program := "ytpjadlleefgcpaagreat", sum := "70cb90a1855b41cdffb5b7b4c11285e98a84dc18535973fb34b99ebdc7efdf7d", func := "whittler/whittlerlaw13.RunRound", spec := "runRound", unfollowed := true, recurses := true, loops := true, apart := false }
def RunRoundSaid : Prop := runRoundRow.holds Tryz.pinned (OpenSpec.ofChange runRoundSpec)

/-- ITS FALSE NEIGHBOUR: 'it returns false'. Refute it at one input. -/
def runRoundWrong : ChangeSpec := { name := "runRound", fn := fun _ => fun
  | [d1, d2, d3, d4] => { results := [.lit (.bool false)], args := [d1, d2, d3, d4] }
  | _ => none }
def RunRoundWrongFalsely : Prop := runRoundRow.holds Tryz.pinned (OpenSpec.ofChange runRoundWrong)

/-- 'whittlerlaw13.RunElse': WHATEVER THE INPUT: true; the input reads as it did. -/
def runElseSpec : ChangeSpec := { name := "runElse", fn := fun _ => fun
  | [d1, d2, d3, d4] => { results := [.lit (.bool true)], args := [d1, d2, d3, d4] }
  | _ => none }
def runElseRow : OpenClaim := { program := "ytpjadlleefgcpaagreat", sum := "70cb90a1855b41cdffb5b7b4c11285e98a84dc18535973fb34b99ebdc7efdf7d", func := "whittler/whittlerlaw13.RunElse", spec := "runElse", unfollowed := true, recurses := true, loops := true, apart := false }
def RunElseSaid : Prop := runElseRow.holds Tryz.pinned (OpenSpec.ofChange runElseSpec)

/-- ITS FALSE NEIGHBOUR: 'it returns false'. Refute it at one input. -/
def runElseWrong : ChangeSpec := { name := "runElse", fn := fun _ => fun
  | [d1, d2, d3, d4] => { results := [.lit (.bool false)], args := [d1, d2, d3, d4] }
  | _ => none }
def RunElseWrongFalsely : Prop := runElseRow.holds Tryz.pinned (OpenSpec.ofChange runElseWrong)

/-- 'whittlerlaw13.RunMeter': WHATEVER THE INPUT: true; the input reads as it did. -/
def runMeterSpec : ChangeSpec := { name := "runMeter", fn := fun _ => fun
  | [d1, d2, d3] => { results := [.lit (.bool true)], args := [d1, d2, d3] }
  | _ => none }
def runMeterRow : OpenClaim := { program := "ytpjadlleefgcpaagreat", sum := "70cb90a1855b41cdffb5b7b4c11285e98a84dc18535973fb34b99ebdc7efdf7d", func := "whittler/whittlerlaw13.RunMeter", spec := "runMeter", unfollowed := true, recurses := true, loops := true, apart := false }
def RunMeterSaid : Prop := runMeterRow.holds Tryz.pinned (OpenSpec.ofChange runMeterSpec)

/-- ITS FALSE NEIGHBOUR: 'it returns false'. Refute it at one input. -/
def runMeterWrong : ChangeSpec := { name := "runMeter", fn := fun _ => fun
  | [d1, d2, d3] => { results := [.lit (.bool false)], args := [d1, d2, d3] }
  | _ => none }
def RunMeterWrongFalsely : Prop := runMeterRow.holds Tryz.pinned (OpenSpec.ofChange runMeterWrong)

/- THE SECOND FORM. 'bulk': how many values and letters a reading holds, each counted each time it is reached (what is shared counts as often as it is met; a slice's spare places count too). A statement '..UptoSaid' is the law's where the arguments, and the package variables that the reading takes, are together of bulk at most 1048576: NARROWER than '..Said'. Prove '..Said' where nothing that the law and all that it calls make is longer than what came in: it says more and counts as full. Else prove '..UptoSaid'. A law counts once. -/
mutual
def uptoBulk {H : Type} : DataW H → Nat
  | .lit (.string bytes) => bytes.length + 1
  | .lit _ => 1
  | .nil => 1
  | .ptr d => uptoBulk d + 1
  | .slice elems spare => uptoBulkAll elems + uptoBulkAll spare + 1
  | .agg parts => uptoBulkAll parts + 1
  | .iface _ d => uptoBulk d + 1
  | .map entries => uptoBulkEntries entries + 1
  | .held _ => 1
def uptoBulkAll {H : Type} : List (DataW H) → Nat
  | [] => 0
  | d :: r => uptoBulk d + uptoBulkAll r
def uptoBulkEntries {H : Type} : List (Lit × DataW H) → Nat
  | [] => 0
  | x :: r => uptoBulkEntry x + uptoBulkEntries r
def uptoBulkEntry {H : Type} : Lit × DataW H → Nat
  | (.string bytes, d) => bytes.length + uptoBulk d + 1
  | (_, d) => uptoBulk d + 1
 end
def uptoSmall : (H : Type) → List (DataW H) → Bool := fun _ ds => decide (uptoBulkAll ds ≤ 1048576)
def OpenSpec.upto (s : _root_.Go.ChangeSpec) : _root_.Go.OpenSpec := { _root_.Go.OpenSpec.ofChange s with cond := some uptoSmall }

/-- 'whittlerlaw13.RunAll', WHERE WHAT IT READS IS OF BULK AT MOST 1048576: true; the input reads as it did. -/
def runAllUptoRow : OpenClaim := { program := "ytpjadlleefgcpaagreat", sum := "70cb90a1855b41cdffb5b7b4c11285e98a84dc18535973fb34b99ebdc7efdf7d", func := "whittler/whittlerlaw13.RunAll", spec := "runAll", unfollowed := true, recurses := true, loops := true, apart := false, narrowed := true }
def RunAllUptoSaid : Prop := runAllUptoRow.holds Tryz.pinned (OpenSpec.upto runAllSpec)

/-- 'whittlerlaw13.RunForm', WHERE WHAT IT READS IS OF BULK AT MOST 1048576: true; the input reads as it did. -/
def runFormUptoRow : OpenClaim := { program := "ytpjadlleefgcpaagreat", sum := "70cb90a1855b41cdffb5b7b4c11285e98a84dc18535973fb34b99ebdc7efdf7d", func := "whittler/whittlerlaw13.RunForm", spec := "runForm", unfollowed := true, recurses := true, loops := true, apart := false, narrowed := true }
def RunFormUptoSaid : Prop := runFormUptoRow.holds Tryz.pinned (OpenSpec.upto runFormSpec)

/-- 'whittlerlaw13.RunFuel', WHERE WHAT IT READS IS OF BULK AT MOST 1048576: true; the input reads as it did. -/
def runFuelUptoRow : OpenClaim := { program := "ytpjadlleefgcpaagreat", sum := "70cb90a1855b41cdffb5b7b4c11285e98a84dc18535973fb34b99ebdc7efdf7d", func := "whittler/whittlerlaw13.RunFuel", spec := "runFuel", unfollowed := true, recurses := true, loops := true, apart := false, narrowed := true }
def RunFuelUptoSaid : Prop := runFuelUptoRow.holds Tryz.pinned (OpenSpec.upto runFuelSpec)

/-- 'whittlerlaw13.RunWatch', WHERE WHAT IT READS IS OF BULK AT MOST 1048576: true; the input reads as it did. -/
def runWatchUptoRow : OpenClaim := { program := "ytpjadlleefgcpaagreat", sum := "70cb90a1855b41cdffb5b7b4c11285e98a84dc18535973fb34b99ebdc7efdf7d", func := "whittler/whittlerlaw13.RunWatch", spec := "runWatch", unfollowed := true, recurses := true, loops := true, apart := false, narrowed := true }
def RunWatchUptoSaid : Prop := runWatchUptoRow.holds Tryz.pinned (OpenSpec.upto runWatchSpec)

/-- 'whittlerlaw13.RunTape', WHERE WHAT IT READS IS OF BULK AT MOST 1048576: true; the input reads as it did. -/
def runTapeUptoRow : OpenClaim := { program := "ytpjadlleefgcpaagreat", sum := "70cb90a1855b41cdffb5b7b4c11285e98a84dc18535973fb34b99ebdc7efdf7d", func := "whittler/whittlerlaw13.RunTape", spec := "runTape", unfollowed := true, recurses := true, loops := true, apart := false, narrowed := true }
def RunTapeUptoSaid : Prop := runTapeUptoRow.holds Tryz.pinned (OpenSpec.upto runTapeSpec)

/-- 'whittlerlaw13.RunTold', WHERE WHAT IT READS IS OF BULK AT MOST 1048576: true; the input reads as it did. -/
def runToldUptoRow : OpenClaim := { program := "ytpjadlleefgcpaagreat", sum := "70cb90a1855b41cdffb5b7b4c11285e98a84dc18535973fb34b99ebdc7efdf7d", func := "whittler/whittlerlaw13.RunTold", spec := "runTold", unfollowed := true, recurses := true, loops := true, apart := false, narrowed := true }
def RunToldUptoSaid : Prop := runToldUptoRow.holds Tryz.pinned (OpenSpec.upto runToldSpec)

/-- 'whittlerlaw13.RunOut', WHERE WHAT IT READS IS OF BULK AT MOST 1048576: true; the input reads as it did. -/
def runOutUptoRow : OpenClaim := { program := "ytpjadlleefgcpaagreat", sum := "70cb90a1855b41cdffb5b7b4c11285e98a84dc18535973fb34b99ebdc7efdf7d", func := "whittler/whittlerlaw13.RunOut", spec := "runOut", unfollowed := true, recurses := true, loops := true, apart := false, narrowed := true }
def RunOutUptoSaid : Prop := runOutUptoRow.holds Tryz.pinned (OpenSpec.upto runOutSpec)

/-- 'whittlerlaw13.RunSwap', WHERE WHAT IT READS IS OF BULK AT MOST 1048576: true; the input reads as it did. -/
def runSwapUptoRow : OpenClaim := { program := "ytpjadlleefgcpaagreat", sum := "70cb90a1855b41cdffb5b7b4c11285e98a84dc18535973fb34b99ebdc7efdf7d", func := "whittler/whittlerlaw13.RunSwap", spec := "runSwap", unfollowed := true, recurses := true, loops := true, apart := false, narrowed := true }
def RunSwapUptoSaid : Prop := runSwapUptoRow.holds Tryz.pinned (OpenSpec.upto runSwapSpec)

/-- 'whittlerlaw13.RunMove', WHERE WHAT IT READS IS OF BULK AT MOST 1048576: true; the input reads as it did. -/
def runMoveUptoRow : OpenClaim := { program := "ytpjadlleefgcpaagreat", sum := "70cb90a1855b41cdffb5b7b4c11285e98a84dc18535973fb34b99ebdc7efdf7d", func := "whittler/whittlerlaw13.RunMove", spec := "runMove", unfollowed := true, recurses := true, loops := true, apart := false, narrowed := true }
def RunMoveUptoSaid : Prop := runMoveUptoRow.holds Tryz.pinned (OpenSpec.upto runMoveSpec)

/-- 'whittlerlaw13.RunRound', WHERE WHAT IT READS IS OF BULK AT MOST 1048576: true; the input reads as it did. -/
def runRoundUptoRow : OpenClaim := { program := "ytpjadlleefgcpaagreat", sum := "70cb90a1855b41cdffb5b7b4c11285e98a84dc18535973fb34b99ebdc7efdf7d", func := "whittler/whittlerlaw13.RunRound", spec := "runRound", unfollowed := true, recurses := true, loops := true, apart := false, narrowed := true }
def RunRoundUptoSaid : Prop := runRoundUptoRow.holds Tryz.pinned (OpenSpec.upto runRoundSpec)

/-- 'whittlerlaw13.RunElse', WHERE WHAT IT READS IS OF BULK AT MOST 1048576: true; the input reads as it did. -/
def runElseUptoRow : OpenClaim := { program := "ytpjadlleefgcpaagreat", sum := "70cb90a1855b41cdffb5b7b4c11285e98a84dc18535973fb34b99ebdc7efdf7d", func := "whittler/whittlerlaw13.RunElse", spec := "runElse", unfollowed := true, recurses := true, loops := true, apart := false, narrowed := true }
def RunElseUptoSaid : Prop := runElseUptoRow.holds Tryz.pinned (OpenSpec.upto runElseSpec)

/-- 'whittlerlaw13.RunMeter', WHERE WHAT IT READS IS OF BULK AT MOST 1048576: true; the input reads as it did. -/
def runMeterUptoRow : OpenClaim := { program := "ytpjadlleefgcpaagreat", sum := "70cb90a1855b41cdffb5b7b4c11285e98a84dc18535973fb34b99ebdc7efdf7d", func := "whittler/whittlerlaw13.RunMeter", spec := "runMeter", unfollowed := true, recurses := true, loops := true, apart := false, narrowed := true }
def RunMeterUptoSaid : Prop := runMeterUptoRow.holds Tryz.pinned (OpenSpec.upto runMeterSpec)

end Rows
end Go.Proofs.YtpjadlleefgcpaaGreat
