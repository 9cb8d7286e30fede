/-
  NARROWER THAN 'FOR EVERY INPUT', by the rows' own cells (each row's printed sentence says how): ParseFull: loops.
  DERIVED. THE GIVEN ROWS OF THIS SEAT. 10 by the template 'for every input the law returns true; each argument reads behind the call as it read before'; 0 by the template 'total and deterministic' (their statements: YtecpopiacpckiaaTotals.lean).
  GIVEN WITH THE SEED: the statements are not yours to turn. If you find one false, say at which input.
  Laid BY PROGRAM, IN A SANDBOX (cutbox-rows.mjs): the forced cells as the released guide's own fill.sh prints them over the translation f4333a8b184c816b… (all of the seat's roots in one cut). By AI agents, Wed Nov 11 2026. No macro, syntax, notation, axiom, sorry.
-/
import Derived.Test.YtecpopiacpckiaaChecked
import GoSem.Claim
import GoSem.ClaimJoined
import GoSem.ClaimMapViews
import Derived.JoinedTies
import Derived.KernelRfl
namespace Go.Proofs.Ytecpopiacpckiaa
/- THE CELL 'sum', in the pinned program and in every row, IS THE sha256 OF THE DUMP (.gsa) THAT YtecpopiacpckiaaProg.lean LOADS. Nothing in Lean hashes anything: it is a label: what it is worth is what the hold of that sum in a sandbox is worth. -/
noncomputable def Try.pinned : Pinned := { name := "ytecpopiacpckiaa", sum := "f4333a8b184c816b79967309a87936c247716f5822ce2b295008a0d6576fa037", checked := Try.checked }
namespace Rows
def none {H : Type} : Left H := { results := [], args := [] }

/-- 'whittlerlaw4.ParseAll': WHATEVER THE INPUT: true; the input reads as it did. -/
def parseAllSpec : ChangeSpec := { name := "parseAll", fn := fun _ => fun
  | [d] => { results := [.lit (.bool true)], args := [d] }
  | _ => none }
def parseAllRow : OpenClaim := { program := "ytecpopiacpckiaa", sum := "f4333a8b184c816b79967309a87936c247716f5822ce2b295008a0d6576fa037", func := "whittler/whittlerlaw4.ParseAll", spec := "parseAll", recurses := true, apart := false }
def ParseAllSaid : Prop := parseAllRow.holds Try.pinned (OpenSpec.ofChange parseAllSpec)

/-- ITS FALSE NEIGHBOUR: 'it returns false'. Refute it at one input. -/
def parseAllWrong : ChangeSpec := { name := "parseAll", fn := fun _ => fun
  | [d] => { results := [.lit (.bool false)], args := [d] }
  | _ => none }
def ParseAllWrongFalsely : Prop := parseAllRow.holds Try.pinned (OpenSpec.ofChange parseAllWrong)

/-- 'whittlerlaw4.ParseExpr': WHATEVER THE INPUT: true; the input reads as it did. -/
def parseExprSpec : ChangeSpec := { name := "parseExpr", fn := fun _ => fun
  | [d] => { results := [.lit (.bool true)], args := [d] }
  | _ => none }
def parseExprRow : OpenClaim := { program := "ytecpopiacpckiaa", sum := "f4333a8b184c816b79967309a87936c247716f5822ce2b295008a0d6576fa037", func := "whittler/whittlerlaw4.ParseExpr", spec := "parseExpr", recurses := true, apart := false }
def ParseExprSaid : Prop := parseExprRow.holds Try.pinned (OpenSpec.ofChange parseExprSpec)

/-- ITS FALSE NEIGHBOUR: 'it returns false'. Refute it at one input. -/
def parseExprWrong : ChangeSpec := { name := "parseExpr", fn := fun _ => fun
  | [d] => { results := [.lit (.bool false)], args := [d] }
  | _ => none }
def ParseExprWrongFalsely : Prop := parseExprRow.holds Try.pinned (OpenSpec.ofChange parseExprWrong)

/-- 'whittlerlaw4.ParseMay': WHATEVER THE INPUT: true; the input reads as it did. -/
def parseMaySpec : ChangeSpec := { name := "parseMay", fn := fun _ => fun
  | [d] => { results := [.lit (.bool true)], args := [d] }
  | _ => none }
def parseMayRow : OpenClaim := { program := "ytecpopiacpckiaa", sum := "f4333a8b184c816b79967309a87936c247716f5822ce2b295008a0d6576fa037", func := "whittler/whittlerlaw4.ParseMay", spec := "parseMay", recurses := true, apart := false }
def ParseMaySaid : Prop := parseMayRow.holds Try.pinned (OpenSpec.ofChange parseMaySpec)

/-- ITS FALSE NEIGHBOUR: 'it returns false'. Refute it at one input. -/
def parseMayWrong : ChangeSpec := { name := "parseMay", fn := fun _ => fun
  | [d] => { results := [.lit (.bool false)], args := [d] }
  | _ => none }
def ParseMayWrongFalsely : Prop := parseMayRow.holds Try.pinned (OpenSpec.ofChange parseMayWrong)

/-- 'whittlerlaw4.ParseTokens': WHATEVER THE INPUT: true; the input reads as it did. -/
def parseTokensSpec : ChangeSpec := { name := "parseTokens", fn := fun _ => fun
  | [d1, d2] => { results := [.lit (.bool true)], args := [d1, d2] }
  | _ => none }
def parseTokensRow : OpenClaim := { program := "ytecpopiacpckiaa", sum := "f4333a8b184c816b79967309a87936c247716f5822ce2b295008a0d6576fa037", func := "whittler/whittlerlaw4.ParseTokens", spec := "parseTokens", recurses := true, apart := false }
def ParseTokensSaid : Prop := parseTokensRow.holds Try.pinned (OpenSpec.ofChange parseTokensSpec)

/-- ITS FALSE NEIGHBOUR: 'it returns false'. Refute it at one input. -/
def parseTokensWrong : ChangeSpec := { name := "parseTokens", fn := fun _ => fun
  | [d1, d2] => { results := [.lit (.bool false)], args := [d1, d2] }
  | _ => none }
def ParseTokensWrongFalsely : Prop := parseTokensRow.holds Try.pinned (OpenSpec.ofChange parseTokensWrong)

/-- 'whittlerlaw4.ParseCut': WHATEVER THE INPUT: true; the input reads as it did. -/
def parseCutSpec : ChangeSpec := { name := "parseCut", fn := fun _ => fun
  | [d] => { results := [.lit (.bool true)], args := [d] }
  | _ => none }
def parseCutRow : OpenClaim := { program := "ytecpopiacpckiaa", sum := "f4333a8b184c816b79967309a87936c247716f5822ce2b295008a0d6576fa037", func := "whittler/whittlerlaw4.ParseCut", spec := "parseCut", recurses := true, apart := false }
def ParseCutSaid : Prop := parseCutRow.holds Try.pinned (OpenSpec.ofChange parseCutSpec)

/-- ITS FALSE NEIGHBOUR: 'it returns false'. Refute it at one input. -/
def parseCutWrong : ChangeSpec := { name := "parseCut", fn := fun _ => fun
  | [d] => { results := [.lit (.bool false)], args := [d] }
  | _ => none }
def ParseCutWrongFalsely : Prop := parseCutRow.holds Try.pinned (OpenSpec.ofChange parseCutWrong)

/-- 'whittlerlaw4.ParseMore': WHATEVER THE INPUT: true; the input reads as it did. -/
def parseMoreSpec : ChangeSpec := { name := "parseMore", fn := fun _ => fun
  | [d] => { results := [.lit (.bool true)], args := [d] }
  | _ => none }
def parseMoreRow : OpenClaim := { program := "ytecpopiacpckiaa", sum := "f4333a8b184c816b79967309a87936c247716f5822ce2b295008a0d6576fa037", func := "whittler/whittlerlaw4.ParseMore", spec := "parseMore", recurses := true, apart := false }
def ParseMoreSaid : Prop := parseMoreRow.holds Try.pinned (OpenSpec.ofChange parseMoreSpec)

/-- ITS FALSE NEIGHBOUR: 'it returns false'. Refute it at one input. -/
def parseMoreWrong : ChangeSpec := { name := "parseMore", fn := fun _ => fun
  | [d] => { results := [.lit (.bool false)], args := [d] }
  | _ => none }
def ParseMoreWrongFalsely : Prop := parseMoreRow.holds Try.pinned (OpenSpec.ofChange parseMoreWrong)

/-- 'whittlerlaw4.ParseBinds': WHATEVER THE INPUT: true; the input reads as it did. -/
def parseBindsSpec : ChangeSpec := { name := "parseBinds", fn := fun _ => fun
  | [d] => { results := [.lit (.bool true)], args := [d] }
  | _ => none }
def parseBindsRow : OpenClaim := { program := "ytecpopiacpckiaa", sum := "f4333a8b184c816b79967309a87936c247716f5822ce2b295008a0d6576fa037", func := "whittler/whittlerlaw4.ParseBinds", spec := "parseBinds", recurses := true, apart := false }
def ParseBindsSaid : Prop := parseBindsRow.holds Try.pinned (OpenSpec.ofChange parseBindsSpec)

/-- ITS FALSE NEIGHBOUR: 'it returns false'. Refute it at one input. -/
def parseBindsWrong : ChangeSpec := { name := "parseBinds", fn := fun _ => fun
  | [d] => { results := [.lit (.bool false)], args := [d] }
  | _ => none }
def ParseBindsWrongFalsely : Prop := parseBindsRow.holds Try.pinned (OpenSpec.ofChange parseBindsWrong)

/-- 'whittlerlaw4.ParseFull': WHATEVER THE INPUT: true; the input reads as it did. -/
def parseFullSpec : ChangeSpec := { name := "parseFull", fn := fun _ => fun
  | [d] => { results := [.lit (.bool true)], args := [d] }
  | _ => none }
def parseFullRow : OpenClaim := { program := "ytecpopiacpckiaa", sum := "f4333a8b184c816b79967309a87936c247716f5822ce2b295008a0d6576fa037", func := "whittler/whittlerlaw4.ParseFull", spec := "parseFull", recurses := true, loops := true, apart := false }
def ParseFullSaid : Prop := parseFullRow.holds Try.pinned (OpenSpec.ofChange parseFullSpec)

/-- ITS FALSE NEIGHBOUR: 'it returns false'. Refute it at one input. -/
def parseFullWrong : ChangeSpec := { name := "parseFull", fn := fun _ => fun
  | [d] => { results := [.lit (.bool false)], args := [d] }
  | _ => none }
def ParseFullWrongFalsely : Prop := parseFullRow.holds Try.pinned (OpenSpec.ofChange parseFullWrong)

/-- 'whittlerlaw4.ParseRoom': WHATEVER THE INPUT: true; the input reads as it did. -/
def parseRoomSpec : ChangeSpec := { name := "parseRoom", fn := fun _ => fun
  | [d1, d2] => { results := [.lit (.bool true)], args := [d1, d2] }
  | _ => none }
def parseRoomRow : OpenClaim := { program := "ytecpopiacpckiaa", sum := "f4333a8b184c816b79967309a87936c247716f5822ce2b295008a0d6576fa037", func := "whittler/whittlerlaw4.ParseRoom", spec := "parseRoom", recurses := true, apart := false }
def ParseRoomSaid : Prop := parseRoomRow.holds Try.pinned (OpenSpec.ofChange parseRoomSpec)

/-- ITS FALSE NEIGHBOUR: 'it returns false'. Refute it at one input. -/
def parseRoomWrong : ChangeSpec := { name := "parseRoom", fn := fun _ => fun
  | [d1, d2] => { results := [.lit (.bool false)], args := [d1, d2] }
  | _ => none }
def ParseRoomWrongFalsely : Prop := parseRoomRow.holds Try.pinned (OpenSpec.ofChange parseRoomWrong)

/-- 'whittlerlaw4.ParseHand': WHATEVER THE INPUT: true; the input reads as it did. -/
def parseHandSpec : ChangeSpec := { name := "parseHand", fn := fun _ => fun
  | [] => { results := [.lit (.bool true)], args := [] }
  | _ => none }
def parseHandRow : OpenClaim := { program := "ytecpopiacpckiaa", sum := "f4333a8b184c816b79967309a87936c247716f5822ce2b295008a0d6576fa037", func := "whittler/whittlerlaw4.ParseHand", spec := "parseHand", recurses := true, apart := false }
def ParseHandSaid : Prop := parseHandRow.holds Try.pinned (OpenSpec.ofChange parseHandSpec)

/-- ITS FALSE NEIGHBOUR: 'it returns false'. Refute it at one input. -/
def parseHandWrong : ChangeSpec := { name := "parseHand", fn := fun _ => fun
  | [] => { results := [.lit (.bool false)], args := [] }
  | _ => none }
def ParseHandWrongFalsely : Prop := parseHandRow.holds Try.pinned (OpenSpec.ofChange parseHandWrong)

/- THE SECOND FORM. 'bulk': how many values and letters a reading holds, each counted each time it is reached (what is shared counts as often as it is met; a slice's spare places count too). A statement '..UptoSaid' is the law's where the arguments, and the package variables that the reading takes, are together of bulk at most 1048576: NARROWER than '..Said'. Prove '..Said' where nothing that the law and all that it calls make is longer than what came in: it says more and counts as full. Else prove '..UptoSaid'. A law counts once. -/
mutual
def uptoBulk {H : Type} : DataW H → Nat
  | .lit (.string bytes) => bytes.length + 1
  | .lit _ => 1
  | .nil => 1
  | .ptr d => uptoBulk d + 1
  | .slice elems spare => uptoBulkAll elems + uptoBulkAll spare + 1
  | .agg parts => uptoBulkAll parts + 1
  | .iface _ d => uptoBulk d + 1
  | .map entries => uptoBulkEntries entries + 1
  | .held _ => 1
def uptoBulkAll {H : Type} : List (DataW H) → Nat
  | [] => 0
  | d :: r => uptoBulk d + uptoBulkAll r
def uptoBulkEntries {H : Type} : List (Lit × DataW H) → Nat
  | [] => 0
  | x :: r => uptoBulkEntry x + uptoBulkEntries r
def uptoBulkEntry {H : Type} : Lit × DataW H → Nat
  | (.string bytes, d) => bytes.length + uptoBulk d + 1
  | (_, d) => uptoBulk d + 1
 end
def uptoSmall : (H : Type) → List (DataW H) → Bool := fun _ ds => decide (uptoBulkAll ds ≤ 1048576)
def OpenSpec.upto (s : _root_.Go.ChangeSpec) : _root_.Go.OpenSpec := { _root_.Go.OpenSpec.ofChange s with cond := some uptoSmall }

/-- 'whittlerlaw4.ParseAll', WHERE WHAT IT READS IS OF BULK AT MOST 1048576: true; the input reads as it did. -/
def parseAllUptoRow : OpenClaim := { program := "ytecpopiacpckiaa", sum := "f4333a8b184c816b79967309a87936c247716f5822ce2b295008a0d6576fa037", func := "whittler/whittlerlaw4.ParseAll", spec := "parseAll", recurses := true, apart := false, narrowed := true }
def ParseAllUptoSaid : Prop := parseAllUptoRow.holds Try.pinned (OpenSpec.upto parseAllSpec)

/-- 'whittlerlaw4.ParseExpr', WHERE WHAT IT READS IS OF BULK AT MOST 1048576: true; the input reads as it did. -/
def parseExprUptoRow : OpenClaim := { program := "ytecpopiacpckiaa", sum := "f4333a8b184c816b79967309a87936c247716f5822ce2b295008a0d6576fa037", func := "whittler/whittlerlaw4.ParseExpr", spec := "parseExpr", recurses := true, apart := false, narrowed := true }
def ParseExprUptoSaid : Prop := parseExprUptoRow.holds Try.pinned (OpenSpec.upto parseExprSpec)

/-- 'whittlerlaw4.ParseMay', WHERE WHAT IT READS IS OF BULK AT MOST 1048576: true; the input reads as it did. -/
def parseMayUptoRow : OpenClaim := { program := "ytecpopiacpckiaa", sum := "f4333a8b184c816b79967309a87936c247716f5822ce2b295008a0d6576fa037", func := "whittler/whittlerlaw4.ParseMay", spec := "parseMay", recurses := true, apart := false, narrowed := true }
def ParseMayUptoSaid : Prop := parseMayUptoRow.holds Try.pinned (OpenSpec.upto parseMaySpec)

/-- 'whittlerlaw4.ParseTokens', WHERE WHAT IT READS IS OF BULK AT MOST 1048576: true; the input reads as it did. -/
def parseTokensUptoRow : OpenClaim := { program := "ytecpopiacpckiaa", sum := "f4333a8b184c816b79967309a87936c247716f5822ce2b295008a0d6576fa037", func := "whittler/whittlerlaw4.ParseTokens", spec := "parseTokens", recurses := true, apart := false, narrowed := true }
def ParseTokensUptoSaid : Prop := parseTokensUptoRow.holds Try.pinned (OpenSpec.upto parseTokensSpec)

/-- 'whittlerlaw4.ParseCut', WHERE WHAT IT READS IS OF BULK AT MOST 1048576: true; the input reads as it did. -/
def parseCutUptoRow : OpenClaim := { program := "ytecpopiacpckiaa", sum := "f4333a8b184c816b79967309a87936c247716f5822ce2b295008a0d6576fa037", func := "whittler/whittlerlaw4.ParseCut", spec := "parseCut", recurses := true, apart := false, narrowed := true }
def ParseCutUptoSaid : Prop := parseCutUptoRow.holds Try.pinned (OpenSpec.upto parseCutSpec)

/-- 'whittlerlaw4.ParseMore', WHERE WHAT IT READS IS OF BULK AT MOST 1048576: true; the input reads as it did. -/
def parseMoreUptoRow : OpenClaim := { program := "ytecpopiacpckiaa", sum := "f4333a8b184c816b79967309a87936c247716f5822ce2b295008a0d6576fa037", func := "whittler/whittlerlaw4.ParseMore", spec := "parseMore", recurses := true, apart := false, narrowed := true }
def ParseMoreUptoSaid : Prop := parseMoreUptoRow.holds Try.pinned (OpenSpec.upto parseMoreSpec)

/-- 'whittlerlaw4.ParseBinds', WHERE WHAT IT READS IS OF BULK AT MOST 1048576: true; the input reads as it did. -/
def parseBindsUptoRow : OpenClaim := { program := "ytecpopiacpckiaa", sum := "f4333a8b184c816b79967309a87936c247716f5822ce2b295008a0d6576fa037", func := "whittler/whittlerlaw4.ParseBinds", spec := "parseBinds", recurses := true, apart := false, narrowed := true }
def ParseBindsUptoSaid : Prop := parseBindsUptoRow.holds Try.pinned (OpenSpec.upto parseBindsSpec)

/-- 'whittlerlaw4.ParseFull', WHERE WHAT IT READS IS OF BULK AT MOST 1048576: true; the input reads as it did. -/
def parseFullUptoRow : OpenClaim := { program := "ytecpopiacpckiaa", sum := "f4333a8b184c816b79967309a87936c247716f5822ce2b295008a0d6576fa037", func := "whittler/whittlerlaw4.ParseFull", spec := "parseFull", recurses := true, loops := true, apart := false, narrowed := true }
def ParseFullUptoSaid : Prop := parseFullUptoRow.holds Try.pinned (OpenSpec.upto parseFullSpec)

/-- 'whittlerlaw4.ParseRoom', WHERE WHAT IT READS IS OF BULK AT MOST 1048576: true; the input reads as it did. -/
def parseRoomUptoRow : OpenClaim := { program := "ytecpopiacpckiaa", sum := "f4333a8b184c816b79967309a87936c247716f5822ce2b295008a0d6576fa037", func := "whittler/whittlerlaw4.ParseRoom", spec := "parseRoom", recurses := true, apart := false, narrowed := true }
def ParseRoomUptoSaid : Prop := parseRoomUptoRow.holds Try.pinned (OpenSpec.upto parseRoomSpec)

/-- 'whittlerlaw4.ParseHand', WHERE WHAT IT READS IS OF BULK AT MOST 1048576: true; the input reads as it did. -/
def parseHandUptoRow : OpenClaim := { program := "ytecpopiacpckiaa", sum := "f4333a8b184c816b79967309a87936c247716f5822ce2b295008a0d6576fa037", func := "whittler/whittlerlaw4.ParseHand", spec := "parseHand", recurses := true, apart := false, narrowed := true }
def ParseHandUptoSaid : Prop := parseHandUptoRow.holds Try.pinned (OpenSpec.upto parseHandSpec)

end Rows
end Go.Proofs.Ytecpopiacpckiaa
