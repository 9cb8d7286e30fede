/-
  NARROWER THAN 'FOR EVERY INPUT', by the rows' own cells (each row's printed sentence says how): TouchOn: loops · AliasTwice: loops · AliasNone: loops · AliasGlobal: loops.
  DERIVED. THE GIVEN ROWS OF THIS SEAT. 4 by the template 'for every input the law returns true; each argument reads behind the call as it read before'; 0 by the template 'total and deterministic' (their statements: YthecipohmaannaaTotals.lean).
  GIVEN WITH THE SEED: the statements are not yours to turn. If you find one false, say at which input.
  Laid BY PROGRAM, IN A SANDBOX (cutbox-rows.mjs): the forced cells as the released guide's own fill.sh prints them over the translation 46f812a08fccde17… (all of the seat's roots in one cut). By AI agents, Wed Nov 11 2026. No macro, syntax, notation, axiom, sorry.
-/
import Derived.Test.YthecipohmaannaaChecked
import GoSem.Claim
import GoSem.ClaimJoined
import GoSem.ClaimMapViews
import Derived.JoinedTies
import Derived.KernelRfl
namespace Go.Proofs.Ythecipohmaannaa
/- THE CELL 'sum', in the pinned program and in every row, IS THE sha256 OF THE DUMP (.gsa) THAT YthecipohmaannaaProg.lean LOADS. Nothing in Lean hashes anything: it is a label: what it is worth is what the hold of that sum in a sandbox is worth. -/
noncomputable def Try.pinned : Pinned := { name := "ythecipohmaannaa", sum := "46f812a08fccde174f6a2dd5fe94809d93ef2775b40941c8b010b43aea252788", checked := Try.checked }
namespace Rows
def none {H : Type} : Left H := { results := [], args := [] }

/-- 'whittlerlaw9.TouchOn': WHATEVER THE INPUT: true; the input reads as it did. -/
def touchOnSpec : ChangeSpec := { name := "touchOn", fn := fun _ => fun
  | [d1, d2, d3] => { results := [.lit (.bool true)], args := [d1, d2, d3] }
  | _ => none }
def touchOnRow : OpenClaim := { program := "ythecipohmaannaa", sum := "46f812a08fccde174f6a2dd5fe94809d93ef2775b40941c8b010b43aea252788", func := "whittler/whittlerlaw9.TouchOn", spec := "touchOn", unfollowed := true, recurses := true, loops := true, apart := false }
def TouchOnSaid : Prop := touchOnRow.holds Try.pinned (OpenSpec.ofChange touchOnSpec)

/-- ITS FALSE NEIGHBOUR: 'it returns false'. Refute it at one input. -/
def touchOnWrong : ChangeSpec := { name := "touchOn", fn := fun _ => fun
  | [d1, d2, d3] => { results := [.lit (.bool false)], args := [d1, d2, d3] }
  | _ => none }
def TouchOnWrongFalsely : Prop := touchOnRow.holds Try.pinned (OpenSpec.ofChange touchOnWrong)

/-- 'whittlerlaw10.AliasTwice': WHATEVER THE INPUT: true; the input reads as it did. -/
def aliasTwiceSpec : ChangeSpec := { name := "aliasTwice", fn := fun _ => fun
  | [d1, d2, d3] => { results := [.lit (.bool true)], args := [d1, d2, d3] }
  | _ => none }
def aliasTwiceRow : OpenClaim := { program := "ythecipohmaannaa", sum := "46f812a08fccde174f6a2dd5fe94809d93ef2775b40941c8b010b43aea252788", func := "whittler/whittlerlaw10.AliasTwice", spec := "aliasTwice", unfollowed := true, recurses := true, loops := true, apart := false }
def AliasTwiceSaid : Prop := aliasTwiceRow.holds Try.pinned (OpenSpec.ofChange aliasTwiceSpec)

/-- ITS FALSE NEIGHBOUR: 'it returns false'. Refute it at one input. -/
def aliasTwiceWrong : ChangeSpec := { name := "aliasTwice", fn := fun _ => fun
  | [d1, d2, d3] => { results := [.lit (.bool false)], args := [d1, d2, d3] }
  | _ => none }
def AliasTwiceWrongFalsely : Prop := aliasTwiceRow.holds Try.pinned (OpenSpec.ofChange aliasTwiceWrong)

/-- 'whittlerlaw10.AliasNone': WHATEVER THE INPUT: true; the input reads as it did. -/
def aliasNoneSpec : ChangeSpec := { name := "aliasNone", fn := fun _ => fun
  | [d] => { results := [.lit (.bool true)], args := [d] }
  | _ => none }
def aliasNoneRow : OpenClaim := { program := "ythecipohmaannaa", sum := "46f812a08fccde174f6a2dd5fe94809d93ef2775b40941c8b010b43aea252788", func := "whittler/whittlerlaw10.AliasNone", spec := "aliasNone", unfollowed := true, recurses := true, loops := true, apart := false }
def AliasNoneSaid : Prop := aliasNoneRow.holds Try.pinned (OpenSpec.ofChange aliasNoneSpec)

/-- ITS FALSE NEIGHBOUR: 'it returns false'. Refute it at one input. -/
def aliasNoneWrong : ChangeSpec := { name := "aliasNone", fn := fun _ => fun
  | [d] => { results := [.lit (.bool false)], args := [d] }
  | _ => none }
def AliasNoneWrongFalsely : Prop := aliasNoneRow.holds Try.pinned (OpenSpec.ofChange aliasNoneWrong)

/-- 'whittlerlaw10.AliasGlobal': WHATEVER THE INPUT: true; the input reads as it did. -/
def aliasGlobalSpec : ChangeSpec := { name := "aliasGlobal", fn := fun _ => fun
  | [d1, d2] => { results := [.lit (.bool true)], args := [d1, d2] }
  | _ => none }
def aliasGlobalRow : OpenClaim := { program := "ythecipohmaannaa", sum := "46f812a08fccde174f6a2dd5fe94809d93ef2775b40941c8b010b43aea252788", func := "whittler/whittlerlaw10.AliasGlobal", spec := "aliasGlobal", unfollowed := true, recurses := true, loops := true, apart := false }
def AliasGlobalSaid : Prop := aliasGlobalRow.holds Try.pinned (OpenSpec.ofChange aliasGlobalSpec)

/-- ITS FALSE NEIGHBOUR: 'it returns false'. Refute it at one input. -/
def aliasGlobalWrong : ChangeSpec := { name := "aliasGlobal", fn := fun _ => fun
  | [d1, d2] => { results := [.lit (.bool false)], args := [d1, d2] }
  | _ => none }
def AliasGlobalWrongFalsely : Prop := aliasGlobalRow.holds Try.pinned (OpenSpec.ofChange aliasGlobalWrong)

/- THE SECOND FORM. 'bulk': how many values and letters a reading holds, each counted each time it is reached (what is shared counts as often as it is met; a slice's spare places count too). A statement '..UptoSaid' is the law's where the arguments, and the package variables that the reading takes, are together of bulk at most 1048576: NARROWER than '..Said'. Prove '..Said' where nothing that the law and all that it calls make is longer than what came in: it says more and counts as full. Else prove '..UptoSaid'. A law counts once. -/
mutual
def uptoBulk {H : Type} : DataW H → Nat
  | .lit (.string bytes) => bytes.length + 1
  | .lit _ => 1
  | .nil => 1
  | .ptr d => uptoBulk d + 1
  | .slice elems spare => uptoBulkAll elems + uptoBulkAll spare + 1
  | .agg parts => uptoBulkAll parts + 1
  | .iface _ d => uptoBulk d + 1
  | .map entries => uptoBulkEntries entries + 1
  | .held _ => 1
def uptoBulkAll {H : Type} : List (DataW H) → Nat
  | [] => 0
  | d :: r => uptoBulk d + uptoBulkAll r
def uptoBulkEntries {H : Type} : List (Lit × DataW H) → Nat
  | [] => 0
  | x :: r => uptoBulkEntry x + uptoBulkEntries r
def uptoBulkEntry {H : Type} : Lit × DataW H → Nat
  | (.string bytes, d) => bytes.length + uptoBulk d + 1
  | (_, d) => uptoBulk d + 1
 end
def uptoSmall : (H : Type) → List (DataW H) → Bool := fun _ ds => decide (uptoBulkAll ds ≤ 1048576)
def OpenSpec.upto (s : _root_.Go.ChangeSpec) : _root_.Go.OpenSpec := { _root_.Go.OpenSpec.ofChange s with cond := some uptoSmall }

/-- 'whittlerlaw9.TouchOn', WHERE WHAT IT READS IS OF BULK AT MOST 1048576: true; the input reads as it did. -/
def touchOnUptoRow : OpenClaim := { program := "ythecipohmaannaa", sum := "46f812a08fccde174f6a2dd5fe94809d93ef2775b40941c8b010b43aea252788", func := "whittler/whittlerlaw9.TouchOn", spec := "touchOn", unfollowed := true, recurses := true, loops := true, apart := false, narrowed := true }
def TouchOnUptoSaid : Prop := touchOnUptoRow.holds Try.pinned (OpenSpec.upto touchOnSpec)

/-- 'whittlerlaw10.AliasTwice', WHERE WHAT IT READS IS OF BULK AT MOST 1048576: true; the input reads as it did. -/
def aliasTwiceUptoRow : OpenClaim := { program := "ythecipohmaannaa", sum := "46f812a08fccde174f6a2dd5fe94809d93ef2775b40941c8b010b43aea252788", func := "whittler/whittlerlaw10.AliasTwice", spec := "aliasTwice", unfollowed := true, recurses := true, loops := true, apart := false, narrowed := true }
def AliasTwiceUptoSaid : Prop := aliasTwiceUptoRow.holds Try.pinned (OpenSpec.upto aliasTwiceSpec)

/-- 'whittlerlaw10.AliasNone', WHERE WHAT IT READS IS OF BULK AT MOST 1048576: true; the input reads as it did. -/
def aliasNoneUptoRow : OpenClaim := { program := "ythecipohmaannaa", sum := "46f812a08fccde174f6a2dd5fe94809d93ef2775b40941c8b010b43aea252788", func := "whittler/whittlerlaw10.AliasNone", spec := "aliasNone", unfollowed := true, recurses := true, loops := true, apart := false, narrowed := true }
def AliasNoneUptoSaid : Prop := aliasNoneUptoRow.holds Try.pinned (OpenSpec.upto aliasNoneSpec)

/-- 'whittlerlaw10.AliasGlobal', WHERE WHAT IT READS IS OF BULK AT MOST 1048576: true; the input reads as it did. -/
def aliasGlobalUptoRow : OpenClaim := { program := "ythecipohmaannaa", sum := "46f812a08fccde174f6a2dd5fe94809d93ef2775b40941c8b010b43aea252788", func := "whittler/whittlerlaw10.AliasGlobal", spec := "aliasGlobal", unfollowed := true, recurses := true, loops := true, apart := false, narrowed := true }
def AliasGlobalUptoSaid : Prop := aliasGlobalUptoRow.holds Try.pinned (OpenSpec.upto aliasGlobalSpec)

end Rows
end Go.Proofs.Ythecipohmaannaa
