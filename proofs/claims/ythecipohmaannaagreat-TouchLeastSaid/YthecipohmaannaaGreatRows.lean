/-
  NARROWER THAN 'FOR EVERY INPUT', by the rows' own cells (each row's printed sentence says how): TouchAll: loops · TouchLeast: loops · AliasAll: loops.
  DERIVED. THE GIVEN ROWS OF THIS SEAT. 3 by the template 'for every input the law returns true; each argument reads behind the call as it read before'; 0 by the template 'total and deterministic' (their statements: YthecipohmaannaaGreatTotals.lean).
  GIVEN WITH THE SEED: the statements are not yours to turn. If you find one false, say at which input.
  Laid BY PROGRAM, IN A SANDBOX (cutbox-rows.mjs): the forced cells as the released guide's own fill.sh prints them over the translation f758388bb92b75c1… (all of the seat's roots in one cut). By AI agents, Wed Nov 11 2026. No macro, syntax, notation, axiom, sorry.
-/
import Derived.Test.YthecipohmaannaaGreatChecked
import GoSem.Claim
import GoSem.ClaimJoined
import GoSem.ClaimMapViews
import Derived.JoinedTies
import Derived.KernelRfl
namespace Go.Proofs.YthecipohmaannaaGreat
/- THE CELL 'sum', in the pinned program and in every row, IS THE sha256 OF THE DUMP (.gsa) THAT YthecipohmaannaaGreatProg.lean LOADS. Nothing in Lean hashes anything: it is a label: what it is worth is what the hold of that sum in a sandbox is worth. -/
noncomputable def Tryz.pinned : Pinned := { name := "ythecipohmaannaagreat", sum := "f758388bb92b75c1e55d4d454f88255ea6e094ce38c79a36a0e13fc9445528c7", checked := Tryz.checked }
namespace Rows
def none {H : Type} : Left H := { results := [], args := [] }

/-- 'whittlerlaw9.TouchAll': WHATEVER THE INPUT: true; the input reads as it did. -/
def touchAllSpec : ChangeSpec := { name := "touchAll", fn := fun _ => fun
  | [d1, d2] => { results := [.lit (.bool true)], args := [d1, d2] }
  | _ => none }
def touchAllRow : OpenClaim := { program := "ythecipohmaannaagreat", sum := "f758388bb92b75c1e55d4d454f88255ea6e094ce38c79a36a0e13fc9445528c7", func := "whittler/whittlerlaw9.TouchAll", spec := "touchAll", unfollowed := true, recurses := true, loops := true, apart := false }
def TouchAllSaid : Prop := touchAllRow.holds Tryz.pinned (OpenSpec.ofChange touchAllSpec)

/-- ITS FALSE NEIGHBOUR: 'it returns false'. Refute it at one input. -/
def touchAllWrong : ChangeSpec := { name := "touchAll", fn := fun _ => fun
  | [d1, d2] => { results := [.lit (.bool false)], args := [d1, d2] }
  | _ => none }
def TouchAllWrongFalsely : Prop := touchAllRow.holds Tryz.pinned (OpenSpec.ofChange touchAllWrong)

/-- 'whittlerlaw9.TouchLeast': WHATEVER THE INPUT: true; the input reads as it did. -/
def touchLeastSpec : ChangeSpec := { name := "touchLeast", fn := fun _ => fun
  | [d1, d2] => { results := [.lit (.bool true)], args := [d1, d2] }
  | _ => none }
def touchLeastRow : OpenClaim := { program := "ythecipohmaannaagreat", sum := "f758388bb92b75c1e55d4d454f88255ea6e094ce38c79a36a0e13fc9445528c7", func := "whittler/whittlerlaw9.TouchLeast", spec := "touchLeast", unfollowed := true, recurses := true, loops := true, apart := false }
def TouchLeastSaid : Prop := touchLeastRow.holds Tryz.pinned (OpenSpec.ofChange touchLeastSpec)

/-- ITS FALSE NEIGHBOUR: 'it returns false'. Refute it at one input. -/
def touchLeastWrong : ChangeSpec := { name := "touchLeast", fn := fun _ => fun
  | [d1, d2] => { results := [.lit (.bool false)], args := [d1, d2] }
  | _ => none }
def TouchLeastWrongFalsely : Prop := touchLeastRow.holds Tryz.pinned (OpenSpec.ofChange touchLeastWrong)

/-- 'whittlerlaw10.AliasAll': WHATEVER THE INPUT: true; the input reads as it did. -/
def aliasAllSpec : ChangeSpec := { name := "aliasAll", fn := fun _ => fun
  | [d1, d2] => { results := [.lit (.bool true)], args := [d1, d2] }
  | _ => none }
def aliasAllRow : OpenClaim := { program := "ythecipohmaannaagreat", sum := "f758388bb92b75c1e55d4d454f88255ea6e094ce38c79a36a0e13fc9445528c7", func := "whittler/whittlerlaw10.AliasAll", spec := "aliasAll", unfollowed := true, recurses := true, loops := true, apart := false }
def AliasAllSaid : Prop := aliasAllRow.holds Tryz.pinned (OpenSpec.ofChange aliasAllSpec)

/-- ITS FALSE NEIGHBOUR: 'it returns false'. Refute it at one input. -/
def aliasAllWrong : ChangeSpec := { name := "aliasAll", fn := fun _ => fun
  | [d1, d2] => { results := [.lit (.bool false)], args := [d1, d2] }
  | _ => none }
def AliasAllWrongFalsely : Prop := aliasAllRow.holds Tryz.pinned (OpenSpec.ofChange aliasAllWrong)

/- THE SECOND FORM. 'bulk': how many values and letters a reading holds, each counted each time it is reached (what is shared counts as often as it is met; a slice's spare places count too). A statement '..UptoSaid' is the law's where the arguments, and the package variables that the reading takes, are together of bulk at most 1048576: NARROWER than '..Said'. Prove '..Said' where nothing that the law and all that it calls make is longer than what came in: it says more and counts as full. Else prove '..UptoSaid'. A law counts once. -/
mutual
def uptoBulk {H : Type} : DataW H → Nat
  | .lit (.string bytes) => bytes.length + 1
  | .lit _ => 1
  | .nil => 1
  | .ptr d => uptoBulk d + 1
  | .slice elems spare => uptoBulkAll elems + uptoBulkAll spare + 1
  | .agg parts => uptoBulkAll parts + 1
  | .iface _ d => uptoBulk d + 1
  | .map entries => uptoBulkEntries entries + 1
  | .held _ => 1
def uptoBulkAll {H : Type} : List (DataW H) → Nat
  | [] => 0
  | d :: r => uptoBulk d + uptoBulkAll r
def uptoBulkEntries {H : Type} : List (Lit × DataW H) → Nat
  | [] => 0
  | x :: r => uptoBulkEntry x + uptoBulkEntries r
def uptoBulkEntry {H : Type} : Lit × DataW H → Nat
  | (.string bytes, d) => bytes.length + uptoBulk d + 1
  | (_, d) => uptoBulk d + 1
 end
def uptoSmall : (H : Type) → List (DataW H) → Bool := fun _ ds => decide (uptoBulkAll ds ≤ 1048576)
def OpenSpec.upto (s : _root_.Go.ChangeSpec) : _root_.Go.OpenSpec := { _root_.Go.OpenSpec.ofChange s with cond := some uptoSmall }

/-- 'whittlerlaw9.TouchAll', WHERE WHAT IT READS IS OF BULK AT MOST 1048576: true; the input reads as it did. -/
def touchAllUptoRow : OpenClaim := { program := "ythecipohmaannaagreat", sum := "f758388bb92b75c1e55d4d454f88255ea6e094ce38c79a36a0e13fc9445528c7", func := "whittler/whittlerlaw9.TouchAll", spec := "touchAll", unfollowed := true, recurses := true, loops := true, apart := false, narrowed := true }
def TouchAllUptoSaid : Prop := touchAllUptoRow.holds Tryz.pinned (OpenSpec.upto touchAllSpec)

/-- 'whittlerlaw9.TouchLeast', WHERE WHAT IT READS IS OF BULK AT MOST 1048576: true; the input reads as it did. -/
def touchLeastUptoRow : OpenClaim := { program := "ythecipohmaannaagreat", sum := "f758388bb92b75c1e55d4d454f88255ea6e094ce38c79a36a0e13fc9445528c7", func := "whittler/whittlerlaw9.TouchLeast", spec := "touchLeast", unfollowed := true, recurses := true, loops := true, apart := false, narrowed := true }
def TouchLeastUptoSaid : Prop := touchLeastUptoRow.holds Tryz.pinned (OpenSpec.upto touchLeastSpec)

/-- 'whittlerlaw10.AliasAll', WHERE WHAT IT READS IS OF BULK AT MOST 1048576: true; the input reads as it did. -/
def aliasAllUptoRow : OpenClaim := { program := "ythecipohmaannaagreat", sum := "f758388bb92b75c1e55d4d454f88255ea6e094ce38c79a36a0e13fc9445528c7", func := "whittler/whittlerlaw10.AliasAll", spec := "aliasAll", unfollowed := true, recurses := true, loops := true, apart := false, narrowed := true }
def AliasAllUptoSaid : Prop := aliasAllUptoRow.holds Tryz.pinned (OpenSpec.upto aliasAllSpec)

end Rows
end Go.Proofs.YthecipohmaannaaGreat
