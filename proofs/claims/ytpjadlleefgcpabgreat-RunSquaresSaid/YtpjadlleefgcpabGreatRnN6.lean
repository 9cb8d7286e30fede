/-
  What is proved here: the statement RunSquaresSaid: whatever the arguments, the law, called, gives true, and of what was there nothing turns.
  No conditions.
-/
import Derived.Test.YtpjadlleefgcpabGreatRnN5
import Derived.Test.YtpjadlleefgcpabGreatRows
import Derived.OpenShut

set_option linter.unusedSimpArgs false
set_option linter.unusedVariables false
namespace Go.Proofs.YtpjadlleefgcpabGreat.runSquares
open Go.ChangeShapes Go.WideShapes Go.ChangeAt Go.RowKit Go.Abs
theorem own:ownKnob Tryz.prog.godebug=none:=by kernel_rfl
theorem kids:Kids Tryz.prog (· < Tryz.prog.types.size):=kids_rows (by kernel_rfl) (by kernel_rfl)
theorem full : ∀ {t e:TypeId},t<Tryz.prog.types.size→Tryz.prog.underlying t=some (.slice e)→0<Tryz.prog.cellsOf e:=fun {t e}=>slices_full_of Tryz.prog (by kernel_rfl) t e
theorem walk (w:World) (x0:Int):Calls Tryz.prog 6 #[.int .i64 x0] w fun e w'=>e = .returned (.bool true)∧Kept w w':=by
 refine ab6 (args:= [.int .i64 x0]) ((G2 x0 S0).mono fun _ _ h=>h.1) rfl ?_ (fun _ _ h=>nomatch h)
 intro i d v h1 h2
 match i,h1,h2 with
 | 0,h1,h2=>simp at h1 h2;subst h1 h2;exact RD.int _ _
set_option maxRecDepth 100000 in
theorem lifted (os : Os) (started : os.Started) (H : Type) (enc : TypeId × Value → H) :
   ReturnsInHanded {} Tryz.checked os 6 .any (Rows.runSquaresSpec.pre6 enc Tryz.prog Tryz.f6 Rows.runSquaresRow.domain false) (Rows.runSquaresSpec.post enc Tryz.prog Tryz.f6 false true false false) := by
 refine returnsInHanded_of_change (C := Tryz.checked) own started (by kernel_rfl) Tryz.func6
   (ChangeSpec.witness6 (enc := enc) (C := Tryz.checked) false ⟨#[], #[.int .i64 0], []⟩ 8 (by kernel_rfl) (by kernel_rfl) (by kernel_rfl) (by kernel_rfl)) ?_
 intro W base args ds gs before ai0 hW lB _
 have rA : ∀ (j : Nat) t v, Tryz.f6.params[j]? = some t → args[j]? = some v → Value.okWide Tryz.prog W .any base t v := ai0
 have hW' := hW
 obtain ⟨p, q, hA0, hV, rfl, hfz, UC⟩ := hW
 have hA : DataW.TrodAll enc Tryz.prog W 0 (fun _ => true) true Tryz.f6.params.toList args.toList ds p := hA0
 rw[Tryz.params6]at hA rA
 obtain ⟨l⟩ := args
 obtain ⟨v0, l0, d0, ds0, p0, q0, e0, e0d, Zu, hA0⟩ := UR hA
 obtain ⟨en, end_⟩ := X1 hA0
 have el : l = [v0] := by rw[show l = _ from e0, en]
 subst el
 have ed : ds = [d0] := by rw[e0d, end_]
 clear e0d
 subst ed
 obtain ⟨x0, rfl, rfl, rfl, Dh⟩ := open_int Tryz.underlying3 (rA 0 _ _ rfl rfl) Zu
 obtain ⟨rfl, rfl⟩ := trodVars_none hV
 refine (walk W x0).mono fun e W' ⟨he, hg⟩ =>?_
 subst he
 exact ⟨_, rfl, X0 kids full (by rw[Tryz.params6]; decide) Tryz.underlying4 (by kernel_rfl) rfl hW' rfl hg⟩
theorem over:Rows.runSquaresRow.holds Tryz.pinned (OpenSpec.ofChange Rows.runSquaresSpec):=
 OpenClaim.holds_of_wide 6 Tryz.f6 rfl rfl rfl rfl rfl rfl rfl ⟨rfl,rfl,rfl,rfl,rfl⟩ rfl rfl rfl rfl rfl (by kernel_rfl) Tryz.func6 (by kernel_rfl)
  (of_decide_eq_true (by kernel_rfl)) (by unfold Func.isWrapper;first|(rw[if_pos (by decide +kernel)];kernel_rfl)|(rw[if_neg (by decide +kernel)];exact⟨rfl,rfl⟩))
  (fun os started H enc _=>lifted os started H enc)
theorem proved:Rows.RunSquaresSaid:=
 over
#print axioms proved
end Go.Proofs.YtpjadlleefgcpabGreat.runSquares
