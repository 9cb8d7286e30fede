/-
  What is proved here: the statement RunHandSaid: whatever the arguments, the law, called, gives true, and of what was there nothing turns.
  No conditions.
-/
import Derived.Test.YtpjadlleefgcpabGreatRnO5
import Derived.Test.YtpjadlleefgcpabGreatRows
import Derived.OpenShut

set_option linter.unusedSimpArgs false
set_option linter.unusedVariables false
namespace Go.Proofs.YtpjadlleefgcpabGreat.runHand
open Go.ChangeShapes Go.WideShapes Go.ChangeAt Go.RowKit Go.Abs
theorem own:ownKnob Tryz.prog.godebug=none:=by kernel_rfl
theorem kids:Kids Tryz.prog (· < Tryz.prog.types.size):=kids_rows (by kernel_rfl) (by kernel_rfl)
theorem full : ∀ {t e:TypeId},t<Tryz.prog.types.size→Tryz.prog.underlying t=some (.slice e)→0<Tryz.prog.cellsOf e:=fun {t e}=>slices_full_of Tryz.prog (by kernel_rfl) t e
theorem walk (w:World):Calls Tryz.prog 7 #[] w fun e w'=>e = .returned (.bool true)∧Kept w w':=by
 refine acf (args:= []) ((MY S0).mono fun _ _ h=>h.1) rfl ?_ (fun _ _ h=>nomatch h)
 intro i d v h1 h2
 simp at h1
set_option maxRecDepth 100000 in
theorem lifted (os : Os) (started : os.Started) (H : Type) (enc : TypeId × Value → H) :
   ReturnsInHanded {} Tryz.checked os 7 .any (Rows.runHandSpec.pre6 enc Tryz.prog Tryz.f7 Rows.runHandRow.domain false) (Rows.runHandSpec.post enc Tryz.prog Tryz.f7 false true false false) := by
 refine returnsInHanded_of_change (C := Tryz.checked) own started (by kernel_rfl) Tryz.func7
   (ChangeSpec.witness6 (enc := enc) (C := Tryz.checked) false ⟨#[], #[], []⟩ 8 (by kernel_rfl) (by kernel_rfl) (by kernel_rfl) (by kernel_rfl)) ?_
 intro W base args ds gs before ai4 hW lE _
 have sx : ∀ (j : Nat) t v, Tryz.f7.params[j]? = some t → args[j]? = some v → Value.okWide Tryz.prog W .any base t v := ai4
 have hW' := hW
 obtain ⟨p, q, hA0, hV, rfl, hfz, UD⟩ := hW
 have hA : DataW.TrodAll enc Tryz.prog W 0 (fun _ => true) true Tryz.f7.params.toList args.toList ds p := hA0
 rw[Tryz.params7]at hA sx
 obtain ⟨l⟩ := args
 obtain ⟨en, end_⟩ := Yb hA
 have el : l = [] := en
 subst el
 have ed : ds = [] := end_
 subst ed
 obtain ⟨rfl, rfl⟩ := trodVars_none hV
 refine (walk W).mono fun e W' ⟨he, hg⟩ =>?_
 subst he
 exact ⟨_, rfl, Ya kids full (by rw[Tryz.params7]; decide) Tryz.underlying4 (by kernel_rfl) rfl hW' rfl hg⟩
theorem over:Rows.runHandRow.holds Tryz.pinned (OpenSpec.ofChange Rows.runHandSpec):=
 OpenClaim.holds_of_wide 7 Tryz.f7 rfl rfl rfl rfl rfl rfl rfl ⟨rfl,rfl,rfl,rfl,rfl⟩ rfl rfl rfl rfl rfl (by kernel_rfl) Tryz.func7 (by kernel_rfl)
  (of_decide_eq_true (by kernel_rfl)) (by unfold Func.isWrapper;first|(rw[if_pos (by decide +kernel)];kernel_rfl)|(rw[if_neg (by decide +kernel)];exact⟨rfl,rfl⟩))
  (fun os started H enc _=>lifted os started H enc)
theorem proved:Rows.RunHandSaid:=
 over
#print axioms proved
end Go.Proofs.YtpjadlleefgcpabGreat.runHand
