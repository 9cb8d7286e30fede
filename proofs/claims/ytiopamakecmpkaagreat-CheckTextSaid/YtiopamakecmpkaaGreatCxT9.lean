/-
  What is proved here: the statement CheckTextSaid: whatever the arguments, the law, called, gives true, and of what was there nothing turns.
  No conditions.
-/
import Derived.Test.YtiopamakecmpkaaGreatCxT8
import Derived.Test.YtiopamakecmpkaaGreatRows
import Derived.OpenShut

set_option linter.unusedSimpArgs false
set_option linter.unusedVariables false
namespace Go.Proofs.YtiopamakecmpkaaGreat.checkText
open Go.ChangeShapes Go.WideShapes Go.ChangeAt Go.RowKit Go.Abs
theorem own:ownKnob Tryz.prog.godebug=none:=by kernel_rfl
theorem kids:Kids Tryz.prog (· < Tryz.prog.types.size):=kids_rows (by kernel_rfl) (by kernel_rfl)
theorem full : ∀ {t e:TypeId},t<Tryz.prog.types.size→Tryz.prog.underlying t=some (.slice e)→0<Tryz.prog.cellsOf e:=fun {t e}=>slices_full_of Tryz.prog (by kernel_rfl) t e
theorem walk (w:World) (x0:ByteArray):Calls Tryz.prog 4 #[.string x0] w fun e w'=>e = .returned (.bool true)∧Kept w w':=by
 refine aaB (args:= [.str x0.data.toList]) ((Ho x0.data.toList S0).mono fun _ _ h=>h.1) rfl ?_ (fun _ _ h=>nomatch h)
 intro i d v h1 h2
 match i,h1,h2 with
 | 0,h1,h2=>simp at h1 h2;subst h1 h2;exact RD.str _
set_option maxRecDepth 100000 in
theorem lifted (os : Os) (started : os.Started) (H : Type) (enc : TypeId × Value → H) :
   ReturnsInHanded {} Tryz.checked os 4 .any (Rows.checkTextSpec.pre6 enc Tryz.prog Tryz.f4 Rows.checkTextRow.domain false) (Rows.checkTextSpec.post enc Tryz.prog Tryz.f4 false true false false) := by
 refine returnsInHanded_of_change (C := Tryz.checked) own started (by kernel_rfl) Tryz.func4
   (ChangeSpec.witness6 (enc := enc) (C := Tryz.checked) false ⟨#[], #[.string ⟨#[]⟩], []⟩ 8 (by kernel_rfl) (by kernel_rfl) (by kernel_rfl) (by kernel_rfl)) ?_
 intro W base args ds gs before afY hW lf _
 have sZ : ∀ (j : Nat) t v, Tryz.f4.params[j]? = some t → args[j]? = some v → Value.okWide Tryz.prog W .any base t v := afY
 have hW' := hW
 obtain ⟨p, q, hA0, hV, rfl, hfz, hnd⟩ := hW
 have hA : DataW.TrodAll enc Tryz.prog W 0 (fun _ => true) true Tryz.f4.params.toList args.toList ds p := hA0
 rw[Tryz.params4]at hA sZ
 obtain ⟨l⟩ := args
 obtain ⟨v0, l0, d0, ds0, p0, q0, e0, e0d, FZ, hA0⟩ := TX hA
 obtain ⟨en, end_⟩ := Xu hA0
 have el : l = [v0] := by rw[show l = _ from e0, en]
 subst el
 have ed : ds = [d0] := by rw[e0d, end_]
 clear e0d
 subst ed
 obtain ⟨x0, rfl, rfl, rfl, _⟩ := Go.ChangeMaps.open_string Tryz.underlying9 (sZ 0 _ _ rfl rfl) FZ
 obtain ⟨rfl, rfl⟩ := trodVars_none hV
 refine (walk W x0).mono fun e W' ⟨he, hg⟩ =>?_
 subst he
 exact ⟨_, rfl, Xt kids full (by rw[Tryz.params4]; decide) Tryz.underlying4 (by kernel_rfl) rfl hW' rfl hg⟩
theorem over:Rows.checkTextRow.holds Tryz.pinned (OpenSpec.ofChange Rows.checkTextSpec):=
 OpenClaim.holds_of_wide 4 Tryz.f4 rfl rfl rfl rfl rfl rfl rfl ⟨rfl,rfl,rfl,rfl,rfl⟩ rfl rfl rfl rfl rfl (by kernel_rfl) Tryz.func4 (by kernel_rfl)
  (of_decide_eq_true (by kernel_rfl)) (by unfold Func.isWrapper;first|(rw[if_pos (by decide +kernel)];kernel_rfl)|(rw[if_neg (by decide +kernel)];exact⟨rfl,rfl⟩))
  (fun os started H enc _=>lifted os started H enc)
theorem proved:Rows.CheckTextSaid:=
 over
#print axioms proved
end Go.Proofs.YtiopamakecmpkaaGreat.checkText
