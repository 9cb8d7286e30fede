/-
  What is proved here: the statement CheckMoreSaid: whatever the arguments, the law, called, gives true, and of what was there nothing turns.
  No conditions.
-/
import Derived.Test.YtiopamakecmpkaaGreatCmK7
import Derived.Test.YtiopamakecmpkaaGreatRows
import Derived.OpenShut

set_option linter.unusedSimpArgs false
set_option linter.unusedVariables false
namespace Go.Proofs.YtiopamakecmpkaaGreat.checkMore
open Go.ChangeShapes Go.WideShapes Go.ChangeAt Go.RowKit Go.Abs
theorem own:ownKnob Tryz.prog.godebug=none:=by kernel_rfl
theorem kids:Kids Tryz.prog (· < Tryz.prog.types.size):=kids_rows (by kernel_rfl) (by kernel_rfl)
theorem full : ∀ {t e:TypeId},t<Tryz.prog.types.size→Tryz.prog.underlying t=some (.slice e)→0<Tryz.prog.cellsOf e:=fun {t e}=>slices_full_of Tryz.prog (by kernel_rfl) t e
theorem walk (w:World) (x0:Pg) (Ns:x0.pQ) (v0:Value) (hv0:RD (yX w) S0 (.agg (bf x0)) v0) (x1:Int) (x2:ByteArray):Calls Tryz.prog 8 #[v0, .int .i64 x1, .string x2] w fun e w'=>e = .returned (.bool true)∧Kept w w':=by
 refine W3 (args:= [.agg (bf x0), .int .i64 x1, .str x2.data.toList]) ((Fc x0 x1 x2.data.toList S0).mono fun _ _ h=>h.1) rfl ?_ (fun _ _ h=>nomatch h)
 intro i d v h1 h2
 match i,h1,h2 with
 | 0,h1,h2=>simp at h1 h2;subst h1 h2;exact hv0
 | 1,h1,h2=>simp at h1 h2;subst h1 h2;exact RD.int _ _
 | 2,h1,h2=>simp at h1 h2;subst h1 h2;exact RD.str _
set_option maxRecDepth 100000 in
theorem lifted (os : Os) (started : os.Started) (H : Type) (enc : TypeId × Value → H) :
   ReturnsInHanded {} Tryz.checked os 8 .any (Rows.checkMoreSpec.pre6 enc Tryz.prog Tryz.f8 Rows.checkMoreRow.domain false) (Rows.checkMoreSpec.post enc Tryz.prog Tryz.f8 false true false false) := by
 refine returnsInHanded_of_change (C := Tryz.checked) own started (by kernel_rfl) Tryz.func8
   (ChangeSpec.witness6 (enc := enc) (C := Tryz.checked) false ⟨#[], #[.agg #[.slice none 0 0, .slice none 0 0], .int .i64 0, .string ⟨#[]⟩], []⟩ 8 (by kernel_rfl) (by kernel_rfl) (by kernel_rfl) (by kernel_rfl)) ?_
 intro W base args ds gs before acI hW j9 _
 have py : ∀ (j : Nat) t v, Tryz.f8.params[j]? = some t → args[j]? = some v → Value.okWide Tryz.prog W .any base t v := acI
 have hW' := hW
 obtain ⟨p, q, Hj, hV, rfl, hfz, hnd⟩ := hW
 have hA : DataW.TrodAll enc Tryz.prog W 0 (fun _ => true) true Tryz.f8.params.toList args.toList ds p := Hj
 rw[Tryz.params8]at hA py
 obtain ⟨l⟩ := args
 obtain ⟨v0, l0, d0, Gh, p0, q0, e0, e0d, tU, Hj⟩ := yZ hA
 obtain ⟨v1, l1, d1, ds1, p1, q1, e1, e1d, Hh, Pj⟩ := yZ Hj
 obtain ⟨v2, l2, d2, ds2, p2, q2, e2, e2d, hd2, hA2⟩ := yZ Pj
 obtain ⟨en, end_⟩ := TE hA2
 have el : l = [v0, v1, v2] := by rw[show l = _ from e0, e1, e2, en]
 subst el
 have ed : ds = [d0, d1, d2] := by rw[e0d, e1d, e2d, end_]
 clear e0d
 subst ed
 have xx : ∀ (i : Nat) (v : Value), Tryz.f8.params[i]? = some 25 → (⟨[v0, v1, v2]⟩ : Array Value)[i]? = some v → ∀ {d ps}, DataW.Trod enc Tryz.prog W 0 (fun _ => true) true 25 v d ps → ∃ x : Pg, RD (yX W) S0 (.agg (bf x)) v ∧ x.pQ := by
   intro i v hp hv d ps ⟨fuel, hf⟩
   obtain ⟨y, h1, h2⟩ := aav hf
   obtain ⟨fs, Be⟩ := Fe (P := Tryz.prog) (t := 25) (l := [(22, 0), (23, 1)]) (by kernel_rfl) (by simp)
   obtain ⟨cs, e, _⟩ := okWide_struct Be (py i 25 v (by rw[← Tryz.params8]; exact hp) hv)
   exact ⟨y, h1.agg ⟨cs, e⟩, h2⟩
 obtain ⟨x0, hv0, Ns⟩ := xx 0 v0 (by rw[Tryz.params8]; rfl) rfl tU
 obtain ⟨x1, rfl, rfl, rfl, CC⟩ := open_int Tryz.underlying3 (py 1 _ _ rfl rfl) Hh
 obtain ⟨x2, rfl, rfl, rfl, _⟩ := Go.ChangeMaps.open_string Tryz.underlying9 (py 2 _ _ rfl rfl) hd2
 obtain ⟨rfl, rfl⟩ := trodVars_none hV
 refine (walk W x0 Ns v0 hv0 x1 x2).mono fun e W' ⟨he, hg⟩ =>?_
 subst he
 exact ⟨_, rfl, TD kids full (by rw[Tryz.params8]; decide) Tryz.underlying4 (by kernel_rfl) rfl hW' rfl hg⟩
theorem over:Rows.checkMoreRow.holds Tryz.pinned (OpenSpec.ofChange Rows.checkMoreSpec):=
 OpenClaim.holds_of_wide 8 Tryz.f8 rfl rfl rfl rfl rfl rfl rfl ⟨rfl,rfl,rfl,rfl,rfl⟩ rfl rfl rfl rfl rfl (by kernel_rfl) Tryz.func8 (by kernel_rfl)
  (of_decide_eq_true (by kernel_rfl)) (by unfold Func.isWrapper;first|(rw[if_pos (by decide +kernel)];kernel_rfl)|(rw[if_neg (by decide +kernel)];exact⟨rfl,rfl⟩))
  (fun os started H enc _=>lifted os started H enc)
theorem proved:Rows.CheckMoreSaid:=
 over
#print axioms proved
end Go.Proofs.YtiopamakecmpkaaGreat.checkMore
