/-
  What is proved here: the statement RunOwnSaid: whatever the arguments, the law, called, gives true, and of what was there nothing turns.
  No conditions.
-/
import Derived.Test.YtpcnegjdjghfcaaGreatRoA8
import Derived.Test.YtpcnegjdjghfcaaGreatRows
import Derived.OpenShut

set_option linter.unusedSimpArgs false
set_option linter.unusedVariables false
namespace Go.Proofs.YtpcnegjdjghfcaaGreat.runOwn
open Go.ChangeShapes Go.WideShapes Go.ChangeAt Go.RowKit Go.Abs
theorem own:ownKnob Tryz.prog.godebug=none:=by kernel_rfl
theorem kids:Kids Tryz.prog (· < Tryz.prog.types.size):=kids_rows (by kernel_rfl) (by kernel_rfl)
theorem full : ∀ {t e:TypeId},t<Tryz.prog.types.size→Tryz.prog.underlying t=some (.slice e)→0<Tryz.prog.cellsOf e:=fun {t e}=>slices_full_of Tryz.prog (by kernel_rfl) t e
theorem walk (w:World) (x0:Pg) (Gq:x0.jr) (v0:Value) (An:RD (vZ w) S0 (.agg (bG x0)) v0) (x1:List Int) (hx1 : ∀ t∈x1,fa t) (v1:Value) (xB:RD (vZ w) S0 (.slice .shared 1 (x1.map bl)) v1) (x2:Int):Calls Tryz.prog 3 #[v0,v1, .int .i64 x2] w fun e w'=>e = .returned (.bool true)∧Kept w w':=by
 refine ahh (args:= [.agg (bG x0), .slice .shared 1 (x1.map bl), .int .i64 x2]) ((WB x0 Gq x1 hx1 x2 S0).mono fun _ _ h=>h.1) rfl ?_ (fun _ _ h=>nomatch h)
 intro i d v h1 h2
 match i,h1,h2 with
 | 0,h1,h2=>simp at h1 h2;subst h1 h2;exact An
 | 1,h1,h2=>simp at h1 h2;subst h1 h2;exact xB
 | 2,h1,h2=>simp at h1 h2;subst h1 h2;exact RD.int _ _
set_option maxRecDepth 100000 in
theorem lifted (os : Os) (started : os.Started) (H : Type) (enc : TypeId × Value → H) :
   ReturnsInHanded {} Tryz.checked os 3 .any (Rows.runOwnSpec.pre6 enc Tryz.prog Tryz.f3 Rows.runOwnRow.domain false) (Rows.runOwnSpec.post enc Tryz.prog Tryz.f3 false true false false) := by
 refine returnsInHanded_of_change (C := Tryz.checked) own started (by kernel_rfl) Tryz.func3
   (ChangeSpec.witness6 (enc := enc) (C := Tryz.checked) false ⟨#[], #[.agg #[.slice none 0 0, .slice none 0 0], .slice none 0 0, .int .i64 0], []⟩ 8 (by kernel_rfl) (by kernel_rfl) (by kernel_rfl) (by kernel_rfl)) ?_
 intro W base args ds gs before aoe hW nL _
 have sT : ∀ (j : Nat) t v, Tryz.f3.params[j]? = some t → args[j]? = some v → Value.okWide Tryz.prog W .any base t v := aoe
 have hW' := hW
 obtain ⟨p, q, hA0, hV, rfl, hfz, O3⟩ := hW
 have hA : DataW.TrodAll enc Tryz.prog W 0 (fun _ => true) true Tryz.f3.params.toList args.toList ds p := hA0
 rw[Tryz.params3]at hA sT
 obtain ⟨l⟩ := args
 obtain ⟨v0, l0, d0, ds0, p0, q0, e0, e0d, L0, hA0⟩ := Fo hA
 obtain ⟨v1, l1, d1, ds1, p1, q1, e1, e1d, Mi, hA1⟩ := Fo hA0
 obtain ⟨v2, l2, d2, ds2, p2, q2, e2, e2d, hd2, hA2⟩ := Fo hA1
 obtain ⟨en, end_⟩ := adr hA2
 have el : l = [v0, v1, v2] := by rw[show l = _ from e0, e1, e2, en]
 subst el
 have ed : ds = [d0, d1, d2] := by rw[e0d, e1d, e2d, end_]
 clear e0d
 subst ed
 have hpg : ∀ (i : Nat) (v : Value), Tryz.f3.params[i]? = some 25 → (⟨[v0, v1, v2]⟩ : Array Value)[i]? = some v → ∀ {d ps}, DataW.Trod enc Tryz.prog W 0 (fun _ => true) true 25 v d ps → ∃ x : Pg, RD (vZ W) S0 (.agg (bG x)) v ∧ x.jr := by
   intro i v hp hv d ps ⟨fuel, hf⟩
   obtain ⟨y, h1, h2⟩ := alK hf
   obtain ⟨fs, sK⟩ := Nr (P := Tryz.prog) (t := 25) (l := [(22, 0), (23, 1)]) (by kernel_rfl) (by simp)
   obtain ⟨cs, e, _⟩ := okWide_struct sK (sT i 25 v (by rw[← Tryz.params3]; exact hp) hv)
   exact ⟨y, h1.agg ⟨cs, e⟩, h2⟩
 obtain ⟨x0, An, Gq⟩ := hpg 0 v0 (by rw[Tryz.params3]; rfl) rfl L0
 have arC : ∃ ns : List Int, RD (vZ W) S0 (.slice .shared 1 (ns.map bl)) v1 ∧ ∀ t ∈ ns, fa t := by
   obtain ⟨a0, T4, aqs, rfl⟩ := Go.WideShapes.okWide_slice Tryz.underlying26 (sT 1 26 _ rfl rfl)
   obtain ⟨fuel, hf⟩ := Mi
   have hc : Tryz.prog.cellsOf 2 = 1 := by kernel_rfl
   rcases Go.ChangeShapes.open_ints Tryz.underlying26 Tryz.underlying2 hc hf with ⟨mK, _⟩|⟨a, len, cap, zs, mK, _, hle, _, CJ, _, jS, hwf⟩
   · simp [Value.cells] at mK
     obtain ⟨rfl, rfl, rfl⟩ := mK
     exact ⟨[], .jw _ _ _ rfl trivial, by simp⟩
   · simp [Value.cells] at mK
     obtain ⟨rfl, rfl, rfl⟩ := mK
     exact ⟨zs.take T4, ahi hle (by rw[CJ]; split<;>omega) jS, fun t mt => alp (hwf t (za0 mt))⟩
 obtain ⟨x1, xB, hx1⟩ := arC
 obtain ⟨x2, rfl, rfl, rfl, lu⟩ := open_int Tryz.underlying3 (sT 2 _ _ rfl rfl) hd2
 obtain ⟨rfl, rfl⟩ := trodVars_none hV
 refine (walk W x0 Gq v0 An x1 hx1 v1 xB x2).mono fun e W' ⟨he, hg⟩ =>?_
 subst he
 exact ⟨_, rfl, adq kids full (by rw[Tryz.params3]; decide) Tryz.underlying4 (by kernel_rfl) rfl hW' rfl hg⟩
theorem over:Rows.runOwnRow.holds Tryz.pinned (OpenSpec.ofChange Rows.runOwnSpec):=
 OpenClaim.holds_of_wide 3 Tryz.f3 rfl rfl rfl rfl rfl rfl rfl ⟨rfl,rfl,rfl,rfl,rfl⟩ rfl rfl rfl rfl rfl (by kernel_rfl) Tryz.func3 (by kernel_rfl)
  (of_decide_eq_true (by kernel_rfl)) (by unfold Func.isWrapper;first|(rw[if_pos (by decide +kernel)];kernel_rfl)|(rw[if_neg (by decide +kernel)];exact⟨rfl,rfl⟩))
  (fun os started H enc _=>lifted os started H enc)
theorem proved:Rows.RunOwnSaid:=
 over
#print axioms proved
end Go.Proofs.YtpcnegjdjghfcaaGreat.runOwn
