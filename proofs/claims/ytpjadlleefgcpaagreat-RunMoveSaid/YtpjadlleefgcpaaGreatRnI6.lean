/-
  What is proved here: the statement RunMoveSaid: whatever the arguments, the law, called, gives true, and of what was there nothing turns.
  No conditions.
-/
import Derived.Test.YtpjadlleefgcpaaGreatRnI5
import Derived.Test.YtpjadlleefgcpaaGreatRows
import Derived.OpenShut

set_option linter.unusedSimpArgs false
set_option linter.unusedVariables false
namespace Go.Proofs.YtpjadlleefgcpaaGreat.runMove
open Go.ChangeShapes Go.WideShapes Go.ChangeAt Go.RowKit Go.Abs
theorem own:ownKnob Tryz.prog.godebug=none:=by kernel_rfl
theorem kids:Kids Tryz.prog (· < Tryz.prog.types.size):=kids_rows (by kernel_rfl) (by kernel_rfl)
theorem full : ∀ {t e:TypeId},t<Tryz.prog.types.size→Tryz.prog.underlying t=some (.slice e)→0<Tryz.prog.cellsOf e:=fun {t e}=>slices_full_of Tryz.prog (by kernel_rfl) t e
theorem walk (w:World) (x0:Pg) (JC:x0.tH) (v0:Value) (Kw:RD (uT w) S0 (.agg (bO x0)) v0) (x1:List Int) (v1:Value) (Ak:RD (uT w) S0 (.slice .shared 1 (x1.map cR)) v1) (x2:Int) (x3:Int):Calls Tryz.prog 11 #[v0,v1, .int .i64 x2, .int .i64 x3] w fun e w'=>e = .returned (.bool true)∧Kept w w':=by
 refine aeX (args:= [.agg (bO x0), .slice .shared 1 (x1.map cR), .int .i64 x2, .int .i64 x3]) ((Px x0 x1 x2 x3 S0).mono fun _ _ h=>h.1) rfl ?_ (fun _ _ h=>nomatch h)
 intro i d v h1 h2
 match i,h1,h2 with
 | 0,h1,h2=>simp at h1 h2;subst h1 h2;exact Kw
 | 1,h1,h2=>simp at h1 h2;subst h1 h2;exact Ak
 | 2,h1,h2=>simp at h1 h2;subst h1 h2;exact RD.int _ _
 | 3,h1,h2=>simp at h1 h2;subst h1 h2;exact RD.int _ _
set_option maxRecDepth 100000 in
theorem lifted (os : Os) (started : os.Started) (H : Type) (enc : TypeId × Value → H) :
   ReturnsInHanded {} Tryz.checked os 11 .any (Rows.runMoveSpec.pre6 enc Tryz.prog Tryz.f11 Rows.runMoveRow.domain false) (Rows.runMoveSpec.post enc Tryz.prog Tryz.f11 false true false false) := by
 refine returnsInHanded_of_change (C := Tryz.checked) own started (by kernel_rfl) Tryz.func11
   (ChangeSpec.witness6 (enc := enc) (C := Tryz.checked) false ⟨#[], #[.agg #[.slice none 0 0, .slice none 0 0], .slice none 0 0, .int .i64 0, .int .i64 0], []⟩ 8 (by kernel_rfl) (by kernel_rfl) (by kernel_rfl) (by kernel_rfl)) ?_
 intro W base args ds gs before amY hW mI _
 have qw : ∀ (j : Nat) t v, Tryz.f11.params[j]? = some t → args[j]? = some v → Value.okWide Tryz.prog W .any base t v := amY
 have hW' := hW
 obtain ⟨p, q, hA0, hV, rfl, hfz, NU⟩ := hW
 have hA : DataW.TrodAll enc Tryz.prog W 0 (fun _ => true) true Tryz.f11.params.toList args.toList ds p := hA0
 rw[Tryz.params11]at hA qw
 obtain ⟨l⟩ := args
 obtain ⟨v0, l0, d0, Me, p0, q0, e0, e0d, yH, hA0⟩ := zj hA
 obtain ⟨v1, l1, d1, ds1, p1, q1, e1, e1d, Dq, hA1⟩ := zj hA0
 obtain ⟨v2, l2, d2, ds2, p2, q2, e2, e2d, hd2, hA2⟩ := zj hA1
 obtain ⟨v3, l3, d3, ds3, p3, q3, e3, e3d, hd3, hA3⟩ := zj hA2
 obtain ⟨en, end_⟩ := aaD hA3
 have el : l = [v0, v1, v2, v3] := by rw[show l = _ from e0, e1, e2, e3, en]
 subst el
 have ed : ds = [d0, d1, d2, d3] := by rw[e0d, e1d, e2d, e3d, end_]
 clear e0d
 subst ed
 have Xm : ∀ (i : Nat) (v : Value), Tryz.f11.params[i]? = some 25 → (⟨[v0, v1, v2, v3]⟩ : Array Value)[i]? = some v → ∀ {d ps}, DataW.Trod enc Tryz.prog W 0 (fun _ => true) true 25 v d ps → ∃ x : Pg, RD (uT W) S0 (.agg (bO x)) v ∧ x.tH := by
   intro i v hp hv d ps ⟨fuel, hf⟩
   obtain ⟨y, h1, h2⟩ := ajr hf
   obtain ⟨fs, GO⟩ := Lg (P := Tryz.prog) (t := 25) (l := [(22, 0), (23, 1)]) (by kernel_rfl) (by simp)
   obtain ⟨cs, e, _⟩ := okWide_struct GO (qw i 25 v (by rw[← Tryz.params11]; exact hp) hv)
   exact ⟨y, h1.agg ⟨cs, e⟩, h2⟩
 obtain ⟨x0, Kw, JC⟩ := Xm 0 v0 (by rw[Tryz.params11]; rfl) rfl yH
 have aug : ∃ ns : List Int, RD (uT W) S0 (.slice .shared 1 (ns.map cR)) v1 := by
   obtain ⟨a0, Rp, aoZ, rfl⟩ := Go.WideShapes.okWide_slice Tryz.underlying26 (qw 1 26 _ rfl rfl)
   obtain ⟨fuel, hf⟩ := Dq
   have hc : Tryz.prog.cellsOf 2 = 1 := by kernel_rfl
   rcases Go.ChangeShapes.open_ints Tryz.underlying26 Tryz.underlying2 hc hf with ⟨o9, _⟩|⟨a, len, cap, zs, o9, _, hle, _, Bh, _, iR, _⟩
   · simp [Value.cells] at o9
     obtain ⟨rfl, rfl, rfl⟩ := o9
     exact ⟨[], .jE _ _ _ rfl trivial⟩
   · simp [Value.cells] at o9
     obtain ⟨rfl, rfl, rfl⟩ := o9
     exact ⟨zs.take Rp, aeY hle (by rw[Bh]; split<;>omega) iR⟩
 obtain ⟨x1, Ak⟩ := aug
 obtain ⟨x2, rfl, rfl, rfl, pb⟩ := open_int Tryz.underlying3 (qw 2 _ _ rfl rfl) hd2
 obtain ⟨x3, rfl, rfl, rfl, Cx⟩ := open_int Tryz.underlying3 (qw 3 _ _ rfl rfl) hd3
 obtain ⟨rfl, rfl⟩ := trodVars_none hV
 refine (walk W x0 JC v0 Kw x1 v1 Ak x2 x3).mono fun e W' ⟨he, hg⟩ =>?_
 subst he
 exact ⟨_, rfl, aaC kids full (by rw[Tryz.params11]; decide) Tryz.underlying4 (by kernel_rfl) rfl hW' rfl hg⟩
theorem over:Rows.runMoveRow.holds Tryz.pinned (OpenSpec.ofChange Rows.runMoveSpec):=
 OpenClaim.holds_of_wide 11 Tryz.f11 rfl rfl rfl rfl rfl rfl rfl ⟨rfl,rfl,rfl,rfl,rfl⟩ rfl rfl rfl rfl rfl (by kernel_rfl) Tryz.func11 (by kernel_rfl)
  (of_decide_eq_true (by kernel_rfl)) (by unfold Func.isWrapper;first|(rw[if_pos (by decide +kernel)];kernel_rfl)|(rw[if_neg (by decide +kernel)];exact⟨rfl,rfl⟩))
  (fun os started H enc _=>lifted os started H enc)
theorem proved:Rows.RunMoveSaid:=
 over
#print axioms proved
end Go.Proofs.YtpjadlleefgcpaaGreat.runMove
