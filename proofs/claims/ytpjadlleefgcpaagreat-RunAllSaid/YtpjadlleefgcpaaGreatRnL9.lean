/-
  What is proved here: the statement RunAllSaid: whatever the arguments, the law, called, gives true, and of what was there nothing turns.
  No conditions.
-/
import Derived.Test.YtpjadlleefgcpaaGreatRnL8
import Derived.Test.YtpjadlleefgcpaaGreatRows
import Derived.OpenShut

set_option linter.unusedSimpArgs false
set_option linter.unusedVariables false
namespace Go.Proofs.YtpjadlleefgcpaaGreat.runAll
open Go.ChangeShapes Go.WideShapes Go.ChangeAt Go.RowKit Go.Abs
theorem own:ownKnob Tryz.prog.godebug=none:=by kernel_rfl
theorem kids:Kids Tryz.prog (· < Tryz.prog.types.size):=kids_rows (by kernel_rfl) (by kernel_rfl)
theorem full : ∀ {t e:TypeId},t<Tryz.prog.types.size→Tryz.prog.underlying t=some (.slice e)→0<Tryz.prog.cellsOf e:=fun {t e}=>slices_full_of Tryz.prog (by kernel_rfl) t e
theorem walk (w:World) (x0:Pg) (Ew:x0.jn) (v0:Value) (Ds:RD (sD w) S0 (.agg (bS x0)) v0) (x1:List Int) (hx1 : ∀ t∈x1,eZ t) (v1:Value) (zC:RD (sD w) S0 (.slice .shared 1 (x1.map bD)) v1) (x2:Int) (x3:List Int) (v3:Value) (hv3:RD (sD w) S0 (.slice .shared 1 (x3.map bD)) v3):Calls Tryz.prog 3 #[v0,v1, .int .i64 x2,v3] w fun e w'=>e = .returned (.bool true)∧Kept w w':=by
 refine adO (args:= [.agg (bS x0), .slice .shared 1 (x1.map bD), .int .i64 x2, .slice .shared 1 (x3.map bD)]) ((TD x0 Ew x1 hx1 x2 x3 S0).mono fun _ _ h=>h.1) rfl ?_ (fun _ _ h=>nomatch h)
 intro i d v h1 h2
 match i,h1,h2 with
 | 0,h1,h2=>simp at h1 h2;subst h1 h2;exact Ds
 | 1,h1,h2=>simp at h1 h2;subst h1 h2;exact zC
 | 2,h1,h2=>simp at h1 h2;subst h1 h2;exact RD.int _ _
 | 3,h1,h2=>simp at h1 h2;subst h1 h2;exact hv3
set_option maxRecDepth 100000 in
theorem lifted (os : Os) (started : os.Started) (H : Type) (enc : TypeId × Value → H) :
   ReturnsInHanded {} Tryz.checked os 3 .any (Rows.runAllSpec.pre6 enc Tryz.prog Tryz.f3 Rows.runAllRow.domain false) (Rows.runAllSpec.post enc Tryz.prog Tryz.f3 false true false false) := by
 refine returnsInHanded_of_change (C := Tryz.checked) own started (by kernel_rfl) Tryz.func3
   (ChangeSpec.witness6 (enc := enc) (C := Tryz.checked) false ⟨#[], #[.agg #[.slice none 0 0, .slice none 0 0], .slice none 0 0, .int .i64 0, .slice none 0 0], []⟩ 8 (by kernel_rfl) (by kernel_rfl) (by kernel_rfl) (by kernel_rfl)) ?_
 intro W base args ds gs before akt hW mK _
 have qD : ∀ (j : Nat) t v, Tryz.f3.params[j]? = some t → args[j]? = some v → Value.okWide Tryz.prog W .any base t v := akt
 have hW' := hW
 obtain ⟨p, q, hA0, hV, rfl, hfz, Wd⟩ := hW
 have hA : DataW.TrodAll enc Tryz.prog W 0 (fun _ => true) true Tryz.f3.params.toList args.toList ds p := hA0
 rw[Tryz.params3]at hA qD
 obtain ⟨l⟩ := args
 obtain ⟨v0, l0, d0, ds0, p0, q0, e0, e0d, JF, hA0⟩ := yE hA
 obtain ⟨v1, l1, d1, ds1, p1, q1, e1, e1d, JX, hA1⟩ := yE hA0
 obtain ⟨v2, l2, d2, ds2, p2, q2, e2, e2d, hd2, hA2⟩ := yE hA1
 obtain ⟨v3, l3, d3, ds3, p3, q3, e3, e3d, hd3, hA3⟩ := yE hA2
 obtain ⟨en, end_⟩ := Z1 hA3
 have el : l = [v0, v1, v2, v3] := by rw[show l = _ from e0, e1, e2, e3, en]
 subst el
 have ed : ds = [d0, d1, d2, d3] := by rw[e0d, e1d, e2d, e3d, end_]
 clear e0d
 subst ed
 have hpg : ∀ (i : Nat) (v : Value), Tryz.f3.params[i]? = some 25 → (⟨[v0, v1, v2, v3]⟩ : Array Value)[i]? = some v → ∀ {d ps}, DataW.Trod enc Tryz.prog W 0 (fun _ => true) true 25 v d ps → ∃ x : Pg, RD (sD W) S0 (.agg (bS x)) v ∧ x.jn := by
   intro i v hp hv d ps ⟨fuel, hf⟩
   obtain ⟨y, h1, h2⟩ := ah2 hf
   obtain ⟨fs, rn⟩ := KY (P := Tryz.prog) (t := 25) (l := [(22, 0), (23, 1)]) (by kernel_rfl) (by simp)
   obtain ⟨cs, e, _⟩ := okWide_struct rn (qD i 25 v (by rw[← Tryz.params3]; exact hp) hv)
   exact ⟨y, h1.agg ⟨cs, e⟩, h2⟩
 obtain ⟨x0, Ds, Ew⟩ := hpg 0 v0 (by rw[Tryz.params3]; rfl) rfl JF
 have anz : ∃ ns : List Int, RD (sD W) S0 (.slice .shared 1 (ns.map bD)) v1 ∧ ∀ t ∈ ns, eZ t := by
   obtain ⟨a0, H4, aeY, rfl⟩ := Go.WideShapes.okWide_slice Tryz.underlying26 (qD 1 26 _ rfl rfl)
   obtain ⟨fuel, hf⟩ := JX
   have hc : Tryz.prog.cellsOf 2 = 1 := by kernel_rfl
   rcases Go.ChangeShapes.open_ints Tryz.underlying26 Tryz.underlying2 hc hf with ⟨kz, _⟩|⟨a, len, cap, zs, kz, _, hle, _, w8, _, iN, hwf⟩
   · simp [Value.cells] at kz
     obtain ⟨rfl, rfl, rfl⟩ := kz
     exact ⟨[], .jz _ _ _ rfl trivial, by simp⟩
   · simp [Value.cells] at kz
     obtain ⟨rfl, rfl, rfl⟩ := kz
     exact ⟨zs.take H4, Qm hle (by rw[w8]; split<;>omega) iN, fun t mt => ahO (hwf t (za5 mt))⟩
 obtain ⟨x1, zC, hx1⟩ := anz
 obtain ⟨x2, rfl, rfl, rfl, lj⟩ := open_int Tryz.underlying3 (qD 2 _ _ rfl rfl) hd2
 have anA : ∃ ns : List Int, RD (sD W) S0 (.slice .shared 1 (ns.map bD)) v3 := by
   obtain ⟨a0, H4, aeY, rfl⟩ := Go.WideShapes.okWide_slice Tryz.underlying27 (qD 3 27 _ rfl rfl)
   obtain ⟨fuel, hf⟩ := hd3
   have hc : Tryz.prog.cellsOf 3 = 1 := by kernel_rfl
   rcases Go.ChangeShapes.open_ints Tryz.underlying27 Tryz.underlying3 hc hf with ⟨kz, _⟩|⟨a, len, cap, zs, kz, _, hle, _, w8, _, iN, _⟩
   · simp [Value.cells] at kz
     obtain ⟨rfl, rfl, rfl⟩ := kz
     exact ⟨[], .jz _ _ _ rfl trivial⟩
   · simp [Value.cells] at kz
     obtain ⟨rfl, rfl, rfl⟩ := kz
     exact ⟨zs.take H4, Qm hle (by rw[w8]; split<;>omega) iN⟩
 obtain ⟨x3, hv3⟩ := anA
 obtain ⟨rfl, rfl⟩ := trodVars_none hV
 refine (walk W x0 Ew v0 Ds x1 hx1 v1 zC x2 x3 v3 hv3).mono fun e W' ⟨he, hg⟩ =>?_
 subst he
 exact ⟨_, rfl, Z0 kids full (by rw[Tryz.params3]; decide) Tryz.underlying4 (by kernel_rfl) rfl hW' rfl hg⟩
theorem over:Rows.runAllRow.holds Tryz.pinned (OpenSpec.ofChange Rows.runAllSpec):=
 OpenClaim.holds_of_wide 3 Tryz.f3 rfl rfl rfl rfl rfl rfl rfl ⟨rfl,rfl,rfl,rfl,rfl⟩ rfl rfl rfl rfl rfl (by kernel_rfl) Tryz.func3 (by kernel_rfl)
  (of_decide_eq_true (by kernel_rfl)) (by unfold Func.isWrapper;first|(rw[if_pos (by decide +kernel)];kernel_rfl)|(rw[if_neg (by decide +kernel)];exact⟨rfl,rfl⟩))
  (fun os started H enc _=>lifted os started H enc)
theorem proved:Rows.RunAllSaid:=
 over
#print axioms proved
end Go.Proofs.YtpjadlleefgcpaaGreat.runAll
