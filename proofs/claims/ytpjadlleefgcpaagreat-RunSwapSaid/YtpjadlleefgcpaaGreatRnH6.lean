/-
  What is proved here: the statement RunSwapSaid: whatever the arguments, the law, called, gives true, and of what was there nothing turns.
  No conditions.
-/
import Derived.Test.YtpjadlleefgcpaaGreatRnH5
import Derived.Test.YtpjadlleefgcpaaGreatRows
import Derived.OpenShut

set_option linter.unusedSimpArgs false
set_option linter.unusedVariables false
namespace Go.Proofs.YtpjadlleefgcpaaGreat.runSwap
open Go.ChangeShapes Go.WideShapes Go.ChangeAt Go.RowKit Go.Abs
theorem own:ownKnob Tryz.prog.godebug=none:=by kernel_rfl
theorem kids:Kids Tryz.prog (· < Tryz.prog.types.size):=kids_rows (by kernel_rfl) (by kernel_rfl)
theorem full : ∀ {t e:TypeId},t<Tryz.prog.types.size→Tryz.prog.underlying t=some (.slice e)→0<Tryz.prog.cellsOf e:=fun {t e}=>slices_full_of Tryz.prog (by kernel_rfl) t e
theorem walk (w:World) (x0:Pg) (HY:x0.oV) (v0:Value) (Ja:RD (tz w) S0 (.agg (cB x0)) v0) (x1:List Int) (v1:Value) (yZ:RD (tz w) S0 (.slice .shared 1 (x1.map cz)) v1) (x2:Int) (x3:ByteArray) (x4:ByteArray):Calls Tryz.prog 10 #[v0,v1, .int .i64 x2, .string x3, .string x4] w fun e w'=>e = .returned (.bool true)∧Kept w w':=by
 refine acB (args:= [.agg (cB x0), .slice .shared 1 (x1.map cz), .int .i64 x2, .str x3.data.toList, .str x4.data.toList]) ((Nn x0 x1 x2 x3.data.toList x4.data.toList S0).mono fun _ _ h=>h.1) rfl ?_ (fun _ _ h=>nomatch h)
 intro i d v h1 h2
 match i,h1,h2 with
 | 0,h1,h2=>simp at h1 h2;subst h1 h2;exact Ja
 | 1,h1,h2=>simp at h1 h2;subst h1 h2;exact yZ
 | 2,h1,h2=>simp at h1 h2;subst h1 h2;exact RD.int _ _
 | 3,h1,h2=>simp at h1 h2;subst h1 h2;exact RD.str _
 | 4,h1,h2=>simp at h1 h2;subst h1 h2;exact RD.str _
set_option maxRecDepth 100000 in
theorem lifted (os : Os) (started : os.Started) (H : Type) (enc : TypeId × Value → H) :
   ReturnsInHanded {} Tryz.checked os 10 .any (Rows.runSwapSpec.pre6 enc Tryz.prog Tryz.f10 Rows.runSwapRow.domain false) (Rows.runSwapSpec.post enc Tryz.prog Tryz.f10 false true false false) := by
 refine returnsInHanded_of_change (C := Tryz.checked) own started (by kernel_rfl) Tryz.func10
   (ChangeSpec.witness6 (enc := enc) (C := Tryz.checked) false ⟨#[], #[.agg #[.slice none 0 0, .slice none 0 0], .slice none 0 0, .int .i64 0, .string ⟨#[]⟩, .string ⟨#[]⟩], []⟩ 8 (by kernel_rfl) (by kernel_rfl) (by kernel_rfl) (by kernel_rfl)) ?_
 intro W base args ds gs before akk hW mn _
 have pf : ∀ (j : Nat) t v, Tryz.f10.params[j]? = some t → args[j]? = some v → Value.okWide Tryz.prog W .any base t v := akk
 have hW' := hW
 obtain ⟨p, q, hA0, hV, rfl, hfz, UR⟩ := hW
 have hA : DataW.TrodAll enc Tryz.prog W 0 (fun _ => true) true Tryz.f10.params.toList args.toList ds p := hA0
 rw[Tryz.params10]at hA pf
 obtain ⟨l⟩ := args
 obtain ⟨v0, l0, d0, ds0, p0, q0, e0, e0d, Ii, hA0⟩ := uH hA
 obtain ⟨v1, l1, d1, ds1, p1, q1, e1, e1d, Ix, hA1⟩ := uH hA0
 obtain ⟨v2, l2, d2, ds2, p2, q2, e2, e2d, hd2, hA2⟩ := uH hA1
 obtain ⟨v3, l3, d3, ds3, p3, q3, e3, e3d, hd3, hA3⟩ := uH hA2
 obtain ⟨v4, l4, d4, ds4, p4, q4, e4, e4d, hd4, hA4⟩ := uH hA3
 obtain ⟨en, end_⟩ := Yr hA4
 have el : l = [v0, v1, v2, v3, v4] := by rw[show l = _ from e0, e1, e2, e3, e4, en]
 subst el
 have ed : ds = [d0, d1, d2, d3, d4] := by rw[e0d, e1d, e2d, e3d, e4d, end_]
 clear e0d
 subst ed
 have hpg : ∀ (i : Nat) (v : Value), Tryz.f10.params[i]? = some 25 → (⟨[v0, v1, v2, v3, v4]⟩ : Array Value)[i]? = some v → ∀ {d ps}, DataW.Trod enc Tryz.prog W 0 (fun _ => true) true 25 v d ps → ∃ x : Pg, RD (tz W) S0 (.agg (cB x)) v ∧ x.oV := by
   intro i v hp hv d ps ⟨fuel, hf⟩
   obtain ⟨y, h1, h2⟩ := agV hf
   obtain ⟨fs, Fm⟩ := JE (P := Tryz.prog) (t := 25) (l := [(22, 0), (23, 1)]) (by kernel_rfl) (by simp)
   obtain ⟨cs, e, _⟩ := okWide_struct Fm (pf i 25 v (by rw[← Tryz.params10]; exact hp) hv)
   exact ⟨y, h1.agg ⟨cs, e⟩, h2⟩
 obtain ⟨x0, Ja, HY⟩ := hpg 0 v0 (by rw[Tryz.params10]; rfl) rfl Ii
 have ark : ∃ ns : List Int, RD (tz W) S0 (.slice .shared 1 (ns.map cz)) v1 := by
   obtain ⟨a0, Ps, amc, rfl⟩ := Go.WideShapes.okWide_slice Tryz.underlying26 (pf 1 26 _ rfl rfl)
   obtain ⟨fuel, hf⟩ := Ix
   have hc : Tryz.prog.cellsOf 2 = 1 := by kernel_rfl
   rcases Go.ChangeShapes.open_ints Tryz.underlying26 Tryz.underlying2 hc hf with ⟨oe, _⟩|⟨a, len, cap, zs, oe, _, hle, _, Ag, _, iV, _⟩
   · simp [Value.cells] at oe
     obtain ⟨rfl, rfl, rfl⟩ := oe
     exact ⟨[], .jb _ _ _ rfl trivial⟩
   · simp [Value.cells] at oe
     obtain ⟨rfl, rfl, rfl⟩ := oe
     exact ⟨zs.take Ps, acC hle (by rw[Ag]; split<;>omega) iV⟩
 obtain ⟨x1, yZ⟩ := ark
 obtain ⟨x2, rfl, rfl, rfl, og⟩ := open_int Tryz.underlying3 (pf 2 _ _ rfl rfl) hd2
 obtain ⟨x3, rfl, rfl, rfl, _⟩ := Go.ChangeMaps.open_string Tryz.underlying9 (pf 3 _ _ rfl rfl) hd3
 obtain ⟨x4, rfl, rfl, rfl, _⟩ := Go.ChangeMaps.open_string Tryz.underlying9 (pf 4 _ _ rfl rfl) hd4
 obtain ⟨rfl, rfl⟩ := trodVars_none hV
 refine (walk W x0 HY v0 Ja x1 v1 yZ x2 x3 x4).mono fun e W' ⟨he, hg⟩ =>?_
 subst he
 exact ⟨_, rfl, Yq kids full (by rw[Tryz.params10]; decide) Tryz.underlying4 (by kernel_rfl) rfl hW' rfl hg⟩
theorem over:Rows.runSwapRow.holds Tryz.pinned (OpenSpec.ofChange Rows.runSwapSpec):=
 OpenClaim.holds_of_wide 10 Tryz.f10 rfl rfl rfl rfl rfl rfl rfl ⟨rfl,rfl,rfl,rfl,rfl⟩ rfl rfl rfl rfl rfl (by kernel_rfl) Tryz.func10 (by kernel_rfl)
  (of_decide_eq_true (by kernel_rfl)) (by unfold Func.isWrapper;first|(rw[if_pos (by decide +kernel)];kernel_rfl)|(rw[if_neg (by decide +kernel)];exact⟨rfl,rfl⟩))
  (fun os started H enc _=>lifted os started H enc)
theorem proved:Rows.RunSwapSaid:=
 over
#print axioms proved
end Go.Proofs.YtpjadlleefgcpaaGreat.runSwap
