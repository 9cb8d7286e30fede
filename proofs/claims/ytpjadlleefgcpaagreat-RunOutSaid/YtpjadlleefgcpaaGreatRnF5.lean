/-
  What is proved here: the statement RunOutSaid: whatever the arguments, the law, called, gives true, and of what was there nothing turns.
  No conditions.
-/
import Derived.Test.YtpjadlleefgcpaaGreatRnF4
import Derived.Test.YtpjadlleefgcpaaGreatRows
import Derived.OpenShut

set_option linter.unusedSimpArgs false
set_option linter.unusedVariables false
namespace Go.Proofs.YtpjadlleefgcpaaGreat.runOut
open Go.ChangeShapes Go.WideShapes Go.ChangeAt Go.RowKit Go.Abs
theorem own:ownKnob Tryz.prog.godebug=none:=by kernel_rfl
theorem kids:Kids Tryz.prog (· < Tryz.prog.types.size):=kids_rows (by kernel_rfl) (by kernel_rfl)
theorem full : ∀ {t e:TypeId},t<Tryz.prog.types.size→Tryz.prog.underlying t=some (.slice e)→0<Tryz.prog.cellsOf e:=fun {t e}=>slices_full_of Tryz.prog (by kernel_rfl) t e
theorem walk (w:World) (x0:Pg) (Gh:x0.rO) (v0:Value) (Hh:RD (sC w) S0 (.agg (cu x0)) v0) (x1:List Int) (v1:Value) (xZ:RD (sC w) S0 (.slice .shared 1 (x1.map bE)) v1) (x2:Int):Calls Tryz.prog 9 #[v0,v1, .int .i64 x2] w fun e w'=>e = .returned (.bool true)∧Kept w w':=by
 refine Z8 (args:= [.agg (cu x0), .slice .shared 1 (x1.map bE), .int .i64 x2]) ((PQ x0 x1 x2 S0).mono fun _ _ h=>h.1) rfl ?_ (fun _ _ h=>nomatch h)
 intro i d v h1 h2
 match i,h1,h2 with
 | 0,h1,h2=>simp at h1 h2;subst h1 h2;exact Hh
 | 1,h1,h2=>simp at h1 h2;subst h1 h2;exact xZ
 | 2,h1,h2=>simp at h1 h2;subst h1 h2;exact RD.int _ _
set_option maxRecDepth 100000 in
theorem lifted (os : Os) (started : os.Started) (H : Type) (enc : TypeId × Value → H) :
   ReturnsInHanded {} Tryz.checked os 9 .any (Rows.runOutSpec.pre6 enc Tryz.prog Tryz.f9 Rows.runOutRow.domain false) (Rows.runOutSpec.post enc Tryz.prog Tryz.f9 false true false false) := by
 refine returnsInHanded_of_change (C := Tryz.checked) own started (by kernel_rfl) Tryz.func9
   (ChangeSpec.witness6 (enc := enc) (C := Tryz.checked) false ⟨#[], #[.agg #[.slice none 0 0, .slice none 0 0], .slice none 0 0, .int .i64 0], []⟩ 8 (by kernel_rfl) (by kernel_rfl) (by kernel_rfl) (by kernel_rfl)) ?_
 intro W base args ds gs before ahR hW lE _
 have pQ : ∀ (j : Nat) t v, Tryz.f9.params[j]? = some t → args[j]? = some v → Value.okWide Tryz.prog W .any base t v := ahR
 have hW' := hW
 obtain ⟨p, q, hA0, hV, rfl, hfz, SG⟩ := hW
 have hA : DataW.TrodAll enc Tryz.prog W 0 (fun _ => true) true Tryz.f9.params.toList args.toList ds p := hA0
 rw[Tryz.params9]at hA pQ
 obtain ⟨l⟩ := args
 obtain ⟨v0, l0, d0, ds0, p0, q0, e0, e0d, Gy, hA0⟩ := B2 hA
 obtain ⟨v1, l1, d1, ds1, p1, q1, e1, e1d, GQ, hA1⟩ := B2 hA0
 obtain ⟨v2, l2, d2, ds2, p2, q2, e2, e2d, hd2, hA2⟩ := B2 hA1
 obtain ⟨en, end_⟩ := V4 hA2
 have el : l = [v0, v1, v2] := by rw[show l = _ from e0, e1, e2, en]
 subst el
 have ed : ds = [d0, d1, d2] := by rw[e0d, e1d, e2d, end_]
 clear e0d
 subst ed
 have hpg : ∀ (i : Nat) (v : Value), Tryz.f9.params[i]? = some 25 → (⟨[v0, v1, v2]⟩ : Array Value)[i]? = some v → ∀ {d ps}, DataW.Trod enc Tryz.prog W 0 (fun _ => true) true 25 v d ps → ∃ x : Pg, RD (sC W) S0 (.agg (cu x)) v ∧ x.rO := by
   intro i v hp hv d ps ⟨fuel, hf⟩
   obtain ⟨y, h1, h2⟩ := aeu hf
   obtain ⟨fs, D6⟩ := HO (P := Tryz.prog) (t := 25) (l := [(22, 0), (23, 1)]) (by kernel_rfl) (by simp)
   obtain ⟨cs, e, _⟩ := okWide_struct D6 (pQ i 25 v (by rw[← Tryz.params9]; exact hp) hv)
   exact ⟨y, h1.agg ⟨cs, e⟩, h2⟩
 obtain ⟨x0, Hh, Gh⟩ := hpg 0 v0 (by rw[Tryz.params9]; rfl) rfl Gy
 have aol : ∃ ns : List Int, RD (sC W) S0 (.slice .shared 1 (ns.map bE)) v1 := by
   obtain ⟨a0, M6, ajH, rfl⟩ := Go.WideShapes.okWide_slice Tryz.underlying26 (pQ 1 26 _ rfl rfl)
   obtain ⟨fuel, hf⟩ := GQ
   have hc : Tryz.prog.cellsOf 2 = 1 := by kernel_rfl
   rcases Go.ChangeShapes.open_ints Tryz.underlying26 Tryz.underlying2 hc hf with ⟨nJ, _⟩|⟨a, len, cap, zs, nJ, _, hle, _, za, _, iE, _⟩
   · simp [Value.cells] at nJ
     obtain ⟨rfl, rfl, rfl⟩ := nJ
     exact ⟨[], .iK _ _ _ rfl trivial⟩
   · simp [Value.cells] at nJ
     obtain ⟨rfl, rfl, rfl⟩ := nJ
     exact ⟨zs.take M6, Z9 hle (by rw[za]; split<;>omega) iE⟩
 obtain ⟨x1, xZ⟩ := aol
 obtain ⟨x2, rfl, rfl, rfl, nK⟩ := open_int Tryz.underlying3 (pQ 2 _ _ rfl rfl) hd2
 obtain ⟨rfl, rfl⟩ := trodVars_none hV
 refine (walk W x0 Gh v0 Hh x1 v1 xZ x2).mono fun e W' ⟨he, hg⟩ =>?_
 subst he
 exact ⟨_, rfl, V3 kids full (by rw[Tryz.params9]; decide) Tryz.underlying4 (by kernel_rfl) rfl hW' rfl hg⟩
theorem over:Rows.runOutRow.holds Tryz.pinned (OpenSpec.ofChange Rows.runOutSpec):=
 OpenClaim.holds_of_wide 9 Tryz.f9 rfl rfl rfl rfl rfl rfl rfl ⟨rfl,rfl,rfl,rfl,rfl⟩ rfl rfl rfl rfl rfl (by kernel_rfl) Tryz.func9 (by kernel_rfl)
  (of_decide_eq_true (by kernel_rfl)) (by unfold Func.isWrapper;first|(rw[if_pos (by decide +kernel)];kernel_rfl)|(rw[if_neg (by decide +kernel)];exact⟨rfl,rfl⟩))
  (fun os started H enc _=>lifted os started H enc)
theorem proved:Rows.RunOutSaid:=
 over
#print axioms proved
end Go.Proofs.YtpjadlleefgcpaaGreat.runOut
