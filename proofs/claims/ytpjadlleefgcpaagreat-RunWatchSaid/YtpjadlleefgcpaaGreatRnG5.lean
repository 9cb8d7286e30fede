/-
  What is proved here: the statement RunWatchSaid: whatever the arguments, the law, called, gives true, and of what was there nothing turns.
  No conditions.
-/
import Derived.Test.YtpjadlleefgcpaaGreatRnG4
import Derived.Test.YtpjadlleefgcpaaGreatRows
import Derived.OpenShut

set_option linter.unusedSimpArgs false
set_option linter.unusedVariables false
namespace Go.Proofs.YtpjadlleefgcpaaGreat.runWatch
open Go.ChangeShapes Go.WideShapes Go.ChangeAt Go.RowKit Go.Abs
theorem own:ownKnob Tryz.prog.godebug=none:=by kernel_rfl
theorem kids:Kids Tryz.prog (· < Tryz.prog.types.size):=kids_rows (by kernel_rfl) (by kernel_rfl)
theorem full : ∀ {t e:TypeId},t<Tryz.prog.types.size→Tryz.prog.underlying t=some (.slice e)→0<Tryz.prog.cellsOf e:=fun {t e}=>slices_full_of Tryz.prog (by kernel_rfl) t e
theorem walk (w:World) (x0:Pg) (Gs:x0.rI) (v0:Value) (Hr:RD (qB w) S0 (.agg (cz x0)) v0) (x1:List Int) (v1:Value) (xY:RD (qB w) S0 (.slice .shared 1 (x1.map bP)) v1) (x2:Int) (x3:List Int) (v3:Value) (XS:RD (qB w) S0 (.slice .shared 1 (x3.map bP)) v3):Calls Tryz.prog 6 #[v0,v1, .int .i64 x2,v3] w fun e w'=>e = .returned (.bool true)∧Kept w w':=by
 refine aam (args:= [.agg (cz x0), .slice .shared 1 (x1.map bP), .int .i64 x2, .slice .shared 1 (x3.map bP)]) ((KH x0 x1 x2 x3 S0).mono fun _ _ h=>h.1) rfl ?_ (fun _ _ h=>nomatch h)
 intro i d v h1 h2
 match i,h1,h2 with
 | 0,h1,h2=>simp at h1 h2;subst h1 h2;exact Hr
 | 1,h1,h2=>simp at h1 h2;subst h1 h2;exact xY
 | 2,h1,h2=>simp at h1 h2;subst h1 h2;exact RD.int _ _
 | 3,h1,h2=>simp at h1 h2;subst h1 h2;exact XS
set_option maxRecDepth 100000 in
theorem lifted (os : Os) (started : os.Started) (H : Type) (enc : TypeId × Value → H) :
   ReturnsInHanded {} Tryz.checked os 6 .any (Rows.runWatchSpec.pre6 enc Tryz.prog Tryz.f6 Rows.runWatchRow.domain false) (Rows.runWatchSpec.post enc Tryz.prog Tryz.f6 false true false false) := by
 refine returnsInHanded_of_change (C := Tryz.checked) own started (by kernel_rfl) Tryz.func6
   (ChangeSpec.witness6 (enc := enc) (C := Tryz.checked) false ⟨#[], #[.agg #[.slice none 0 0, .slice none 0 0], .slice none 0 0, .int .i64 0, .slice none 0 0], []⟩ 8 (by kernel_rfl) (by kernel_rfl) (by kernel_rfl) (by kernel_rfl)) ?_
 intro W base args ds gs before ah2 hW lF _
 have o4 : ∀ (j : Nat) t v, Tryz.f6.params[j]? = some t → args[j]? = some v → Value.okWide Tryz.prog W .any base t v := ah2
 have hW' := hW
 obtain ⟨p, q, hA0, hV, rfl, hfz, SH⟩ := hW
 have hA : DataW.TrodAll enc Tryz.prog W 0 (fun _ => true) true Tryz.f6.params.toList args.toList ds p := hA0
 rw[Tryz.params6]at hA o4
 obtain ⟨l⟩ := args
 obtain ⟨v0, l0, d0, ds0, p0, q0, e0, e0d, GO, hA0⟩ := w9 hA
 obtain ⟨v1, l1, d1, ds1, p1, q1, e1, e1d, G3, hA1⟩ := w9 hA0
 obtain ⟨v2, l2, d2, ds2, p2, q2, e2, e2d, hd2, hA2⟩ := w9 hA1
 obtain ⟨v3, l3, d3, ds3, p3, q3, e3, e3d, hd3, hA3⟩ := w9 hA2
 obtain ⟨en, end_⟩ := Wi hA3
 have el : l = [v0, v1, v2, v3] := by rw[show l = _ from e0, e1, e2, e3, en]
 subst el
 have ed : ds = [d0, d1, d2, d3] := by rw[e0d, e1d, e2d, e3d, end_]
 clear e0d
 subst ed
 have hpg : ∀ (i : Nat) (v : Value), Tryz.f6.params[i]? = some 25 → (⟨[v0, v1, v2, v3]⟩ : Array Value)[i]? = some v → ∀ {d ps}, DataW.Trod enc Tryz.prog W 0 (fun _ => true) true 25 v d ps → ∃ x : Pg, RD (qB W) S0 (.agg (cz x)) v ∧ x.rI := by
   intro i v hp hv d ps ⟨fuel, hf⟩
   obtain ⟨y, h1, h2⟩ := aeG hf
   obtain ⟨fs, Ec⟩ := HV (P := Tryz.prog) (t := 25) (l := [(22, 0), (23, 1)]) (by kernel_rfl) (by simp)
   obtain ⟨cs, e, _⟩ := okWide_struct Ec (o4 i 25 v (by rw[← Tryz.params6]; exact hp) hv)
   exact ⟨y, h1.agg ⟨cs, e⟩, h2⟩
 obtain ⟨x0, Hr, Gs⟩ := hpg 0 v0 (by rw[Tryz.params6]; rfl) rfl GO
 have aov : ∃ ns : List Int, RD (qB W) S0 (.slice .shared 1 (ns.map bP)) v1 := by
   obtain ⟨a0, FB, abS, rfl⟩ := Go.WideShapes.okWide_slice Tryz.underlying26 (o4 1 26 _ rfl rfl)
   obtain ⟨fuel, hf⟩ := G3
   have hc : Tryz.prog.cellsOf 2 = 1 := by kernel_rfl
   rcases Go.ChangeShapes.open_ints Tryz.underlying26 Tryz.underlying2 hc hf with ⟨la, _⟩|⟨a, len, cap, zs, la, _, hle, _, vn, _, gW, _⟩
   · simp [Value.cells] at la
     obtain ⟨rfl, rfl, rfl⟩ := la
     exact ⟨[], .iA _ _ _ rfl trivial⟩
   · simp [Value.cells] at la
     obtain ⟨rfl, rfl, rfl⟩ := la
     exact ⟨zs.take FB, My hle (by rw[vn]; split<;>omega) gW⟩
 obtain ⟨x1, xY⟩ := aov
 obtain ⟨x2, rfl, rfl, rfl, nL⟩ := open_int Tryz.underlying3 (o4 2 _ _ rfl rfl) hd2
 have aow : ∃ ns : List Int, RD (qB W) S0 (.slice .shared 1 (ns.map bP)) v3 := by
   obtain ⟨a0, FB, abS, rfl⟩ := Go.WideShapes.okWide_slice Tryz.underlying27 (o4 3 27 _ rfl rfl)
   obtain ⟨fuel, hf⟩ := hd3
   have hc : Tryz.prog.cellsOf 3 = 1 := by kernel_rfl
   rcases Go.ChangeShapes.open_ints Tryz.underlying27 Tryz.underlying3 hc hf with ⟨la, _⟩|⟨a, len, cap, zs, la, _, hle, _, vn, _, gW, _⟩
   · simp [Value.cells] at la
     obtain ⟨rfl, rfl, rfl⟩ := la
     exact ⟨[], .iA _ _ _ rfl trivial⟩
   · simp [Value.cells] at la
     obtain ⟨rfl, rfl, rfl⟩ := la
     exact ⟨zs.take FB, My hle (by rw[vn]; split<;>omega) gW⟩
 obtain ⟨x3, XS⟩ := aow
 obtain ⟨rfl, rfl⟩ := trodVars_none hV
 refine (walk W x0 Gs v0 Hr x1 v1 xY x2 x3 v3 XS).mono fun e W' ⟨he, hg⟩ =>?_
 subst he
 exact ⟨_, rfl, Wh kids full (by rw[Tryz.params6]; decide) Tryz.underlying4 (by kernel_rfl) rfl hW' rfl hg⟩
theorem over:Rows.runWatchRow.holds Tryz.pinned (OpenSpec.ofChange Rows.runWatchSpec):=
 OpenClaim.holds_of_wide 6 Tryz.f6 rfl rfl rfl rfl rfl rfl rfl ⟨rfl,rfl,rfl,rfl,rfl⟩ rfl rfl rfl rfl rfl (by kernel_rfl) Tryz.func6 (by kernel_rfl)
  (of_decide_eq_true (by kernel_rfl)) (by unfold Func.isWrapper;first|(rw[if_pos (by decide +kernel)];kernel_rfl)|(rw[if_neg (by decide +kernel)];exact⟨rfl,rfl⟩))
  (fun os started H enc _=>lifted os started H enc)
theorem proved:Rows.RunWatchSaid:=
 over
#print axioms proved
end Go.Proofs.YtpjadlleefgcpaaGreat.runWatch
