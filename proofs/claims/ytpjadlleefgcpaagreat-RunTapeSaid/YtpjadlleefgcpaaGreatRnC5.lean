/-
  What is proved here: the statement RunTapeSaid: whatever the arguments, the law, called, gives true, and of what was there nothing turns.
  No conditions.
-/
import Derived.Test.YtpjadlleefgcpaaGreatRnC4
import Derived.Test.YtpjadlleefgcpaaGreatRows
import Derived.OpenShut

set_option linter.unusedSimpArgs false
set_option linter.unusedVariables false
namespace Go.Proofs.YtpjadlleefgcpaaGreat.runTape
open Go.ChangeShapes Go.WideShapes Go.ChangeAt Go.RowKit Go.Abs
theorem own:ownKnob Tryz.prog.godebug=none:=by kernel_rfl
theorem kids:Kids Tryz.prog (· < Tryz.prog.types.size):=kids_rows (by kernel_rfl) (by kernel_rfl)
theorem full : ∀ {t e:TypeId},t<Tryz.prog.types.size→Tryz.prog.underlying t=some (.slice e)→0<Tryz.prog.cellsOf e:=fun {t e}=>slices_full_of Tryz.prog (by kernel_rfl) t e
theorem walk (w:World) (x0:Pg) (Gs:x0.rK) (v0:Value) (Hv:RD (qF w) S0 (.agg (cD x0)) v0) (x1:List Int) (v1:Value) (x7:RD (qF w) S0 (.slice .shared 1 (x1.map bT)) v1) (x2:List Int) (v2:Value) (Bb:RD (qF w) S0 (.slice .shared 1 (x2.map bT)) v2) (x3:Int):Calls Tryz.prog 7 #[v0,v1,v2, .int .i64 x3] w fun e w'=>e = .returned (.bool true)∧Kept w w':=by
 refine aax (args:= [.agg (cD x0), .slice .shared 1 (x1.map bT), .slice .shared 1 (x2.map bT), .int .i64 x3]) ((LA x0 x1 x2 x3 S0).mono fun _ _ h=>h.1) rfl ?_ (fun _ _ h=>nomatch h)
 intro i d v h1 h2
 match i,h1,h2 with
 | 0,h1,h2=>simp at h1 h2;subst h1 h2;exact Hv
 | 1,h1,h2=>simp at h1 h2;subst h1 h2;exact x7
 | 2,h1,h2=>simp at h1 h2;subst h1 h2;exact Bb
 | 3,h1,h2=>simp at h1 h2;subst h1 h2;exact RD.int _ _
set_option maxRecDepth 100000 in
theorem lifted (os : Os) (started : os.Started) (H : Type) (enc : TypeId × Value → H) :
   ReturnsInHanded {} Tryz.checked os 7 .any (Rows.runTapeSpec.pre6 enc Tryz.prog Tryz.f7 Rows.runTapeRow.domain false) (Rows.runTapeSpec.post enc Tryz.prog Tryz.f7 false true false false) := by
 refine returnsInHanded_of_change (C := Tryz.checked) own started (by kernel_rfl) Tryz.func7
   (ChangeSpec.witness6 (enc := enc) (C := Tryz.checked) false ⟨#[], #[.agg #[.slice none 0 0, .slice none 0 0], .slice none 0 0, .slice none 0 0, .int .i64 0], []⟩ 8 (by kernel_rfl) (by kernel_rfl) (by kernel_rfl) (by kernel_rfl)) ?_
 intro W base args ds gs before aih hW lG _
 have oZ : ∀ (j : Nat) t v, Tryz.f7.params[j]? = some t → args[j]? = some v → Value.okWide Tryz.prog W .any base t v := aih
 have hW' := hW
 obtain ⟨p, q, hA0, hV, rfl, hfz, SR⟩ := hW
 have hA : DataW.TrodAll enc Tryz.prog W 0 (fun _ => true) true Tryz.f7.params.toList args.toList ds p := hA0
 rw[Tryz.params7]at hA oZ
 obtain ⟨l⟩ := args
 obtain ⟨v0, l0, d0, ds0, p0, q0, e0, e0d, GO, hA0⟩ := xc hA
 obtain ⟨v1, l1, d1, ds1, p1, q1, e1, e1d, G3, hA1⟩ := xc hA0
 obtain ⟨v2, l2, d2, ds2, p2, q2, e2, e2d, hd2, hA2⟩ := xc hA1
 obtain ⟨v3, l3, d3, ds3, p3, q3, e3, e3d, hd3, hA3⟩ := xc hA2
 obtain ⟨en, end_⟩ := Wq hA3
 have el : l = [v0, v1, v2, v3] := by rw[show l = _ from e0, e1, e2, e3, en]
 subst el
 have ed : ds = [d0, d1, d2, d3] := by rw[e0d, e1d, e2d, e3d, end_]
 clear e0d
 subst ed
 have hpg : ∀ (i : Nat) (v : Value), Tryz.f7.params[i]? = some 25 → (⟨[v0, v1, v2, v3]⟩ : Array Value)[i]? = some v → ∀ {d ps}, DataW.Trod enc Tryz.prog W 0 (fun _ => true) true 25 v d ps → ∃ x : Pg, RD (qF W) S0 (.agg (cD x)) v ∧ x.rK := by
   intro i v hp hv d ps ⟨fuel, hf⟩
   obtain ⟨y, h1, h2⟩ := aeS hf
   obtain ⟨fs, Eb⟩ := HZ (P := Tryz.prog) (t := 25) (l := [(22, 0), (23, 1)]) (by kernel_rfl) (by simp)
   obtain ⟨cs, e, _⟩ := okWide_struct Eb (oZ i 25 v (by rw[← Tryz.params7]; exact hp) hv)
   exact ⟨y, h1.agg ⟨cs, e⟩, h2⟩
 obtain ⟨x0, Hv, Gs⟩ := hpg 0 v0 (by rw[Tryz.params7]; rfl) rfl GO
 have aoF : ∃ ns : List Int, RD (qF W) S0 (.slice .shared 1 (ns.map bT)) v1 := by
   obtain ⟨a0, FD, ab2, rfl⟩ := Go.WideShapes.okWide_slice Tryz.underlying26 (oZ 1 26 _ rfl rfl)
   obtain ⟨fuel, hf⟩ := G3
   have hc : Tryz.prog.cellsOf 2 = 1 := by kernel_rfl
   rcases Go.ChangeShapes.open_ints Tryz.underlying26 Tryz.underlying2 hc hf with ⟨lb, _⟩|⟨a, len, cap, zs, lb, _, hle, _, vr, _, gV, _⟩
   · simp [Value.cells] at lb
     obtain ⟨rfl, rfl, rfl⟩ := lb
     exact ⟨[], .iA _ _ _ rfl trivial⟩
   · simp [Value.cells] at lb
     obtain ⟨rfl, rfl, rfl⟩ := lb
     exact ⟨zs.take FD, MD hle (by rw[vr]; split<;>omega) gV⟩
 obtain ⟨x1, x7⟩ := aoF
 have aoG : ∃ ns : List Int, RD (qF W) S0 (.slice .shared 1 (ns.map bT)) v2 := by
   obtain ⟨a0, FD, ab2, rfl⟩ := Go.WideShapes.okWide_slice Tryz.underlying26 (oZ 2 26 _ rfl rfl)
   obtain ⟨fuel, hf⟩ := hd2
   have hc : Tryz.prog.cellsOf 2 = 1 := by kernel_rfl
   rcases Go.ChangeShapes.open_ints Tryz.underlying26 Tryz.underlying2 hc hf with ⟨lb, _⟩|⟨a, len, cap, zs, lb, _, hle, _, vr, _, gV, _⟩
   · simp [Value.cells] at lb
     obtain ⟨rfl, rfl, rfl⟩ := lb
     exact ⟨[], .iA _ _ _ rfl trivial⟩
   · simp [Value.cells] at lb
     obtain ⟨rfl, rfl, rfl⟩ := lb
     exact ⟨zs.take FD, MD hle (by rw[vr]; split<;>omega) gV⟩
 obtain ⟨x2, Bb⟩ := aoG
 obtain ⟨x3, rfl, rfl, rfl, Av⟩ := open_int Tryz.underlying3 (oZ 3 _ _ rfl rfl) hd3
 obtain ⟨rfl, rfl⟩ := trodVars_none hV
 refine (walk W x0 Gs v0 Hv x1 v1 x7 x2 v2 Bb x3).mono fun e W' ⟨he, hg⟩ =>?_
 subst he
 exact ⟨_, rfl, Wp kids full (by rw[Tryz.params7]; decide) Tryz.underlying4 (by kernel_rfl) rfl hW' rfl hg⟩
theorem over:Rows.runTapeRow.holds Tryz.pinned (OpenSpec.ofChange Rows.runTapeSpec):=
 OpenClaim.holds_of_wide 7 Tryz.f7 rfl rfl rfl rfl rfl rfl rfl ⟨rfl,rfl,rfl,rfl,rfl⟩ rfl rfl rfl rfl rfl (by kernel_rfl) Tryz.func7 (by kernel_rfl)
  (of_decide_eq_true (by kernel_rfl)) (by unfold Func.isWrapper;first|(rw[if_pos (by decide +kernel)];kernel_rfl)|(rw[if_neg (by decide +kernel)];exact⟨rfl,rfl⟩))
  (fun os started H enc _=>lifted os started H enc)
theorem proved:Rows.RunTapeSaid:=
 over
#print axioms proved
end Go.Proofs.YtpjadlleefgcpaaGreat.runTape
