/-
  What is proved here: the statement RunRoundSaid: whatever the arguments, the law, called, gives true, and of what was there nothing turns.
  No conditions.
-/
import Derived.Test.YtpjadlleefgcpaaGreatRnK5
import Derived.Test.YtpjadlleefgcpaaGreatRows
import Derived.OpenShut

set_option linter.unusedSimpArgs false
set_option linter.unusedVariables false
namespace Go.Proofs.YtpjadlleefgcpaaGreat.runRound
open Go.ChangeShapes Go.WideShapes Go.ChangeAt Go.RowKit Go.Abs
theorem own:ownKnob Tryz.prog.godebug=none:=by kernel_rfl
theorem kids:Kids Tryz.prog (· < Tryz.prog.types.size):=kids_rows (by kernel_rfl) (by kernel_rfl)
theorem full : ∀ {t e:TypeId},t<Tryz.prog.types.size→Tryz.prog.underlying t=some (.slice e)→0<Tryz.prog.cellsOf e:=fun {t e}=>slices_full_of Tryz.prog (by kernel_rfl) t e
theorem walk (w:World) (x0:Pg) (L7:x0.tV) (v0:Value) (KT:RD (u6 w) S0 (.agg (bK x0)) v0) (x1:List Int) (v1:Value) (AH:RD (u6 w) S0 (.slice .shared 1 (x1.map cB)) v1) (x2:Int) (x3:Int):Calls Tryz.prog 12 #[v0,v1, .int .i64 x2, .int .i64 x3] w fun e w'=>e = .returned (.bool true)∧Kept w w':=by
 refine afs (args:= [.agg (bK x0), .slice .shared 1 (x1.map cB), .int .i64 x2, .int .i64 x3]) ((OQ x0 x1 x2 x3 S0).mono fun _ _ h=>h.1) rfl ?_ (fun _ _ h=>nomatch h)
 intro i d v h1 h2
 match i,h1,h2 with
 | 0,h1,h2=>simp at h1 h2;subst h1 h2;exact KT
 | 1,h1,h2=>simp at h1 h2;subst h1 h2;exact AH
 | 2,h1,h2=>simp at h1 h2;subst h1 h2;exact RD.int _ _
 | 3,h1,h2=>simp at h1 h2;subst h1 h2;exact RD.int _ _
set_option maxRecDepth 100000 in
theorem lifted (os : Os) (started : os.Started) (H : Type) (enc : TypeId × Value → H) :
   ReturnsInHanded {} Tryz.checked os 12 .any (Rows.runRoundSpec.pre6 enc Tryz.prog Tryz.f12 Rows.runRoundRow.domain false) (Rows.runRoundSpec.post enc Tryz.prog Tryz.f12 false true false false) := by
 refine returnsInHanded_of_change (C := Tryz.checked) own started (by kernel_rfl) Tryz.func12
   (ChangeSpec.witness6 (enc := enc) (C := Tryz.checked) false ⟨#[], #[.agg #[.slice none 0 0, .slice none 0 0], .slice none 0 0, .int .i64 0, .int .i64 0], []⟩ 8 (by kernel_rfl) (by kernel_rfl) (by kernel_rfl) (by kernel_rfl)) ?_
 intro W base args ds gs before ant hW nc _
 have qD : ∀ (j : Nat) t v, Tryz.f12.params[j]? = some t → args[j]? = some v → Value.okWide Tryz.prog W .any base t v := ant
 have hW' := hW
 obtain ⟨p, q, hA0, hV, rfl, hfz, Ix⟩ := hW
 have hA : DataW.TrodAll enc Tryz.prog W 0 (fun _ => true) true Tryz.f12.params.toList args.toList ds p := hA0
 rw[Tryz.params12]at hA qD
 obtain ⟨l⟩ := args
 obtain ⟨v0, l0, d0, Mt, p0, q0, e0, e0d, zb, hA0⟩ := zF hA
 obtain ⟨v1, l1, d1, ds1, p1, q1, e1, e1d, DL, hA1⟩ := zF hA0
 obtain ⟨v2, l2, d2, ds2, p2, q2, e2, e2d, hd2, hA2⟩ := zF hA1
 obtain ⟨v3, l3, d3, ds3, p3, q3, e3, e3d, hd3, hA3⟩ := zF hA2
 obtain ⟨en, end_⟩ := abg hA3
 have el : l = [v0, v1, v2, v3] := by rw[show l = _ from e0, e1, e2, e3, en]
 subst el
 have ed : ds = [d0, d1, d2, d3] := by rw[e0d, e1d, e2d, e3d, end_]
 clear e0d
 subst ed
 have XT : ∀ (i : Nat) (v : Value), Tryz.f12.params[i]? = some 25 → (⟨[v0, v1, v2, v3]⟩ : Array Value)[i]? = some v → ∀ {d ps}, DataW.Trod enc Tryz.prog W 0 (fun _ => true) true 25 v d ps → ∃ x : Pg, RD (u6 W) S0 (.agg (bK x)) v ∧ x.tV := by
   intro i v hp hv d ps ⟨fuel, hf⟩
   obtain ⟨y, h1, h2⟩ := aj4 hf
   obtain ⟨fs, Hd⟩ := Ly (P := Tryz.prog) (t := 25) (l := [(22, 0), (23, 1)]) (by kernel_rfl) (by simp)
   obtain ⟨cs, e, _⟩ := okWide_struct Hd (qD i 25 v (by rw[← Tryz.params12]; exact hp) hv)
   exact ⟨y, h1.agg ⟨cs, e⟩, h2⟩
 obtain ⟨x0, KT, L7⟩ := XT 0 v0 (by rw[Tryz.params12]; rfl) rfl zb
 have avm : ∃ ns : List Int, RD (u6 W) S0 (.slice .shared 1 (ns.map cB)) v1 := by
   obtain ⟨a0, RO, apA, rfl⟩ := Go.WideShapes.okWide_slice Tryz.underlying26 (qD 1 26 _ rfl rfl)
   obtain ⟨fuel, hf⟩ := DL
   have hc : Tryz.prog.cellsOf 2 = 1 := by kernel_rfl
   rcases Go.ChangeShapes.open_ints Tryz.underlying26 Tryz.underlying2 hc hf with ⟨pw, _⟩|⟨a, len, cap, zs, pw, _, hle, _, BH, _, jA, _⟩
   · simp [Value.cells] at pw
     obtain ⟨rfl, rfl, rfl⟩ := pw
     exact ⟨[], .jH _ _ _ rfl trivial⟩
   · simp [Value.cells] at pw
     obtain ⟨rfl, rfl, rfl⟩ := pw
     exact ⟨zs.take RO, aft hle (by rw[BH]; split<;>omega) jA⟩
 obtain ⟨x1, AH⟩ := avm
 obtain ⟨x2, rfl, rfl, rfl, px⟩ := open_int Tryz.underlying3 (qD 2 _ _ rfl rfl) hd2
 obtain ⟨x3, rfl, rfl, rfl, C0⟩ := open_int Tryz.underlying3 (qD 3 _ _ rfl rfl) hd3
 obtain ⟨rfl, rfl⟩ := trodVars_none hV
 refine (walk W x0 L7 v0 KT x1 v1 AH x2 x3).mono fun e W' ⟨he, hg⟩ =>?_
 subst he
 exact ⟨_, rfl, abf kids full (by rw[Tryz.params12]; decide) Tryz.underlying4 (by kernel_rfl) rfl hW' rfl hg⟩
theorem over:Rows.runRoundRow.holds Tryz.pinned (OpenSpec.ofChange Rows.runRoundSpec):=
 OpenClaim.holds_of_wide 12 Tryz.f12 rfl rfl rfl rfl rfl rfl rfl ⟨rfl,rfl,rfl,rfl,rfl⟩ rfl rfl rfl rfl rfl (by kernel_rfl) Tryz.func12 (by kernel_rfl)
  (of_decide_eq_true (by kernel_rfl)) (by unfold Func.isWrapper;first|(rw[if_pos (by decide +kernel)];kernel_rfl)|(rw[if_neg (by decide +kernel)];exact⟨rfl,rfl⟩))
  (fun os started H enc _=>lifted os started H enc)
theorem proved:Rows.RunRoundSaid:=
 over
#print axioms proved
end Go.Proofs.YtpjadlleefgcpaaGreat.runRound
