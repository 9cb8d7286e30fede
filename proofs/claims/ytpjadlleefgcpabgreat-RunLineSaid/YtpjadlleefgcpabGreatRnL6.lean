/-
  What is proved here: the statement RunLineSaid: whatever the arguments, the law, called, gives true, and of what was there nothing turns.
  No conditions.
-/
import Derived.Test.YtpjadlleefgcpabGreatRnL5
import Derived.Test.YtpjadlleefgcpabGreatRows
import Derived.OpenShut

set_option linter.unusedSimpArgs false
set_option linter.unusedVariables false
namespace Go.Proofs.YtpjadlleefgcpabGreat.runLine
open Go.ChangeShapes Go.WideShapes Go.ChangeAt Go.RowKit Go.Abs
theorem own:ownKnob Tryz.prog.godebug=none:=by kernel_rfl
theorem kids:Kids Tryz.prog (· < Tryz.prog.types.size):=kids_rows (by kernel_rfl) (by kernel_rfl)
theorem full : ∀ {t e:TypeId},t<Tryz.prog.types.size→Tryz.prog.underlying t=some (.slice e)→0<Tryz.prog.cellsOf e:=fun {t e}=>slices_full_of Tryz.prog (by kernel_rfl) t e
theorem walk (w:World) (x0:Pg) (B3:x0.tz) (v0:Value) (Kk:RD (uM w) S0 (.agg (bJ x0)) v0) (x1:List Int) (v1:Value) (Ah:RD (uM w) S0 (.slice .shared 1 (x1.map cq)) v1):Calls Tryz.prog 4 #[v0,v1] w fun e w'=>e = .returned (.bool true)∧Kept w w':=by
 refine aeE (args:= [.agg (bJ x0), .slice .shared 1 (x1.map cq)]) ((Py x0 x1 S0).mono fun _ _ h=>h.1) rfl ?_ (fun _ _ h=>nomatch h)
 intro i d v h1 h2
 match i,h1,h2 with
 | 0,h1,h2=>simp at h1 h2;subst h1 h2;exact Kk
 | 1,h1,h2=>simp at h1 h2;subst h1 h2;exact Ah
set_option maxRecDepth 100000 in
theorem lifted (os : Os) (started : os.Started) (H : Type) (enc : TypeId × Value → H) :
   ReturnsInHanded {} Tryz.checked os 4 .any (Rows.runLineSpec.pre6 enc Tryz.prog Tryz.f4 Rows.runLineRow.domain false) (Rows.runLineSpec.post enc Tryz.prog Tryz.f4 false true false false) := by
 refine returnsInHanded_of_change (C := Tryz.checked) own started (by kernel_rfl) Tryz.func4
   (ChangeSpec.witness6 (enc := enc) (C := Tryz.checked) false ⟨#[], #[.agg #[.slice none 0 0, .slice none 0 0], .slice none 0 0], []⟩ 8 (by kernel_rfl) (by kernel_rfl) (by kernel_rfl) (by kernel_rfl)) ?_
 intro W base args ds gs before ame hW mI _
 have se : ∀ (j : Nat) t v, Tryz.f4.params[j]? = some t → args[j]? = some v → Value.okWide Tryz.prog W .any base t v := ame
 have hW' := hW
 obtain ⟨p, q, hA0, hV, rfl, hfz, N8⟩ := hW
 have hA : DataW.TrodAll enc Tryz.prog W 0 (fun _ => true) true Tryz.f4.params.toList args.toList ds p := hA0
 rw[Tryz.params4]at hA se
 obtain ⟨l⟩ := args
 obtain ⟨v0, l0, d0, Mq, p0, q0, e0, e0d, Np, hA0⟩ := Ko hA
 obtain ⟨v1, l1, d1, ds1, p1, q1, e1, e1d, DE, hA1⟩ := Ko hA0
 obtain ⟨en, end_⟩ := aar hA1
 have el : l = [v0, v1] := by rw[show l = _ from e0, e1, en]
 subst el
 have ed : ds = [d0, d1] := by rw[e0d, e1d, end_]
 clear e0d
 subst ed
 have WS : ∀ (i : Nat) (v : Value), Tryz.f4.params[i]? = some 25 → (⟨[v0, v1]⟩ : Array Value)[i]? = some v → ∀ {d ps}, DataW.Trod enc Tryz.prog W 0 (fun _ => true) true 25 v d ps → ∃ x : Pg, RD (uM W) S0 (.agg (bJ x)) v ∧ x.tz := by
   intro i v hp hv d ps ⟨fuel, hf⟩
   obtain ⟨y, h1, h2⟩ := ai8 hf
   obtain ⟨fs, GF⟩ := KZ (P := Tryz.prog) (t := 25) (l := [(22, 0), (23, 1)]) (by kernel_rfl) (by simp)
   obtain ⟨cs, e, _⟩ := okWide_struct GF (se i 25 v (by rw[← Tryz.params4]; exact hp) hv)
   exact ⟨y, h1.agg ⟨cs, e⟩, h2⟩
 obtain ⟨x0, Kk, B3⟩ := WS 0 v0 (by rw[Tryz.params4]; rfl) rfl Np
 have auK : ∃ ns : List Int, RD (uM W) S0 (.slice .shared 1 (ns.map cq)) v1 := by
   obtain ⟨a0, Rk, auh, rfl⟩ := Go.WideShapes.okWide_slice Tryz.underlying26 (se 1 26 _ rfl rfl)
   obtain ⟨fuel, hf⟩ := DE
   have hc : Tryz.prog.cellsOf 2 = 1 := by kernel_rfl
   rcases Go.ChangeShapes.open_ints Tryz.underlying26 Tryz.underlying2 hc hf with ⟨oP, _⟩|⟨a, len, cap, zs, oP, _, hle, _, Bq, _, ix, _⟩
   · simp [Value.cells] at oP
     obtain ⟨rfl, rfl, rfl⟩ := oP
     exact ⟨[], .jy _ _ _ rfl trivial⟩
   · simp [Value.cells] at oP
     obtain ⟨rfl, rfl, rfl⟩ := oP
     exact ⟨zs.take Rk, aeF hle (by rw[Bq]; split<;>omega) ix⟩
 obtain ⟨x1, Ah⟩ := auK
 obtain ⟨rfl, rfl⟩ := trodVars_none hV
 refine (walk W x0 B3 v0 Kk x1 v1 Ah).mono fun e W' ⟨he, hg⟩ =>?_
 subst he
 exact ⟨_, rfl, aaq kids full (by rw[Tryz.params4]; decide) Tryz.underlying4 (by kernel_rfl) rfl hW' rfl hg⟩
theorem over:Rows.runLineRow.holds Tryz.pinned (OpenSpec.ofChange Rows.runLineSpec):=
 OpenClaim.holds_of_wide 4 Tryz.f4 rfl rfl rfl rfl rfl rfl rfl ⟨rfl,rfl,rfl,rfl,rfl⟩ rfl rfl rfl rfl rfl (by kernel_rfl) Tryz.func4 (by kernel_rfl)
  (of_decide_eq_true (by kernel_rfl)) (by unfold Func.isWrapper;first|(rw[if_pos (by decide +kernel)];kernel_rfl)|(rw[if_neg (by decide +kernel)];exact⟨rfl,rfl⟩))
  (fun os started H enc _=>lifted os started H enc)
theorem proved:Rows.RunLineSaid:=
 over
#print axioms proved
end Go.Proofs.YtpjadlleefgcpabGreat.runLine
