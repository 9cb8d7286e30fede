/-
  What is proved here: the statement TouchAllSaid: whatever the arguments, the law, called, gives true, and of what was there nothing turns.
  No conditions.
-/
import Derived.Test.YthecipohmaannaaGreatToA3
import Derived.KernelRfl
import Derived.Test.YthecipohmaannaaGreatRows
import Derived.OpenShut

set_option linter.unusedSimpArgs false
set_option linter.unusedVariables false

/-! Join4 -/

namespace Go.Abs
open Go.Proofs Go.RowKit Go.ChangeShapes Go.WideShapes
section
variable {H:Type} {enc:TypeId×Value→H} {W:World} {sp:Nat→Bool}
theorem Kd (fuel:Nat) (cs:List Value) (x:DataW H×List MemPlace) (h:DataW.trod enc Tryz.prog W 0 sp true fuel 46 cs=some x) : ∃ y:Ex,ea W (bB y) cs∧y.oJ:=
 Vv (tE:=46) (tI:=3) (tN:=2) (tS:=9) (tK:=44) (by kernel_rfl) (by kernel_rfl) (by kernel_rfl) (by kernel_rfl) (by kernel_rfl) (by kernel_rfl) (by kernel_rfl) (by kernel_rfl) (by kernel_rfl) (by kernel_rfl) _ _ _ h
theorem PN:Tryz.prog.underlying 22=some (.slice 9):=by kernel_rfl
theorem tz:Tryz.prog.underlying 9=some .string:=by kernel_rfl
theorem Ke:Tryz.prog.underlying 3=some (.int .i64):=by kernel_rfl
theorem Am:Tryz.prog.underlying 4=some .bool:=by kernel_rfl
theorem wx:Tryz.prog.cellsOf 9=1:=by kernel_rfl
theorem SL:Tryz.prog.cellsOf 3=1:=by kernel_rfl
theorem An:Tryz.prog.cellsOf 4=1:=by kernel_rfl
theorem Ao:Tryz.prog.cellsOf 22=1:=by kernel_rfl
theorem Oo:Tryz.prog.cellsOf 46=4:=by kernel_rfl
theorem uv {fuel:Nat} {cs:List Value} {x:DataW H×List MemPlace} (h:DataW.trod enc Tryz.prog W 0 sp true fuel 22 cs=some x) : ∃ l:List aE,ea W [.slice .shared 1 (l.map encStr)] cs:=by
 obtain⟨l,h,_⟩:=mD (W:=W) encStr (fun _=>True) PN wx (by decide) (fun _=>rfl) (fun k hk cs x hx=>by
  obtain⟨s,hs,_⟩:=rC tz hx
  exact⟨s,hs,trivial⟩) h
 exact⟨l,h⟩
theorem SM {fuel:Nat} {cs:List Value} {x:DataW H×List MemPlace} (h:DataW.trod enc Tryz.prog W 0 sp true fuel 63 cs=some x) : ∃ y:Pm,ea W (fW y) cs:=by
 obtain⟨n,rfl,hl,hf⟩:=jG (l:= [(9,0),(4,1)]) (by kernel_rfl) (by simp) h
 have hc:Tryz.prog.cellsOf 63=2:=by kernel_rfl
 obtain⟨y0,h0⟩:=hf 0 _ rfl
 obtain⟨y1,h1⟩:=hf 1 _ rfl
 dsimp only at h0 h1
 rw [wx]at h0
 rw [An]at h1
 obtain⟨s,r0,_⟩:=rC tz h0
 obtain⟨b,r1⟩:=Al Am h1
 refine⟨⟨s,b⟩, ?_⟩
 have:=r0.at (r1.at (ea.end (by rw [hl,hc])))
 simpa [encStr,fW]using this
theorem SN {fuel:Nat} {cs:List Value} {x:DataW H×List MemPlace} (h:DataW.trod enc Tryz.prog W 0 sp true fuel 87 cs=some x) : ∃ y:Ar,ea W (dG y) cs∧y.x.oJ:=by
 obtain⟨n,rfl,hl,hf⟩:=jG (l:= [(4,0),(9,1),(46,2)]) (by kernel_rfl) (by simp) h
 have hc:Tryz.prog.cellsOf 87=6:=by kernel_rfl
 obtain⟨y0,h0⟩:=hf 0 _ rfl
 obtain⟨y1,h1⟩:=hf 1 _ rfl
 obtain⟨y2,h2⟩:=hf 2 _ rfl
 dsimp only at h0 h1 h2
 rw [An]at h0
 rw [wx]at h1
 rw [Oo]at h2
 obtain⟨b,r0⟩:=Al Am h0
 obtain⟨s,r1,_⟩:=rC tz h1
 obtain⟨e,r2,hr⟩:=Kd _ _ _ h2
 refine⟨⟨b,s,e⟩, ?_,hr⟩
 have:=r0.at (r1.at (r2.at (ea.end (by rw [hl,hc]))))
 rw [gm]at this
 simpa [encStr,dG]using this
theorem uw : ∀ {l:List Sm},(∀ s∈l,s.oJ)→Sm.sQ l
 | [],_=>trivial
 | s::l,h=>⟨h s (List.mem_cons_self ..),uw fun t m=>h t (List.mem_cons_of_mem _ m)⟩
theorem SO : ∀ (fuel:Nat) (cs:List Value) (x:DataW H×List MemPlace),DataW.trod enc Tryz.prog W 0 sp true fuel 49 cs=some x→∃ y:Sm,ea W (bp y) cs∧y.oJ:=by
 intro fuel
 induction fuel using Nat.strongRecOn with
 | _ fuel ih=>
  intro cs x h
  obtain⟨n,rfl,hl,hf⟩:=jG (l:= [(3,0),(3,1),(22,2),(9,3),(9,4),(46,5),(4,9),(47,10),(37,11),(37,12)]) (by kernel_rfl) (by simp) h
  have hc:Tryz.prog.cellsOf 49=13:=by kernel_rfl
  have ca:Tryz.prog.cellsOf 47=1:=by kernel_rfl
  have gN:Tryz.prog.cellsOf 37=1:=by kernel_rfl
  have ua:Tryz.prog.underlying 47=some (.slice 87):=by kernel_rfl
  have us:Tryz.prog.underlying 37=some (.slice 49):=by kernel_rfl
  have ca6:Tryz.prog.cellsOf 87=6:=by kernel_rfl
  obtain⟨y0,h0⟩:=hf 0 _ rfl
  obtain⟨y1,h1⟩:=hf 1 _ rfl
  obtain⟨y2,h2⟩:=hf 2 _ rfl
  obtain⟨y3,h3⟩:=hf 3 _ rfl
  obtain⟨y4,h4⟩:=hf 4 _ rfl
  obtain⟨y5,h5⟩:=hf 5 _ rfl
  obtain⟨y6,h6⟩:=hf 6 _ rfl
  obtain⟨y7,h7⟩:=hf 7 _ rfl
  obtain⟨y8,h8⟩:=hf 8 _ rfl
  obtain⟨y9,h9⟩:=hf 9 _ rfl
  dsimp only at h0 h1 h2 h3 h4 h5 h6 h7 h8 h9
  rw [SL]at h0 h1
  rw [Ao]at h2
  rw [wx]at h3 h4
  rw [Oo]at h5
  rw [An]at h6
  rw [ca]at h7
  rw [gN]at h8 h9
  obtain⟨id,r0,_⟩:=zi Ke h0
  obtain⟨kind,r1,_⟩:=zi Ke h1
  obtain⟨labels,r2⟩:=uv h2
  obtain⟨name,r3,_⟩:=rC tz h3
  obtain⟨proc,r4,_⟩:=rC tz h4
  obtain⟨e,r5,hr⟩:=Kd _ _ _ h5
  obtain⟨b,r6⟩:=Al Am h6
  obtain⟨args,r7,ha⟩:=mD (W:=W) dG (fun a=>a.x.oJ) ua ca6 (by decide) (fun _=>rfl) (fun k hk cs x hx=>SN hx) h7
  obtain⟨bk,r8,ht⟩:=mD (W:=W) bp Sm.oJ us hc (by decide) BU (fun k hk cs x hx=>ih k (by omega) cs x hx) h8
  obtain⟨aY,r9,he⟩:=mD (W:=W) bp Sm.oJ us hc (by decide) BU (fun k hk cs x hx=>ih k (by omega) cs x hx) h9
  refine⟨⟨id,kind,labels,name,proc,e,b,args,bk,aY⟩, ?_,hr,ha,uw ht,uw he⟩
  have:=r0.at (r1.at (r2.at (r3.at (r4.at (r5.at (r6.at (r7.at (r8.at (r9.at (ea.end (by rw [hl,hc])))))))))))
  rw [gm]at this
  rw [cY]
  simpa [encStr]using this
theorem SP {fuel:Nat} {cs:List Value} {x:DataW H×List MemPlace} (h:DataW.trod enc Tryz.prog W 0 sp true fuel 39 cs=some x) : ∃ y:Pc,ea W (bV y) cs∧Sm.sQ y.body:=by
 obtain⟨n,rfl,hl,hf⟩:=jG (l:= [(9,0),(36,1),(22,2),(37,3),(22,4)]) (by kernel_rfl) (by simp) h
 have hc:Tryz.prog.cellsOf 39=5:=by kernel_rfl
 have cp:Tryz.prog.cellsOf 36=1:=by kernel_rfl
 have gN:Tryz.prog.cellsOf 37=1:=by kernel_rfl
 have up:Tryz.prog.underlying 36=some (.slice 63):=by kernel_rfl
 have us:Tryz.prog.underlying 37=some (.slice 49):=by kernel_rfl
 have cp2:Tryz.prog.cellsOf 63=2:=by kernel_rfl
 have aaD:Tryz.prog.cellsOf 49=13:=by kernel_rfl
 obtain⟨y0,h0⟩:=hf 0 _ rfl
 obtain⟨y1,h1⟩:=hf 1 _ rfl
 obtain⟨y2,h2⟩:=hf 2 _ rfl
 obtain⟨y3,h3⟩:=hf 3 _ rfl
 obtain⟨y4,h4⟩:=hf 4 _ rfl
 dsimp only at h0 h1 h2 h3 h4
 rw [wx]at h0
 rw [cp]at h1
 rw [Ao]at h2 h4
 rw [gN]at h3
 obtain⟨name,r0,_⟩:=rC tz h0
 obtain⟨ps,r1,_⟩:=mD (W:=W) fW (fun _=>True) up cp2 (by decide) (fun _=>rfl) (fun k hk cs x hx=>by
  obtain⟨y,hy⟩:=SM hx
  exact⟨y,hy,trivial⟩) h1
 obtain⟨vars,r2⟩:=uv h2
 obtain⟨body,r3,hb⟩:=mD (W:=W) bp Sm.oJ us aaD (by decide) BU (fun k hk cs x hx=>SO k cs x hx) h3
 obtain⟨fin,r4⟩:=uv h4
 refine⟨⟨name,ps,vars,body,fin⟩, ?_,uw hb⟩
 have:=r0.at (r1.at (r2.at (r3.at (r4.at (ea.end (by rw [hl,hc]))))))
 simpa [encStr,bV]using this
theorem SQ {fuel:Nat} {cs:List Value} {x:DataW H×List MemPlace} (h:DataW.trod enc Tryz.prog W 0 sp true fuel 25 cs=some x) : ∃ y:Pg,ea W (bP y) cs∧y.oJ:=by
 obtain⟨n,rfl,hl,hf⟩:=jG (l:= [(22,0),(23,1)]) (by kernel_rfl) (by simp) h
 have hc:Tryz.prog.cellsOf 25=2:=by kernel_rfl
 have cp:Tryz.prog.cellsOf 23=1:=by kernel_rfl
 have up:Tryz.prog.underlying 23=some (.slice 39):=by kernel_rfl
 have cp5:Tryz.prog.cellsOf 39=5:=by kernel_rfl
 obtain⟨y0,h0⟩:=hf 0 _ rfl
 obtain⟨y1,h1⟩:=hf 1 _ rfl
 dsimp only at h0 h1
 rw [Ao]at h0
 rw [cp]at h1
 obtain⟨globals,r0⟩:=uv h0
 obtain⟨procs,r1,hp⟩:=mD (W:=W) bV (fun f=>Sm.sQ f.body) up cp5 (by decide) (fun _=>rfl) (fun k hk cs x hx=>SP hx) h1
 refine⟨⟨globals,procs⟩, ?_,hp⟩
 have:=r0.at (r1.at (ea.end (by rw [hl,hc])))
 simpa [bP]using this
end
end Go.Abs

/-! Join5 -/

namespace Go.Abs
open Go.Proofs Go.ChangeShapes Go.WideShapes Go.ChangeAt Go.RowKit
theorem Bm {H:Type} {enc:TypeId×Value→H} {P:Program} {W:World} {sp:Nat→Bool} {t:TypeId} {ts:List TypeId} {ps:List MemPlace} : ∀ {l:List Value} {ds:List (DataW H)},DataW.TrodAll enc P W 0 sp true (t::ts) l ds ps→
 ∃ v l' d lK p q,l=v::l'∧ds=d::lK∧DataW.Trod enc P W 0 sp true t v d p∧DataW.TrodAll enc P W 0 sp true ts l' lK q
 | v::l,d::ds,⟨p,q,h1,h2,e⟩=>⟨v,l,d,ds,p,q,rfl,rfl,h1,h2⟩
 | [],[],h=>h.elim
 | [],_::_,h=>h.elim
 | _::_,[],h=>h.elim
theorem MN {H:Type} {enc:TypeId×Value→H} {P:Program} {W:World} {sp:Nat→Bool} {ps:List MemPlace} : ∀ {l:List Value} {ds:List (DataW H)},DataW.TrodAll enc P W 0 sp true [] l ds ps→l = []∧ds = []
 | [],[],_=>⟨rfl,rfl⟩
 | [],_::_,h=>h.elim
 | _::_,ds,h=>by cases ds <;> exact h.elim
end Go.Abs

/-! TouchAll -/

namespace Go.Proofs.YthecipohmaannaaGreat.touchAll
open Go.ChangeShapes Go.WideShapes Go.ChangeAt Go.RowKit Go.Abs
theorem own:ownKnob Tryz.prog.godebug=none:=by kernel_rfl
theorem kids:Kids Tryz.prog (· < Tryz.prog.types.size):=kids_rows (by kernel_rfl) (by kernel_rfl)
theorem full : ∀ {t e:TypeId},t<Tryz.prog.types.size→Tryz.prog.underlying t=some (.slice e)→0<Tryz.prog.cellsOf e:=fun {t e}=>slices_full_of Tryz.prog (by kernel_rfl) t e
theorem walk (w:World) (x0:Pg) (vt:x0.oJ) (v0:Value) (SR:RD (wv w) S0 (.agg (bP x0)) v0) (x1:Int):Calls Tryz.prog 3 #[v0, .int .i64 x1] w fun e w'=>e = .returned (.bool true)∧Kept w w':=by
 refine PK (args:= [.agg (bP x0), .int .i64 x1]) ((DT x0 x1 S0).mono fun _ _ h=>h.1) rfl ?_ (fun _ _ h=>nomatch h)
 intro i d v h1 h2
 match i,h1,h2 with
 | 0,h1,h2=>simp at h1 h2;subst h1 h2;exact SR
 | 1,h1,h2=>simp at h1 h2;subst h1 h2;exact RD.int _ _
set_option maxRecDepth 100000 in
theorem lifted (os : Os) (started : os.Started) (H : Type) (enc : TypeId × Value → H) :
   ReturnsInHanded {} Tryz.checked os 3 .any (Rows.touchAllSpec.pre6 enc Tryz.prog Tryz.f3 Rows.touchAllRow.domain false) (Rows.touchAllSpec.post enc Tryz.prog Tryz.f3 false true false false) := by
 refine returnsInHanded_of_change (C := Tryz.checked) own started (by kernel_rfl) Tryz.func3
   (ChangeSpec.witness6 (enc := enc) (C := Tryz.checked) false ⟨#[], #[.agg #[.slice none 0 0, .slice none 0 0], .int .i64 0], []⟩ 8 (by kernel_rfl) (by kernel_rfl) (by kernel_rfl) (by kernel_rfl)) ?_
 intro W base args ds gs before VA hW j5 _
 have o8 : ∀ (j : Nat) t v, Tryz.f3.params[j]? = some t → args[j]? = some v → Value.okWide Tryz.prog W .any base t v := VA
 have SF := hW
 obtain ⟨p, q, SS, hV, rfl, hfz, hnd⟩ := hW
 have hA : DataW.TrodAll enc Tryz.prog W 0 (fun _ => true) true Tryz.f3.params.toList args.toList ds p := SS
 rw [Tryz.params3] at hA o8
 obtain ⟨l⟩ := args
 obtain ⟨v0, l0, d0, VK, p0, q0, e0, Wo, AT, SS⟩ := Bm hA
 obtain ⟨v1, l1, d1, ds1, p1, q1, e1, e1d, Oj, hA1⟩ := Bm SS
 obtain ⟨en, end_⟩ := MN hA1
 have el : l = [v0, v1] := by rw [show l = _ from e0, e1, en]
 subst el
 have ed : ds = [d0, d1] := by rw [Wo, e1d, end_]
 clear Wo
 subst ed
 have hpg : ∀ (i : Nat) (v : Value), Tryz.f3.params[i]? = some 25 → (⟨[v0, v1]⟩ : Array Value)[i]? = some v → ∀ {d ps}, DataW.Trod enc Tryz.prog W 0 (fun _ => true) true 25 v d ps → ∃ x : Pg, RD (wv W) S0 (.agg (bP x)) v ∧ x.oJ := by
   intro i v hp hv d ps ⟨fuel, hf⟩
   obtain ⟨y, h1, h2⟩ := SQ hf
   obtain ⟨fs, q4⟩ := BQ (P := Tryz.prog) (t := 25) (l := [(22, 0), (23, 1)]) (by kernel_rfl) (by simp)
   obtain ⟨cs, e, _⟩ := okWide_struct q4 (o8 i 25 v (by rw [← Tryz.params3]; exact hp) hv)
   exact ⟨y, h1.agg ⟨cs, e⟩, h2⟩
 obtain ⟨x0, SR, vt⟩ := hpg 0 v0 (by rw [Tryz.params3]; rfl) rfl AT
 obtain ⟨x1, rfl, rfl, rfl, hi1⟩ := open_int Tryz.underlying3 (o8 1 _ _ rfl rfl) Oj
 obtain ⟨rfl, rfl⟩ := trodVars_none hV
 refine (walk W x0 vt v0 SR x1).mono fun e W' ⟨he, hg⟩ => ?_
 subst he
 exact ⟨_, rfl, MM kids full (by rw [Tryz.params3]; decide) Tryz.underlying4 (by kernel_rfl) rfl SF rfl hg⟩
theorem over:Rows.touchAllRow.holds Tryz.pinned (OpenSpec.ofChange Rows.touchAllSpec):=
 OpenClaim.holds_of_wide 3 Tryz.f3 rfl rfl rfl rfl rfl rfl rfl ⟨rfl,rfl,rfl,rfl,rfl⟩ rfl rfl rfl rfl rfl (by kernel_rfl) Tryz.func3 (by kernel_rfl)
  (of_decide_eq_true (by kernel_rfl)) (by unfold Func.isWrapper;first | (rw [if_pos (by decide +kernel)];kernel_rfl) | (rw [if_neg (by decide +kernel)];exact⟨rfl,rfl⟩))
  (fun os started H enc _=>lifted os started H enc)
theorem proved:Rows.TouchAllSaid:=
 over
#print axioms proved
end Go.Proofs.YthecipohmaannaaGreat.touchAll
