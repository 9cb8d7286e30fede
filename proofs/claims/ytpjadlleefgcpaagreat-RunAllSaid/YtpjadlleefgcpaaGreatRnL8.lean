/-
  What is proved here: part 8 of the road to the claim (R12R, R12S, R12T, R12U, R12V, R12W, RunC9, OwnF, R12X, RunL0, RunL1, LawRua, Glue2, Join, Binds1, Join2, Join3, Join4, Join5).
  No conditions.
-/
import Derived.Test.YtpjadlleefgcpaaGreatRnL7
import Derived.RowKit3
import Derived.WalkKit
import Derived.ProofKit
import Derived.OpenShut
import Derived.ShutString
import Derived.ChangeMaps5
import Derived.ChangeStays
import Derived.KernelRfl

set_option linter.unusedSimpArgs false
set_option linter.unusedVariables false
namespace Go.Abs
open Go.Proofs
abbrev qW (q:Pc) (at_:Int) (t2:Nat) (N:List aF) (C:List Nat):List D:=
 [.slice .shared 16 (q.flat.map dn), .slice .shared 1 (q.fin.map encStr), .int .i64 at_, .slice (.tok t2) 1 (N.map encStr), .slice (.tok (t2+1)) 1 (C.map fun c:Nat=>bD (c:Int))]
structure o5 (p:Pg) (T W:List Int) (fuel:Int) (y:Ly) (a:Int) (m:Mc) (loc:List (Nat×List D)) (q:Pc) (at_:Int) (n t2:Nat) (N:List aF) (C:List Nat) (s:St):Prop where
 inv:fj p T W fuel y a m ((n,qW q at_ t2 N C)::loc) s
 nl : ∀ x∈loc,x.1≠n
 two:2≤t2
 tn:s.ay[t2]? = some (some N.length)
 tc:s.ay[t2+1]? = some (some C.length)
section
variable {p:Pg} {T W:List Int} {fuel:Int} {y:Ly} {a:Int} {m:Mc} {loc:List (Nat×List D)} {q:Pc} {at_:Int} {n t2:Nat} {N:List aF} {C:List Nat} {s:St}
theorem fj.tk (h:fj p T W fuel y a m loc s) {ts:List (Option Nat)} (k0:ts[0]? = s.ay[0]?) (k1:ts[1]? = s.ay[1]?):fj p T W fuel y a m loc ⟨s.aq,ts⟩:=h.keep (fun _ _ e=>e) k0 k1
theorem o5.name (h:o5 p T W fuel y a m loc q at_ n t2 N C s) (x:aF):o5 p T W fuel y a m loc q at_ n t2 (N++ [x]) C ⟨s.aq.set n (qW q at_ t2 (N++ [x]) C),s.ay.set t2 (some (N.length+1))⟩:=by
 have h2:=h.two
 refine⟨(h.inv.qB (r':=qW q at_ t2 (N++ [x]) C) h.nl).tk (zam (by omega)) (zam (by omega)),h.nl,h2, ?_, ?_⟩
 ·simp[(zac.1 h.tn).1]
 ·show(s.ay.set _ _)[_]? = _
  rw[zam (by omega)];exact h.tc
theorem o5.cell (h:o5 p T W fuel y a m loc q at_ n t2 N C s) (c:Nat):o5 p T W fuel y a m loc q at_ n t2 N (C++ [c]) ⟨s.aq.set n (qW q at_ t2 N (C++ [c])),s.ay.set (t2+1) (some (C.length+1))⟩:=by
 have h2:=h.two
 refine⟨(h.inv.qB (r':=qW q at_ t2 N (C++ [c])) h.nl).tk (zam (by omega)) (zam (by omega)),h.nl,h2, ?_, ?_⟩
 ·show(s.ay.set _ _)[_]? = _
  rw[zam (by omega)];exact h.tn
 ·simp[(zac.1 h.tc).1]
theorem o5.new (h:o5 p T W fuel y a m loc q at_ n t2 N C s) (row:List D):o5 p T W fuel y a m loc q at_ n t2 N C ⟨s.aq++ [row],s.ay⟩:=
 ⟨(h.inv.new row).sub fun _ mq=>zan _ mq,h.nl,h.two,h.tn,h.tc⟩
theorem o5.IY (h:o5 p T W fuel y a m loc q at_ n t2 N C s) (v:Int):o5 p T W fuel {y with gm:=y.gm+1,more:= []} a {m with mem:=m.mem++ [v]} loc q at_ n t2 N C
 ⟨(s.aq.set y.mo (.int .i64 ((y.gm+1:Nat):Int)::(m.mem.map kl++ [.int .i64 v]))).set y.c (gb p T W fuel {y with gm:=y.gm+1,more:= []} {m with mem:=m.mem++ [v]}),s.ay⟩:=
 ⟨h.inv.IY v,h.nl,h.two,h.tn,h.tc⟩
theorem o5.row (h:o5 p T W fuel y a m loc q at_ n t2 N C s):s.aq[n]? = some (qW q at_ t2 N C):=(h.inv.loc (n,_) (zaA ..)).1
theorem o5.ahf (h:o5 p T W fuel y a m loc q at_ n t2 N C s) (x:aF) (hN:N.length<10000000) (os:List (List D)) :
 fH 1 16 (.slice (.tok t2) 1 (N.map encStr)) (.slice .full 1 [[.str x]]) ⟨os,s.ay⟩=some (.slice (.tok t2) 1 (N.map encStr++ [[.str x]]),⟨os,s.ay.set t2 (some (N.length+1))⟩):=by
 rw[kB (size:=1) (by simp only[zaw,zaK];unfold aV;omega) (by simpa using h.tn)]
 simp
theorem fj.ahg (h:fj p T W fuel y a m loc s) (v:Int) (hm:m.mem.length<1000000000):AH 1 8 (.dM 1 y.mo y.gm m.mem.length) (.slice .full 1 [[.int .i64 v]]) s =
 some (.dM 1 y.mo (y.gm+1) (m.mem.length+1),⟨s.aq.set y.mo (.int .i64 ((y.gm+1:Nat):Int)::(m.mem.map kl++ [.int .i64 v])),s.ay⟩):=
 Bs h.mem (by simp) (by unfold aV;omega)
theorem fj.push {yy:Fr} {s':St} {f':Nat} {g':Nat} {Li:List D} (h:fj p T W fuel y a m loc s) (Be:yy.call=a) (rn:(y.fs = .ek 5∧m.st = []∧f'=s.aq.length)∨(∃ g more,y.fs = .dM 5 f' g m.st.length∧s.aq[f']? = some (.int .i64 ((g:Nat):Int)::(iu p a m.st++more))))
 (e1:s'.aq[y.c]? = some (gb p T W fuel {y with fs:= .dM 5 f' g' (m.st.length+1)} {m with st:=yy::m.st})) (e2:s'.aq[f']? = some (.int .i64 ((g':Nat):Int)::(iu p a m.st++zi p at_ yy))) (k0:s'.ay[0]? = s.ay[0]?) (k1:s'.ay[1]? = s.ay[1]?)
 (k : ∀ (q:Nat) (r:List D),s.aq[q]? = some r→q≠y.c→q≠f'→s'.aq[q]? = some r):fj p T W fuel {y with fs:= .dM 5 f' g' (m.st.length+1)} at_ {m with st:=yy::m.st} loc s':=by
 have zN:=h.own
 have hmo:y.mo≠f':=by
  rcases rn with ⟨_,_,e⟩|⟨g,more,e,_⟩
  ·have:=df h.mem;omega
  ·exact Ne.symm (h.wK f' (by rw[e];simp[D.arr])).2
 have rW:y.c≠f':=by
  rcases rn with ⟨_,_,e⟩|⟨g,more,e,_⟩
  ·have:=df h.eW;omega
  ·exact Ne.symm (h.wK f' (by rw[e];simp[D.arr])).1
 refine h.Qf e1 (by rw[k0];exact h.t0) (by rw[k1];exact h.t1) (k _ _ h.mem (Ne.symm h.yD) hmo) (.inr ⟨f',g',[],rfl, ?_⟩) ?_ (fun o mo=>?_) fun q r e hq=>?_
 ·rw[e2,zaI,iu,Be]
 ·simp only [Ly.own,D.arr]
  rw[za4,za4]
  refine⟨?_,by simpa using hmo,by simp⟩
  simp only[zap,List.not_mem_nil,or_false,not_or]
  exact⟨h.yD,rW⟩
 ·simp only [Ly.own,D.arr,zap,List.not_mem_nil,or_false]at mo
  rcases mo with rfl|rfl|rfl
  ·left;simp[Ly.own]
  ·left;simp[Ly.own]
  ·rcases rn with ⟨_,_,e⟩ | ⟨g,more,e,_⟩
   ·right;omega
   ·left;rw[Ly.own,e];simp[D.arr]
 ·refine k q r e (fun e'=>hq (by rw [e'];simp [Ly.own])) fun e'=> ?_
  rcases rn with ⟨_,_,e2⟩|⟨g,more,e2,_⟩
  ·have:=df e;omega
  ·exact hq (by rw[e',Ly.own,e2];simp[D.arr])
def jY (cell:aF→Nat):List Ar→List Int→List Nat×List Int→List Nat×List Int
 |a::l,v::vs,r=>if a.ref then jY cell l vs (r.1++ [cell a.name],r.2)else jY cell l vs (r.1++ [r.2.length],r.2++ [v])
 |_,_,r=>r
end
end Go.Abs
namespace Go.Abs
set_option maxRecDepth 8000
open Go.Proofs
section
variable {p:Pg} {T W:List Int} {fuel:Int} {y:Ly} {a:Int} {m:Mc} {loc:List (Nat×List D)} {s:St}
structure Ec (p:Pg) (m:Mc) (q:Pc) (j:Nat) (name:aF) (args:List Ar) (vs:List Int):Prop where
 at_:p.procs[j]? = some q
 find:p.find name=some q
 procs:p.procs.length<1000000
 rJ:p.globals.length<1000000
 par:q.params.length<1000000
 vars:q.vars.length<1000000
 mem:m.mem.length<100000000
 st:m.st.length<1000000
 aqL:q.flat.length≤1000
 flat:Sm.bq q.body<4611686018427387000
 head:sC 0 false (-1) q.flat=eD q.body (-1)
 l1:args.length=q.params.length
 l2:vs.length=q.params.length
 refs : ∀ (i:Nat) (x:Pm) (b:Ar),q.params[i]? = some x→args[i]? = some b→x.ref=b.ref
 cells : ∀ b∈args,b.ref=true→∃ fr r k,tX p m fr r∧sa fr b.name k
theorem Km (h:fj p T W fuel y a m loc s) {q:Pc} {j:Nat} {name:aF} {args:List Ar} {vs:List Int} (hE:Ec p m q j name args vs) {Cf:List Nat} {Mf:List Int} (hc:jY m.cell args vs (List.range p.globals.length,m.mem)=(Cf,Mf)) (hb:Cf.length<3000000∧Mf.length<300000000) :
 bp Tryz.prog 51 [.ptr y.c 0, .str name, .slice .shared 6 (args.map dE), .slice .shared 1 (vs.map bD)] s (fun d s'=>d = .tuple []∧∃ y',y'.c=y.c∧
  fj p T W fuel y' (eD q.body (-1)) {m with st:=⟨(j:Int),p.globals++(q.params.map (·.name))++q.vars,Cf++(List.range q.vars.length).map (Mf.length + ·),a⟩::m.st,mem:=Mf++List.replicate q.vars.length 0} loc s'):=by
 obtain⟨e1,e2,e3,e4,e5,e6,e7,ahh,e8,e9,e10,e11,e12,e13,e14⟩:=hE
 have hm:=h.eW
 have hl:=df hm
 have cP:=fun s=>adk (p:=p) (by omega) name s
 rw[e2]at cP
 simp only[zbh]at cP
 have cF:=fun s=>xg (f:=q) e9 s
 have cI:=fun s=>I4 (l:=q.flat) (by omega) 0 false (-1) s
 rw[e10]at cI
 have Gp : ∀ (N:List aF) (C:List Nat),fi p ⟨(j:Int),N,C,a⟩=q:=fun N C=>by unfold fi;rw[zaQ,e1];rfl
 obtain⟨AT,hAT⟩ : ∃ AT,eD q.body (-1)=AT:=⟨_,rfl⟩
 rw[hAT]at cI ⊢
 have h1:=(h.new (bN q)).new [.slice .shared 16 (q.flat.map dn), .slice .shared 1 (q.fin.map encStr), .int .i64 0, .slice .full 0 [], .slice .full 0 []]
 simp only[zaj,zaK]at h1
 obtain⟨n,hn⟩ : ∃ n,s.aq.length=n:=⟨_,rfl⟩
 obtain⟨tk,pP⟩ : ∃ tk,s.ay.length=tk:=⟨_,rfl⟩
 have FN:2≤tk:=by rw[← pP];exact(zac.1 h.t1).1
 rw[hn]at h1
 refine bp.up ?_
 refine bp.iY gk.h rfl fun B Q hB hQ=>?_
 have⟨hD,hY,hZ,gC⟩:=bb
 have hlc : ∀ x∈((n,bN q)::loc),x.1≠n+1:=fun x mx=>by
  rcases zap.1 mx with rfl|mx
  ·simp
  ·have:=df (h.loc x mx).1;omega
 -- the variables, the end
 have aj1 : ∀ (rest:List aF) (k:Nat) (y1:Ly) (m1:Mc) (N0:List aF) (C:List Nat) (s1:St),q.vars.drop k=rest→k≤q.vars.length→N0=p.globals++(q.params.map (·.name))++q.vars.take k→o5 p T W fuel y1 a m1 ((n,bN q)::loc) q AT (n+1) tk N0 C s1→y1.c=y.c→y1.fs=y.fs→
  m1 = {m with mem:=Mf++List.replicate k 0}→C=Cf++(List.range k).map (Mf.length + ·)→
  aN Tryz.prog B 178 Q0G (fX 6 (kA (jJ Tryz.prog B 178 Q0H Q) Q)) [(0, .ptr y1.c 0),(9, .ptr (n+1) 0),(136, .slice .shared 1 (q.vars.map encStr)),(137, .int .i64 (q.vars.length:Int)),(138, .int .i64 (k:Int))] s1:=by
  intro rest
  induction rest with
  | nil=>
   intro k y1 m1 N0 C s1 hd HF hN h2 EL NZ jq hC
   have hD:=drop_nil hd
   have hk:k=q.vars.length:=by have:=zaP.1 hd;omega
   subst hk
   rw[List.take_length]at hN
   have r2:=h2.row
   have xT:=h2.inv.eW
   have hX2:=df xT
   have lG : ∀ (fo:Nat) (r:List D),s1.aq[fo]? = some r→fo≠y1.c→fo≠n+1→True:=fun _ _ _ _ _=>trivial
   have aj2 : ∀ x∈loc,x∈((n+1,qW q AT tk N0 C)::(n,bN q)::loc):=fun x mx=>zan _ (zan _ mx)
   have ahl:jh (qW q AT tk N0 C) (zi p AT ⟨(j:Int),N0,C,a⟩):=by
    unfold zi
    rw[Gp]
    exact .cons (Wk.refl _) (.cons (Wk.refl _) (.cons (Wk.refl _) (.cons (Wk.shared _ _ _) (.cons (Wk.shared _ _ _) .nil))))
   have NV:m1.st=m.st:=by rw[jq]
   have N1 : ∀ y2 s2,y2.c=y1.c→fj p T W fuel y2 AT {m1 with st:=⟨(j:Int),N0,C,a⟩::m1.st} ((n+1,qW q AT tk N0 C)::(n,bN q)::loc) s2→
    ∃ y',y'.c=y.c∧fj p T W fuel y' AT {m with st:=⟨(j:Int),p.globals++(q.params.map (·.name))++q.vars,Cf++(List.range q.vars.length).map (Mf.length + ·),a⟩::m.st,mem:=Mf++List.replicate q.vars.length 0} loc s2:=fun y2 s2 hy h9=>by
    refine⟨y2,hy.trans EL, ?_⟩
    have h9:=h9.sub aj2
    rw[hN,hC,jq]at h9
    exact h9
   rcases h2.inv.fr with ⟨Qh,Wx⟩|⟨fo,g,more,Qh,eo⟩
   ·have dd:=Fh (z:=5) (bytes:=104) .full (qW q AT tk N0 C) s1 (by unfold aV;omega)
    have ve : ∀ r:List D,(s1.aq++ [r])[y1.c]? = s1.aq[y1.c]? :=fun r=>zak hX2
    obtain⟨nn,Z7⟩ : ∃ nn,s1.aq.length=nn:=⟨_,rfl⟩
    have eO:nn≠y1.c:=by omega
    have Lj:=h2.inv.push (at_:=AT) (yy:=⟨(j:Int),N0,C,a⟩) (f':=nn) (g':=0) (Li:= []) (s':=⟨((s1.aq++ [.int .i64 ((0:Nat):Int)::qW q AT tk N0 C]).set y1.c (gb p T W fuel {y1 with fs:= .dM 5 nn 0 1} m1)).set nn (.int .i64 ((0:Nat):Int)::zi p AT ⟨(j:Int),N0,C,a⟩),s1.ay⟩) rfl (.inl ⟨Qh,Wx,Z7.symm⟩)
     (by rw [Wx];show(List.set _ _ _)[_]? = _;rw [zam eO,zaM (by rw [zaj];omega)];rfl) (by rw [Wx];show(List.set _ _ _)[_]? = _;simp [iu, ← Z7]) rfl rfl (fun o r e h3 h4=>by
      show(List.set _ _ _)[_]? = _
      rw[zam (Ne.symm h4),zam (Ne.symm h3),zak (df e)];exact e)
    rw[Wx]at Lj
    obtain⟨y',hy1,qS⟩:=N1 {y1 with fs:= .dM 5 nn 0 1} _ rfl (by rw[Wx];exact Lj)
    subst Z7
    generalize rR:(St.mk _ s1.ay)=s2 at qS
    simp only[qW,gb,Qh,bD]at xT dd r2
    refine aN.fJ ?_
    repeat' (first
 |simp only[go_sem,hD,hY,hZ,gC,r2,xT,dd,ve]
 | (with_reducible refine ax hQ ?_;exact aB))
    (refine dG hQ ?_;simp only[bF,bG,bZ,cb,go_sem])
    refine⟨.tuple [],s2,Wk.refl _, ?_,by rw[← rR],rfl,y',hy1,qS⟩
    rw[← rR]
    exact ie.setAt (r:= .int .i64 ((0:Nat):Int)::qW q AT tk N0 C) (by rw[zam (Ne.symm eO)];simp[bD]) (.cons (Wk.refl _) ahl)
   ·have fx:=rk p a m1.st
    have dd:=Bs (t:= .full) (z:=5) (bytes:=104) (r:=qW q AT tk N0 C) (len:=m1.st.length) (more:=more) eo fx (by rw[NV];unfold aV;omega)
    have eO:=h2.inv.wK fo (by rw[Qh];simp[D.arr])
    have ahn:=df eo
    have ve : ∀ r:List D,(s1.aq.set fo r)[y1.c]? = s1.aq[y1.c]? :=fun r=>zam eO.1
    have Lj:=h2.inv.push (at_:=AT) (yy:=⟨(j:Int),N0,C,a⟩) (f':=fo) (g':=g+1) (Li:= []) (s':=⟨((s1.aq.set fo (.int .i64 ((g+1:Nat):Int)::(iu p a m1.st++qW q AT tk N0 C))).set y1.c (gb p T W fuel {y1 with fs:= .dM 5 fo (g+1) (m1.st.length+1)} m1)).set fo (.int .i64 ((g+1:Nat):Int)::(iu p a m1.st++zi p AT ⟨(j:Int),N0,C,a⟩)),s1.ay⟩) rfl (.inr ⟨g,more,Qh,eo⟩)
     (by show(List.set _ _ _)[_]? = _;rw [zam eO.1,zaM (by rw [zbr];exact hX2)]) (by show(List.set _ _ _)[_]? = _;rw [zaM (by rw [zbr,zbr];exact ahn)]) rfl rfl (fun o r e h3 h4=>by
      show(List.set _ _ _)[_]? = _
      rw[zam (Ne.symm h4),zam (Ne.symm h3),zam (Ne.symm h4)];exact e)
    obtain⟨y',hy1,qS⟩:=N1 {y1 with fs:= .dM 5 fo (g+1) (m1.st.length+1)} _ rfl Lj
    generalize rR:(St.mk _ s1.ay)=s2 at qS
    simp only[qW,gb,Qh,bD]at xT dd r2
    refine aN.fJ ?_
    repeat' (first
 |simp only[go_sem,hD,hY,hZ,gC,r2,xT,dd,ve]
 | (with_reducible refine ax hQ ?_;exact aB))
    (refine dG hQ ?_;simp only[bF,bG,bZ,cb,go_sem])
    refine⟨.tuple [],s2,Wk.refl _, ?_,by rw[← rR],rfl,y',hy1,qS⟩
    rw[← rR]
    exact ie.setAt (r:= .int .i64 ((g+1:Nat):Int)::(iu p a m1.st++qW q AT tk N0 C)) (by rw[zam (Ne.symm eO.1)];simp[ahn,bD]) (.cons (Wk.refl _) (jh.append (jh.refl _) ahl))
  |cons v rest ih=>
   intro k y1 m1 N0 C s1 hd HF hN h2 EL NZ jq hC
   obtain⟨hY,g2,hD,g4⟩:=drop_cons hd
   have aZ:k<4611686018427387904:=by omega
   have PN:N0.length<10000000:=by rw[hN];simp;omega
   have hCl:C.length<10000000:=by rw[hC];simp;omega
   have hMl:m1.mem.length<1000000000:=by rw[jq];simp;omega
   have h3:=h2.name v
   have h4:=h3.cell m1.mem.length
   have h5:=h4.IY 0
   have a1:=fun os=>h2.ahf v PN os
   have a2:=h3.tc
   have a2r:(C.length+1)*9≤aV:=by unfold aV;omega
   have a3:=h4.inv.ahg 0 hMl
   have r2:=h2.row
   have xT:=h2.inv.eW
   have HI:=h4.inv.eW
   have hX4:=df HI
   have Wy:=df r2
   have BM:=h4.inv.yD
   have xv : ∀ (X:List (List D)) (r:List D),(X.set y1.mo r)[y1.c]? = X[y1.c]? :=fun X r=>zam (Ne.symm BM)
   have gs : ∀ (r:List D),(s1.aq.set (n+1) r)[n+1]? = some r:=fun r=>zaM Wy
   simp only[zbz,qW,zag,zaf,zai,encStr,bD,gb,zaj,zat,zaD,zaZ]at h5 a2 a3 xT HI hX4
   refine aN.fJ ?_
   repeat' (first
 |simp only[go_sem,hD,hY,hZ,gC,r2,xT,a1,a2,a2r,gs,HI,hX4,a3,xv,zbz]
 | (with_reducible refine ax hQ ?_;exact aB))
   refine aN.jx ?_ (ih (k+1) {y1 with gm:=y1.gm+1,more:= []} {m1 with mem:=m1.mem++ [0]} (N0++ [v]) (C++ [m1.mem.length]) _ g2 g4 (by rw[hN,zaB, ← yi hY]) h5 EL NZ (by rw[jq];simp[List.replicate_succ']) (by rw[hC,jq,zbZ];simp))
   simp only[go_sem,aw aZ]
   repeat' (first|exact Ok.out|with_reducible refine ei ?_ ?_)
 -- the parameters
 have aj3 : ∀ (rp:List Pm) (ra:List Ar) (rv:List Int) (k:Nat) (y1:Ly) (m1:Mc) (N0:List aF) (C:List Nat) (s1:St),q.params.drop k=rp→args.drop k=ra→vs.drop k=rv→k≤q.params.length→N0=p.globals++(q.params.take k).map (·.name)→o5 p T W fuel y1 a m1 ((n,bN q)::loc) q AT (n+1) tk N0 C s1→y1.c=y.c→y1.fs=y.fs→
  m1 = {m with mem:=m1.mem}→m.mem.length≤m1.mem.length→jY m.cell ra rv (C,m1.mem)=(Cf,Mf)→C.length≤p.globals.length+k→m1.mem.length≤m.mem.length+k→
  aN Tryz.prog B 178 Q0E (fX 2 (kA (jJ Tryz.prog B 178 Q0F Q) Q)) [(0, .ptr y1.c 0),(2, .slice .shared 6 (args.map dE)),(3, .slice .shared 1 (vs.map bD)),(8, .ptr n 0),(9, .ptr (n+1) 0),(58, .slice .shared 2 (q.params.map fz)),(59, .int .i64 (q.params.length:Int)),(60, .int .i64 (k:Int))] s1:=by
  intro rp
  induction rp with
  |nil=>
   intro ra rv k y1 m1 N0 C s1 hdp hda hdv HF hN h2 EL NZ jq hml nQ hCl hMl
   have hD:=drop_nil hdp
   have hk:k=q.params.length:=by have:=zaP.1 hdp;omega
   have Qi:ra = []:=by rw[← hda];exact zb1 (by omega)
   have hrv:rv = []:=by rw[← hdv];exact zb1 (by omega)
   subst Qi hrv
   have nQ:(C,m1.mem)=(Cf,Mf):=nQ
   simp only[Prod.mk.injEq]at nQ
   obtain⟨rfl,hMf⟩:=nQ
   rw[hk,List.take_length]at hN
   have r0:=(h2.inv.loc (n,bN q) (by simp)).1
   have Wf:bN q = [.str q.name, .slice .shared 2 (q.params.map fz), .slice .shared 1 (q.vars.map encStr), .slice .shared 13 (q.body.map aY), .slice .shared 1 (q.fin.map encStr)]:=rfl
   simp only[Wf]at r0
   have l3:=aj1 q.vars 0 y1 m1 N0 C s1 rfl (zaz _) (by rw[hN];simp) h2 EL NZ (by rw[jq];simp[hMf]) (by simp)
   refine aN.fJ ?_
   repeat' (first
 |simp only[go_sem,hD,hY,hZ,gC,r0]
 | (with_reducible refine ax hQ ?_;exact aB))
   refine aN.jx ?_ l3
   simp only[go_sem]
   repeat' (first|exact Ok.out|with_reducible refine ei ?_ ?_)
  | cons x rp ih=>
   intro ra rv k y1 m1 N0 C s1 hdp hda hdv HF hN h2 EL NZ jq hml nQ hCl hMl
   obtain⟨hY,gp,hD,g4⟩:=drop_cons hdp
   have aZ:k<4611686018427387904:=by omega
   obtain⟨b,ra',Qi⟩ : ∃ b l,ra=b::l:=by
    cases ra with
    |nil=>have:=zaP.1 hda;omega
    |cons b l=>exact⟨b,l,rfl⟩
   obtain⟨v,rv',hrv⟩ : ∃ v l,rv=v::l:=by
    cases rv with
    |nil=>have:=zaP.1 hdv;omega
    |cons v l=>exact⟨v,l,rfl⟩
   subst Qi hrv
   obtain⟨ym,ga,_,_⟩:=drop_cons hda
   obtain⟨hgv,gv,_,_⟩:=drop_cons hdv
   have ahs:=e13 k x b hY ym
   have PN:N0.length<10000000:=by rw[hN];simp;omega
   have arw:C.length<10000000:=by omega
   have ank:m1.mem.length<1000000000:=by omega
   have h3:=h2.new (fz x)
   have h4:=h3.name x.name
   have Jx:fz x = [.str x.name, .bool x.ref]:=rfl
   have hN':N0++ [x.name] = p.globals++(q.params.take (k+1)).map (·.name):=by
    rw[hN,List.take_add_one,hY];simp
   have r2:=h3.row
   have tN:=h3.tn
   have tC:=h4.tc
   have rN:(N0.length+1)*17≤aV:=by unfold aV;omega
   have rC:(C.length+1)*9≤aV:=by unfold aV;omega
   have Wy:=df r2
   have gs : ∀ (r:List D),((s1.aq++ [fz x]).set (n+1) r)[n+1]? = some r:=fun r=>zaM Wy
   have Jp:n+1<s1.aq.length:=df h2.row
   have gx : ∀ (r:List D),((s1.aq++ [fz x]).set (n+1) r)[s1.aq.length]? = some (fz x):=fun r=>by rw[zam (by omega)];simp
   have gx0:(s1.aq++ [fz x])[s1.aq.length]? = some (fz x):=by simp
   simp only[jY]at nQ
   rcases zaa b.ref with br|br
   ·rw [if_pos br]at nQ
    have xr:x.ref=true:=by rw[ahs,br]
    obtain⟨fr,r,kc,hF,hNm⟩:=e14 b (zad ym) br
    have Ap:=hNm.cell (m:=m) (by unfold Mc.top;rw[hF.st];rfl)
    obtain⟨jj,hj,rz⟩:=hNm
    obtain⟨fo,g,more,ht⟩:=h4.inv.BD (fr:=fr) (r:=r) (by rw[jq];exact hF.st)
    have c1:=sO h4.inv ht hF.len
    have h5:=h4.cell kc
    have gE:=ht.at_
    have q3:=ht.c3
    have q4:=ht.c4
    have HI:=h4.inv.eW
    have wi:=hF.names
    rw[Ap]at nQ
    simp only[zbz,qW,zag,zaf,zai,encStr,bD,gb,Jx,xr,zaj,zat,zaD,zaZ,zbr]at h5 HI r2 tN tC gs gx gx0 gE c1 q4
    refine aN.fJ ?_
    repeat' (first
 |simp only[go_sem,hD,hY,hZ,gC,r2,Jx,xr,tN,tC,rN,rC,gs,gx,gx0,HI,gE,q3,jD,jE,zbz]
 |(with_reducible refine CU (c1) ?_)
 | (with_reducible refine ax hQ ?_;exact aB))
    refine aN.jx ?_ (aN.ind (ι:=List aF×Nat) (fun i=>fr.names.drop i.2=i.1∧fS b.name (i.2:Int) i.1=(jj:Int)) (fun i=>i.1.length)
     (fun i=> [(0, .ptr y1.c 0),(2, .slice .shared 6 (args.map dE)),(3, .slice .shared 1 (vs.map bD)),(8, .ptr n 0),(9, .ptr (n+1) 0),(12, .int .i64 (k:Int)),(14, .fC fo g (r.length*5)),(58, .slice .shared 2 (q.params.map fz)),(59, .int .i64 (q.params.length:Int)),(60, .int .i64 (k:Int)),(104, .int .i64 (fr.names.length:Int)),(105, .int .i64 (i.2:Int))])
     (fun _=>⟨(s1.aq++ [[D.str x.name,D.bool true]]).set (n+1) [.slice .shared 16 (q.flat.map dn), .slice .shared 1 (q.fin.map encStr), .int .i64 AT, .slice (.tok tk) 1 (N0.map encStr++ [[D.str x.name]]), .slice (.tok (tk+1)) 1 (C.map fun c:Nat=> [D.int .i64 (c:Int)])],s1.ay.set tk (some (N0.length+1))⟩) ?_ (fr.names,0) ⟨rfl,hj⟩)
    ·simp only [go_sem,zaw]
     repeat' (first|exact Ok.out|with_reducible refine ei ?_ ?_)
    rintro⟨rest,i⟩ ⟨j1,j2⟩ qM
    dsimp only at j1 j2
    cases rest with
    |nil=>simp[fS]at j2
    | cons nm rest=>
     obtain⟨fe,jd,iQ,j4⟩:=drop_cons j1
     have hki:i<4611686018427387904:=by omega
     by_cases Js:nm=b.name
     ·have b1:(nm==b.name)=true:=by simpa using Js
      have b2:(b.name==nm)=true:=by simpa using Js.symm
      simp only[fS,b2,if_true]at j2
      have:i=jj:=by omega
      subst this
      repeat' (first
 |simp only[go_sem,hD,hY,hZ,gC,fe,iQ,gE,q3,q4,ym,za3,b1,rz,gs,tC,rC,zbz]
 |(with_reducible refine ax hQ ?_;exact aB))
      refine aN.jx ?_ (ih ra' rv' (k+1) y1 m1 (N0++ [x.name]) (C++ [kc]) _ gp ga gv g4 hN' h5 EL NZ jq hml nQ (by simp;omega) (by omega))
      simp only[go_sem,aw aZ]
      repeat' (first|exact Ok.out|with_reducible refine ei ?_ ?_)
     ·have b1:(nm==b.name)=false:=by simpa using Js
      have b2:(b.name==nm)=false:=by simpa using fun c=>Js c.symm
      simp only[fS,b2,zab,if_false]at j2
      repeat' (first
 |simp only[go_sem,hD,hY,hZ,gC,fe,iQ,gE,q3,ym,za3,b1]
 | (with_reducible refine ax hQ ?_;exact aB))
      refine aN.jx ?_ (qM (rest,i+1) ⟨jd,by rw[show((i+1:Nat):Int)=(i:Int)+1 by omega];exact j2⟩ (zae _))
      simp only[go_sem,aw hki]
      repeat' (first|exact Ok.out|with_reducible refine ei ?_ ?_)
   ·rw [if_neg (by simp [br])]at nQ
    have xr:x.ref=false:=by rw[ahs,br]
    have h5:=h4.cell m1.mem.length
    have h6:=h5.IY v
    have a3:=h5.inv.ahg v ank
    have HI:=h4.inv.eW
    have hM5:=h5.inv.eW
    have hX5:=df hM5
    have BM:=h5.inv.yD
    have xv : ∀ (X:List (List D)) (r:List D),(X.set y1.mo r)[y1.c]? = X[y1.c]? :=fun X r=>zam (Ne.symm BM)
    simp only[zbz,qW,zag,zaf,zai,encStr,bD,gb,Jx,xr,zaj,zat,zaD,zaZ,zbr]at h6 a3 HI hM5 hX5 r2 tN tC gs gx gx0
    refine aN.fJ ?_
    repeat' (first
 |simp only[go_sem,hD,hY,hZ,gC,r2,Jx,xr,tN,tC,rN,rC,gs,gx,gx0,HI,hM5,hX5,a3,xv,hgv,za3,jD,jE,zbz]
 | (with_reducible refine ax hQ ?_;exact aB))
    refine aN.jx ?_ (ih ra' rv' (k+1) {y1 with gm:=y1.gm+1,more:= []} {m1 with mem:=m1.mem++ [v]} (N0++ [x.name]) (C++ [m1.mem.length]) _ gp ga gv g4 hN' h6 EL NZ (by rw[jq]) (by simp;omega) nQ (by simp;omega) (by simp;omega))
    simp only[go_sem,aw aZ]
    repeat' (first|exact Ok.out|with_reducible refine ei ?_ ?_)
 -- the globals
 have aj6 : ∀ (rest:List aF) (k:Nat) (N0:List aF) (C:List Nat) (s1:St),p.globals.drop k=rest→k≤p.globals.length→N0=p.globals.take k→C=List.range k→o5 p T W fuel y a m ((n,bN q)::loc) q AT (n+1) tk N0 C s1→
  aN Tryz.prog B 178 Q0C (fX 0 (kA (jJ Tryz.prog B 178 Q0D Q) Q)) [(0, .ptr y.c 0),(2, .slice .shared 6 (args.map dE)),(3, .slice .shared 1 (vs.map bD)),(8, .ptr n 0),(9, .ptr (n+1) 0),(37, .slice .shared 1 (p.globals.map encStr)),(38, .int .i64 (p.globals.length:Int)),(39, .int .i64 (k:Int))] s1:=by
  intro rest
  induction rest with
  |nil=>
   intro k N0 C s1 hd HF hN hC h2
   have hD:=drop_nil hd
   have hk:k=p.globals.length:=by have:=zaP.1 hd;omega
   subst hk
   rw[List.take_length]at hN
   have r0:=(h2.inv.loc (n,bN q) (by simp)).1
   have Wf:bN q = [.str q.name, .slice .shared 2 (q.params.map fz), .slice .shared 1 (q.vars.map encStr), .slice .shared 13 (q.body.map aY), .slice .shared 1 (q.fin.map encStr)]:=rfl
   simp only[Wf]at r0
   have l2:=aj3 q.params args vs 0 y m N0 C s1 rfl rfl rfl (zaz _) (by rw[hN];simp) h2 rfl rfl rfl (zal _) (by rw[hC];exact hc) (by rw[hC];simp) (by omega)
   refine aN.fJ ?_
   repeat' (first
 |simp only[go_sem,hD,hY,hZ,gC,r0]
 | (with_reducible refine ax hQ ?_;exact aB))
   refine aN.jx ?_ l2
   simp only[go_sem]
   repeat' (first|exact Ok.out|with_reducible refine ei ?_ ?_)
  |cons x rest ih=>
   intro k N0 C s1 hd HF hN hC h2
   obtain⟨hY,g2,hD,g4⟩:=drop_cons hd
   have aZ:k<4611686018427387904:=by omega
   have PN:N0.length<10000000:=by rw[hN];simp;omega
   have hCl:C.length<10000000:=by rw[hC];simp;omega
   have h3:=h2.name x
   have h4:=h3.cell k
   have a1:=fun os=>h2.ahf x PN os
   have tC:=h3.tc
   have rC:(C.length+1)*9≤aV:=by unfold aV;omega
   have r2:=h2.row
   have Wy:=df r2
   have gs : ∀ (r:List D),(s1.aq.set (n+1) r)[n+1]? = some r:=fun r=>zaM Wy
   simp only[zbz,qW,zag,zaf,zai,encStr,bD]at h4 r2
   refine aN.fJ ?_
   repeat' (first
 |simp only[go_sem,hD,hY,hZ,gC,r2,a1,tC,rC,gs,zbz]
 | (with_reducible refine ax hQ ?_;exact aB))
   refine aN.jx ?_ (ih (k+1) (N0++ [x]) (C++ [k]) _ g2 g4 (by rw[hN, ← yi hY]) (by rw[hC,zbZ]) h4)
   simp only[go_sem,aw aZ]
   repeat' (first|exact Ok.out|with_reducible refine ei ?_ ?_)
 have qf:o5 p T W fuel y a m ((n,bN q)::loc) q AT (n+1) tk [] [] ⟨s.aq++ [bN q]++ [qW q AT tk [] []],s.ay++ [some 0]++ [some 0]⟩:=by
  have h2:=(h.new (bN q)).new (qW q AT tk [] [])
  have h3:=(h2.ay [some 0]).ay [some 0]
  simp only[zaj,zaK,hn]at h3
  exact⟨h3,hlc,FN,by simp[← pP],by simp[← pP]⟩
 have l1:=aj6 p.globals 0 [] [] _ rfl (zaz _) rfl rfl qf
 simp only[gb]at hm
 have hA : ∀ e:List (List D),(s.aq++e)[y.c]? = s.aq[y.c]? :=fun e=>zak hl
 have hA2 : ∀ e e2:List (List D),(s.aq++e++e2)[y.c]? = s.aq[y.c]? :=fun e e2=>by rw[zaB];exact hA _
 have n1 : ∀ b c:List D,(s.aq++ [b]++ [c])[n+1]? = some c:=fun b c=>by simp[← hn]
 have n2 : ∀ b c:List D,(s.aq++ [b]++ [c])[n]? = some b:=fun b c=>by simp[← hn]
 have n3 : ∀ b c d:List D,(s.aq++ [b]++ [c]).set (n+1) d=s.aq++ [b]++ [d]:=fun b c d=>by simp[zaB,List.set_append_right, ← hn]
 have n4 : ∀ b:List D,(s.aq++ [b])[n]? = some b:=fun b=>by simp[← hn]
 have n5 : ∀ b c:List D,(s.aq++ [b]).set n c=s.aq++ [c]:=fun b c=>by simp[← hn]
 have Wf:bN q = [.str q.name, .slice .shared 2 (q.params.map fz), .slice .shared 1 (q.vars.map encStr), .slice .shared 13 (q.body.map aY), .slice .shared 1 (q.fin.map encStr)]:=rfl
 have hpg:bS p = [.slice .shared 1 (p.globals.map encStr), .slice .shared 5 (p.procs.map bN)]:=rfl
 rw[hpg]at cP
 repeat' (first
 |simp only[go_sem,hD,hY,hZ,gC,hm,hn,hA,hA2,n1,n2,n3,n4,n5]
 |(with_reducible refine CU (cP _) ?_)
 |(with_reducible refine CU (cF _) ?_)
 |(with_reducible refine CU (cI _) ?_)
 |(with_reducible refine ax hQ ?_;exact aB))
 refine aN.vM (n+1) 3 1 (n1 _ _) rfl ?_
 simp only[n3,zbu,zbQ,pP]
 refine aN.vM (n+1) 4 1 (n1 _ _) rfl ?_
 simp only[n3,zbu,zbQ,zaj,zaK,pP]
 refine aN.jx ?_ l1
 simp only[go_sem,zaw]
 repeat' (first|exact Ok.out|with_reducible refine ei ?_ ?_)
end
end Go.Abs
namespace Go.Abs
set_option maxRecDepth 8000
open Go.Proofs
def uN (m:Mc):List Ar→Option (List Int)
 | []=>some []
 |b::l=>if b.ref then(uN m l).map (0:: ·)else if(m.bA b.x).1.2 then(uN m l).map ((m.bA b.x).1.1:: ·)else none
theorem adA {m:Mc} (hv : ∀ c∈m.top.vars,c<m.mem.length) {M:List Int} (hM : ∃ E,M=m.mem++E) (x:Ex):({m with mem:=M} : Mc).bA x=((m.bA x).1,if(m.bA x).1.2 then {m with mem:=M}else {m with mem:=M,fin:=4}):=by
 obtain⟨E,rfl⟩:=hM
 have h1:({m with mem:=m.mem++E} : Mc).bu=m.bu:=by
  unfold Mc.bu
  refine zbo fun c mc=>?_
  show(m.mem++E).getD c 0=_
  rw[zay,zay,zak (hv c mc)]
 unfold Mc.bA
 rw[h1]
 rfl
theorem N2 {m:Mc} (hv : ∀ c∈m.top.vars,c<m.mem.length) : ∀ (l:List Ar) (M:List Int) (out:List Nat),(∃ E,M=m.mem++E)→
 (∀ vs,uN m l=some vs→Mc.args l {m with mem:=M} out=(some (jY m.cell l vs (out,M)).1,{m with mem:=(jY m.cell l vs (out,M)).2}))∧(uN m l=none→∃ M',Mc.args l {m with mem:=M} out=(none,{m with mem:=M',fin:=4}))
 | [],M,out,hM=>⟨fun vs e=>by cases e;rfl,fun e=>by cases e⟩
 | b::l,M,out,hM=>by
  simp only[uN,Mc.args]
  by_cases c:b.ref=true
  ·rw [if_pos c,if_pos c]
   obtain⟨h1,h2⟩:=N2 hv l M (out++ [({m with mem:=M} : Mc).cell b.name]) hM
   refine⟨fun vs e=>?_,fun e=>h2 (by simpa using e)⟩
   obtain⟨fP,e1,rfl⟩:=zav.1 e
   rw[h1 fP e1]
   simp only[jY]
   rw[if_pos c]
   rfl
  ·rw [if_neg c,if_neg c,adA hv hM b.x]
   dsimp only
   by_cases c2:(m.bA b.x).1.2=true
   ·rw [if_pos c2,if_pos c2,if_pos c2]
    obtain⟨E,hE⟩:=hM
    obtain⟨h1,h2⟩:=N2 hv l (M++ [(m.bA b.x).1.1]) (out++ [M.length]) ⟨E++ [(m.bA b.x).1.1],by rw[hE,zaB]⟩
    refine⟨fun vs e=>?_,fun e=>h2 (by simpa using e)⟩
    obtain⟨fP,e1,rfl⟩:=zav.1 e
    rw[h1 fP e1]
    simp only[jY]
    rw[if_neg c]
   ·rw [if_neg c2,if_neg c2,if_neg c2]
    exact⟨fun vs e=>(by cases e),fun _=>⟨M,rfl⟩⟩
theorem xE (cell:aF→Nat) : ∀ (l:List Ar) (vs:List Int) (C:List Nat) (M:List Int),(jY cell l vs (C,M)).1=C++(jY cell l vs ([],M)).1∧(jY cell l vs (C,M)).2=(jY cell l vs ([],M)).2
 | [],vs,C,M=>by simp[jY]
 |b::l,[],C,M=>by simp[jY]
 | b::l,v::vs,C,M=>by
  simp only[jY]
  split
  ·have h1:=xE cell l vs (C++ [cell b.name]) M
   have h2:=xE cell l vs ([]++ [cell b.name]) M
   rw[h1.1,h1.2,h2.1,h2.2];simp
  ·have h1:=xE cell l vs (C++ [M.length]) (M++ [v])
   have h2:=xE cell l vs ([]++ [M.length]) (M++ [v])
   rw[h1.1,h1.2,h2.1,h2.2];simp
theorem FZ (cell:aF→Nat) : ∀ (l:List Ar) (vs:List Int) (C:List Nat) (M:List Int),(jY cell l vs (C,M)).1.length≤C.length+l.length∧(jY cell l vs (C,M)).2.length≤M.length+l.length
 | [],vs,C,M=>by simp[jY]
 |b::l,[],C,M=>by simp[jY]
 | b::l,v::vs,C,M=>by
  simp only[jY]
  split
  ·have h1:=FZ cell l vs (C++ [cell b.name]) M
   simp at h1 ⊢;omega
  ·have h1:=FZ cell l vs (C++ [M.length]) (M++ [v])
   simp at h1 ⊢;omega
theorem Wz (W:List Int) (m:Mc) (M:List Int) (id:Int) (bu:List Int):({m with mem:=M} : Mc).event W id bu = {m.event W id bu with mem:=M}:=by unfold Mc.event;split<;>rfl
theorem Kn (W:List Int) (m:Mc) (id:Int) (bu:List Int):(m.event W id bu).fin=m.fin:=(dL W m id bu).2.2.1
def DE (m m':Mc):Prop:=m.fin=m'.fin∧m.steps=m'.steps∧m.reads=m'.reads∧m.out=m'.out∧m.trace=m'.trace
theorem DE.row {m m':Mc} (h:DE m m'):eK m=eK m':=by
 obtain⟨h1,h2,h3,h4,h5⟩:=h
 unfold eK
 rw[h1,h2,h3,h4,h5]
theorem Ec.event {p:Pg} {m m':Mc} {q:Pc} {j:Nat} {name:aF} {args:List Ar} {vs:List Int} (h:Ec p m q j name args vs) (h1:m'.st=m.st) (h2:m'.mem=m.mem):Ec p m' q j name args vs:=by
 obtain⟨e1,e2,e3,e4,e5,e6,e7,ahh,e8,e9,e10,e11,e12,e13,e14⟩:=h
 refine⟨e1,e2,e3,e4,e5,e6,by rw[h2];exact e7,by rw[h1];exact ahh,e8,e9,e10,e11,e12,e13,fun b mb hb=>?_⟩
 obtain⟨fr,r,k,hF,hN⟩:=e14 b mb hb
 exact⟨fr,r,k,⟨by rw[h1];exact hF.st,hF.len,hF.names,hF.vars,by rw[h2];exact hF.cells,hF.pc⟩,hN⟩
section
variable {p:Pg} {T W:List Int} {fuel:Int} {y:Ly} {a:Int} {m:Mc} {loc:List (Nat×List D)} {s:St} {fr:Fr} {r:List Fr}
structure Qj (p:Pg) (m:Mc) (v:Sm):Prop where
 args : ∀ b∈v.args,b.ref=false→b.x.may=true∧b.x.jn
 len:v.args.length<1000000
 ent : ∀ vs:List Int,vs.length=v.args.length→∃ j q,p.at v.proc=((j:Nat):Int)∧Ec p m q j v.proc v.args vs
 mem : ∀ x∈m.mem,eZ x
theorem ZJ (h:fj p T W fuel y a m loc s) (hF:tX p m fr r) {v:Sm} (ha:v.id=a) (hC:Qj p m v) (qf:m.fin=0) (hW:W.length<1000000) (NG:m.trace.length<2000000) :
 bp Tryz.prog 92 [.ptr y.c 0, .agg (aY v)] s (fun d s'=>d = .tuple []∧∃ y' a' m',y'.c=y.c∧fj p T W fuel y' a' m' loc s'∧
  if(m.call p W v).2.fin=0 then a'=(m.call p W v).1∧m'=(m.call p W v).2 else m'.fin≠0∧DE m' (m.call p W v).2):=by
 have h1:=h.new (aY v)
 have FN:2≤s.ay.length:=(zac.1 h.t1).1
 obtain⟨n,hn⟩ : ∃ n,s.aq.length=n:=⟨_,rfl⟩
 obtain⟨tk,pP⟩ : ∃ tk,s.ay.length=tk:=⟨_,rfl⟩
 rw[hn]at h1
 rw[pP]at FN
 have qk:=hC.len
 have jN:m.top=fr:=by unfold Mc.top;rw[hF.st];rfl
 have PF:m.bu.length<4611686018427387904:=by unfold Mc.bu;rw[jN,zaw];have:=hF.vars;omega
 have anl : ∀ x∈m.bu,eZ x:=fun x mx=>by
  unfold Mc.bu at mx
  obtain⟨c,mc,rfl⟩:=zaF.1 mx
  rw[jN]at mc
  have:=hF.cells c mc
  rw[zay,zah this]
  exact hC.mem _ (List.getElem_mem _)
 have hav:=N2 (m:=m) (by rw[jN];exact hF.cells) v.args m.mem [] ⟨[],by simp⟩
 have qu:({m with mem:=m.mem} : Mc)=m:=rfl
 rw[qu]at hav
 refine bp.iY nU.h rfl fun B Q hB hQ=>?_
 have⟨hD,hY,hZ,gC⟩:=bb
 have loop : ∀ (rest:List Ar) (k:Nat) (nN:List Int) (s1:St),v.args.drop k=rest→k≤v.args.length→nN.length=k→uN m v.args=(uN m rest).map (nN++ ·)→fj p T W fuel y a m ((n,aY v)::loc) s1→s1.ay[tk]? = some (some k)→
  aN Tryz.prog B 64 Q0M (fX 0 (kA (jJ Tryz.prog B 64 Q0N Q) Q)) [(0, .ptr y.c 0),(3, .ptr n 0),(4, .slice (.tok tk) 1 (nN.map bD)),(10, .slice .shared 6 (v.args.map dE)),(11, .int .i64 (v.args.length:Int)),(12, .int .i64 (k:Int))] s1:=by
  intro rest
  induction rest with
  | nil=>
   intro k nN s1 hd HF Ds mX h2 iZ
   have hD:=drop_nil hd
   have hk:k=v.args.length:=by have:=zaP.1 hd;omega
   have anm:uN m v.args=some nN:=by rw[mX];simp[uN]
   have wx:=hav.1 nN anm
   have Be:m.call p W v=if m.st.length > 100 then(-1,{m with mem:=(jY m.cell v.args nN ([],m.mem)).2,fin:=5})else(({m with mem:=(jY m.cell v.args nN ([],m.mem)).2} : Mc).event W v.id []).open p (p.at v.proc) (jY m.cell v.args nN ([],m.mem)).1 v.id:=by
    unfold Mc.call
    rw[wx]
   obtain⟨fo,g,more,ht⟩:=h2.BD hF.st
   have jr:=h2.eW
   have jI:=df jr
   have x2:=(h2.loc (n,aY v) (by simp)).1
   have Af:m.st.length=r.length+1:=by rw[hF.st];rfl
   simp only[gb,ht.fs]at jr x2
   rw[Be,Af]at hQ
   refine aN.fJ ?_
   by_cases II:r.length+1 > 100
   ·have Bv:decide (((r.length+1:Nat):Int) > 100)=true:=by simp;omega
    rw[if_pos II]at hQ
    have h3:=h2.lT (m':= {m with fin:=5}) rfl rfl h2.t0 h2.t1
    simp only[gb,ht.fs]at h3
    repeat' (first
 |simp only[go_sem,hD,hY,hZ,gC,jr,x2,Bv,jI]
 | (with_reducible refine ax hQ ?_;exact aB))
    (refine dG hQ ?_;simp only[bF,bG,bZ,cb,go_sem])
    exact⟨y,a,{m with fin:=5},rfl,h3.sub fun q mq=>zan _ mq,by rw[if_neg (by simp)];exact⟨by simp,rfl,rfl,rfl,rfl,rfl⟩⟩
   ·have Bv:decide (((r.length+1:Nat):Int) > 100)=false:=by simp;omega
    rw[if_neg II]at hQ
    obtain⟨s3,cE,h3⟩:=vG h2 hW NG v.id []
    have xD:az Tryz.prog 93 [.ptr y.c 0, .int .i64 v.id, .slice .full 0 []] s1 (.tuple []) s3:=bp.lU (.cons (Wk.refl _) (.cons (Wk.refl _) (.cons yK .nil))) cE
    have he:=dL W m v.id []
    obtain⟨j,q,hj,hE⟩:=hC.ent nN (by omega)
    have hE':=hE.event he.1 he.2.1
    have hec:=FZ m.cell v.args nN (List.range p.globals.length) m.mem
    have iN:(m.event W v.id []).cell=m.cell:=by
     funext nm
     unfold Mc.cell Mc.top
     rw[he.1]
    have kj:=xE m.cell v.args nN (List.range p.globals.length) m.mem
    have hg:=hE.rJ
    have ann:=hE.mem
    have cN:=Km h3 hE' (Cf:=(jY m.cell v.args nN (List.range p.globals.length,m.mem)).1) (Mf:=(jY m.cell v.args nN (List.range p.globals.length,m.mem)).2) (by rw[iN,he.2.1]) (by simp at hec;omega)
    have cN':=fun tg:Tag=>bp.lU (.cons (Wk.refl _) (.cons (Wk.refl _) (.cons (Wk.refl _) (.cons (Wk.shared tg 1 _) .nil)))) cN
    have x3:=(h3.loc (n,aY v) (by simp)).1
    simp only at x3
    repeat' (first
 |simp only[go_sem,hD,hY,hZ,gC,jr,x2,x3,Bv,jI]
 |(with_reducible refine CU (xD) ?_)
 | (with_reducible refine ax hQ ?_;exact aB))
    refine CR (cN' _) fun d s4 h4=>?_
    obtain⟨rfl,y4,hy4,h4⟩:=h4
    repeat' (first
 |simp only[go_sem,hD,hY,hZ,gC]
 | (with_reducible refine ax hQ ?_;exact aB))
    (refine dG hQ ?_;simp only[bF,bG,bZ,cb,go_sem])
    have Ty:(({m with mem:=(jY m.cell v.args nN ([],m.mem)).2} : Mc).event W v.id []).open p (p.at v.proc) (jY m.cell v.args nN ([],m.mem)).1 v.id=(eD q.body (-1),{m.event W v.id []with
     st:=⟨(j:Int),p.globals++(q.params.map (·.name))++q.vars,(jY m.cell v.args nN (List.range p.globals.length,m.mem)).1++(List.range q.vars.length).map ((jY m.cell v.args nN (List.range p.globals.length,m.mem)).2.length + ·),a⟩::(m.event W v.id []).st,
     mem:=(jY m.cell v.args nN (List.range p.globals.length,m.mem)).2++List.replicate q.vars.length 0}):=by
     rw[hj]
     unfold Mc.open
     rw[zaQ,hE.at_,Wz]
     dsimp only
     rw[kj.1,kj.2,ha]
     simp[Pc.own,Pc.lx]
    refine⟨y4,_,_,hy4,h4.sub fun q mq=>zan _ mq, ?_⟩
    rw[Ty]
    dsimp only
    rw[Kn,if_pos qf]
    exact⟨rfl,rfl⟩
  | cons b rest ih=>
   intro k nN s1 hd HF Ds mX h2 iZ
   obtain⟨hY,g2,hD,g4⟩:=drop_cons hd
   subst Ds
   have aZ:nN.length<4611686018427387904:=by omega
   have iF:(nN.length+1)*9≤aV:=by unfold aV;omega
   have h3:=h2.new (dE b)
   have gH : ∀ q∈((n,aY v)::loc),q∈((s1.aq.length,dE b)::(n,aY v)::loc):=fun q mq=>zan _ mq
   refine aN.fJ ?_
   rcases zaa b.ref with br|br
   ·have IH:=ih (nN.length+1) (nN++ [0]) ⟨s1.aq++ [dE b],s1.ay.set tk (some (nN.length+1))⟩ g2 g4 (by simp) (by
     rw[mX]
     simp only[uN,br,if_true,Option.map_map]
     congr 1
     funext l
     simp) ((h3.sub gH).tk (zam (by omega)) (zam (by omega))) (by simp[(zac.1 iZ).1])
    rw[zag,zaf,zai]at IH
    repeat' (first
 |simp only[go_sem,hD,hY,hZ,gC,jD,jE,br,iZ,iF,zau]
 | (with_reducible refine ax hQ ?_;exact aB))
    refine aN.jx ?_ IH
    simp only[go_sem,aw aZ,bD]
    repeat' (first|exact Ok.out|with_reducible refine ei ?_ ?_)
   ·obtain⟨fo,g,more,ht⟩:=h3.BD hF.st
    have c1:=sO h3 ht hF.len
    have c2:=NW h3 hF.st ht hF.len (by have:=hF.vars;omega) hF.cells
    have gE:=ht.at_
    have vh:=ht.c3
    obtain⟨hx,Kj⟩:=hC.args b (zad hY) br
    have Jp:fr.names.length<4611686018427387904:=by have:=hF.vars;have:=hF.names;omega
    have c3 : ∀ s:St,az Tryz.prog 90 [.agg (bT b.x), .slice .shared 1 (fr.names.map encStr), .slice (.tok s1.ay.length) 1 (m.bu.map bD)] s (oY (b.x.bA fr.names m.bu)) s:=fun s=>bp.lU (.cons (Wk.refl _) (.cons (Wk.refl _) (.cons (Wk.shared (.tok s1.ay.length) 1 _) .nil))) (Ki hx Kj Jp PF anl s)
    have NK:b.x.bA fr.names m.bu=(m.bA b.x).1:=by unfold Mc.bA;rw[jN]
    rw[NK]at c3
    generalize Ax:(m.bA b.x).1=wo at *
    obtain⟨w,ok⟩:=wo
    simp only[oY]at c3
    cases ok
    ·have AV:uN m v.args=none:=by rw [mX];simp [uN,br,Ax]
     obtain⟨M',hM'⟩:=hav.2 AV
     have Be:m.call p W v=(-1,{m with mem:=M',fin:=4}):=by unfold Mc.call;rw[hM']
     rw[Be]at hQ
     have qU:=h3.eW
     have WA:=df qU
     have h5:=(h3.ay [some m.bu.length]).lT (m':= {m with fin:=4}) rfl rfl (h3.ay [some m.bu.length]).t0 (h3.ay [some m.bu.length]).t1
     simp only[gb,ht.fs]at qU h5
     repeat' (first
 |simp only[go_sem,hD,hY,hZ,gC,jD,jE,br,gE,vh,qU,WA]
 |(with_reducible refine CU (c1) ?_)
 |(with_reducible refine CU (c2) ?_)
 |(with_reducible refine CU (c3 _) ?_)
 | (with_reducible refine ax hQ ?_;exact aB))
     (refine dG hQ ?_;simp only[bF,bG,bZ,cb,go_sem])
     exact⟨y,a,{m with fin:=4},rfl,h5.sub fun q mq=>zan _ (zan _ mq),by rw[if_neg (by simp)];exact⟨by simp,rfl,rfl,rfl,rfl,rfl⟩⟩
    ·have IH:=ih (nN.length+1) (nN++ [w]) ⟨s1.aq++ [dE b],(s1.ay++ [some m.bu.length]).set tk (some (nN.length+1))⟩ g2 g4 (by simp) (by
      rw[mX]
      simp only[uN,br,Ax,if_true,zab,if_false,Option.map_map]
      congr 1
      funext l
      simp) (((h3.sub gH).ay [some m.bu.length]).tk (zam (by omega)) (zam (by omega))) (by rw[zaM (by have:=(zac.1 iZ).1;simp;omega)])
     rw[zag,zaf,zai]at IH
     have ano:(s1.ay++ [some m.bu.length])[tk]? = some (some nN.length):=by rw[zak (zac.1 iZ).1];exact iZ
     repeat' (first
 |simp only[go_sem,hD,hY,hZ,gC,jD,jE,br,gE,vh,ano,iF]
 |(with_reducible refine CU (c1) ?_)
 |(with_reducible refine CU (c2) ?_)
 |(with_reducible refine CU (c3 _) ?_)
 |(with_reducible refine ax hQ ?_;exact aB))
     refine aN.jx ?_ IH
     simp only[go_sem,aw aZ,bD]
     repeat' (first|exact Ok.out|with_reducible refine ei ?_ ?_)
 have z0:(s.aq++ [aY v])[n]? = some (aY v):=by simp[← hn]
 repeat' (first
 |simp only[go_sem,hD,hY,hZ,gC,hn,z0]
 |(with_reducible refine ax hQ ?_;exact aB))
 refine aN.ln 4 1 rfl ?_
 simp only[go_sem,hD,hY,hZ,gC]
 refine aN.jx ?_ (loop v.args 0 [] ⟨s.aq++ [aY v],s.ay++ [some 0]⟩ rfl (zaz _) rfl (by simp) (h1.ay _) (by simp[← pP]))
 simp only[go_sem,pP,zai]
 repeat' (first|exact Ok.out|with_reducible refine ei ?_ ?_)
end
end Go.Abs
namespace Go.Abs
theorem N3 {f:Pc} : ∀ {l:List Pc},Pc.lF l=true→f∈l→f.params.length≤8∧f.vars.length≤16
 |g::l,h,m=>by
  simp only[Pc.lF]at h
  split at h
  ·cases h
  rename_i c
  split at h
  ·cases h
  simp only[zaC,not_or,decide_eq_true_eq]at c
  rcases zap.1 m with rfl|m
  ·exact⟨by omega,by omega⟩
  ·exact N3 h m
theorem sP {p:Pg} (h:p.may=true):p.globals.length≤16∧p.all.length≤200∧∀ f∈p.procs,f.params.length≤8∧f.vars.length≤16:=by
 unfold Pg.may at h
 split at h
 ·cases h
 rename_i c1
 split at h
 ·cases h
 rename_i c2
 split at h
 ·cases h
 rename_i c3
 simp only[zaC,not_or,decide_eq_true_eq]at c1 c3
 exact⟨by omega,by omega,fun f hf=>N3 (by simpa using c2) hf⟩
theorem EX {α:Type} {x:List α} : ∀ {l:List (List α)},x∈l→x.length≤l.flatten.length
 |y::l,m=>by
  simp only[zbi,zaj]
  rcases zap.1 m with rfl|m
  ·omega
  ·have:=EX m;omega
theorem Ed {p:Pg} (h:p.may=true) {f:Pc} (hf:f∈p.procs):f.flat.length≤200:=by
 have h1:=(sP h).2.1
 obtain⟨g1,g2⟩:=D0 h
 rw[g2]at h1
 rw[g1 f hf]
 exact zaW (EX (zaF.2 ⟨f,hf,rfl⟩)) h1
theorem Ko {p:Pg} (h:p.may=true) {f:Pc} (hf:f∈p.procs):f.flat.map It.s=Sm.cZ f.body:=by
 rw[(D0 h).1 f hf,rY]
theorem anp {p:Pg} (hO:p.gu) (hb:p.may=true) {fr:Fr} {f:Pc} (hp:p.procs[fr.proc.toNat]? = some f):fi p fr=f∧ZC p fr:=by
 have hf:=zad hp
 have e:fi p fr=f:=by unfold fi;rw[hp];rfl
 have s1:=Pc.cq hf
 have s2:=hO.sz
 simp only[Pg.size]at s2
 simp only[Pc.size]at s1
 refine⟨e, ?_,fun x mx=>?_, ?_⟩<;>rw[e]at *
 ·have:=Ed hb hf;omega
 ·have hm:x.s∈Sm.cZ f.body:=by rw [← Ko hb hf];exact zaF.2 ⟨x,mx,rfl⟩
  have h1:=As f.body _ hm
  have h2:x.s.labels.length≤x.s.size:=by
   cases x with
   |mk s _ _ _=>cases s;simp only[Sm.size];omega
  omega
 ·omega
theorem N4 {p:Pg} (hb:p.may=true) {c:Nat} {it:Im} (h:p.aR.L[c]? = some it):it.s.id=(c:Int)+1:=by
 have hs:p.aR.L.map Im.s=p.pre:=by rw[Dj hb,Nx];rfl
 have:=G9 hb (i:=c) (v:=it.s) (by rw[← hs,zao,h];rfl)
 rw[this];omega
theorem abq {p:Pg} (hb:p.may=true) {k a:Int} (h:Hm p.aR.L k a):ff p.aR.L a∈p.aR.L∧(ff p.aR.L a).s.id=a∧(ff p.aR.L a).proc=k:=by
 obtain⟨h1,h2,h3⟩:=h
 have e:p.aR.L[(a - 1).toNat]? = some (ff p.aR.L a):=by
  unfold ff
  rw[zay,zah (show(a - 1).toNat<p.aR.L.length by omega)];rfl
 exact⟨zad e,by rw[N4 hb e];omega,h3⟩
section
variable {p:Pg} {T W:List Int} {fuel:Int} {m:Mc} {a:Int} {fr:Fr} {r:List Fr}
theorem Tz (hO:p.gu) (hR:p.Right) (h:mS p p.aR.L a m) (hl:m.st.length≤1000) : ∃ fr r f,l5 m fr r∧tX p m fr r∧p.procs[fr.proc.toNat]? = some f∧0≤fr.proc∧fi p fr=f∧fr.names=p.globals++f.own∧fr.vars.length=fr.names.length∧m.top=fr:=by
 obtain⟨fr,r,f,ht,h1,h2,h3,h4⟩:=Hr hO h hl
 obtain⟨f',g1,g2,g3,g4,g5⟩:=h.fr fr (by rw[ht.st];exact zaA ..)
 have hp:=anp hO hR.may h1
 exact⟨fr,r,f,ht,⟨ht.st,ht.len,ht.names,ht.vars,g5,hp.2⟩,h1,g2,hp.1,h2,h3,h4⟩
theorem TA (hO:p.gu) (hR:p.Right) (h:mS p p.aR.L a m) (hl:m.st.length≤1000) (ht:l5 m fr r):abk p m fr r:=by
 have hs:=h.st
 have gd:=ht.st
 rw[gd]at hs
 rcases Hs hO hR h hl ht with hc|⟨c,it,jK,r2,hc,HD,iZ,hn⟩
 ·refine .inl ⟨?_,hc⟩
  cases r with
  |nil=>rfl
  |cons jK r2=>
   obtain⟨⟨h1,_⟩,_⟩:=hs
   have:=h1.1;omega
 ·have hr:r=jK::r2:=iZ.st
  subst hr
  obtain⟨⟨h1,vC⟩,h2⟩:=hs
  have iD:ff p.aR.L fr.call=it:=by
   unfold ff
   rw[hc,show((c:Int)+1 - 1).toNat=c by omega,zay,HD];rfl
  obtain⟨k1,k2,k3⟩:=abq hR.may h1
  rw[iD]at k1 k2 k3
  have h3:mS p p.aR.L (-1) {m with st:=jK::r2}:=⟨h2,fun q hq=>h.fr q (by rw[gd];exact zan _ hq), .inl rfl,h.rJ⟩
  obtain⟨yy,r',f,t1,t2,t3,t4,t5,t6⟩:=Tz hO hR h3 (by rw[gd]at hl;simp at hl ⊢;omega)
  have e:=t1.st
  cases e
  have nB:=(By hR.may k1 (i:=jK.proc.toNat) (f:=f) (by rw[k3];omega) t3).1
  refine .inr ⟨it,jK,r2,rfl,by omega,iD, ?_, ?_,t2,hn⟩
  ·rw[t5, ← k2];exact nB.item
  ·rw[t5, ← k2];exact⟨_,nB.beh _ (zal _)⟩
def Ay (p:Pg) (it:Im):Int:=if it.s.kind==7 then(ff p.aR.L it.loop).next else if it.s.kind==8 then it.loop else(match p.procs[it.proc.toNat]? with|some f=>(jb f.fin it.s.name (Sm.cZ f.body)).1|none=>0)
theorem aj7 (hO:p.gu) (hR:p.Right) {it:Im} {f:Pc} (hx:xp p p.aR.L it f) (ij:it∈p.aR.L) (sL:it.proc=fr.proc) (h5:fi p fr=f) (hn:fr.names=p.globals++f.own) (hv:fr.vars.length=fr.names.length) (h4:it.s.kind≠4) (h9:it.s.kind≠9):abh p fr it (Ay p it):=by
 have hf:=zad hx.proc.1
 have kj:it.s∈p.pre:=by
  simp only[Pg.pre,zbE,zaF];exact⟨_,⟨f,hf,rfl⟩,hx.mem⟩
 obtain⟨pl,ar⟩:=By hR.may ij (i:=it.proc.toNat) (f:=f) (by have:=hx.proc.2;omega) hx.proc.1
 have h1:=An hR.may _ kj
 refine⟨?_, ?_, ?_,fun hk=>?_,fun hk=>?_,h4,h9, ?_, ?_⟩
 ·rw[h5];exact⟨_,pl.beh _ (zal _)⟩
 ·rw[h5];exact pl.a8
 ·rw[h5];exact pl.aK
 ·unfold HG Ay
  rw[h5]
  rcases hk with hk|hk|hk
  ·refine .inr (.inl ⟨hk, ?_⟩)
   obtain⟨k1,k2,k3⟩:=abq hR.may (hx.loop (.inl hk))
   have pl2:=(By hR.may k1 (i:=it.proc.toNat) (f:=f) (by rw[k3];have:=hx.proc.2;omega) hx.proc.1).1
   rw[ar,if_pos (by simp[hk])]
   have:=pl2.beh _ (zal _)
   rw[k2]at this
   exact⟨_,this⟩
  ·refine .inr (.inr ⟨hk, ?_⟩)
   rw[ar,if_neg (by simp[hk]),if_pos (by simp[hk])]
  ·refine .inl ⟨hk, ?_⟩
   rw[if_neg (by simp[hk]),if_neg (by simp[hk]),hx.proc.1,Ko hR.may hf]
 ·refine Au hv ?_
  rw[hn]
  exact uH hR hx (Du (by rcases hk with hk|hk<;>omega) (NL h1 hk))
 all_goals
  unfold Sm.one at h1
  split at h1
  ·cases h1
  rename_i c
  simp only[zaC,not_or,decide_eq_true_eq]at c
  omega
mutual
theorem adB : ∀ s:Sm,s.jn→∀ v∈s.pre,v.x.jn∧∀ b∈v.args,b.x.jn
 | ⟨id,kind,labels,name,proc,x,has,args,a8,aK⟩,h,v,m=>by
  simp only[Sm.jn]at h
  rw[Sm.oN]at m
  rcases zap.1 m with rfl|m
  ·exact⟨h.1,h.2.1⟩
  ·rcases zaq.1 m with m | m
   ·exact BE a8 h.2.2.1 v m
   ·exact BE aK h.2.2.2 v m
theorem BE : ∀ l:List Sm,Sm.uz l→∀ v∈Sm.cZ l,v.x.jn∧∀ b∈v.args,b.x.jn
 | [],_,v,m=>by simp[Sm.cZ]at m
 |s::l,h,v,m=>by
  simp only[Sm.uz]at h
  simp only[Sm.cZ,zaq]at m
  rcases m with m|m
  ·exact adB s h.1 v m
  ·exact BE l h.2 v m
end
theorem Kp : ∀ {l:List Pm} {k:List Ar},u6 l k=true→∀ (i:Nat) (x:Pm) (b:Ar),l[i]? = some x→k[i]? = some b→x.ref=b.ref
 | [],_,_,i,x,b,e,_=>by simp at e
 |_::_,[],_,i,x,b,_,e=>by simp at e
 | y::l,c::k,h,i,x,b,e1,e2=>by
  simp only[u6]at h
  split at h
  ·rename_i hc
   cases i with
   |zero=>simp at e1 e2;subst e1 e2;simpa using hc
   |succ i=>exact Kp h i x b (by simpa using e1) (by simpa using e2)
  ·cases h
theorem Lk (hR:p.Right) (hg:p.jn) {it:Im} {f:Pc} (hx:xp p p.aR.L it f):(∀ b∈it.s.args,b.ref=false→b.x.may=true∧b.x.jn)∧it.s.x.jn:=by
 have hf:=zad hx.proc.1
 have kj:it.s∈p.pre:=by
  simp only[Pg.pre,zbE,zaF];exact⟨_,⟨f,hf,rfl⟩,hx.mem⟩
 have h1:=An hR.may _ kj
 have h2:=BE f.body (hg f hf) _ hx.mem
 refine⟨fun b mb hr=>⟨?_,h2.2 b mb⟩,h2.1⟩
 have:=FG (Ns h1) b mb
 unfold Ar.may at this
 rw[if_neg (by simp[hr])]at this
 simp only[zar]at this
 exact this.2
theorem adC (hO:p.gu) (hR:p.Right) (hg:p.jn) {it:Im} {f:Pc} (hx:xp p p.aR.L it f) (hk:it.s.kind=4) (hF:tX p m fr r) (hn:fr.names=p.globals++f.own) (hv:fr.vars.length=fr.names.length) (hm:m.mem.length<100000000) (hl:m.st.length≤1000) (ja : ∀ x∈m.mem,eZ x):Qj p m it.s:=by
 have hf:=zad hx.proc.1
 have kj:it.s∈p.pre:=by
  simp only[Pg.pre,zbE,zaF];exact⟨_,⟨f,hf,rfl⟩,hx.mem⟩
 have iB:=hR.fits _ kj (by simp[hk])
 have jq:=sP hR.may
 obtain⟨q,hq⟩:=yw iB
 have hqm:q∈p.procs:=by
  obtain⟨j,h1,h2⟩:=Bo (k:=0) hq
  exact zad h2
 have nE:wD q.params it.s.args=true:=by
  unfold Sm.lH at iB
  rw[hq]at iB
  simpa[hk]using iB
 unfold wD at nE
 split at nE
 rotate_left
 ·cases nE
 rename_i hlen
 have aqM:q.params.length=it.s.args.length:=by have:=beq_iff_eq.1 hlen;omega
 have hp8:=jq.2.2 q hqm
 refine⟨(Lk hR hg hx).1,by omega,fun vs mX=>?_,ja⟩
 obtain⟨j,h1,h2⟩:=Bo (k:=0) hq
 have s1:=Pc.cq hqm
 have s2:=hO.sz
 simp only[Pg.size]at s2
 simp only[Pc.size]at s1
 have s3:=Pc.dI p.procs
 refine⟨j,q,by simpa[Pg.at]using h1,h2,hq,by omega,by omega,by omega,by omega,hm,by omega, ?_,by omega,(NM hR.may h2).2 (-1),by omega,by omega,fun i x b e1 e2=>Kp nE i x b e1 e2,fun b mb hr=>?_⟩
 ·have:=Ed hR.may hqm;omega
 ·obtain⟨k,hk⟩:=Au hv (n:=b.name) (by rw [hn];exact uH hR hx (tT (.inr ⟨b,mb,hr,rfl⟩)))
  exact⟨fr,r,k,hF,hk⟩
end
end Go.Abs
namespace Go.Abs
theorem Qk {m:Mc} (h : ∀ x∈m.mem,eZ x) : ∀ v∈m.bu,eZ v:=fun v mv=>by
 unfold Mc.bu at mv
 obtain⟨c,mc,rfl⟩:=zaF.1 mv
 rw[zay]
 cases e:m.mem[c]? with
 |none=>simp[eZ]
 |some x=>exact h x (zad e)
theorem F0 {m:Mc} (h : ∀ x∈m.mem,eZ x) {x:Ex} (hx:x.jn):eZ (m.bA x).1.1:=by
 unfold Mc.bA
 show eZ (x.bA m.top.names m.bu).1
 unfold Ex.bA
 split
 ·rename_i c
  exact Wr (Qk h) 20 x (by rw[show((20:Nat):Int)=20 from rfl,xh];exact c) hx
 ·simp[eZ]
structure pJ (n:Nat) (m m':Mc):Prop where
 len:m'.mem.length≤m.mem.length+n
 inr:(∀ x∈m.mem,eZ x)→∀ x∈m'.mem,eZ x
theorem pJ.of {m m':Mc} (h:m'.mem=m.mem):pJ 0 m m':=⟨by rw[h];exact zal _,fun k=>by rw[h];exact k⟩
theorem pJ.trans {n k:Nat} {m m' m2:Mc} (h:pJ n m m') (h2:pJ k m' m2):pJ (n+k) m m2:=⟨by have:=h.len;have:=h2.len;omega,fun x=>h2.inr (h.inr x)⟩
theorem I8 {m:Mc} (name:aF) {v:Int} (hv:(∀ x∈m.mem,eZ x)→eZ v):pJ 0 m (m.set name v):=by
 refine⟨by simp[Mc.set],fun k x mx=>?_⟩
 simp only[Mc.set]at mx
 rcases List.mem_or_eq_of_mem_set mx with mx|rfl
 ·exact k x mx
 ·exact hv k
theorem rl (W:List Int) (m:Mc) (id:Int) (bu:List Int):pJ 0 m (m.event W id bu):= .of (dL W m id bu).2.1
theorem F1 : ∀ (l:List Ar) (m:Mc) (out:List Nat),(∀ b∈l,b.ref=false→b.x.may=true∧b.x.jn)→pJ l.length m (Mc.args l m out).2
 | [],m,out,_=> .of rfl
 | b::l,m,out,h=>by
  simp only[Mc.args]
  by_cases c:b.ref=true
  ·rw [if_pos c]
   have:=F1 l m (out++ [m.cell b.name]) fun x mx=>h x (zan _ mx)
   exact⟨by have:=this.len;simp;omega,this.inr⟩
  ·rw [if_neg c]
   have hw:=gL m b.x
   by_cases c2:(m.bA b.x).1.2=true
   ·rw [if_pos c2]
    have:=F1 l {(m.bA b.x).2 with mem:=(m.bA b.x).2.mem++ [(m.bA b.x).1.1]} (out++ [(m.bA b.x).2.mem.length]) fun x mx=>h x (zan _ mx)
    refine⟨by have:=this.len;simp[hw.2.1]at this ⊢;omega,fun k=>this.inr fun x mx=>?_⟩
    simp only[hw.2.1,zaq,zaG]at mx
    rcases mx with mx|rfl
    ·exact k x mx
    ·exact F0 k (h b (zaA ..) (by simpa using c)).2
   ·rw [if_neg c2]
    exact⟨by rw[hw.2.1];exact Nat.le_add_right _ _,fun k=>by rw[hw.2.1];exact k⟩
theorem ZL {p:Pg} (hp:p.may=true) (m:Mc) (i:Int) (l:List Nat) (c:Int):pJ 16 m (m.open p i l c).2:=by
 unfold Mc.open
 cases e:p.procs[i.toNat]? with
 |none=>exact⟨Nat.le_add_right _ _,fun k=>k⟩
 |some f=>
  have:=(sP hp).2.2 f (zad e)
  refine⟨by simp;omega,fun k x mx=>?_⟩
  simp only[zaq,List.mem_replicate]at mx
  rcases mx with mx|⟨_,rfl⟩
  ·exact k x mx
  ·simp[eZ]
theorem ZM {p:Pg} (hp:p.may=true) (W:List Int) (m:Mc) (v:Sm) (h : ∀ b∈v.args,b.ref=false→b.x.may=true∧b.x.jn) (hl:v.args.length≤8):pJ 24 m (m.call p W v).2:=by
 have h1:=F1 v.args m [] h
 unfold Mc.call
 generalize Mc.args v.args m [] = r at *
 obtain⟨o,m1⟩:=r
 dsimp only at h1
 cases o with
 |none=>exact⟨by have:=h1.len;dsimp only;omega,h1.inr⟩
 | some l=>
  dsimp only
  split
  ·exact⟨by have:=h1.len;dsimp only;omega,h1.inr⟩
  ·have:=(h1.trans (rl W m1 v.id [])).trans (ZL hp (m1.event W v.id []) (p.at v.proc) l v.id)
   exact⟨by have:=this.len;omega,this.inr⟩
theorem WB (W:List Int) {m:Mc} {v:Sm} (h:v.x.jn):pJ 0 m (m.fA W v).2∧((∀ x∈m.mem,eZ x)→eZ (m.fA W v).1):=by
 have hw:=gL m v.x
 unfold Mc.fA
 split
 ·refine⟨?_,fun k=>F0 k h⟩
  dsimp only
  split
  ·exact .of ((dL _ _ _ _).2.1.trans hw.2.1)
  ·exact .of hw.2.1
 ·exact⟨rl W m v.id [],fun _=>by simp[eZ]⟩
theorem WC (L:List Im) {m:Mc} {g:Int} (hg:(∀ x∈m.mem,eZ x)→eZ g):pJ 0 m (m.close L g).2:=by
 unfold Mc.close
 dsimp only
 split
 ·exact .of rfl
 ·split
  ·exact .of rfl
  ·have:=I8 (m:= {m with st:=m.st.tail}) (ff L m.top.call).s.name hg
   exact⟨this.len,this.inr⟩
theorem ahA (p:Pg) (L:List Im) {T:List Int} (hT : ∀ t∈T,eZ t) (W:List Int) {m:Mc} {it:Im} (h:it.s.x.jn):pJ 0 m (m.do p L T W it).2∧(0≤m.reads→m.reads≤(T.length:Int)→(m.do p L T W it).2.reads≤(T.length:Int)):=by
 have hw:=gL m it.s.x
 have ev:=fun id bu=>dL W m id bu
 unfold Mc.do
 dsimp only
 split
 ·exact⟨rl ..,fun _ k=>by rw[(ev _ _).2.2.2.2.1];exact k⟩
 split
 ·exact⟨rl ..,fun _ k=>by rw[(ev _ _).2.2.2.2.1];exact k⟩
 split
 ·exact⟨rl ..,fun _ k=>by rw[(ev _ _).2.2.2.2.1];exact k⟩
 split
 ·cases e:T[m.reads.toNat]? with
  |none=>exact⟨.of rfl,fun _ k=>k⟩
  |some n=>
   have h1:=I8 (m:= {m with reads:=m.reads+1}) it.s.name (v:=n) fun _=>hT n (zad e)
   have h2:=h1.trans (rl W (({m with reads:=m.reads+1} : Mc).set it.s.name n) it.s.id [n])
   refine⟨⟨h2.len,h2.inr⟩,fun k0 _=>?_⟩
   dsimp only
   rw[(dL _ _ _ _).2.2.2.2.1]
   have:=(zac.1 e).1
   simp only[Mc.set]
   omega
 split
 ·have e2:=dL W (m.bA it.s.x).2 it.s.id [(m.bA it.s.x).1.1]
  have k:pJ 0 m ((m.bA it.s.x).2.event W it.s.id [(m.bA it.s.x).1.1]):= .of (e2.2.1.trans hw.2.1)
  have kr:m.reads≤(T.length:Int)→((m.bA it.s.x).2.event W it.s.id [(m.bA it.s.x).1.1]).reads≤(T.length:Int):=fun h=>by rw[e2.2.2.2.2.1,hw.2.2.2.1];exact h
  split
  ·have h2:=I8 (m:=(m.bA it.s.x).2.event W it.s.id [(m.bA it.s.x).1.1]) it.s.name (v:=(m.bA it.s.x).1.1) fun k'=>F0 (by rw [← e2.2.1.trans hw.2.1];exact k') h
   exact⟨⟨(k.trans h2).len,(k.trans h2).inr⟩,fun _=>kr⟩
  split
  ·exact⟨⟨k.len,k.inr⟩,fun _=>kr⟩
  split
  ·exact⟨k,fun _=>kr⟩
  split
  ·exact⟨k,fun _=>kr⟩
  ·exact⟨k,fun _=>kr⟩
 ·exact⟨.of hw.2.1,fun _ k=>by rw[hw.2.2.2.1];exact k⟩
theorem ZN (p:Pg) (W:List Int) (m:Mc) (v:Sm):(m.call p W v).2.reads=m.reads:=by
 have h1:=yB v.args m []
 unfold Mc.call
 generalize Mc.args v.args m [] = r at *
 obtain⟨o,m1⟩:=r
 dsimp only at h1
 cases o with
 |none=>exact h1.1
 |some l=>
  dsimp only
  split
  ·exact h1.1
  ·rw[(vF ..).2.2.1,(dL ..).2.2.2.2.1];exact h1.1
theorem WD (W:List Int) (m:Mc) (v:Sm):(m.fA W v).2.reads=m.reads:=by
 have hw:=gL m v.x
 unfold Mc.fA
 split
 ·dsimp only
  split
  ·rw[(dL ..).2.2.2.2.1,hw.2.2.2.1]
  ·exact hw.2.2.2.1
 ·exact(dL ..).2.2.2.2.1
theorem WE (W:List Int) (m:Mc) (v:Sm):(m.fA W v).2.mem=m.mem:=by
 have hw:=gL m v.x
 unfold Mc.fA
 split
 ·dsimp only
  split
  ·rw[(dL ..).2.1,hw.2.1]
  ·exact hw.2.1
 ·exact(dL ..).2.1
structure ZO (p:Pg) (T W:List Int) (fuel:Int):Prop where
 ok:p.gu
 right:p.Right
 W:W.length<1000000
 TL:T.length<1000000
 fuel:0≤fuel∧fuel≤1000000
 jn:p.jn
 tape : ∀ t∈T,eZ t
structure N5 (p:Pg) (T W:List Int) (fuel:Int) (a:Int) (m:Mc):Prop where
 ok:mS p p.aR.L a m
 sz:vV m
 fin:m.fin=0
 fuel:m.steps≤fuel
 mem:(m.mem.length:Int)≤40+24*m.steps
 inr : ∀ x∈m.mem,eZ x
 reads:m.reads≤(T.length:Int)
section
variable {p:Pg} {T W:List Int} {fuel:Int} {m m2:Mc} {a b:Int}
theorem N6 (hR:p.Right) (h:N5 p T W fuel a m) {g:Int} (hg:eZ g) (e:m.back p.aR.L g=(some b,m2)):N5 p T W fuel b m2:=by
 have hk:=PU (pe hR) h.ok e
 have ko:=tW p.aR.L m g
 have hm:=WC p.aR.L (m:=m) (g:=g) fun _=>hg
 have hz:=h.sz.close (L:=p.aR.L) g
 unfold Mc.back at e
 dsimp only at e
 simp only[Prod.mk.injEq]at e
 obtain⟨e1,e2⟩:=e
 rw[e2]at ko hm hz e1
 have hf:(m2.fin==0)=true:=by
  refine Decidable.byContradiction fun c=>?_
  rw[if_neg c]at e1;cases e1
 have hl:=hm.len
 exact⟨hk,hz,by simpa using hf,by rw[ko.2.2.2.1];exact h.fuel,by rw[ko.2.2.2.1];have:=h.mem;omega,hm.inr h.inr,by rw[ko.2.2.1];exact h.reads⟩
theorem ZP (hS:ZO p T W fuel) (h:N5 p T W fuel a m) (e:m.next p p.aR.L T W fuel a=(some b,m2)):N5 p T W fuel b m2:=by
 unfold Mc.next at e
 by_cases ba:(a == -1)=true
 ·rw [if_pos ba]at e
  exact N6 hS.right h (by simp[eZ]) e
 rw[if_neg ba]at e
 by_cases bf:(m.steps==fuel)=true
 ·rw[if_pos bf]at e;cases e
 rw[if_neg bf]at e
 dsimp only at e
 have aha:m.steps<fuel:=by
  have h1:m.steps≠fuel:=by simpa using bf
  have:=h.fuel;omega
 obtain⟨fr,r,f,jN,hF,h1,h0,h5,h2,h3,h4⟩:=Tz hS.ok hS.right h.ok (by have:=h.sz.st;omega)
 obtain⟨hx,sL,ij,c,hac,HD⟩:=I3 h.ok h4 hS.right (by simpa using ba) h1
 have zh:mS p p.aR.L a ({m with steps:=m.steps+1} : Mc):=h.ok.of rfl (zal _) h.ok.at_
 have ja:=h.inr
 have hml:=h.mem
 have jG:=h.reads
 have ZQ:=h.sz.reads.1
 have DA:=h.sz.st
 have BB : ∀ m2:Mc,zc ({m with steps:=m.steps+1} : Mc) m2→m2.st.length≤101→vV m2:=fun m2 hl hs=>h.sz.less hl hs
 have gd:({m with steps:=m.steps+1} : Mc).st=m.st:=rfl
 have nz:({m with steps:=m.steps+1} : Mc).steps=m.steps+1:=rfl
 have jq:({m with steps:=m.steps+1} : Mc).mem=m.mem:=rfl
 have tt:({m with steps:=m.steps+1} : Mc).reads=m.reads:=rfl
 have Ag:({m with steps:=m.steps+1} : Mc).fin=0:=h.fin
 have ug:({m with steps:=m.steps+1} : Mc).top=fr:=h4
 generalize ff p.aR.L a=it at *
 generalize ({m with steps:=m.steps+1} : Mc)=m1 at *
 by_cases b4:(it.s.kind==4)=true
 ·rw [if_pos b4]at e
  have hk:it.s.kind=4:=by simpa using b4
  have hlen:it.s.args.length≤8:=by
   obtain⟨j,q,c1,c2,c3⟩:=PV hS.right hx hk
   rw[c3];exact((sP hS.right.may).2.2 q (zad c2)).1
  have qu:=ZM hS.right.may W m1 it.s (Lk hS.right hS.jn hx).1 hlen
  have ko:=Dz p W m1 it.s
  have hc:=fun h0=>PW (W:=W) hS.right zh hx hk (by rw[sL,ug]) h0 (a':=(m1.call p W it.s).1) (m':=(m1.call p W it.s).2) rfl Ag
  have kz:(m1.call p W it.s).2.st.length≤101:=by
   rcases ko.2 with h|h
   ·rw[gd]at h;omega
   ·exact h
  simp only[Prod.mk.injEq]at e
  obtain⟨e1,e2⟩:=e
  rw[e2]at e1 qu ko kz hc
  have hf:m2.fin=0:=by
   refine Decidable.byContradiction fun c=>?_
   rw[if_neg (by simpa using c)]at e1;cases e1
  rw[if_pos (by simp[hf])]at e1
  have eb:=Option.some.inj e1
  rw[eb]at hc
  have aj8:=qu.len
  rw[jq]at aj8
  have EV:=ko.1.reads
  refine⟨hc hf,BB _ ko.1 kz,hf,by rw[ko.1.steps,nz];omega,by rw[ko.1.steps,nz];omega,qu.inr (by rw[jq];exact ja), ?_⟩
  have Qi:=ZN p W m1 it.s
  rw[e2,tt]at Qi
  rw[Qi];exact jG
 rw[if_neg b4]at e
 have Kj:=(Lk hS.right hS.jn hx).2
 by_cases b9:(it.s.kind==9)=true
 ·rw [if_pos b9]at e
  have qu:=WB W (m:=m1) Kj
  have lG:=BA W m1 it.s
  have Ww:=FD W m1 it.s
  have hgr:=WD W m1 it.s
  have Ak:=WE W m1 it.s
  generalize m1.fA W it.s=G at *
  obtain⟨g,m3⟩:=G
  dsimp only at *
  by_cases c:(m3.fin==0)=true
  ·rw [if_pos c]at e
   have WA:=qu.1.len
   rw[jq]at WA
   refine N6 hS.right (a:=a) (m:=m3) ⟨zh.of Ww.1 ?_ zh.at_,BB _ lG (by rw[Ww.1,gd];exact DA),by simpa using c,by rw[lG.steps,nz];omega,by rw[lG.steps,nz];omega,qu.1.inr (by rw[jq];exact ja),by rw[hgr,tt];exact jG⟩ (qu.2 (by rw[jq];exact ja)) e
   rw[Ak];exact zal _
  ·rw[if_neg c]at e;cases e
 rw[if_neg b9]at e
 have qu:=ahA p p.aR.L hS.tape W (m:=m1) Kj
 have Qe:=I5 p p.aR.L T W m1 it
 have zF:=(S4 p p.aR.L T W m1 it).1
 have hd:=aa7 (T:=T) (W:=W) hS.right zh hx (by rw[sL,ug])
 generalize m1.do p p.aR.L T W it=G at *
 obtain⟨g,m3⟩:=G
 dsimp only at *
 simp only[Prod.mk.injEq]at e
 obtain⟨e1,rfl⟩:=e
 have hf:m3.fin=0:=by
  refine Decidable.byContradiction fun c=>?_
  rw[if_neg (by simpa using c)]at e1;cases e1
 rw[if_pos (by simp[hf])]at e1
 have eb:=Option.some.inj e1
 rw[← eb]
 have WA:=qu.1.len
 rw[jq]at WA
 exact⟨hd hf,BB _ Qe (by rw[zF,gd];exact DA),hf,by rw[Qe.steps,nz];omega,by rw[Qe.steps,nz];omega,qu.1.inr (by rw[jq];exact ja),qu.2 (by rw[tt];exact ZQ) (by rw[tt];exact jG)⟩
end
end Go.Abs
namespace Go.Abs
set_option maxRecDepth 8000
open Go.Proofs
theorem WG {x:Ex} (h:x.may=true):x.op≠0:=fun e=>by
 rw[← xh]at h
 obtain⟨op,n,name,kids⟩:=x
 subst e
 have h1:=((vA 0 n name kids 20).1 h).2.1
 have:kg 0 = -1:=by decide
 omega
theorem aj9 {v:Sm} (h:v.one=true):(v.rI=true→v.x.may=true)∧(v.rI=false→v.x.op=0)∧1≤v.kind∧v.kind≤10:=by
 unfold Sm.one at h
 split at h
 ·cases h
 rename_i c
 simp only[zaC,not_or,decide_eq_true_eq]at c
 refine⟨fun e=>?_,fun e=>?_,by omega,by omega⟩
 ·have:=c.1.1.2
  simpa[e]using this
 ·have:=c.1.2
  simp only[e,zax,zbf,zaH,zbb]at this
  unfold Ex.none at this
  simp only[zar,beq_iff_eq]at this
  exact this.1.1.1
def l7 (r:Option Int×Mc) (a':Int) (m':Mc):Prop:=match r with
 |(some b,m2)=>a'=b∧m'=m2
 |(none,m2)=>m'.fin≠0∧DE m' m2
theorem DE.refl (m:Mc):DE m m:=⟨rfl,rfl,rfl,rfl,rfl⟩
theorem l7.back (L:List Im) (m:Mc) (g:Int):l7 (m.back L g) (m.close L g).1 (m.close L g).2:=by
 unfold Mc.back l7
 dsimp only
 split
 ·rename_i e
  split at e
  ·cases e;exact⟨rfl,rfl⟩
  ·cases e
 ·rename_i e
  split at e
  ·cases e
  ·rename_i c
   cases e
   exact⟨by simpa using c,DE.refl _⟩
theorem l7.fin {r:Int×Mc} (h:r.2.fin=0):l7 (if r.2.fin==0 then some r.1 else none,r.2) r.1 r.2:=by
 unfold l7;rw[if_pos (by simp[h])];exact⟨rfl,rfl⟩
theorem N7 {m:Mc} {x:Ex} (h:(m.bA x).1.2=true):(m.bA x).2=m:=by unfold Mc.bA at h ⊢;dsimp only at h ⊢;rw[if_pos h]
theorem N8 {m:Mc} {x:Ex} (h:(m.bA x).1.2=false):(m.bA x).2 = {m with fin:=4}:=by unfold Mc.bA at h ⊢;dsimp only at h ⊢;rw[if_neg (by simp[h])]
section
variable {p:Pg} {T W:List Int} {m:Mc} {it:Im}
theorem adD (hk:it.s.kind=7∨it.s.kind=8∨it.s.kind=10) (v:Int):m.do p p.aR.L T W it=DC W it (Ay p it) m v:=by
 unfold Mc.do DC Ay
 dsimp only
 rcases hk with hk|hk|hk<;>simp[hk]
 ·rfl
theorem ZR (hk:it.s.kind=1∨it.s.kind=3∨it.s.kind=5∨it.s.kind=6) (h:(m.bA it.s.x).1.2=true):m.do p p.aR.L T W it=DC W it (Ay p it) m (m.bA it.s.x).1.1:=by
 unfold Mc.do DC
 dsimp only
 rw[if_pos h,N7 h]
 rcases hk with hk|hk|hk|hk<;>simp[hk]
theorem ahC (hk:it.s.kind=1∨it.s.kind=3∨it.s.kind=5∨it.s.kind=6) (h:(m.bA it.s.x).1.2=false):m.do p p.aR.L T W it=(-1,{m with fin:=4}):=by
 unfold Mc.do
 dsimp only
 rw[h,N8 h]
 rcases hk with hk|hk|hk|hk<;>simp[hk]
theorem adE (hk:it.s.kind=2) {t:Int} (e:T[m.reads.toNat]? = some t):m.do p p.aR.L T W it=DC W it (Ay p it) {m with reads:=m.reads+1} t:=by
 unfold Mc.do DC
 dsimp only
 rw[e]
 simp[hk]
 unfold Mc.event Mc.set Mc.cell Mc.top
 split<;>rfl
theorem ahD (hk:it.s.kind=2) (e:T[m.reads.toNat]? = none):m.do p p.aR.L T W it=(-1,{m with fin:=3}):=by
 unfold Mc.do
 dsimp only
 rw[e]
 simp[hk]
theorem I9 (to v:Int):(DC W it to m v).2.fin=m.fin:=by
 unfold DC
 repeat' split
 all_goals exact Kn ..
end
section
variable {p:Pg} {T W:List Int} {fuel:Int} {y:Ly} {a:Int} {m:Mc} {loc:List (Nat×List D)} {s:St}
set_option maxHeartbeats 1600000 in
theorem ZS (hS : ZO p T W fuel) (h : fj p T W fuel y a m loc s) (hA : N5 p T W fuel a m) :
   bp Tryz.prog 52 [.ptr y.c 0] s (fun d s' => d = .tuple [] ∧ ∃ y' a' m', y'.c = y.c ∧ fj p T W fuel y' a' m' loc s' ∧ l7 (m.next p p.aR.L T W fuel a) a' m') := by
 obtain ⟨fr, r, f, jN, hF, h1, h0, h5, h2, h3, h4⟩ := Tz hS.ok hS.right hA.ok (by have := hA.sz.st; omega)
 obtain ⟨fo, g, more, ht⟩ := h.BD hF.st
 have c1 := sO h ht hF.len
 have gE := ht.at_
 have k0 := ht.c0
 have k2 := ht.c2
 have k3 := ht.c3
 have hm := h.eW
 have hl := df hm
 have anq := h.wK fo (by rw[ht.fs]; simp[D.arr])
 rw[gb]at hm
 unfold Mc.next
 rcases zaa (a == -1) with ba|ba
 · rw [if_pos ba]
   obtain ⟨y2, s2, cL, h6, hy⟩ := DD h hF (TA hS.ok hS.right hA.ok (by have := hA.sz.st; omega) jN) 0
   refine bp.iY ey.h rfl fun B Q hB hQ =>?_
   have ⟨hD, hY, hZ, gC⟩ := bb
   repeat' (first
 |simp only[go_sem, hD, hY, hZ, gC, gE, k2, ba]
 |(with_reducible refine CU (c1) ?_)
 |(with_reducible refine CU (cL) ?_)
 | (with_reducible refine ax hQ ?_; exact aB))
   (refine dG hQ ?_; simp only[bF, bG, bZ, cb, go_sem])
   exact ⟨y2, _, _, hy, h6, l7.back _ _ _⟩
 rw[if_neg (by simp[ba])]
 rcases zaa (m.steps == fuel) with bf|bf
 · rw [if_pos bf]
   have h6 := h.lT (m' := { m with fin := 2 }) rfl rfl h.t0 h.t1
   rw[gb]at h6
   refine bp.iY ey.h rfl fun B Q hB hQ =>?_
   have ⟨hD, hY, hZ, gC⟩ := bb
   repeat' (first
 |simp only[go_sem, hD, hY, hZ, gC, gE, k2, ba, hm, hl, bf]
 |(with_reducible refine CU (c1) ?_)
 | (with_reducible refine ax hQ ?_; exact aB))
   (refine dG hQ ?_; simp only[bF, bG, bZ, cb, go_sem])
   exact ⟨y, a, _, rfl, h6, by simp[l7], DE.refl _⟩
 rw[if_neg (by simp[bf])]
 obtain ⟨hx, sL, ij, c, hac, HD⟩ := I3 hA.ok h4 hS.right (by simpa using ba) h1
 have hfb := hS.fuel
 have aha : m.steps < fuel := by
   have h : m.steps ≠ fuel := by simpa using bf
   have := hA.fuel; omega
 have v7 := hA.sz.steps
 have xy : IntKind.wrap .i64 (m.steps + 1) = m.steps + 1 := dv (by omega) (by omega)
 have hf := zad hx.proc.1
 have kj : (ff p.aR.L a).s ∈ p.pre := by
   simp only[Pg.pre, zbE, zaF]; exact ⟨_, ⟨f, hf, rfl⟩, hx.mem⟩
 have ig := An hS.right.may _ kj
 obtain ⟨o1, o2, o3, o4⟩ := aj9 ig
 have fx := Ed hS.right.may hf
 have pl := (By hS.right.may ij (i := fr.proc.toNat) (f := f) (by rw[sL]; omega) h1).1
 have lQ : (ff p.aR.L a).s.id = a := by rw[N4 hS.right.may HD]; omega
 have iD := pl.item
 rw[lQ]at iD
 have cI := fun s => NO (l := f.flat) (by omega) a s
 rw[h5]at k0
 dsimp only
 generalize ff p.aR.L a = it at *
 generalize jc a f.flat = X at *
 have h6 := (h.lT (m' := { m with steps := m.steps + 1 }) rfl rfl h.t0 h.t1).new (aY it.s)
 obtain ⟨aqN, ht7⟩ := h6.xC (fr := fr) (r := r) hF.st ht.fs
 have hF7 : tX p ({ m with steps := m.steps + 1 } : Mc) fr r := ⟨hF.st, hF.len, hF.names, hF.vars, hF.cells, hF.pc⟩
 have aqO : l5 ({ m with steps := m.steps + 1 } : Mc) fr r := ⟨jN.st, jN.len, jN.names, jN.vars⟩
 have TB : mS p p.aR.L a ({ m with steps := m.steps + 1 } : Mc) := hA.ok.of rfl (zal _) hA.ok.at_
 have gH : ∀ q ∈ loc, q ∈ ((s.aq.set y.c (gb p T W fuel y { m with steps := m.steps + 1 })).length, aY it.s) :: loc := fun q mq => zan _ mq
 have Kq := h6.eW
 have N9 := df Kq
 have Oa := ht7.at_
 have q3 := ht7.c3
 have arA := hA.sz.trace
 have arB := hA.sz.out
 have am4 := hA.sz.st
 have ann := hA.mem
 have jG := hA.reads
 have ZQ := hA.sz.reads
 simp only[gb]at h6 Kq N9 Oa gH
 have nz : ∀ r, (s.aq.set y.c r)[y.c]? = some r := fun r => zaM hl
 have BF : ∀ r, (s.aq.set y.c r)[fo]? = s.aq[fo]? := fun r => zam (Ne.symm anq.1)
 rcases zaa (it.s.kind == 4) with b4|b4
 · rw [if_pos b4]
   have hk : it.s.kind = 4 := by simpa using b4
   have bo : (it.s.x.op != 0) = false := by rw[o2 (by simp[Sm.rI, hk])]; rfl
   have cC := ZJ h6 hF7 lQ (adC hS.ok hS.right hS.jn hx hk hF7 h2 h3 (by dsimp only; omega) (by dsimp only; omega) hA.inr) hA.fin hS.W (by dsimp only; omega)
   refine bp.iY ey.h rfl fun B Q hB hQ =>?_
   have ⟨hD, hY, hZ, gC⟩ := bb
   repeat' (first
 |simp only[go_sem, hD, hY, hZ, gC, gE, k2, ba, hm, hl, bf, nz, BF, k0, xy, jD, jE, iD, b4, bo]
 |(with_reducible refine CU (c1) ?_)
 |(with_reducible refine CU (cI _) ?_)
 | (with_reducible refine ax hQ ?_; exact aB))
   refine CR cC fun d s2 EV =>?_
   obtain ⟨rfl, y2, a2, m2, hy, h8, DW⟩ := EV
   repeat' (first
 |simp only[go_sem, hD, hY, hZ, gC]
 | (with_reducible refine ax hQ ?_; exact aB))
   (refine dG hQ ?_; simp only[bF, bG, bZ, cb, go_sem])
   refine ⟨y2, a2, m2, hy, h8.sub gH, ?_⟩
   by_cases rW : (({ m with steps := m.steps + 1 } : Mc).call p W it.s).2.fin = 0
   · rw [if_pos rW] at DW
     obtain ⟨rfl, rfl⟩ := DW
     exact l7.fin rW
   · rw [if_neg rW] at DW
     unfold l7
     rw[if_neg (by simpa using rW)]
     exact DW
 rw[if_neg (by simp[b4])]
 have cV := NW h6 hF.st ht7 hF.len hF.vars hF.cells
 have PF : ({ m with steps := m.steps + 1 } : Mc).bu.length < 4611686018427387904 := by unfold Mc.bu; rw[zaw]; show m.top.vars.length < _; rw[h4]; have := hF.vars; omega
 have Kj := (Lk hS.right hS.jn hx).2
 have cW : it.s.x.may = true → ∀ (n : Nat) (s : St), az Tryz.prog 90 [.agg (bT it.s.x), .slice .shared 1 (fr.names.map encStr), .slice (.tok n) 1 (({ m with steps := m.steps + 1 } : Mc).bu.map bD)] s (oY (({ m with steps := m.steps + 1 } : Mc).bA it.s.x).1) s := fun xx n s => by
   have e : (({ m with steps := m.steps + 1 } : Mc).bA it.s.x).1 = it.s.x.bA fr.names ({ m with steps := m.steps + 1 } : Mc).bu := by unfold Mc.bA; show it.s.x.bA m.top.names _ = _; rw[h4]
   rw[e]
   exact bp.lU (.cons (Wk.refl _) (.cons (Wk.refl _) (.cons (Wk.shared (.tok n) 1 _) .nil))) (Ki xx Kj (by have := hF.names; omega) PF (Qk hA.inr) s)
 have h7 := h6.ay [some ({ m with steps := m.steps + 1 } : Mc).bu.length]
 rcases zaa (it.s.kind == 9) with b9|b9
 · rw [if_pos b9]
   have hk : it.s.kind = 9 := by simpa using b9
   rcases zaa it.s.has with bh|bh
   · have xx := o1 (by simp [Sm.rI, hk, bh])
     have bo : (it.s.x.op != 0) = true := by simpa using WG xx
     have HK := cW xx
     cases Ax : (({ m with steps := m.steps + 1 } : Mc).bA it.s.x).1 with
     |mk w ok =>
     rw[Ax]at HK
     simp only[oY]at HK
     cases ok
     · have e2 : (({ m with steps := m.steps + 1 } : Mc).bA it.s.x).1.2 = false := by rw [Ax]
       have hg : ({ m with steps := m.steps + 1 } : Mc).fA W it.s = (w, { m with steps := m.steps + 1, fin := 4 }) := by
         unfold Mc.fA
         rw[if_pos bh]
         dsimp only
         rw[if_neg (by rw[e2]; simp), N8 e2, Ax]
       rw[hg, if_neg (by simp)]
       have h8 := h7.lT (m' := { m with steps := m.steps + 1, fin := 4 }) rfl rfl h7.t0 h7.t1
       simp only[gb]at h8
       refine bp.iY ey.h rfl fun B Q hB hQ =>?_
       have ⟨hD, hY, hZ, gC⟩ := bb
       repeat' (first
 |simp only[go_sem, hD, hY, hZ, gC, gE, k2, ba, hm, hl, bf, nz, BF, k0, xy, jD, jE, iD, b4, b9, bh, bo, Oa, q3, Kq, N9]
 |(with_reducible refine CU (c1) ?_)
 |(with_reducible refine CU (cI _) ?_)
 |(with_reducible refine CU (cV) ?_)
 |(with_reducible refine CU (HK _ _) ?_)
 |(with_reducible refine ax hQ ?_; exact aB))
       (refine dG hQ ?_; simp only[bF, bG, bZ, cb, go_sem])
       exact ⟨y, a, _, rfl, h8.sub gH, by simp[l7], DE.refl _⟩
     · have e2 : (({ m with steps := m.steps + 1 } : Mc).bA it.s.x).1.2 = true := by rw [Ax]
       have hg : ({ m with steps := m.steps + 1 } : Mc).fA W it.s = (w, ({ m with steps := m.steps + 1 } : Mc).event W it.s.id [w]) := by
         unfold Mc.fA
         rw[if_pos bh]
         dsimp only
         rw[if_pos e2, N7 e2, Ax]
       obtain ⟨s8, cE, h8⟩ := vG h7 hS.W (by dsimp only; omega) it.s.id [w]
       have xD : az Tryz.prog 93 [.ptr y.c 0, .int .i64 it.s.id, .slice .full 1 [[.int .i64 w]]] _ (.tuple []) s8 := bp.lU (.cons (Wk.refl _) (.cons (Wk.refl _) (.cons (Wk.shared _ _ _) .nil))) cE
       have he := dL W ({ m with steps := m.steps + 1 } : Mc) it.s.id [w]
       have WH : tX p (({ m with steps := m.steps + 1 } : Mc).event W it.s.id [w]) fr r := ⟨by rw[he.1]; exact hF.st, hF.len, hF.names, hF.vars, by rw[he.2.1]; exact hF.cells, hF.pc⟩
       have hE8 := TA hS.ok hS.right (TB.of he.1 (by rw[he.2.1]; exact zal _) TB.at_) (by rw[he.1]; dsimp only; omega) (fr := fr) (r := r) ⟨by rw[he.1]; exact jN.st, jN.len, jN.names, jN.vars⟩
       obtain ⟨y9, s9, cL, h9, HL⟩ := DD h8 WH hE8 w
       rw[hg]
       rw[if_pos (by rw[he.2.2.1]; simp[hA.fin])]
       refine bp.iY ey.h rfl fun B Q hB hQ =>?_
       have ⟨hD, hY, hZ, gC⟩ := bb
       repeat' (first
 |simp only[go_sem, hD, hY, hZ, gC, gE, k2, ba, hm, hl, bf, nz, BF, k0, xy, jD, jE, iD, b4, b9, bh, bo, Oa, q3, Kq, N9]
 |(with_reducible refine CU (c1) ?_)
 |(with_reducible refine CU (cI _) ?_)
 |(with_reducible refine CU (cV) ?_)
 |(with_reducible refine CU (HK _ _) ?_)
 |(with_reducible refine CU (xD) ?_)
 |(with_reducible refine CU (cL) ?_)
 | (with_reducible refine ax hQ ?_; exact aB))
       (refine dG hQ ?_; simp only[bF, bG, bZ, cb, go_sem])
       exact ⟨y9, _, _, HL, h9.sub gH, l7.back _ _ _⟩
   · have bo : (it.s.x.op != 0) = false := by rw [o2 (by simp [Sm.rI, hk, bh])]; rfl
     obtain ⟨s8, cE, h8⟩ := vG h6 hS.W (by dsimp only; omega) it.s.id []
     have xD : az Tryz.prog 93 [.ptr y.c 0, .int .i64 it.s.id, .slice .full 0 []] _ (.tuple []) s8 := bp.lU (.cons (Wk.refl _) (.cons (Wk.refl _) (.cons yK .nil))) cE
     have hg : ({ m with steps := m.steps + 1 } : Mc).fA W it.s = (0, ({ m with steps := m.steps + 1 } : Mc).event W it.s.id []) := by unfold Mc.fA; rw[if_neg (by simp[bh])]
     have he := dL W ({ m with steps := m.steps + 1 } : Mc) it.s.id []
     have WH : tX p (({ m with steps := m.steps + 1 } : Mc).event W it.s.id []) fr r := ⟨by rw[he.1]; exact hF.st, hF.len, hF.names, hF.vars, by rw[he.2.1]; exact hF.cells, hF.pc⟩
     have hE8 := TA hS.ok hS.right (TB.of he.1 (by rw[he.2.1]; exact zal _) TB.at_) (by rw[he.1]; dsimp only; omega) (fr := fr) (r := r) ⟨by rw[he.1]; exact jN.st, jN.len, jN.names, jN.vars⟩
     obtain ⟨y9, s9, cL, h9, HL⟩ := DD h8 WH hE8 0
     rw[hg]
     rw[if_pos (by rw[he.2.2.1]; simp[hA.fin])]
     refine bp.iY ey.h rfl fun B Q hB hQ =>?_
     have ⟨hD, hY, hZ, gC⟩ := bb
     repeat' (first
 |simp only[go_sem, hD, hY, hZ, gC, gE, k2, ba, hm, hl, bf, nz, BF, k0, xy, jD, jE, iD, b4, b9, bh, bo]
 |(with_reducible refine CU (c1) ?_)
 |(with_reducible refine CU (cI _) ?_)
 |(with_reducible refine CU (xD) ?_)
 |(with_reducible refine CU (cL) ?_)
 |(with_reducible refine ax hQ ?_; exact aB))
     (refine dG hQ ?_; simp only[bF, bG, bZ, cb, go_sem])
     exact ⟨y9, _, _, HL, h9.sub gH, l7.back _ _ _⟩
 rw[if_neg (by simp[b9])]
 have LM := aj7 hS.ok hS.right hx ij sL h5 h2 h3 (by simpa using b4) (by simpa using b9)
 have k4 : it.s.kind ≠ 4 := by simpa using b4
 have k9 : it.s.kind ≠ 9 := by simpa using b9
 rcases zaa (it.s.kind == 2) with b2|b2
 · have hk : it.s.kind = 2 := by simpa using b2
   have bo : (it.s.x.op != 0) = false := by rw[o2 (by simp[Sm.rI, hk])]; rfl
   cases e : T[m.reads.toNat]? with
   | none =>
     have hle := zbA.1 e
     have bt : (((T.length : Nat) : Int) == m.reads) = true := by simp; omega
     rw[ahD (m := { m with steps := m.steps + 1 }) hk e, if_neg (by simp)]
     have h8 := h6.lT (m' := { m with steps := m.steps + 1, fin := 3 }) rfl rfl h6.t0 h6.t1
     simp only[gb]at h8
     refine bp.iY ey.h rfl fun B Q hB hQ =>?_
     have ⟨hD, hY, hZ, gC⟩ := bb
     repeat' (first
 |simp only[go_sem, hD, hY, hZ, gC, gE, k2, ba, hm, hl, bf, nz, BF, k0, xy, jD, jE, iD, b4, b9, b2, bo, bt, Kq, N9]
 |(with_reducible refine CU (c1) ?_)
 |(with_reducible refine CU (cI _) ?_)
 | (with_reducible refine ax hQ ?_; exact aB))
     (refine dG hQ ?_; simp only[bF, bG, bZ, cb, go_sem])
     exact ⟨y, a, _, rfl, h8.sub gH, by simp[l7], DE.refl _⟩
   | some tv =>
     have zJ := (zac.1 e).1
     have bt : (((T.length : Nat) : Int) == m.reads) = false := by simp; omega
     have hTl := hS.TL
     have w1 : IntKind.wrap .i64 (m.reads + 1) = m.reads + 1 := dv (by omega) (by omega)
     have w2 : IntKind.wrap .i64 (m.reads + 1 - 1) = m.reads := by rw[show m.reads + 1 - 1 = m.reads by omega]; exact dv (by omega) (by omega)
     have r0 : (0 ≤ m.reads) = True := by simp[ZQ.1]
     rw[adE (m := { m with steps := m.steps + 1 }) hk e]
     have h8 := h6.lT (m' := { m with steps := m.steps + 1, reads := m.reads + 1 }) rfl rfl h6.t0 h6.t1
     have hm8 := h8.eW
     have z8 := (h8.loc _ (zaA ..)).1
     have WH : tX p ({ m with steps := m.steps + 1, reads := m.reads + 1 } : Mc) fr r := ⟨hF.st, hF.len, hF.names, hF.vars, hF.cells, hF.pc⟩
     simp only[gb]at h8 hm8 z8
     obtain ⟨y9, s9, cD, h9, HL⟩ := NY h8 WH LM hS.W (by dsimp only; omega) (by dsimp only; omega) tv
     refine bp.iY ey.h rfl fun B Q hB hQ =>?_
     have ⟨hD, hY, hZ, gC⟩ := bb
     repeat' (first
 |simp only[go_sem, hD, hY, hZ, gC, gE, k2, ba, hm, hl, bf, nz, BF, k0, xy, jD, jE, iD, b4, b9, b2, bo, bt, Kq, N9, w1, w2, r0, e, hm8, z8]
 |(with_reducible refine CU (c1) ?_)
 |(with_reducible refine CU (cI _) ?_)
 |(with_reducible refine CU (cD) ?_)
 |(with_reducible refine ax hQ ?_; exact aB))
     (refine dG hQ ?_; simp only[bF, bG, bZ, cb, go_sem])
     exact ⟨y9, _, _, HL, h9.sub gH, l7.fin (by rw[I9]; exact hA.fin)⟩
 have k2' : it.s.kind ≠ 2 := by simpa using b2
 by_cases hj : it.s.kind = 7 ∨ it.s.kind = 8 ∨ it.s.kind = 10
 · have bo : (it.s.x.op != 0) = false := by rw [o2 (by rcases hj with hk | hk | hk <;> simp [Sm.rI, hk])]; rfl
   rw[adD hj 0]
   obtain ⟨y9, s9, cD, h9, HL⟩ := NY h6 hF7 LM hS.W (by dsimp only; omega) (by dsimp only; omega) 0
   refine bp.iY ey.h rfl fun B Q hB hQ =>?_
   have ⟨hD, hY, hZ, gC⟩ := bb
   repeat' (first
 |simp only[go_sem, hD, hY, hZ, gC, gE, k2, ba, hm, hl, bf, nz, BF, k0, xy, jD, jE, iD, b4, b9, b2, bo]
 |(with_reducible refine CU (c1) ?_)
 |(with_reducible refine CU (cI _) ?_)
 |(with_reducible refine CU (cD) ?_)
 | (with_reducible refine ax hQ ?_; exact aB))
   (refine dG hQ ?_; simp only[bF, bG, bZ, cb, go_sem])
   exact ⟨y9, _, _, HL, h9.sub gH, l7.fin (by rw[I9]; exact hA.fin)⟩
 have hk : it.s.kind = 1 ∨ it.s.kind = 3 ∨ it.s.kind = 5 ∨ it.s.kind = 6 := by omega
 have xx := o1 (by rcases hk with hk|hk|hk|hk<;>simp[Sm.rI, hk])
 have bo : (it.s.x.op != 0) = true := by simpa using WG xx
 have HK := cW xx
 cases Ax : (({ m with steps := m.steps + 1 } : Mc).bA it.s.x).1 with
 |mk w ok =>
 rw[Ax]at HK
 simp only[oY]at HK
 cases ok
 · have e2 : (({ m with steps := m.steps + 1 } : Mc).bA it.s.x).1.2 = false := by rw [Ax]
   rw[ahC hk e2, if_neg (by simp)]
   have h8 := h7.lT (m' := { m with steps := m.steps + 1, fin := 4 }) rfl rfl h7.t0 h7.t1
   simp only[gb]at h8
   refine bp.iY ey.h rfl fun B Q hB hQ =>?_
   have ⟨hD, hY, hZ, gC⟩ := bb
   repeat' (first
 |simp only[go_sem, hD, hY, hZ, gC, gE, k2, ba, hm, hl, bf, nz, BF, k0, xy, jD, jE, iD, bo, Oa, q3, Kq, N9]
 |(with_reducible refine CU (c1) ?_)
 |(with_reducible refine CU (cI _) ?_)
 |(with_reducible refine CU (cV) ?_)
 |(with_reducible refine CU (HK _ _) ?_)
 | (with_reducible refine ax hQ ?_; exact aB))
   (refine dG hQ ?_; simp only[bF, bG, bZ, cb, go_sem])
   exact ⟨y, a, _, rfl, h8.sub gH, by simp[l7], DE.refl _⟩
 · have e2 : (({ m with steps := m.steps + 1 } : Mc).bA it.s.x).1.2 = true := by rw [Ax]
   rw[ZR hk e2, Ax]
   obtain ⟨y9, s9, cD, h9, HL⟩ := NY h7 hF7 LM hS.W (by dsimp only; omega) (by dsimp only; omega) w
   refine bp.iY ey.h rfl fun B Q hB hQ =>?_
   have ⟨hD, hY, hZ, gC⟩ := bb
   repeat' (first
 |simp only[go_sem, hD, hY, hZ, gC, gE, k2, ba, hm, hl, bf, nz, BF, k0, xy, jD, jE, iD, b4, b9, b2, bo, Oa, q3, Kq, N9]
 |(with_reducible refine CU (c1) ?_)
 |(with_reducible refine CU (cI _) ?_)
 |(with_reducible refine CU (cV) ?_)
 |(with_reducible refine CU (HK _ _) ?_)
 |(with_reducible refine CU (cD) ?_)
 | (with_reducible refine ax hQ ?_; exact aB))
   (refine dG hQ ?_; simp only[bF, bG, bZ, cb, go_sem])
   exact ⟨y9, _, _, HL, h9.sub gH, l7.fin (by rw[I9]; exact hA.fin)⟩
end
end Go.Abs
namespace Go.Abs
set_option maxRecDepth 8000
open Go.Proofs
def ofM (p:Pg) (T W:List Int) (fuel:Int):Mc×Int:=
 if decide (fuel<0) ||(decide (fuel > 1000000) || !(p.check.1==0))then(⟨[],[],0,0,0,[],[]⟩,1)else((runM p T W fuel).getD ⟨[],[],0,0,0,[],[]⟩,0)
theorem Ee (m:Mc):D.bM 0 0 (eK m)=true:=by simp[eK,D.bM,D.ok,Tag.ok,jm,abg]
theorem adF {p:Pg} (hR:p.Right) : ∃ (j:Nat) (q:Pc),p.at iR=(j:Int)∧p.procs[j]? = some q∧p.find q.name=some q∧q.params.length=0:=by
 have h:=hR.main
 unfold Pg.oT at h
 cases e:p.find iR with
 |none=>rw[e]at h;cases h
 |some q=>
  rw[e]at h
  obtain⟨j,h1,h2⟩:=Bo (k:=0) e
  refine⟨j,q,by simpa[Pg.at]using h1,h2,by rw[Bw e];exact e, ?_⟩
  simp only[decide_eq_false_iff_not]at h
  omega
theorem ahI {p:Pg} (hO:p.gu) {T W:List Int} (hT:T.length<1000000) (hW:W.length<1000000) (fuel:Int) (s:St) :
 az Tryz.prog 17 [.agg (bS p), .slice .shared 1 (T.map bD), .int .i64 fuel, .slice .shared 1 (W.map bD)] s (.tuple [.agg (eK (ofM p T W fuel).1), .int .i64 (ofM p T W fuel).2]) s:=by
 refine az.pure ?_ (by simp[D.bM,D.ok,Tag.ok,gR,jm]) (by simp only[D.ok,D.bM,Ee];rfl) s
 have cM:=fun s=>ag6 hO s
 have cN:=fun s=>DT (p:=p) (by have:=hO.procs;omega) s
 generalize hR:ofM p T W fuel=R
 unfold ofM at hR
 obtain⟨R1,R2⟩:=R
 dsimp only
 unfold S0
 by_cases xF:(decide (fuel<0) ||(decide (fuel > 1000000) || !(p.check.1==0)))=true
 ·rw [if_pos xF]at hR
  cases hR
  simp only[eK,zai]
  rcases zaa (decide (fuel<0))with b1|b1
  ·refine az.go ld.h rfl fun B Q hB hQ=> ?_
   have⟨hD,hY,hZ,gC⟩:=bb
   repeat' (first
 |simp only[go_sem,hD,hY,hZ,gC,b1]
 | (with_reducible refine ax hQ ?_;exact aB))
   refine mM.fJ ?_
   repeat' (first
 |simp only[go_sem,hD,hY,hZ,gC,b1]
 | (with_reducible refine ax hQ ?_;exact aB))
  rcases zaa (decide (fuel > 1000000))with b2|b2
  ·refine az.go ld.h rfl fun B Q hB hQ=> ?_
   have⟨hD,hY,hZ,gC⟩:=bb
   repeat' (first
 |simp only[go_sem,hD,hY,hZ,gC,b1,b2]
 | (with_reducible refine ax hQ ?_;exact aB))
   refine mM.fJ ?_
   repeat' (first
 |simp only[go_sem,hD,hY,hZ,gC,b1,b2]
 | (with_reducible refine ax hQ ?_;exact aB))
  ·have b3:(p.check.1==0)=false:=by simpa [b1,b2]using xF
   rw[b3]at cM
   refine az.go ld.h rfl fun B Q hB hQ=>?_
   have⟨hD,hY,hZ,gC⟩:=bb
   repeat' (first
 |simp only[go_sem,hD,hY,hZ,gC,b1,b2]
 |(with_reducible refine CU (cM _) ?_)
 | (with_reducible refine ax hQ ?_;exact aB))
   refine mM.fJ ?_
   repeat' (first
 |simp only[go_sem,hD,hY,hZ,gC,b1,b2]
 |(with_reducible refine CU (cM _) ?_)
 |(with_reducible refine ax hQ ?_;exact aB))
 rw[if_neg xF]at hR
 simp only[zaC,not_or,zbD,Bool.not_eq_false']at xF
 obtain⟨b1,b2,b3⟩:=xF
 rw[b3]at cM
 have BG:0≤fuel∧fuel≤1000000:=by simp at b1 b2;omega
 obtain⟨mf,EY⟩:=Dm p T W BG.1
 rw[EY]at hR
 simp only[zbh]at hR
 cases hR
 have B3:=Nv b3
 have hS:I7 p T W fuel:=⟨hO,B3,hW,hT,BG⟩
 obtain⟨j,q,j1,j2,j3,j4⟩:=adF B3
 have cP:=fun s=>(show az Tryz.prog 45 [.dO (fU p) 0, .str [109,97,105,110]] s (.int .i64 (p.at iR)) s from GX (p:=p) (by have:=hO.procs;omega) iR s)
 rw[j1]at cP
 have lG:=hO.procs.2.2
 refine az.go ld.h rfl fun B Q hB hQ=>?_
 have⟨hD,hY,hZ,gC⟩:=bb
 -- from the globals on
 have start : ∀ (y:Lay) (s:St),Inv p T W y (gJ p) [(2,xB)] s→Sem Tryz.prog B 131 Q02 (JJ B Q) [(2, .int .i64 fuel),(8, .ptr 2 0),(10, .ptr 0 0)] s:=by
  intro y s hi
  have Kl:=hi.new [.int .i64 0, .int .i64 0, .slice .full 0 [], .str [], .str [], .int .i64 0, .int .i64 0, .str [], .slice .full 0 [], .bool false, .slice .full 0 [], .slice .full 0 [], .slice .full 0 [], .int .i64 0, .int .i64 0, .int .i64 0, .int .i64 0]
  have jq:=Kl.eW
  rw[fO]at jq
  simp only at jq
  obtain⟨y2,s2,hF,lj⟩:=P4 Kl hO B3.may j2 j3 (by simp[gJ]) (l:= []) (by simp) (by simp) (by simp[gJ]) 0
  have hF':=bp.lU (.cons (Wk.refl _) (.cons (Wk.refl _) (.cons (Wk.nil .full 0 1) (jh.refl _)))) hF
  have Hq:az Tryz.prog 44 [.ptr 0 0, .int .i64 (j:Int), .slice .full 0 [], .int .i64 0] _ _ s2:=hF'
  have o8:=IW (m:=gJ p) (pe B3) j2 (l:= []) (call:=0) (by simp[j4]) (by simp) (by simp[gJ]) (by simp[gJ]) (.inl ⟨rfl,rfl⟩)
  have kH:=EY
  unfold runM at kH
  rw[j1]at kH
  dsimp only at kH
  have kn:=vF p (gJ p) (j:Int) [] 0
  have wa:=(D3 p (gJ p) (j:Int) [] 0).1
  have C7:((gJ p).open p (j:Int) [] 0).2.fin=0:=by
   unfold Mc.open
   split<;>rfl
  have ahJ:=ZA (B:=B) hS hQ _ _ _ y2 s.aq.length s2 ⟨⟨_,rfl,lj⟩,o8,⟨by rw[kn.2.2.2];simp[gJ],by rw[kn.1,kn.2.2.2];simp[gJ],by rw[kn.2.1,kn.2.2.2];simp[gJ],by rw[kn.2.2.1,kn.2.2.2];simp[gJ],zaW wa (by simp[gJ])⟩,C7,by rw[kn.2.2.2];simp[gJ];exact BG.1⟩ kH
  refine Sem.kX ?_
  repeat' (first
 |simp only[go_sem,hD,hY,hZ,gC]
 |(with_reducible refine ax hQ ?_;exact aB))
  refine Sem.kX ?_
  repeat' (first
 |simp only[go_sem,hD,hY,hZ,gC]
 |(with_reducible refine ax hQ ?_;exact aB))
  refine Sem.kX ?_
  repeat' (first
 |simp only[go_sem,hD,hY,hZ,gC,jq]
 |(with_reducible refine CU (cP _) ?_)
 |(with_reducible refine CU (Hq) ?_)
 |(with_reducible refine ax hQ ?_;exact aB))
  refine Sem.kX ?_
  repeat' (first
 |simp only[go_sem,hD,hY,hZ,gC]
 |(with_reducible refine ax hQ ?_;exact aB))
  refine Sem.jx ?_ ahJ
  simp only[go_sem]
  repeat' (first|exact Ok.out|with_reducible refine ei ?_ ?_)
 generalize hG:p.globals.length=G at *
 have hGb:G≤900000:=by rw[← hG];exact hO.procs.2.2
 let row:Nat→List D:=fun k=> [.dO (fU p) 0, .slice (.tok 2) 1 ((List.range k).map fun i=>fZ (3+i)), .slice .shared 1 (T.map bD), .slice .shared 1 (W.map bD), .ek 1, .ek 1, .int .i64 0, .int .i64 0, .int .i64 0, .slice (.tok 0) 1 [], .slice (.tok 1) 2 []]
 have loop : ∀ d k:Nat,k+d=G→aN Tryz.prog B 131 Q01 (fX 0 (kA (Sem Tryz.prog B 131 Q02 (JJ B Q)) (JJ B Q))) [(2, .int .i64 fuel),(8, .ptr 2 0),(10, .ptr 0 0),(34, .int .i64 (G:Int)),(35, .int .i64 (k:Int))]
  ⟨row k::bS p::xB::List.replicate k [.int .i64 0],[some 0,some 0,some k]⟩:=by
  intro d
  induction d with
  |zero=>
   intro k hk
   have vX:k=G:=by omega
   subst vX
   have hD:decide ((k:Int)<(k:Int))=false:=by simp
   refine aN.fJ ?_
   repeat' (first
 |simp only[go_sem,hD,hY,hZ,gC]
 | (with_reducible refine ax hQ ?_;exact aB))
   refine Sem.jx (bQ:= [(2, .int .i64 fuel),(8, .ptr 2 0),(10, .ptr 0 0)]) (by simp only[go_sem];repeat' (first|exact Ok.out|with_reducible refine ei ?_ ?_)) ?_
   have hκ:((List.range k).map (3 + ·)).length=k:=by simp
   have hmp:((List.range k).map fun i=>fZ (3+i))=(((List.range k).map (3 + ·)).take k).map fZ:=by rw[zb0 (by simp),List.map_map];rfl
   refine Sem.wkO (fO p T W ⟨(List.range k).map (3 + ·),[], .ek 1, .ek 1⟩ (gJ p)::bS p::xB::List.replicate k [.int .i64 0]) ?_ (start ⟨(List.range k).map (3 + ·),[], .ek 1, .ek 1⟩ _ ?_)
   ·refine .cons ?_ (ie.refl _)
    simp only[row,fO,hG, ← hmp,gJ,zai]
    exact Ok.out
   ·have Wd:((List.range k).map (3 + ·)).Nodup:=by
     rw[zby,List.pairwise_map]
     exact List.Pairwise.imp (fun h=>by omega) (zby.1 List.nodup_range)
    refine⟨rfl,rfl,rfl,by simp[gJ,hG],fun i c v e1 e2=>?_,rfl,fun i o fr e1 e2=>by simp at e1, .inl ⟨rfl,rfl⟩,⟨[], .inl ⟨rfl,rfl⟩⟩, ?_,fun x mx=>?_⟩
    ·have hD:=(zac.1 e1).1
     simp only[hκ]at hD
     rw[zao,zbX hD]at e1
     simp only[gJ]at e2
     rw[zbM (by omega)]at e2
     simp only[za3,Option.some.injEq]at e1 e2
     subst e1 e2
     show(_::_::_::List.replicate k [D.int .i64 0])[3+i]? = _
     rw[show 3+i=i+1+1+1 by omega]
     simp only[za2]
     exact zbM hD
    ·simp only [Lay.own,D.arr,zaI]
     rw[za4]
     exact⟨by simp,Wd⟩
    ·rw [zaG.1 mx]
     refine⟨rfl, ?_⟩
     simp only[Lay.own,D.arr,zaI,zap,zaF,zbN,not_or]
     exact⟨by omega,by rintro⟨i,_,h⟩;omega⟩
  | succ d ih=>
   intro k hk
   have hD:decide ((k:Int)<(G:Int))=true:=by simp;omega
   have aZ:k<4611686018427387904:=by omega
   have dd : ∀ os,fH 1 8 (.slice (.tok 2) 1 ((List.range k).map fun i=>fZ (3+i))) (.slice .full 1 [[.ptr (3+k) 0]]) ⟨os,[some 0,some 0,some k]⟩ =
    some (.slice (.tok 2) 1 ((List.range (k+1)).map fun i=>fZ (3+i)),⟨os,[some 0,some 0,some (k+1)]⟩):=fun os=>by
    rw[kB (size:=1) (by simp only[zaw,List.length_range,zaK];unfold aV;omega) (by simp)]
    simp[zbZ,fZ]
   have hln : ∀ a b c:List D,(a::b::c::List.replicate k [D.int .i64 0]).length=3+k:=fun a b c=>by simp;omega
   have ant : ∀ a b c:List D,a::b::c::List.replicate k [D.int .i64 0]++ [[D.int .i64 0]] = a::b::c::List.replicate (k+1) [D.int .i64 0]:=fun a b c=>by rw[List.replicate_succ'];rfl
   refine aN.fJ ?_
   simp only[row]
   repeat' (first
 |simp only[go_sem,hD,hY,hZ,gC,dd,hln,ant]
 | (with_reducible refine ax hQ ?_;exact aB))
   have:=ih (k+1) (by omega)
   simp only[row,zbZ,zag,zaf,zai]at this
   refine aN.jx ?_ this
   simp only[go_sem,aw aZ]
   repeat' (first|exact Ok.out|with_reducible refine ei ?_ ?_)
 repeat' (first
 |simp only[go_sem,hD,hY,hZ,gC,b1,b2]
 |(with_reducible refine ax hQ ?_;exact aB))
 refine mM.once (Sem.kX ?_)
 repeat' (first
 |simp only[go_sem,hD,hY,hZ,gC,b1,b2]
 |(with_reducible refine CU (cM _) ?_)
 |(with_reducible refine ax hQ ?_;exact aB))
 refine Sem.kX ?_
 repeat' (first
 |simp only[go_sem,hD,hY,hZ,gC]
 |(with_reducible refine CU (cN _) ?_)
 |(with_reducible refine ax hQ ?_;exact aB))
 refine Sem.kX ?_
 repeat' (first
 |simp only[go_sem,hD,hY,hZ,gC]
 |(with_reducible refine ax hQ ?_;exact aB))
 refine aN.vM 2 9 1 rfl rfl ?_
 refine aN.vM 2 10 2 rfl rfl ?_
 refine aN.vM 2 1 1 rfl rfl ?_
 simp only[zbu,zbQ,zaD,zaV,zat,zaR]
 have l0:=loop G 0 (by omega)
 simp only[row,List.range_zero,zai,List.replicate_zero]at l0
 refine aN.re [(2, .int .i64 fuel),(8, .ptr 1 0),(10, .ptr 2 0),(34, .int .i64 (G:Int)),(35, .int .i64 ((0:Nat):Int))]
  [bS p,xB,[.dO (fU p) 0, .slice (.tok 2) 1 [], .slice .shared 1 (T.map bD), .slice .shared 1 (W.map bD), .ek 1, .ek 1, .int .i64 0, .int .i64 0, .int .i64 0, .slice (.tok 0) 1 [], .slice (.tok 1) 2 []]] 3 3 (by rw[hB];exact zaz _) (by rw[hB];exact zaz _) ?_ ?_ ?_
 ·simp only [go_sem,hG]
  repeat' (first|exact Ok.out|with_reducible refine ei ?_ ?_)
 ·simp only [go_sem,aaX]
  repeat' (first|exact Ok.out|with_reducible refine ei ?_ ?_)
 have r1 : ∀ os ts,D.fu os ts (fU p)=fU p:=fun os ts=>gf os ts _ (vQ p)
 have r2 : ∀ n m,D.bM n m (fU p)=true:=fun n m=>jB (zaz n) (zaz m) _ (vQ p)
 have r3 : ∀ os ts l,D.px os ts (List.map bD l)=List.map bD l:=fun os ts l=>kb os ts _ (jm l)
 have r4 : ∀ n m l,D.iW n m (List.map bD l)=true:=fun n m l=>nR (zaz n) (zaz m) _ (jm l)
 refine aN.amu hB [2,0,1] _ _ (by decide) (by simp) ?_ ?_ l0
 ·simp[CQ,D.fu,D.dm,D.px,D.bM,D.iW,D.ok,Tag.dm,Tag.ok,St.cut,r1,r2,r3,r4,Px,Vd,xB]
 ·simp[EF,Tm.get,D.dm,D.ok]
theorem Rel.anu {M:Map} {s:St} {w:World} (r:Rel M s w) (o i z':Nat) {z:Nat} {cs:List D} (hc:s.aq[o]? = some cs) (hi:cs[i]? = some (.slice .full z [])) :
 Rel (M.fa s.ay.length none) ⟨s.aq.set o (cs.set i (.slice (.tok s.ay.length) z' [])),s.ay++ [some 0]⟩ w∧Le M s (M.fa s.ay.length none) ⟨s.aq.set o (cs.set i (.slice (.tok s.ay.length) z' [])),s.ay++ [some 0]⟩∧
 Ext M s w (M.fa s.ay.length none) ⟨s.aq.set o (cs.set i (.slice (.tok s.ay.length) z' [])),s.ay++ [some 0]⟩ w:=by
 obtain⟨r',le⟩:=r.blank
 have L0:Le M s (M.fa s.ay.length none) ⟨s.aq.set o (cs.set i (.slice (.tok s.ay.length) z' [])),s.ay++ [some 0]⟩:=⟨le.G,by simp,le.loc,le.t,le.tk⟩
 have L1:Le (M.fa s.ay.length none) {s with ay:=s.ay++ [some 0]} (M.fa s.ay.length none) ⟨s.aq.set o (cs.set i (.slice (.tok s.ay.length) z' [])),s.ay++ [some 0]⟩:=
  ⟨fun _ _ _ h=>h,by simp,fun _ _=> .refl _,zal _,fun t n' _ e=>⟨n',e,zal _,fun _=>rfl⟩⟩
 refine⟨⟨r'.comm,fun o' ds e=>?_,fun o ho=>r'.kv o (by simpa using ho),fun o o' ho n9=>r'.inj o o' (by simpa using ho) (by simpa using n9),r'.tok,
  fun t b c z o hv e ho=>r'.fw t b c z o hv e (by simpa using ho),r'.gP⟩,L0, ?_⟩
 ·simp only [zaL]at e
  split at e
  ·rename_i ho
   subst ho
   split at e
   ·cases e
    obtain⟨vs,T,g1,g2,g3,g4⟩:=r.obj o cs hc
    refine⟨vs,T,g1,by simpa using g2,g3,fun j d v e1 e2=>?_⟩
    rw[zaL]at e1
    split at e1
    ·rename_i hj
     subst hj
     split at e1
     ·cases e1
      exact((g4 i _ v hi e2).own (z':=z')).mono L1
     ·cases e1
    ·exact(g4 j d v e1 e2).mono L0
   ·cases e
  ·obtain⟨vs,T,g1,g2,g3,g4⟩:=r'.obj o' ds e
   exact⟨vs,T,g1,g2,g3,fun i d v e1 e2=>(g4 i d v e1 e2).mono L1⟩
 ·refine(CH (Ext.refl M s w) le).trans ⟨L1,fun _ _ _ _=>rfl,fun o h1 h2=> ?_,fun t b c z hl e=> .inl ⟨hl,c,z,e⟩,fun _ _ h=>(h rfl).elim,zal _,rfl,rfl,rfl⟩
  simp at h2
  exact h1.elim (fun h1=>absurd h2 (Nat.not_lt.2 h1)) fun h1=>(h1 rfl).elim
theorem bp.vM {P:Program} {f:FuncId} {args:List D} {s:St} {Q:D→St→Prop} (o i z':Nat) {z:Nat} {cs:List D} (hc:s.aq[o]? = some cs) (hi:cs[i]? = some (.slice .full z []))
 (h:bp P f args ⟨s.aq.set o (cs.set i (.slice (.tok s.ay.length) z' [])),s.ay++ [some 0]⟩ Q):bp P f args s Q:=by
 intro M w fN r hd hl ha
 obtain⟨r2,L0,ee⟩:=r.anu o i z' hc hi
 refine(h _ w fN r2 (hd.ext ee) hl fun i d v e1 e2=>(ha i d v e1 e2).mono L0).mono fun e w' ⟨M',d,v,s',h1,h2,h3,h4⟩=>⟨M',d,v,s',h1,h2,ee.trans h3,h4⟩
theorem ZT {p:Pg} (hR:p.Right) : ∃ (j:Nat) (q:Pc),p.at iR=(j:Int)∧p.procs[j]? = some q∧p.find iR=some q∧q.params.length=0:=by
 have h:=hR.main
 unfold Pg.oT at h
 cases e:p.find iR with
 |none=>rw[e]at h;cases h
 |some q=>
  rw[e]at h
  obtain⟨j,h1,h2⟩:=Bo (k:=0) e
  refine⟨j,q,by simpa[Pg.at]using h1,h2,rfl, ?_⟩
  simp only[decide_eq_false_iff_not]at h
  omega
theorem adG {p:Pg} (hO:p.gu) (hg:p.jn) {T W:List Int} (hT:T.length<1000000) (hTi : ∀ t∈T,eZ t) (hW:W.length<1000000) (fuel:Int) (s:St) :
 az Tryz.prog 18 [.agg (bS p), .slice .shared 1 (T.map bD), .int .i64 fuel, .slice .shared 1 (W.map bD)] s (.tuple [.agg (eK (ofM p T W fuel).1), .int .i64 (ofM p T W fuel).2]) s:=by
 refine az.pure ?_ (by simp[D.bM,D.ok,Tag.ok,gR,jm]) (by simp only[D.ok,D.bM,Ee];rfl) s
 have cM:=fun s=>Zz hO s
 generalize hR:ofM p T W fuel=R
 unfold ofM at hR
 obtain⟨R1,R2⟩:=R
 dsimp only
 unfold S0
 by_cases xF:(decide (fuel<0) ||(decide (fuel > 1000000) || !(p.check.1==0)))=true
 ·rw [if_pos xF]at hR
  cases hR
  simp only[eK,zai]
  rcases zaa (p.check.1==0)with b3|b3
  ·rw [b3]at cM
   rcases zaa (decide (fuel<0))with b1|b1
   ·refine az.go nh.h rfl fun B Q hB hQ=> ?_
    have⟨hD,hY,hZ,gC⟩:=bb
    repeat' (first
 |simp only[go_sem,hD,hY,hZ,gC,b1,zau]
 |(with_reducible refine CU (cM _) ?_)
 | (with_reducible refine ax hQ ?_;exact aB))
   ·have b2:decide (fuel > 1000000)=true:=by simpa [b1,b3]using xF
    refine az.go nh.h rfl fun B Q hB hQ=>?_
    have⟨hD,hY,hZ,gC⟩:=bb
    repeat' (first
 |simp only[go_sem,hD,hY,hZ,gC,b1,b2,zau]
 |(with_reducible refine CU (cM _) ?_)
 | (with_reducible refine ax hQ ?_;exact aB))
  ·rw [b3]at cM
   refine az.go nh.h rfl fun B Q hB hQ=>?_
   have⟨hD,hY,hZ,gC⟩:=bb
   repeat' (first
 |simp only[go_sem,hD,hY,hZ,gC,zax]
 |(with_reducible refine CU (cM _) ?_)
 |(with_reducible first|refine cf fun hc=>?_|refine cj fun hc=>?_|refine cm (fun hc=>?_) fun hc=>?_)<;>(try simp only[hc,bs,↓reduceIte]at h)<;>try simp only[hc]
 |(with_reducible refine ax hQ ?_;simp only[bF,bG,bZ,cb,go_sem,hD,hY,hZ,gC,zax];try exact eQ))
 rw[if_neg xF]at hR
 simp only[zaC,not_or,zbD,Bool.not_eq_false']at xF
 obtain⟨b1,b2,b3⟩:=xF
 rw[b3]at cM
 have BG:0≤fuel∧fuel≤1000000:=by simp at b1 b2;omega
 obtain⟨mf,EY⟩:=Dm p T W BG.1
 rw[EY]at hR
 simp only[zbh]at hR
 cases hR
 have B3:=Nv b3
 have hS:ZO p T W fuel:=⟨hO,B3,hW,hT,BG,hg,hTi⟩
 obtain⟨j,q,j1,j2,j3,j4⟩:=ZT B3
 have hG:=(sP B3.may).1
 have iF:(((p.globals.length:Nat):Int)*(((8:Nat):Int)+1)≤((aV:Nat):Int))=True:=by simp[aV];omega
 have hz:(gj [D.int .i64 0] p.globals.length).flatten=(List.replicate p.globals.length (0:Int)).map kl:=by
  generalize p.globals.length=n
  induction n with
  |zero=>rfl
  |succ n ih=>rw[gj,zbi,ih,List.replicate_succ];rfl
 simp only[bS]at cM
 refine az.go nh.h rfl fun B Q hB hQ=>?_
 have⟨hD,hY,hZ,gC⟩:=bb
 have fin : ∀ (y:Ly) (a:Int) (m:Mc) (s1:St),y.c=3→fj p T W fuel y a m [(1,xB)] s1→m.fin≠0→eK m=eK R1→aN Tryz.prog B 47 Q06 (fX 0 (kA (jJ Tryz.prog B 47 Q07 Q) Q)) [(8, .ptr 1 0),(10, .ptr 3 0)] s1:=by
  intro y a m s1 hy h2 hf hr
  have jr:=h2.eW
  rw[gb,hy]at jr
  have HC:=(h2.loc (1,xB) (by simp)).1
  simp only at HC
  have jI:=df HC
  have rR : ∀ r,(s1.aq.set 1 r)[1]? = some r:=fun r=>zaM jI
  have bf:(m.fin==0)=false:=by simpa using hf
  rw[← hr]at hQ
  simp only[eK]at hQ
  refine aN.fJ ?_
  repeat' (first
 |simp only[go_sem,hD,hY,hZ,gC,jr,HC,rR,bf]
 |(with_reducible first|refine cf fun hc=>?_|refine cj fun hc=>?_|refine cm (fun hc=>?_) fun hc=>?_)<;>(try simp only[hc,bs,↓reduceIte]at h)<;>try simp only[hc]
 |(with_reducible refine ax hQ ?_;simp only[bF,bG,bZ,cb,go_sem,hD,hY,hZ,gC,jr,HC,rR,bf];try exact eQ))
 have loop : ∀ (N:Nat) (a:Int) (m:Mc) (y:Ly) (s1:St),y.c=3→fj p T W fuel y a m [(1,xB)] s1→N5 p T W fuel a m→Mc.go p p.aR.L T W fuel N a m=some R1→aN Tryz.prog B 47 Q06 (fX 0 (kA (jJ Tryz.prog B 47 Q07 Q) Q)) [(8, .ptr 1 0),(10, .ptr 3 0)] s1:=by
  intro N
  induction N with
  |zero=>intro a m y s1 _ _ _ h;cases h
  |succ N ih=>
   intro a m y s1 hy h2 hA kH
   have cS:=ZS hS h2 hA
   rw[hy]at cS
   have bf:(m.fin==0)=true:=by simp[hA.fin]
   have jr:=h2.eW
   rw[gb,hy]at jr
   refine aN.fJ ?_
   repeat' (first
 |simp only[go_sem,hD,hY,hZ,gC,jr,bf]
 | (with_reducible refine ax hQ ?_;exact aB))
   refine CR cS fun d s3 hr3=>?_
   obtain⟨rfl,y3,a3,m3,hy3,h3,gd⟩:=hr3
   repeat' (first
 |simp only[go_sem,hD,hY,hZ,gC]
 | (with_reducible refine ax hQ ?_;exact aB))
   simp only[Mc.go]at kH
   rcases e:m.next p p.aR.L T W fuel a with ⟨_|b,m2⟩
   ·rw [e]at kH gd
    obtain rfl:m2=R1:=by simpa using kH
    obtain⟨f1,f2⟩:=gd
    refine aN.jx ?_ (fin y3 a3 m3 s3 hy3 h3 f1 f2.row)
    simp only[go_sem]
    repeat' (first|exact Ok.out|with_reducible refine ei ?_ ?_)
   ·have hn:=ZP hS hA e
    rw[e]at kH gd
    obtain⟨rfl,rfl⟩:=gd
    refine aN.jx ?_ (ih _ _ y3 s3 hy3 h3 hn kH)
    simp only[go_sem]
    repeat' (first|exact Ok.out|with_reducible refine ei ?_ ?_)
 repeat' (first
 |simp only[go_sem,hD,hY,hZ,gC,b1,b2,zau,iF,hz,bS]
 |(with_reducible refine CU (cM _) ?_)
 |(with_reducible refine ax hQ ?_;exact aB))
 refine bp.vM 3 10 1 rfl rfl ?_
 refine bp.vM 3 11 2 rfl rfl ?_
 simp only[zbu,zbQ,zaD,zaV,zat,zaR]
 have hm0:(gJ p).mem.length=p.globals.length:=by simp[gJ]
 obtain⟨O,hOe⟩ : ∃ O:List (List D),O = [[.slice .shared 1 (p.globals.map encStr), .slice .shared 5 (p.procs.map bN)],[.int .i64 0, .int .i64 0, .int .i64 0, .slice .full 0 [], .slice .full 0 []], .int .i64 0::(List.replicate p.globals.length 0).map kl,
  [.slice .shared 1 (p.globals.map encStr), .slice .shared 5 (p.procs.map bN), .dM 1 2 0 p.globals.length, .ek 5, .slice .shared 1 (T.map bD), .int .i64 fuel, .slice .shared 1 (W.map bD), .int .i64 0, .int .i64 0, .int .i64 0, .slice (.tok 0) 1 [], .slice (.tok 1) 2 []]]:=⟨_,rfl⟩
 have hi:fj p T W fuel ⟨3,2,0,[], .ek 5⟩ 0 (gJ p) [(1,xB)] ⟨O,[some 0,some 0]⟩:=by
  rw[hOe]
  refine⟨by simp[gb,gJ],rfl,rfl,by simp[gJ], .inl ⟨rfl,rfl⟩,by simp[Ly.own,D.arr],fun x mx=>?_⟩
  rw[zaG.1 mx]
  exact⟨rfl,by simp[Ly.own,D.arr]⟩
 have hq:=zad j2
 have hms:=(sP B3.may).2.2 q hq
 have s1:=Pc.cq hq
 have s2:=hO.sz
 simp only[Pg.size]at s2
 simp only[Pc.size]at s1
 have s3:=Pc.dI p.procs
 have hE:Ec p (gJ p) q j iR [] []:=⟨j2,j3,by omega,by omega,by omega,by omega,by omega,by simp[gJ],by have:=Ed B3.may hq;omega,by omega,(NM B3.may j2).2 (-1),by simp[j4],by simp[j4],fun i x b _ e=>by simp at e,fun b mb=>by cases mb⟩
 have cN:=Km hi hE (Cf:=List.range p.globals.length) (Mf:=(gJ p).mem) rfl (by simp;omega)
 have hw:ie ([[.slice .shared 1 (p.globals.map encStr), .slice .shared 5 (p.procs.map bN)],[.int .i64 0, .int .i64 0, .int .i64 0, .slice .full 0 [], .slice .full 0 []], .int .i64 0::(List.replicate p.globals.length 0).map kl,
  [.slice .shared 1 (p.globals.map encStr), .slice .shared 5 (p.procs.map bN), .dM 1 2 0 p.globals.length, .slice .full 0 [], .slice .shared 1 (T.map bD), .int .i64 fuel, .slice .shared 1 (W.map bD), .int .i64 0, .int .i64 0, .int .i64 0, .slice (.tok 0) 1 [], .slice (.tok 1) 2 []]] : List (List D)) O:=by
  rw[hOe]
  exact .cons (jh.refl _) (.cons (jh.refl _) (.cons (jh.refl _) (.cons (.cons (Wk.refl _) (.cons (Wk.refl _) (.cons (Wk.refl _) (.cons (Wk.ek _ _) (jh.refl _))))) .nil)))
 refine bp.ajX hw ?_
 refine bp.mono (bp.lU (.cons (Wk.refl _) (.cons (Wk.refl _) (.cons (Wk.nil .full 0 6) (.cons (Wk.nil .full 0 1) .nil)))) cN) fun d s2 hr=>?_
 obtain⟨rfl,y2,qS,h2⟩:=hr
 have Ty:(gJ p).open p (j:Int) [] 0=(eD q.body (-1),{gJ p with st:=⟨(j:Int),p.globals++(q.params.map (·.name))++q.vars,List.range p.globals.length++(List.range q.vars.length).map ((gJ p).mem.length + ·),0⟩::(gJ p).st,mem:=(gJ p).mem++List.replicate q.vars.length 0}):=by
  unfold Mc.open
  rw[zaQ,j2]
  simp[Pc.own,Pc.lx]
 have o8:=IW (m:=gJ p) (pe B3) j2 (l:= []) (call:=0) (by simp[j4]) (by simp) (by simp[gJ]) (by simp[gJ]) (.inl ⟨rfl,rfl⟩)
 unfold runM at EY
 rw[j1]at EY
 dsimp only at EY
 rw[Ty]at EY o8
 dsimp only at EY o8
 have hAt:N5 p T W fuel (eD q.body (-1)) {gJ p with st:=⟨(j:Int),p.globals++(q.params.map (·.name))++q.vars,List.range p.globals.length++(List.range q.vars.length).map ((gJ p).mem.length + ·),0⟩::(gJ p).st,mem:=(gJ p).mem++List.replicate q.vars.length 0}:=
  ⟨o8,⟨by simp [gJ],by simp [gJ],by simp [gJ],by simp [gJ],by simp [gJ]⟩,rfl,BG.1,by simp [gJ];omega,fun x mx=>by
   have:x=0:=by
    simp only[gJ,zaq,List.mem_replicate]at mx
    rcases mx with mx|mx<;>exact mx.2
   subst this;simp[eZ],by simp[gJ]⟩
 generalize ({gJ p with st:=⟨(j:Int),p.globals++(q.params.map (·.name))++q.vars,List.range p.globals.length++(List.range q.vars.length).map ((gJ p).mem.length + ·),0⟩::(gJ p).st,mem:=(gJ p).mem++List.replicate q.vars.length 0} : Mc)=m at *
 generalize eD q.body (-1)=a at *
 repeat' (first
 |simp only[go_sem,hD,hY,hZ,gC]
 |(with_reducible refine ax hQ ?_;exact aB))
 refine aN.jx ?_ (loop _ a m y2 s2 qS h2 hAt EY)
 simp only[go_sem]
 repeat' (first|exact Ok.out|with_reducible refine ei ?_ ?_)
theorem BH {a b:List Int} (ha:a.length<1000000000) (g:Tag) (s:St):az Tryz.prog 28 [.slice .shared 1 (a.map bD), .slice g 1 (b.map bD)] s (.bool (a==b)) s:=by
 refine bp.lU (.cons (Wk.refl _) (.cons (Wk.shared _ _ _) .nil)) (az.pure ?_ (by simp[D.bM,D.ok,Tag.ok,jm]) rfl s)
 generalize h:(a==b)=R
 unfold S0
 by_cases hl:a.length=b.length
 ·have e1:((a.length:Int) != (b.length:Int))=false:=by simp [hl]
  refine az.go xc.h rfl fun B Q hB hQ=>?_
  have⟨hD,hY,hZ,gC⟩:=bb
  repeat' (first
 |simp only[go_sem,hD,hY,hZ,gC,e1]
 | (with_reducible refine ax hQ ?_;exact aB))
  refine di 0 0 (aN.ind (ι:=List Int×List Int×Nat) (fun i=>a.drop i.2.2=i.1∧b.drop i.2.2=i.2.1∧(i.1==i.2.1)=R) (fun i=>i.1.length)
   (fun i=> [(0, .slice .shared 1 (a.map bD)),(1, .slice .shared 1 (b.map bD)),(12, .int .i64 (a.length:Int)),(13, .int .i64 (i.2.2:Int))]) (fun i=>⟨[],[]⟩) ?_ (a,b,0) ⟨rfl,rfl,h⟩)
  rintro⟨ra,rb,k⟩ ⟨h1,h2,h⟩ IH
  dsimp only at h1 h2 h
  cases ra with
  |nil=>
   have hD:=drop_nil h1
   have:b.drop k = []:=by rw[zaP]at h1 ⊢;omega
   rw[h2]at this
   subst this
   have h':true=R:=h
   subst h'
   repeat' (first
 |simp only[go_sem,hD,hY,hZ,gC]
 | (with_reducible refine ax hQ ?_;exact aB))
  | cons x ra=>
   obtain⟨hY,g2,hD,g4⟩:=drop_cons h1
   have aZ:k<4611686018427387904:=by omega
   cases rb with
   |nil=>rw[zaP]at h2;omega
   | cons y rb=>
    obtain⟨mV,g2',Nh,g4'⟩:=drop_cons h2
    have e2:(x != y) = !(x==y):=rfl
    simp only[List.cons_beq_cons]at h
    rcases zaa (x==y)with c|c
    ·simp only [c,zbf]at h
     repeat' (first
 |simp only[go_sem,hD,hY,hZ,gC,e2,c,mV]
 |(with_reducible first|refine cf fun hc=>?_|refine cj fun hc=>?_|refine cm (fun hc=>?_) fun hc=>?_)<;>(try simp only[hc,bs,↓reduceIte]at h)<;>try simp only[hc]
 | (with_reducible refine ax hQ ?_;(try cases h);simp only [bF,bG,bZ,cb,go_sem,hD,hY,hZ,gC,e2,c,mV];try exact eQ))
     refine cv 0 0 ?_ ?_ (IH (ra,rb,k+1) ⟨g2,g2',h⟩ (zae _))
     ·(simp only[go_sem,hD,hY,hZ,gC,aw aZ];try exact aU)
     ·(simp only[go_sem,hD,hY,hZ,gC,aw aZ];try exact aU)
    ·simp only [c,zaN]at h
     repeat' (first
 |simp only[go_sem,hD,hY,hZ,gC,e2,c,mV]
 |(with_reducible first|refine cf fun hc=>?_|refine cj fun hc=>?_|refine cm (fun hc=>?_) fun hc=>?_)<;>(try simp only[hc,bs,↓reduceIte]at h)<;>try simp only[hc]
 |(with_reducible refine ax hQ ?_;(try cases h);simp only[bF,bG,bZ,cb,go_sem,hD,hY,hZ,gC,e2,c,mV];try exact eQ))
 ·have e1:((a.length:Int) != (b.length:Int))=true:=by simp;omega
  have:(a==b)=false:=by
   rw[beq_eq_false_iff_ne];intro e;rw[e]at hl;exact hl rfl
  rw[this]at h
  subst h
  refine az.go xc.h rfl fun B Q hB hQ=>?_
  have⟨hD,hY,hZ,gC⟩:=bb
  repeat' (first
 |simp only[go_sem,hD,hY,hZ,gC,e1]
 |(with_reducible refine ax hQ ?_;exact aB))
theorem WI {a b:List (Int×List Int)} (ha:a.length<1000000000) (hv : ∀ e∈a,e.2.length<1000000000) (s:St):az Tryz.prog 24 [.slice .shared 2 (a.map gT), .slice .shared 2 (b.map gT)] s (.bool (a==b)) s:=by
 refine az.pure ?_ (by simp[D.bM,D.ok,Tag.ok,abg]) rfl s
 generalize h:(a==b)=R
 unfold S0
 by_cases hl:a.length=b.length
 ·have e1:((a.length:Int) != (b.length:Int))=false:=by simp [hl]
  refine az.go we.h rfl fun B Q hB hQ=>?_
  have⟨hD,hY,hZ,gC⟩:=bb
  repeat' (first
 |simp only[go_sem,hD,hY,hZ,gC,e1]
 | (with_reducible refine ax hQ ?_;exact aB))
  refine di 0 0 (aN.ind (ι:=List (Int×List Int)×List (Int×List Int)×Nat) (fun i=>a.drop i.2.2=i.1∧b.drop i.2.2=i.2.1∧(i.1==i.2.1)=R) (fun i=>i.1.length)
   (fun i=> [(0, .slice .shared 2 (a.map gT)),(1, .slice .shared 2 (b.map gT)),(12, .int .i64 (a.length:Int)),(13, .int .i64 (i.2.2:Int))]) (fun i=>⟨[],[]⟩) ?_ (a,b,0) ⟨rfl,rfl,h⟩)
  rintro⟨ra,rb,k⟩ ⟨h1,h2,h⟩ IH
  dsimp only at h1 h2 h
  cases ra with
  |nil=>
   have hD:=drop_nil h1
   have:b.drop k = []:=by rw[zaP]at h1 ⊢;omega
   rw[h2]at this
   subst this
   have h':true=R:=h
   subst h'
   repeat' (first
 |simp only[go_sem,hD,hY,hZ,gC]
 | (with_reducible refine ax hQ ?_;exact aB))
  | cons x ra=>
   obtain⟨hY,g2,hD,g4⟩:=drop_cons h1
   have aZ:k<4611686018427387904:=by omega
   cases rb with
   |nil=>rw[zaP]at h2;omega
   |cons y rb=>
    obtain⟨mV,g2',Nh,g4'⟩:=drop_cons h2
    obtain⟨x1,x2⟩:=x
    obtain⟨y1,y2⟩:=y
    have e2:(x1 != y1) = !(x1==y1):=rfl
    have hb:((x1,x2)==(y1,y2))=(x1==y1 && x2==y2):=rfl
    have cE:=fun g s=>BH (a:=x2) (b:=y2) (hv _ (zad hY)) g s
    simp only[List.cons_beq_cons,hb]at h
    rcases zaa (x1==y1)with c|c<;>rcases zaa (x2==y2)with c2|c2<;>simp only[c,c2,zbf,zaN]at h
    ·repeat' (first
 |simp only[go_sem,hD,hY,hZ,gC,e2,c,c2,mV,gT]
 |(with_reducible refine CU (cE _ _) ?_)
 | (with_reducible refine ax hQ ?_;exact aB))
     refine cv 0 0 ?_ ?_ (IH (ra,rb,k+1) ⟨g2,g2',h⟩ (zae _))
     ·(simp only[go_sem,hD,hY,hZ,gC,aw aZ,gT];try exact aU)
     ·(simp only[go_sem,hD,hY,hZ,gC,aw aZ,gT];try exact aU)
    ·repeat' (first
 |simp only[go_sem,hD,hY,hZ,gC,e2,c,c2,mV,gT]
 |(with_reducible refine CU (cE _ _) ?_)
 |(with_reducible first|refine cf fun hc=>?_|refine cj fun hc=>?_|refine cm (fun hc=>?_) fun hc=>?_)<;>(try simp only[hc,bs,↓reduceIte]at h)<;>try simp only[hc]
 | (with_reducible refine ax hQ ?_;(try cases h);simp only [bF,bG,bZ,cb,go_sem,hD,hY,hZ,gC,e2,c,c2,mV,gT];try exact eQ))
    ·repeat' (first
 |simp only[go_sem,hD,hY,hZ,gC,e2,c,c2,mV,gT]
 |(with_reducible refine CU (cE _ _) ?_)
 |(with_reducible first|refine cf fun hc=>?_|refine cj fun hc=>?_|refine cm (fun hc=>?_) fun hc=>?_)<;>(try simp only[hc,bs,↓reduceIte]at h)<;>try simp only[hc]
 | (with_reducible refine ax hQ ?_;(try cases h);simp only [bF,bG,bZ,cb,go_sem,hD,hY,hZ,gC,e2,c,c2,mV,gT];try exact eQ))
    ·repeat' (first
 |simp only[go_sem,hD,hY,hZ,gC,e2,c,c2,mV,gT]
 |(with_reducible refine CU (cE _ _) ?_)
 |(with_reducible first|refine cf fun hc=>?_|refine cj fun hc=>?_|refine cm (fun hc=>?_) fun hc=>?_)<;>(try simp only[hc,bs,↓reduceIte]at h)<;>try simp only[hc]
 |(with_reducible refine ax hQ ?_;(try cases h);simp only[bF,bG,bZ,cb,go_sem,hD,hY,hZ,gC,e2,c,c2,mV,gT];try exact eQ))
 ·have e1:((a.length:Int) != (b.length:Int))=true:=by simp;omega
  have:(a==b)=false:=by
   rw[beq_eq_false_iff_ne];intro e;rw[e]at hl;exact hl rfl
  rw[this]at h
  subst h
  refine az.go we.h rfl fun B Q hB hQ=>?_
  have⟨hD,hY,hZ,gC⟩:=bb
  repeat' (first
 |simp only[go_sem,hD,hY,hZ,gC,e1]
 |(with_reducible first|refine cf fun hc=>?_|refine cj fun hc=>?_|refine cm (fun hc=>?_) fun hc=>?_)<;>(try simp only[hc,bs,↓reduceIte]at h)<;>try simp only[hc]
 |(with_reducible refine ax hQ ?_;(try cases h);simp only[bF,bG,bZ,cb,go_sem,hD,hY,hZ,gC,e1];try exact eQ))
structure Mc.Len (m:Mc):Prop where
 out:m.out.length<1000000000
 trace:m.trace.length<1000000000
 bu : ∀ e∈m.trace,e.2.length<1000000000
def Ef (a b:Mc):Bool:=a.fin==b.fin && (a.steps==b.steps && (a.reads==b.reads && a.out==b.out))
def HN (a b:Mc):Bool:=Ef a b && a.trace==b.trace
theorem adH {a b:Mc} (ha:a.Len) (s:St):az Tryz.prog 25 [.agg (eK a), .agg (eK b)] s (.bool (Ef a b)) s:=by
 refine az.pure ?_ (by simp[D.bM,D.ok,Ee]) rfl s
 have cE:=fun g s=>BH (a:=a.out) (b:=b.out) ha.out g s
 generalize h:Ef a b=R
 simp only[Ef]at h
 unfold S0
 simp only[eK]
 rcases zaa (a.fin==b.fin)with c1|c1
 all_goals rcases zaa (a.steps==b.steps)with c2|c2
 all_goals rcases zaa (a.reads==b.reads)with c3|c3
 all_goals
  simp only[c1,c2,c3,zbf,zaN]at h
  subst h
  refine az.go GC.h rfl fun B Q hB hQ=>?_
  have⟨hD,hY,hZ,gC⟩:=bb
  repeat' (first
 |simp only[go_sem,hD,hY,hZ,gC,c1,c2,c3]
 |(with_reducible refine CU (cE _ _) ?_)
 |(with_reducible refine ax hQ ?_;exact aB))
theorem adI {a b:Mc} (ha:a.Len) (s:St):az Tryz.prog 19 [.agg (eK a), .agg (eK b)] s (.bool (HN a b)) s:=by
 refine az.pure ?_ (by simp[D.bM,D.ok,Ee]) rfl s
 have c1:=fun s=>adH (b:=b) ha s
 have c2:=fun s=>WI (a:=a.trace) (b:=b.trace) ha.trace ha.bu s
 have e : ∀ m:Mc,(eK m).length=5:=fun m=>rfl
 have e0 : ∀ m:Mc,List.take 5 (eK m)=eK m:=fun m=>rfl
 have e4 : ∀ m:Mc,(eK m)[4]? = some (.slice .shared 2 (m.trace.map gT)):=fun m=>rfl
 generalize h:HN a b=R
 simp only[HN]at h
 unfold S0
 rcases zaa (Ef a b)with b1|b1
 all_goals
  simp only[b1,zbf,zaN]at h
  subst h
  refine az.go Gz.h rfl fun B Q hB hQ=>?_
  have⟨hD,hY,hZ,gC⟩:=bb
  repeat' (first
 |simp only[go_sem,hD,hY,hZ,gC,b1,e,e0,e4]
 |(with_reducible refine CU (c1 _) ?_)
 |(with_reducible refine CU (c2 _) ?_)
 |(with_reducible refine ax hQ ?_;exact aB))
theorem Ja:eK (ofM tR [] [5,2] 50).1 = [.int .i64 1, .int .i64 7, .int .i64 0, .slice .shared 1 ([5,5].map bD), .slice .shared 2 ([(2,[]),(5,[5])].map gT)]:=by kernel_rfl
theorem akb:(ofM tR [] [5,2] 50).2=0:=by kernel_rfl
theorem adJ:Nat.ble (tR.size+1) 1000=true:=by kernel_rfl
theorem ahL (n:Int):sk (.ofInt .f64) (.int .i64 n) (.int .i64 n)=some (.val (.float .f64 (FloatKind.nearest .f64 n))):=nd rfl
theorem ZV (a b:Nat):sk .Qo (.val (.float .f64 a)) (.val (.float .f64 b))=some (.val (.complex .f64 a b)):=nd rfl
theorem ZW (a b:Nat) (d:D):sk .real (.val (.complex .f64 a b)) d=some (.val (.float .f64 a)):=nd rfl
theorem akc:sk .eq (.val (.float .f64 (FloatKind.nearest .f64 7))) (.val (.float .f64 4619567317775286272))=some (.bool true):=by
 have:FloatKind.nearest .f64 7=4619567317775286272:=by decide +kernel
 rw[this]
 have h:(FloatKind.f64.format.order 4619567317775286272 4619567317775286272==some .eq)=true:=by decide +kernel
 show(if FloatKind.f64=FloatKind.f64 then some (D.bool (FloatKind.f64.format.order 4619567317775286272 4619567317775286272==some .eq))else none)=_
 rw[if_pos rfl,h]
theorem ahM:tR.gu:=by
 have v7:tR.size<100000:=by have:=zbp adJ;omega
 exact⟨VK (by decide +kernel) (by omega),by omega⟩
theorem ahN (n k:Nat) (m:Mc):D.iz n k (eK m)=eK m:=jk n k _ (Ee m)
theorem adK (m:Mc):(eK m).length=5:=nd rfl
theorem ZX (m:Mc):List.take 5 (eK m)=eK m:=nd rfl
theorem akd (m:Mc):(eK m)[0]? = some (.int .i64 m.fin):=nd rfl
theorem ake (m:Mc):(eK m)[1]? = some (.int .i64 m.steps):=nd rfl
theorem akf (m:Mc):(eK m)[2]? = some (.int .i64 m.reads):=nd rfl
theorem akg (m:Mc):(eK m)[3]? = some (.slice .shared 1 (m.out.map bD)):=nd rfl
theorem akh (m:Mc):(eK m)[4]? = some (.slice .shared 2 (m.trace.map gT)):=nd rfl
attribute [go_sem] ahN adK ZX akd ake akf akg akh
theorem adL (m:Mc) (s:St):az Tryz.prog 38 [.agg (eK m)] s (.val (.complex .f64 (FloatKind.nearest .f64 m.steps) (FloatKind.nearest .f64 m.reads))) s:=by
 refine az.pure ?_ (by simp[D.bM,D.ok,Ee]) rfl s
 unfold S0
 refine az.go Kx.h rfl fun B Q hB hQ=>?_
 have⟨hD,hY,hZ,gC⟩:=bb
 repeat' (first
 |simp only[go_sem,hD,hY,hZ,gC,eK,ahL,ZV]
 |(with_reducible refine ax hQ ?_;exact aB))
theorem aki (s:St):az Tryz.prog 15 [] s (.bool true) s:=by
 refine az.pure ?_ rfl rfl s
 have h1:=fun s=>agv s
 have h2:=fun s=>ahI (T:= []) (W:= [5,2]) ahM (by simp) (by simp) 50 s
 have h4:=fun s=>adL (ofM tR [] [5,2] 50).1 s
 have m1:(ofM tR [] [5,2] 50).1.steps=7:=by have:=congrArg (fun l=>l[1]?) Ja;simpa[eK]using this
 have m2:(ofM tR [] [5,2] 50).1.reads=0:=by have:=congrArg (fun l=>l[2]?) Ja;simpa[eK]using this
 rw[m1,m2]at h4
 rw[Ja]at h2 h4
 rw[akb]at h2
 simp only[zaf,zai,bD,gT]at h2 h4
 have h3:=fun g s=>BH (a:= [5,5]) (b:= [5,5]) (by simp) g s
 have h5:=fun g s=>BH (a:= [5]) (b:= [5]) (by simp) g s
 have e5:(([5,5] : List Int) == [5,5])=true:=rfl
 have e6:(([5] : List Int) == [5])=true:=rfl
 rw[e5]at h3
 rw[e6]at h5
 simp only[zaf,zai,bD]at h3 h5
 have sG:=fun s=>bp.lU (.cons (Wk.refl _) (.cons (Wk.nil .full 0 1) (.cons (Wk.refl _) (.cons (Wk.shared .full _ _) .nil)))) (h2 s)
 have h2 : ∀ s,az Tryz.prog 17 [.agg (bS tR), .slice .full 0 [], .int .i64 50, .slice .full 1 [[.int .i64 5],[.int .i64 2]]] s _ s:=sG
 clear sG
 have z0 : ∀ x:Int,(x==x)=true:=fun x=>beq_self_eq_true x
 have z2:(((2:Nat):Int)==2)=true:=rfl
 unfold S0
 refine az.go Ku.h rfl fun B Q hB hQ=>?_
 have⟨hD,hY,hZ,gC⟩:=bb
 repeat' (first
 |simp only[go_sem,hD,hY,hZ,gC,z0,z2,ZW,akc,Int.toNat_one,za2,zbe]
 |(with_reducible refine CU (h1 _) ?_)
 |(with_reducible refine CU (h2 _) ?_)
 |(with_reducible refine CU (h3 _ _) ?_)
 |(with_reducible refine CU (h5 _ _) ?_)
 |(with_reducible refine CU (h4 _) ?_)
 |(with_reducible refine ax hQ ?_;exact aB))
def Pg.whole (p:Pg) (T:List Int) (fuel:Int):Mc:=(ofM p T (Zd 0 p.all) fuel).1
end Go.Abs
namespace Go.Abs
set_option maxRecDepth 8000
open Go.Proofs
theorem ahO {n:Int} (h:(Lit.int .i64 n).wf=true):eZ n:=by
 unfold Lit.wf at h
 simp only[zar,decide_eq_true_eq]at h
 rw[show IntKind.i64.min = -9223372036854775808 by decide,show IntKind.i64.max=9223372036854775807 by decide]at h
 unfold eZ;omega
def Vl (m:Mc):Prop:=∀ e∈m.trace,e.2.length≤1
structure WJ (n:Nat) (m m':Mc):Prop where
 trace:m'.trace.length≤m.trace.length+n
 out:m'.out.length≤m.out.length+n
 bu:(∀ e∈m.trace,e.2.length≤1)→∀ e∈m'.trace,e.2.length≤1
theorem WJ.same {m m':Mc} (h1:m'.trace=m.trace) (h2:m'.out=m.out) (n:Nat):WJ n m m':=⟨by rw[h1];omega,by rw[h2];omega,fun h=>by rw[h1];exact h⟩
theorem wQ (W:List Int) {m m0:Mc} (h0:m.trace=m0.trace) (id:Int) {bu:List Int} (hl:bu.length≤1) (h : ∀ e∈m0.trace,e.2.length≤1) : ∀ e∈(m.event W id bu).trace,e.2.length≤1:=by
 unfold Mc.event
 split
 ·intro e me
  rcases zaq.1 me with me|me
  ·exact h e (by rw[← h0];exact me)
  ·rw[zaG.1 me];exact hl
 ·rw[h0];exact h
theorem akj (p:Pg) (L:List Im) (T W:List Int) (m1:Mc) (it:Im) (h1:Vl m1):Vl (m1.do p L T W it).2:=by
 have hw:=gL m1 it.s.x
 have h2:Vl (m1.bA it.s.x).2:=fun e me=>h1 e (by rw[← hw.2.2.2.2.2];exact me)
 have e1 : ∀ id (bu:List Int),bu.length≤1→Vl (m1.event W id bu):=fun id bu hl=>wQ W rfl id hl h1
 have e2 : ∀ id (bu:List Int),bu.length≤1→Vl ((m1.bA it.s.x).2.event W id bu):=fun id bu hl=>wQ W hw.2.2.2.2.2 id hl h1
 unfold Mc.do
 dsimp only
 split
 ·exact e1 _ _ (by simp)
 split
 ·exact e1 _ _ (by simp)
 split
 ·exact e1 _ _ (by simp)
 split
 ·split
  ·exact h1
  ·exact wQ W (m:=({m1 with reads:=m1.reads+1} : Mc).set it.s.name _) (m0:=m1) rfl _ (by simp) h1
 split
 ·split
  ·exact e2 it.s.id [(m1.bA it.s.x).1.1] (by simp)
  split
  ·exact e2 it.s.id [(m1.bA it.s.x).1.1] (by simp)
  split
  ·exact e2 it.s.id [(m1.bA it.s.x).1.1] (by simp)
  split
  ·exact e2 it.s.id [(m1.bA it.s.x).1.1] (by simp)
  ·exact e2 it.s.id [(m1.bA it.s.x).1.1] (by simp)
 ·exact h2
theorem ZY (p:Pg) (T W:List Int) (fuel a:Int) (m:Mc):WJ 1 m (m.next p p.aR.L T W fuel a).2:=by
 have hb : ∀ (m1:Mc) (g:Int),(m1.back p.aR.L g).2.trace=m1.trace∧(m1.back p.aR.L g).2.out=m1.out:=fun m1 g=>⟨(tW p.aR.L m1 g).1,(tW p.aR.L m1 g).2.1⟩
 unfold Mc.next
 split
 ·exact .same (hb m 0).1 (hb m 0).2 1
 split
 ·exact⟨Nat.le_succ _,Nat.le_succ _,fun h=>h⟩
 dsimp only
 have ht:({m with steps:=m.steps+1} : Mc).trace=m.trace:=rfl
 have ho:({m with steps:=m.steps+1} : Mc).out=m.out:=rfl
 generalize ff p.aR.L a=it
 generalize ({m with steps:=m.steps+1} : Mc)=m1 at *
 have hw:=gL m1 it.s.x
 have g1 : ∀ m2,zc m1 m2→((∀ e∈m.trace,e.2.length≤1)→∀ e∈m2.trace,e.2.length≤1)→WJ 1 m m2:=fun m2 h hv=>⟨by rw[← ht];exact h.trace,by rw[← ho];exact h.out,hv⟩
 split
 ·refine g1 _ (Dz p W m1 it.s).1 fun h=> ?_
  have h1:=Bu it.s.args m1 []
  show ∀ e∈(m1.call p W it.s).2.trace,_
  unfold Mc.call
  generalize Mc.args it.s.args m1 [] = r at *
  obtain⟨o,m3⟩:=r
  dsimp only at h1
  cases o with
  |none=>dsimp only;rw[h1.2,ht];exact h
  | some l=>
   dsimp only
   split
   ·dsimp only;rw[h1.2,ht];exact h
   ·rw [(vF ..).1]
    exact wQ W (h1.2.trans ht) _ (by simp) h
 split
 ·have hg:=BA W m1 it.s
  have hv:(∀ e∈m.trace,e.2.length≤1)→∀ e∈(m1.fA W it.s).2.trace,e.2.length≤1:=fun h=>by
   unfold Mc.fA
   split
   ·dsimp only
    split
    ·exact wQ W (hw.2.2.2.2.2.trans ht) _ (by simp) h
    ·rw[hw.2.2.2.2.2,ht];exact h
   ·exact wQ W ht _ (by simp) h
  split
  ·have:=hb (m1.fA W it.s).2 (m1.fA W it.s).1
   have k:=g1 _ hg hv
   exact⟨by rw[this.1];exact k.trace,by rw[this.2];exact k.out,fun h=>by rw[this.1];exact k.bu h⟩
  ·exact g1 _ hg hv
 ·refine g1 _ (I5 p p.aR.L T W m1 it) fun h=> ?_
  exact akj p p.aR.L T W m1 it fun e me=>h e (by rw[← ht];exact me)
theorem WK (p:Pg) (T W:List Int) (fuel:Int) : ∀ (N:Nat) (a:Int) (m mf:Mc),Mc.go p p.aR.L T W fuel N a m=some mf→WJ N m mf
 | 0,a,m,mf,h=>by cases h
 | N+1,a,m,mf,h=>by
  have k:=ZY p T W fuel a m
  simp only[Mc.go]at h
  generalize m.next p p.aR.L T W fuel a=r at *
  obtain⟨o,m2⟩:=r
  cases o with
  |none=>cases h;exact⟨by have:=k.trace;dsimp only at this;omega,by have:=k.out;dsimp only at this;omega,k.bu⟩
  |some b=>
   have k2:=WK p T W fuel N b m2 mf h
   exact⟨by have:=k.trace;have:=k2.trace;dsimp only at *;omega,by have:=k.out;have:=k2.out;dsimp only at *;omega,fun h=>k2.bu (k.bu h)⟩
theorem adM (p:Pg) (T W:List Int) (fuel:Int):(ofM p T W fuel).1.Len:=by
 unfold ofM
 split
 ·exact⟨by simp,by simp,by simp⟩
 rename_i h
 simp only[zaC,not_or,decide_eq_true_eq]at h
 obtain⟨m,hm⟩:=Dm p T W (fuel:=fuel) (by omega)
 rw[hm]
 show m.Len
 unfold runM at hm
 dsimp only at hm
 have k:=WK p T W fuel _ _ _ _ hm
 have ho:=vF p (gJ p) (p.at iR) [] 0
 have h1:=k.trace
 have h2:=k.out
 rw[ho.1]at h1
 rw[ho.2.1]at h2
 simp only[gJ,zaD]at h1 h2
 refine⟨by omega,by omega,fun e me=>zbS (k.bu ?_ e me) (by decide)⟩
 rw[ho.1];simp[gJ]
theorem ZZ (m:Mc):HN m m=true:=by
 unfold HN Ef
 simp
theorem TD (p:Pg) (hp:p.jn) (T:List Int) (hT : ∀ t∈T,eZ t) (fuel:Int) (W:List Int) (s:St):az Tryz.prog 3 [.agg (bS p), .slice .shared 1 (T.map bD), .int .i64 fuel, .slice .shared 1 (W.map bD)] s (.bool true) s:=by
 refine az.pure ?_ (by simp[D.bM,D.ok,Tag.ok,gR,jm]) rfl s
 have h1:=fun s=>aki s
 have h2:=fun s=>agr p s
 unfold S0
 rcases zaa (decide (p.D4≤20000))with hw|hw
 case inr=>
  simp only[hw]at h2
  refine az.go mO.h rfl fun B Q hB hQ=>?_
  have⟨hD,hY,hZ,gC⟩:=bb
  repeat' (first
 |simp only[go_sem,hD,hY,hZ,gC]
 |(with_reducible refine CU (h1 _) ?_)
 |(with_reducible refine CU (h2 _) ?_)
 |(with_reducible refine ax hQ ?_;exact aB))
 simp only[hw]at h2
 obtain⟨dT,akk⟩:=S6 (of_decide_eq_true hw)
 have ho:p.gu:=⟨akk,by omega⟩
 rcases zaa (decide (fuel > 400))with b1|b1
 ·refine az.go mO.h rfl fun B Q hB hQ=> ?_
  have⟨hD,hY,hZ,gC⟩:=bb
  repeat' (first
 |simp only[go_sem,hD,hY,hZ,gC,b1]
 |(with_reducible refine CU (h1 _) ?_)
 |(with_reducible refine CU (h2 _) ?_)
 |(with_reducible refine ax hQ ?_;exact aB))
 rcases zaa (decide ((T.length:Int) > 100))with b2|b2
 ·refine az.go mO.h rfl fun B Q hB hQ=> ?_
  have⟨hD,hY,hZ,gC⟩:=bb
  repeat' (first
 |simp only[go_sem,hD,hY,hZ,gC,b1,b2]
 |(with_reducible refine CU (h1 _) ?_)
 |(with_reducible refine CU (h2 _) ?_)
 |(with_reducible refine ax hQ ?_;exact aB))
 rcases zaa (decide ((W.length:Int) > 100))with b3|b3
 ·refine az.go mO.h rfl fun B Q hB hQ=> ?_
  have⟨hD,hY,hZ,gC⟩:=bb
  repeat' (first
 |simp only[go_sem,hD,hY,hZ,gC,b1,b2,b3]
 |(with_reducible refine CU (h1 _) ?_)
 |(with_reducible refine CU (h2 _) ?_)
 |(with_reducible refine ax hQ ?_;exact aB))
 have g1 : ¬ (fuel > 400):=by simpa using b1
 have g2 : ¬ ((T.length:Int) > 100):=by simpa using b2
 have g3 : ¬ ((W.length:Int) > 100):=by simpa using b3
 have h4:=fun s=>ahI (T:=T) (W:=W) ho (by omega) (by omega) fuel s
 have h5:=fun s=>adG (T:=T) (W:=W) ho hp (by omega) hT (by omega) fuel s
 have h6:=fun s=>adI (b:=(ofM p T W fuel).1) (adM p T W fuel) s
 rw[ZZ]at h6
 generalize ofM p T W fuel=R at *
 obtain⟨r,e⟩:=R
 simp only at h4 h5 h6
 have b4:(e==e)=true:=by simp
 refine az.go mO.h rfl fun B Q hB hQ=>?_
 have⟨hD,hY,hZ,gC⟩:=bb
 repeat' (first
 |simp only[go_sem,hD,hY,hZ,gC,b1,b2,b3,b4]
 |(with_reducible refine CU (h1 _) ?_)
 |(with_reducible refine CU (h2 _) ?_)
 |(with_reducible refine CU (h4 _) ?_)
 |(with_reducible refine CU (h5 _) ?_)
 |(with_reducible refine CU (h6 _) ?_)
 |(with_reducible refine ax hQ ?_;exact aB))
def M0:Map:=⟨fun _ _=>none,fun _=>(0, .any),fun _=>none⟩
def Kept (w w':World):Prop:=w.keptBut w' (fun _=>False)∧∀ a:Addr,a.block<w.heap.size→w'.frozen? a=w.frozen? a
theorem Kept.frame {w w':World} (h:Kept w w') (may:MemPlace→Prop):w.keptBut w' may:=World.keptBut_mono (fun _ f=>f.elim) h.1
theorem Ext.ahQ {M M':Map} {s':St} {w w':World} (e:Ext M S0 w M' s' w'):Kept w w':=by
 have hh : ∀ b,b<w.heap.size→w'.heap[b]? = w.heap[b]? :=fun b hb=>
  e.kept b hb (fun o ho=>by simp[S0]at ho) (fun t c z hl=>by obtain⟨n,hn⟩:=hl;simp[S0]at hn)
 refine⟨⟨e.os,e.output,fun i hi=>?_⟩,fun a ha=>?_⟩
 ·rw [hh i hi]
  exact(World.keptBut_refl w (fun _=>False)).2.2 i hi
 ·simp only[World.frozen?,hh _ ha]
theorem anv (G:Nat→Nat→Option Value) (w:World) (h : ∀ b o v,G b o=some v→w.cell? ⟨b,o,none⟩=some v∧v.oneCell'=true):Rel ⟨G,fun _=>(0, .any),fun _=>none⟩ S0 w:=
 ⟨h,fun o ds e=>by simp [S0]at e,fun o ho=>by simp [S0]at ho,fun o o' ho=>by simp [S0]at ho,fun t n e=>by simp [S0]at e,
  fun t b c z o hl=>by obtain⟨n,hn⟩:=hl;simp[S0]at hn,fun t t' b c z c' z' hl=>by obtain⟨n,hn⟩:=hl;simp[S0]at hn⟩
def TE (w:World):Prop:=∀ g cs,adQ g=some cs→∃ T fr,w.heap[g]? = some (.cells cs T fr)
theorem akl (G:Nat→Nat→Option Value) {w:World} (h:TE w):Laid ⟨G,fun _=>(0, .any),fun _=>none⟩ S0 w:=
 fun g cs hg=>⟨h g cs hg,fun o ho=>by simp[S0]at ho,fun t c z hl=>by obtain⟨n,hn⟩:=hl;simp[S0]at hn⟩
theorem WL {P:Program} {f:FuncId} {args:List D} {fN:Array Value} {w:World} {G:Nat→Nat→Option Value} (h:bp P f args S0 fun d _=>d = .bool true)
 (hG : ∀ b o v,G b o=some v→w.cell? ⟨b,o,none⟩=some v∧v.oneCell'=true) (hl:fN.size=args.length)
 (ha : ∀ (i:Nat) (d:D) (v:Value),args[i]? = some d→fN[i]? = some v→RD ⟨G,fun _=>(0, .any),fun _=>none⟩ S0 d v) (lC:TE w) :
 Calls P f fN w fun e w'=>e = .returned (.bool true)∧Kept w w':=by
 refine(h _ w fN (anv G w hG) (akl G lC) hl ha).mono fun e w' hw=>?_
 obtain⟨M',d,v,s',rfl,rfl,he,_,hv⟩:=hw
 rw[hv.pj]
 exact⟨rfl,he.ahQ⟩
section
variable {P:Program} {H:Type} {enc:TypeId×Value→H}
theorem Od {f:Func} {s:ChangeSpec} {apart fresh handsOn again:Bool} {W W':World} {args:Array Value} {v:Value} {ds gs:List (DataW H)} {before pa pv:List MemPlace}
 (hW:DataW.Whole enc P f.params.toList s.vars apart W args.toList ds gs before)
 (N1 : ∀ (b:Nat) (sp:Nat→Bool) (hd:Bool),DataW.TrodAll enc P W' b sp hd f.resultTypes.toList (v.resultList f.resultTypes.size) (s.fn H (ds++gs)).results [])
 (wx : ∀ sp:Nat→Bool,(∀ p∈before,sp p.block=true)→DataW.TrodAll enc P W' 0 sp true f.params.toList args.toList (s.fn H (ds++gs)).args pa)
 (Bt : ∀ sp:Nat→Bool,(∀ p∈before,sp p.block=true)→DataW.TrodVars enc P W' sp s.vars (s.fn H (ds++gs)).vars pv)
 (nF:before=pa++pv) (hk:Kept W W')
 (o8 : ∀ (j:Nat) (t:TypeId) (r:Value),f.resultTypes[j]? = some t→(v.resultList f.resultTypes.size)[j]? = some r→Value.okWide P W' .any 0 t r) :
 s.post enc P f apart fresh handsOn again W args v W':=by
 have hD : ∀ p∈before,p.block<W.heap.size:=fun p hp=>hW.lt p hp
 have hold : ∀ p∈before,(fun b=>decide (b<W.heap.size)) p.block=true:=fun p hp=>by simpa using hD p hp
 refine⟨ds,gs,before,[],pa,pv,hW,N1 _ _ _,wx _ hold,Bt _ hold,World.keptBut_mono (fun p hp=>⟨hp, ?_⟩) (hk.frame (· ∈before)),fun _=>?_⟩
 ·rw [nF,zaq]at hp
  exact Or.inr hp
 ·obtain⟨_,_,_,_,_,hz,hn⟩:=hW
  refine⟨o8,_,_,([]++pa)++pv,⟨[]++pa,pv,ChangeShapes.trodAll_append (wx _ (fun _ _=>rfl)) (N1 _ _ _),Bt _ (fun _ _=>rfl),rfl, ?_, ?_⟩, ?_⟩
  ·intro b off hp
   have oA:MemPlace.cell b off∈before:=by rw[nF];simpa using hp
   rw[hk.2 _ (hD _ oA)]
   exact hz b off oA
  ·intro ha
   have:=hn ha
   rw[nF]at this
   simpa using this
  ·intro p hp _
   rw[nF]
   simpa using hp
end
end Go.Abs
namespace Go.Abs
open Go.RowKit Go.ChangeShapes Go.WideShapes
def DF (w:World) (b o:Nat):Option Value:=
 match w.cell? ⟨b,o,none⟩with
 |some v=>if v.oneCell'=true then some v else none
 |none=>none
theorem Ql {w:World} (b o:Nat) (v:Value) (h:DF w b o=some v):w.cell? ⟨b,o,none⟩=some v∧v.oneCell'=true:=by
 unfold DF at h
 split at h
 ·split at h
  ·cases h;exact⟨‹_›, ‹_›⟩
  ·cases h
 ·cases h
def sD (w:World):Map:=⟨DF w,fun _=>(0, .any),fun _=>none⟩
theorem Kept.sameAt {w w':World} (h:Kept w w') {p:MemPlace} (hp:p.block<w.heap.size):w.sameAt w' p:=by
 have hk:=h.1.2.2 p.block hp
 cases p with
 | cell b off=>
  simp only[MemPlace.block]at hk hp
  simp only[World.sameAt,World.cell?]
  split at hk
  ·rename_i c t fr c' t' yy e e'
   rw[e,e']
   simp only[hk.2.2.2 off (fun f=>f)]
  ·rename_i es clock Cx ahR e e'
   rw[e,e']
  ·rw[hk]
 | map b=>
  simp only[MemPlace.block]at hk hp
  simp only[World.sameAt]
  split at hk
  ·rename_i c t fr c' t' yy e e'
   rw[e,e']
   obtain⟨rfl,rfl,hs,hc⟩:=hk
   have:c'=c:=by
    apply Array.ext_getElem?
    intro i
    exact hc i (fun f=>f)
   rw[this]
  ·rename_i es clock Cx ahR e e'
   rcases hk with f|⟨rfl,rfl⟩
   ·exact f.elim
   ·rw[e,e']
  ·exact hk
section
variable {P:Program} {H:Type} {enc:TypeId×Value→H} {T:TypeId→Prop}
theorem HO (K:Kids P T) (hz : ∀ {t e:TypeId},T t→P.underlying t=some (.slice e)→0<P.cellsOf e) {W W':World} (hk:Kept W W') {sp:Nat→Bool} :
 ∀ {ts:List TypeId} {vs:List Value} {ds:List (DataW H)} {ps:List MemPlace},(∀ t∈ts,T t)→(∀ p∈ps,p.block<W.heap.size)→(∀ p∈ps,sp p.block=true)→
  DataW.TrodAll enc P W 0 (fun _=>true) true ts vs ds ps→DataW.TrodAll enc P W' 0 sp true ts vs ds ps
 | [],[],[],_,_,_,_,h=>h
 |t::ts,v::vs,d::ds,ps,hT,hD,hs,⟨p,q,⟨n,h1⟩,h2,e⟩=>by
  subst e
  refine⟨p,q,⟨n,DataW.trod_stays K hz (fun f=>by cases f) (hT t (zaA ..)) h1 (fun x hx=>hk.sameAt (hD x (zaJ _ hx))) (fun x hx=>hs x (zaJ _ hx))⟩, ?_,rfl⟩
  exact HO K hz hk (fun t ht=>hT t (zan _ ht)) (fun x hx=>hD x (za7 _ hx)) (fun x hx=>hs x (za7 _ hx)) h2
 | [],[],_::_,_,_,_,_,h=>h.elim
 | [],_::_,_,_,_,_,_,h=>h.elim
 |_::_,[],_,_,_,_,_,h=>h.elim
 |_::_,_::_,[],_,_,_,_,h=>h.elim
theorem Z0 (K:Kids P T) (hz : ∀ {t e:TypeId},T t→P.underlying t=some (.slice e)→0<P.cellsOf e) {f:Func} {s:ChangeSpec} {apart fresh handsOn again:Bool} {tb:TypeId} {W W':World} {args:Array Value} {ds gs:List (DataW H)} {before:List MemPlace}
 (hT : ∀ t∈f.params.toList,T t) (hb:P.underlying tb=some .bool) (hr:f.resultTypes = #[tb]) (Bt:s.vars = []) (hW:DataW.Whole enc P f.params.toList s.vars apart W args.toList ds gs before)
 (wi:s.fn H (ds++gs) = {results:= [.lit (.bool true)],args:=ds}) (hk:Kept W W'):s.post enc P f apart fresh handsOn again W args (.bool true) W':=by
 have hW':=hW
 have hD : ∀ p∈before,p.block<W.heap.size:=fun p hp=>hW.lt p hp
 obtain⟨p,q,hA,hV,rfl,hfz,Wd⟩:=hW
 rw[Bt]at hV
 obtain⟨rfl,rfl⟩:=trodVars_none hV
 simp only[zaI]at hD wi
 refine Od (pa:=p) (pv:= []) hW' (fun b sp hd=>?_) (fun sp qH=>?_) (fun sp qH=>?_) rfl hk (ok_one hr rfl (okWide_bool_mk hb _))
 ·rw [zaI,wi,hr]
  exact trodAll_cons_mk (shut_bool hb _) trodAll_mk0
 ·rw [zaI,wi]
  simp only[zaI]at qH
  exact HO K hz hk hT hD qH hA
 ·rw [zaI,wi,Bt]
  rfl
theorem adO {f:FuncId} {args:List D} {fN:Array Value} {w:World} (h:bp P f args S0 fun d _=>d = .bool true) (hl:fN.size=args.length)
 (ha : ∀ (i:Nat) (d:D) (v:Value),args[i]? = some d→fN[i]? = some v→RD (sD w) S0 d v) (lC:TE w):Calls P f fN w fun e w'=>e = .returned (.bool true)∧Kept w w':=
 WL (G:=DF w) h Ql hl ha lC
end
end Go.Abs
namespace Go.Abs
open Go.Proofs
def qX (n:Int):List D:= [.int .i64 n]
theorem akm (n:Int):D.bM 0 0 (qX n)=true:=rfl
theorem ahT (n m:Nat) (l:List Int):D.lB n m (l.map qX)=l.map qX:=ng akm n m l
attribute [go_sem] qX ahT
def akn (op:Int):aF:=
 if op=5 then [42]else if op=6 then [47]else if op=7 then [37]else if op=8 then [43]else if op=9 then [45]else if op=10 then [60]else if op=11 then [60,61]
 else if op=12 then [62]else if op=13 then [62,61]else if op=14 then [61,61]else if op=15 then [33,61]else if op=16 then [38,38]else [124,124]
def aqP (op:Int):Int:=(afw (akn op)).1
def WM:Nat→List aF
 | 0=> []
 |n+1=>WM n++ [[UInt8.ofNat (97+n)]]
end Go.Abs
namespace Go.Abs
open Go.RowKit Go.ChangeShapes Go.WideShapes
theorem Qm {W:World} {a:Addr} {len cap:Nat} {zs:List Int} (hl:len≤cap) (hz:len≤zs.length) (hc : ∀ i,i<zs.length→W.cell? (a.add i)=some (.int .i64 (zs.getD i 0))) :
 RD (sD W) S0 (.slice .shared 1 ((zs.take len).map qX)) (.slice (some a) len cap):=by
 by_cases h0:len=0
 ·subst h0
  exact .mF _ _ _
 ·obtain⟨b,off,rfl,iN⟩:=Go.ints_at hc (by omega)
  have hlen:((zs.take len).map qX).length=len:=by simp;omega
  have e:((zs.take len).map qX).length=len:=hlen
  have key : ∀ (i:Nat) (row:List D) (j:Nat) (d:D),((zs.take len).map qX)[i]? = some row→row[j]? = some d→(sD W).G b (off+(i*1+j))=some (.int .i64 (zs.getD i 0))∧d = .int .i64 (zs.getD i 0):=by
   intro i row j d h1 h2
   rw[zao,zav]at h1
   obtain⟨n,h1,rfl⟩:=h1
   rw[zaY]at h1
   split at h1
   ·rename_i hi
    have hd:zs.getD i 0=n:=by rw[zay,h1];rfl
    have lj:i<zs.length:=(zac.1 h1).1
    cases j with
    |zero=>
     simp[qX]at h2
     subst h2
     refine⟨?_,by rw[hd]⟩
     have:=iN i lj
     show DF W b (off+(i*1+0))=_
     unfold DF
     rw[show off+(i*1+0)=off+i by omega,this]
     rfl
    |succ j=>simp[qX]at h2
   ·cases h1
  have:=RD.slice (M:=sD W) (s:=S0) .shared 1 ((zs.take len).map qX) b off cap (by omega) (fun row hr=>by obtain⟨n,_,rfl⟩:=zaF.1 hr;rfl)
   (fun i row j d h1 h2=>⟨_,(key i row j d h1 h2).1⟩) (fun i row j d u h1 h2 hu=>by
    obtain⟨k1,k2⟩:=key i row j d h1 h2
    rw[k1]at hu
    cases hu
    rw[k2]
    exact .int _ _) trivial
  rw[hlen]at this
  exact this
end Go.Abs
namespace Go.Abs
open Go.RowKit Go.ChangeShapes Go.WideShapes
def fK (W:World) (ds:List D) (cs:List Value):Prop:=ds.length=cs.length∧(∀ (i:Nat) (d:D) (v:Value),ds[i]? = some d→cs[i]? = some v→RD (sD W) S0 d v)∧∀ v∈cs,v.oneCell'=true
theorem fK.one {W:World} {d:D} {v:Value} (h:RD (sD W) S0 d v) (hv:v.oneCell'=true):fK W [d] [v]:=by
 refine⟨rfl,fun i d' v' h1 h2=>?_,fun u hu=>by simp at hu;subst hu;exact hv⟩
 cases i with
 |zero=>simp at h1 h2;subst h1 h2;exact h
 |succ i=>simp at h1
theorem fK.app {W:World} {ds o6:List D} {cs kL:List Value} (h:fK W ds cs) (h':fK W o6 kL):fK W (ds++o6) (cs++kL):=by
 obtain⟨a1,a2,a3⟩:=h
 obtain⟨b1,b2,b3⟩:=h'
 refine⟨by simp[a1,b1],fun i d v h1 h2=>?_,fun v hv=>?_⟩
 ·by_cases hi:i<ds.length
  ·rw [zak hi]at h1
   rw[zak (by omega)]at h2
   exact a2 i d v h1 h2
  ·rw [zas (by omega)]at h1
   rw[zas (by omega), ← a1]at h2
   exact b2 _ d v h1 h2
 ·rcases zaq.1 hv with hv | hv
  ·exact a3 v hv
  ·exact b3 v hv
theorem fK.at {W:World} {ds o6:List D} {cs:List Value} {o n:Nat} (h:fK W ds ((cs.drop o).take n)) (h':fK W o6 (cs.drop (o+n))):fK W (ds++o6) (cs.drop o):=by
 have e:cs.drop o=(cs.drop o).take n++cs.drop (o+n):=by rw[← List.drop_drop,List.take_append_drop]
 rw[e]
 exact h.app h'
theorem fK.end {W:World} {cs:List Value} {o:Nat} (h:cs.length=o):fK W [] (cs.drop o):=by
 rw[← h,List.drop_length]
 exact⟨rfl,fun i d v h=>by simp at h,fun v hv=>by cases hv⟩
section
variable {H:Type} {enc:TypeId×Value→H} {P:Program} {W:World} {sp:Nat→Bool}
def structOf (P:Program) (t:TypeId):List (TypeId×Nat):=
 match P.underlying t with
 |some (.struct fs)=>fs.toList.map fun f=>(f.type,f.offset)
 |_=> []
theorem nj {t:TypeId} {l:List (TypeId×Nat)} {fuel:Nat} {cs:List Value} {x:DataW H×List MemPlace} (h:structOf P t=l) (eO:l≠ []) (ht:DataW.trod enc P W 0 sp true fuel t cs=some x) :
 ∃ n,fuel=n+1∧cs.length=P.cellsOf t∧∀ (i:Nat) (f:TypeId×Nat),l[i]? = some f→∃ y,DataW.trod enc P W 0 sp true n f.1 ((cs.drop f.2).take (P.cellsOf f.1))=some y:=by
 unfold structOf at h
 split at h
 ·rename_i fs hu
  obtain⟨xs,n,e,_,hl,hlen,hf⟩:=DataW.trod_struct hu ht
  refine⟨n,e,hl,fun i f hi=>?_⟩
  subst h
  rw[zao,zav]at hi
  obtain⟨g,hg,rfl⟩:=hi
  have Ey:fs[i]? = some g:=by simpa using hg
  have hi:i<xs.length:=by rw[hlen];exact(zaT.1 Ey).1
  exact⟨xs[i],by rw[hf i g Ey,zah hi]⟩
 ·exact absurd h.symm eO
theorem KY {t:TypeId} {l:List (TypeId×Nat)} (h:structOf P t=l) (eO:l≠ []) : ∃ fs,P.underlying t=some (.struct fs):=by
 unfold structOf at h
 split at h
 ·exact⟨_, ‹_›⟩
 ·exact absurd h.symm eO
theorem EZ {α:Type} {Q:Nat→α→Prop} : ∀ n,(∀ i,i<n→∃ y,Q i y)→∃ ys:List α,ys.length=n∧∀ i y,ys[i]? = some y→Q i y
 | 0,_=>⟨[],rfl,fun i y h=>by simp at h⟩
 | n+1,h=>by
  obtain⟨ys,h1,h2⟩:=EZ n fun i hi=>h i (by omega)
  obtain⟨y,hy⟩:=h n (by omega)
  refine⟨ys++ [y],by simp[h1],fun i z hz=>?_⟩
  by_cases hi:i<ys.length
  ·rw[zak hi]at hz;exact h2 i z hz
  ·rw [zas (by omega)]at hz
   have:i - ys.length=0:=by
    rcases Nat.eq_zero_or_pos (i - ys.length)with h|h
    ·exact h
    ·rw[zbC (by simp only[zat,zaD];omega)]at hz;cases hz
   rw[this]at hz
   simp at hz
   subst hz
   have:i=n:=by omega
   subst this
   exact hy
theorem qY {α:Type} (en:α→List D) (good:α→Prop) {z:Nat} {t e:TypeId} {fuel:Nat} {cs:List Value} {x:DataW H×List MemPlace} (ht:P.underlying t=some (.slice e)) (hz:P.cellsOf e=z) (hz0:0<z) (hen : ∀ y,(en y).length=z)
 (hel : ∀ n<fuel,∀ cs x,DataW.trod enc P W 0 sp true n e cs=some x→∃ y,fK W (en y) cs∧good y) (h:DataW.trod enc P W 0 sp true fuel t cs=some x) :
 ∃ ys:List α,fK W [.slice .shared z (ys.map en)] cs∧∀ y∈ys,good y:=by
 rcases DataW.trod_slice ht h with ⟨rfl,_⟩|⟨a,len,cap,elems,rest,n,hn,rfl,_,hb,hl,hm,hlen,iN,_,_⟩
 ·exact⟨[],fK.one (.jz _ _ _ rfl trivial) rfl,fun y hy=>by cases hy⟩
 ·by_cases h0:len=0
  ·subst h0
   exact⟨[],fK.one (.mF _ _ _) rfl,fun y hy=>by cases hy⟩
  ·obtain⟨ys,hys,w8⟩:=EZ (Q:=fun i y=>good y∧∃ kL,W.cells? 0 (a.add (i*z)) z=some kL∧fK W (en y) kL) len fun i hi=>by
    have hc:=iN i hi
    rw[zah (by omega),hz,Option.bind_eq_some_iff]at hc
    obtain⟨kL,h1,h2⟩:=hc
    obtain⟨y,h3,h4⟩:=hel n (by omega) _ _ h2
    exact⟨y,h4,kL,h1,h3⟩
   have cell : ∀ i y,ys[i]? = some y→∀ (j:Nat) d,(en y)[j]? = some d→∃ v,W.cell? ((a.add (i*z)).add j)=some v∧RD (sD W) S0 d v∧v.oneCell'=true:=by
    intro i y hy j d hd
    obtain⟨_,kL,h1,h2,h3,h4⟩:=w8 i y hy
    obtain⟨_,k1,k2⟩:=World.cells?_some h1
    have hj:j<z:=by rw[← hen y];exact(zac.1 hd).1
    have hv:kL[j]? = some kL[j]:=zah (by omega)
    exact⟨kL[j],by rw[k2 j hj,hv],h3 j d _ hd hv,h4 _ (List.getElem_mem _)⟩
   obtain⟨b,off,spot⟩:=a
   have ako:spot=none:=by
    have hy:ys[0]? = some (ys[0]'(by omega)):=zah (by omega)
    obtain⟨d,hd⟩ : ∃ d,(en (ys[0]'(by omega)))[0]? = some d:=⟨_,zah (show 0<(en (ys[0]'(by omega))).length by rw[hen];exact hz0)⟩
    obtain⟨v,hv,_⟩:=cell 0 _ hy 0 _ hd
    have:=World.cell?_spot hv
    simpa[Addr.add]using this
   subst ako
   have e:(ys.map en).length=len:=by simp[hys]
   have:=RD.slice (M:=sD W) (s:=S0) .shared z (ys.map en) b off cap (by omega) (fun row hr=>by obtain⟨y,_,rfl⟩:=zaF.1 hr;exact hen y)
    (fun i row j d h1 h2=>by
     rw[zao,zav]at h1
     obtain⟨y,h1,rfl⟩:=h1
     obtain⟨v,hv,_,h4⟩:=cell i y h1 j d h2
     rw[add_plain,add_plain]at hv
     refine⟨v, ?_⟩
     show DF W b (off+(i*z+j))=_
     unfold DF
     rw[show off+(i*z+j)=off+i*z+j by omega,hv]
     simp[h4])
    (fun i row j d u h1 h2 hu=>by
     rw[zao,zav]at h1
     obtain⟨y,h1,rfl⟩:=h1
     obtain⟨v,hv,h3,h4⟩:=cell i y h1 j d h2
     rw[add_plain,add_plain]at hv
     obtain⟨hu,_⟩:=Ql _ _ _ hu
     rw[show off+(i*z+j)=off+i*z+j by omega,hv]at hu
     cases hu
     exact h3) trivial
   rw[e]at this
   refine⟨ys,fK.one this rfl,fun y hy=>?_⟩
   obtain⟨i,hi⟩:=List.getElem?_of_mem hy
   exact(w8 i y hi).1
theorem HP {t:TypeId} {fuel:Nat} {cs:List Value} {x:DataW H×List MemPlace} (ht:P.underlying t=some (.int .i64)) (h:DataW.trod enc P W 0 sp true fuel t cs=some x) : ∃ n:Int,fK W [.int .i64 n] cs∧n≤9223372036854775807∧ -9223372036854775808≤n:=by
 obtain⟨n,rfl,_,hw⟩:=DataW.trod_int ht h
 simp[Lit.wf,IntKind.min,IntKind.max,IntKind.signed,IntKind.bits]at hw
 exact⟨n,fK.one (.int _ _) rfl,by omega,by omega⟩
theorem Jc {t:TypeId} {fuel:Nat} {cs:List Value} {x:DataW H×List MemPlace} (ht:P.underlying t=some .bool) (h:DataW.trod enc P W 0 sp true fuel t cs=some x) : ∃ b:Bool,fK W [.bool b] cs:=by
 obtain⟨n,rfl,_⟩:=DataW.trod_bool ht h
 exact⟨n,fK.one (.bool _) rfl⟩
theorem xG {t:TypeId} {fuel:Nat} {cs:List Value} {x:DataW H×List MemPlace} (ht:P.underlying t=some .string) (h:DataW.trod enc P W 0 sp true fuel t cs=some x) : ∃ s:aF,fK W (encStr s) cs∧s.length≤maxLen:=by
 obtain⟨s,rfl,_,hm⟩:=DataW.trod_string ht h
 obtain⟨⟨l⟩⟩:=s
 exact⟨l,fK.one (.str l) rfl,hm⟩
theorem akp {tE tI tN tS tK:TypeId} (hE:structOf P tE = [(tI,0),(tN,1),(tS,2),(tK,3)]) (hEc:P.cellsOf tE=4) (hI:P.underlying tI=some (.int .i64)) (hN:P.underlying tN=some (.int .i64)) (hS:P.underlying tS=some .string) (hK:P.underlying tK=some (.slice tE))
 (cI:P.cellsOf tI=1) (cN:P.cellsOf tN=1) (cS:P.cellsOf tS=1) (cK:P.cellsOf tK=1) :
 ∀ (fuel:Nat) (cs:List Value) (x:DataW H×List MemPlace),DataW.trod enc P W 0 sp true fuel tE cs=some x→∃ y:Ex,fK W (bT y) cs∧y.jn:=by
 intro fuel
 induction fuel using Nat.strongRecOn with
 | _ fuel ih=>
  intro cs x h
  obtain⟨n,rfl,hl,hf⟩:=nj hE (by simp) h
  obtain⟨y0,h0⟩:=hf 0 _ rfl
  obtain⟨y1,h1⟩:=hf 1 _ rfl
  obtain⟨y2,h2⟩:=hf 2 _ rfl
  obtain⟨y3,h3⟩:=hf 3 _ rfl
  dsimp only at h0 h1 h2 h3
  rw[cI]at h0
  rw[cN]at h1
  rw[cS]at h2
  rw[cK]at h3
  obtain⟨op,r0,_⟩:=HP hI h0
  obtain⟨m,r1,hm,_⟩:=HP hN h1
  obtain⟨s,r2,_⟩:=xG hS h2
  obtain⟨ks,r3,hg⟩:=qY (W:=W) bT Ex.jn hK hEc (by decide) aay (fun k hk cs x hx=>ih k (by omega) cs x hx) h3
  refine⟨⟨op,m,s,ks⟩, ?_,hm, ?_⟩
  ·have:=r0.at (r1.at (r2.at (r3.at (fK.end (by rw [hl,hEc])))))
   rw[jT]
   simpa[encStr]using this
  ·clear r3
   induction ks with
   |nil=>exact trivial
   |cons k ks ihk=>exact⟨hg k (by simp),ihk fun y hy=>hg y (by simp[hy])⟩
theorem fK.agg {ds:List D} {v:Value} (h:fK W ds v.cells.toList) (hv : ∃ vs,v = .agg vs):RD (sD W) S0 (.agg ds) v:=by
 obtain⟨vs,rfl⟩:=hv
 obtain⟨h1,h2,h3⟩:=h
 have e:(Value.agg vs).cells=vs:=rfl
 rw[e]at h1 h2 h3
 refine .agg ds vs (by simpa using h1) (fun v hv=>h3 v (by simpa using hv)) fun i d v hd hv=>h2 i d v hd (by simpa using hv)
end
end Go.Abs
namespace Go.Abs
open Go.Proofs Go.RowKit Go.ChangeShapes Go.WideShapes
section
variable {H:Type} {enc:TypeId×Value→H} {W:World} {sp:Nat→Bool}
theorem WN (fuel:Nat) (cs:List Value) (x:DataW H×List MemPlace) (h:DataW.trod enc Tryz.prog W 0 sp true fuel 50 cs=some x) : ∃ y:Ex,fK W (bT y) cs∧y.jn:=
 akp (tE:=50) (tI:=3) (tN:=2) (tS:=9) (tK:=48) (by kernel_rfl) (by kernel_rfl) (by kernel_rfl) (by kernel_rfl) (by kernel_rfl) (by kernel_rfl) (by kernel_rfl) (by kernel_rfl) (by kernel_rfl) (by kernel_rfl) _ _ _ h
theorem adP:Tryz.prog.underlying 22=some (.slice 9):=by kernel_rfl
theorem Az:Tryz.prog.underlying 9=some .string:=by kernel_rfl
theorem WO:Tryz.prog.underlying 3=some (.int .i64):=by kernel_rfl
theorem Jd:Tryz.prog.underlying 4=some .bool:=by kernel_rfl
theorem DG:Tryz.prog.cellsOf 9=1:=by kernel_rfl
theorem ahX:Tryz.prog.cellsOf 3=1:=by kernel_rfl
theorem Je:Tryz.prog.cellsOf 4=1:=by kernel_rfl
theorem Jf:Tryz.prog.cellsOf 22=1:=by kernel_rfl
theorem abu:Tryz.prog.cellsOf 50=4:=by kernel_rfl
theorem BI {fuel:Nat} {cs:List Value} {x:DataW H×List MemPlace} (h:DataW.trod enc Tryz.prog W 0 sp true fuel 22 cs=some x) : ∃ l:List aF,fK W [.slice .shared 1 (l.map encStr)] cs:=by
 obtain⟨l,h,_⟩:=qY (W:=W) encStr (fun _=>True) adP DG (by decide) (fun _=>rfl) (fun k hk cs x hx=>by
  obtain⟨s,hs,_⟩:=xG Az hx
  exact⟨s,hs,trivial⟩) h
 exact⟨l,h⟩
theorem ahY {fuel:Nat} {cs:List Value} {x:DataW H×List MemPlace} (h:DataW.trod enc Tryz.prog W 0 sp true fuel 73 cs=some x) : ∃ y:Pm,fK W (fz y) cs:=by
 obtain⟨n,rfl,hl,hf⟩:=nj (l:= [(9,0),(4,1)]) (by kernel_rfl) (by simp) h
 have hc:Tryz.prog.cellsOf 73=2:=by kernel_rfl
 obtain⟨y0,h0⟩:=hf 0 _ rfl
 obtain⟨y1,h1⟩:=hf 1 _ rfl
 dsimp only at h0 h1
 rw[DG]at h0
 rw[Je]at h1
 obtain⟨s,r0,_⟩:=xG Az h0
 obtain⟨b,r1⟩:=Jc Jd h1
 refine⟨⟨s,b⟩, ?_⟩
 have:=r0.at (r1.at (fK.end (by rw[hl,hc])))
 simpa[encStr,fz]using this
theorem ahZ {fuel:Nat} {cs:List Value} {x:DataW H×List MemPlace} (h:DataW.trod enc Tryz.prog W 0 sp true fuel 123 cs=some x) : ∃ y:Ar,fK W (dE y) cs∧y.x.jn:=by
 obtain⟨n,rfl,hl,hf⟩:=nj (l:= [(4,0),(9,1),(50,2)]) (by kernel_rfl) (by simp) h
 have hc:Tryz.prog.cellsOf 123=6:=by kernel_rfl
 obtain⟨y0,h0⟩:=hf 0 _ rfl
 obtain⟨y1,h1⟩:=hf 1 _ rfl
 obtain⟨y2,h2⟩:=hf 2 _ rfl
 dsimp only at h0 h1 h2
 rw[Je]at h0
 rw[DG]at h1
 rw[abu]at h2
 obtain⟨b,r0⟩:=Jc Jd h0
 obtain⟨s,r1,_⟩:=xG Az h1
 obtain⟨e,r2,hr⟩:=WN _ _ _ h2
 refine⟨⟨b,s,e⟩, ?_,hr⟩
 have:=r0.at (r1.at (r2.at (fK.end (by rw[hl,hc]))))
 rw[jT]at this
 simpa[encStr,dE]using this
theorem BJ : ∀ {l:List Sm},(∀ s∈l,s.jn)→Sm.uz l
 | [],_=>trivial
 |s::l,h=>⟨h s (zaA ..),BJ fun t m=>h t (zan _ m)⟩
theorem ah0 : ∀ (fuel:Nat) (cs:List Value) (x:DataW H×List MemPlace),DataW.trod enc Tryz.prog W 0 sp true fuel 54 cs=some x→∃ y:Sm,fK W (aY y) cs∧y.jn:=by
 intro fuel
 induction fuel using Nat.strongRecOn with
 |_ fuel ih=>
  intro cs x h
  obtain⟨n,rfl,hl,hf⟩:=nj (l:= [(3,0),(3,1),(22,2),(9,3),(9,4),(50,5),(4,9),(51,10),(52,11),(52,12)]) (by kernel_rfl) (by simp) h
  have hc:Tryz.prog.cellsOf 54=13:=by kernel_rfl
  have ca:Tryz.prog.cellsOf 51=1:=by kernel_rfl
  have kL:Tryz.prog.cellsOf 52=1:=by kernel_rfl
  have ua:Tryz.prog.underlying 51=some (.slice 123):=by kernel_rfl
  have us:Tryz.prog.underlying 52=some (.slice 54):=by kernel_rfl
  have ca6:Tryz.prog.cellsOf 123=6:=by kernel_rfl
  obtain⟨y0,h0⟩:=hf 0 _ rfl
  obtain⟨y1,h1⟩:=hf 1 _ rfl
  obtain⟨y2,h2⟩:=hf 2 _ rfl
  obtain⟨y3,h3⟩:=hf 3 _ rfl
  obtain⟨y4,h4⟩:=hf 4 _ rfl
  obtain⟨y5,h5⟩:=hf 5 _ rfl
  obtain⟨y6,h6⟩:=hf 6 _ rfl
  obtain⟨y7,h7⟩:=hf 7 _ rfl
  obtain⟨y8,h8⟩:=hf 8 _ rfl
  obtain⟨y9,h9⟩:=hf 9 _ rfl
  dsimp only at h0 h1 h2 h3 h4 h5 h6 h7 h8 h9
  rw[ahX]at h0 h1
  rw[Jf]at h2
  rw[DG]at h3 h4
  rw[abu]at h5
  rw[Je]at h6
  rw[ca]at h7
  rw[kL]at h8 h9
  obtain⟨id,r0,_⟩:=HP WO h0
  obtain⟨kind,r1,_⟩:=HP WO h1
  obtain⟨labels,r2⟩:=BI h2
  obtain⟨name,r3,_⟩:=xG Az h3
  obtain⟨proc,r4,_⟩:=xG Az h4
  obtain⟨e,r5,hr⟩:=WN _ _ _ h5
  obtain⟨b,r6⟩:=Jc Jd h6
  obtain⟨args,r7,ha⟩:=qY (W:=W) dE (fun a=>a.x.jn) ua ca6 (by decide) (fun _=>rfl) (fun k hk cs x hx=>ahZ hx) h7
  obtain⟨a8,r8,ht⟩:=qY (W:=W) aY Sm.jn us hc (by decide) K4 (fun k hk cs x hx=>ih k (by omega) cs x hx) h8
  obtain⟨aK,r9,he⟩:=qY (W:=W) aY Sm.jn us hc (by decide) K4 (fun k hk cs x hx=>ih k (by omega) cs x hx) h9
  refine⟨⟨id,kind,labels,name,proc,e,b,args,a8,aK⟩, ?_,hr,ha,BJ ht,BJ he⟩
  have:=r0.at (r1.at (r2.at (r3.at (r4.at (r5.at (r6.at (r7.at (r8.at (r9.at (fK.end (by rw[hl,hc])))))))))))
  rw[jT]at this
  rw[eR]
  simpa[encStr]using this
theorem ah1 {fuel:Nat} {cs:List Value} {x:DataW H×List MemPlace} (h:DataW.trod enc Tryz.prog W 0 sp true fuel 70 cs=some x) : ∃ y:Pc,fK W (bN y) cs∧Sm.uz y.body:=by
 obtain⟨n,rfl,hl,hf⟩:=nj (l:= [(9,0),(68,1),(22,2),(52,3),(22,4)]) (by kernel_rfl) (by simp) h
 have hc:Tryz.prog.cellsOf 70=5:=by kernel_rfl
 have cp:Tryz.prog.cellsOf 68=1:=by kernel_rfl
 have kL:Tryz.prog.cellsOf 52=1:=by kernel_rfl
 have up:Tryz.prog.underlying 68=some (.slice 73):=by kernel_rfl
 have us:Tryz.prog.underlying 52=some (.slice 54):=by kernel_rfl
 have cp2:Tryz.prog.cellsOf 73=2:=by kernel_rfl
 have anx:Tryz.prog.cellsOf 54=13:=by kernel_rfl
 obtain⟨y0,h0⟩:=hf 0 _ rfl
 obtain⟨y1,h1⟩:=hf 1 _ rfl
 obtain⟨y2,h2⟩:=hf 2 _ rfl
 obtain⟨y3,h3⟩:=hf 3 _ rfl
 obtain⟨y4,h4⟩:=hf 4 _ rfl
 dsimp only at h0 h1 h2 h3 h4
 rw[DG]at h0
 rw[cp]at h1
 rw[Jf]at h2 h4
 rw[kL]at h3
 obtain⟨name,r0,_⟩:=xG Az h0
 obtain⟨ps,r1,_⟩:=qY (W:=W) fz (fun _=>True) up cp2 (by decide) (fun _=>rfl) (fun k hk cs x hx=>by
  obtain⟨y,hy⟩:=ahY hx
  exact⟨y,hy,trivial⟩) h1
 obtain⟨vars,r2⟩:=BI h2
 obtain⟨body,r3,hb⟩:=qY (W:=W) aY Sm.jn us anx (by decide) K4 (fun k hk cs x hx=>ah0 k cs x hx) h3
 obtain⟨fin,r4⟩:=BI h4
 refine⟨⟨name,ps,vars,body,fin⟩, ?_,BJ hb⟩
 have:=r0.at (r1.at (r2.at (r3.at (r4.at (fK.end (by rw[hl,hc]))))))
 simpa[encStr,bN]using this
theorem ah2 {fuel:Nat} {cs:List Value} {x:DataW H×List MemPlace} (h:DataW.trod enc Tryz.prog W 0 sp true fuel 25 cs=some x) : ∃ y:Pg,fK W (bS y) cs∧y.jn:=by
 obtain⟨n,rfl,hl,hf⟩:=nj (l:= [(22,0),(23,1)]) (by kernel_rfl) (by simp) h
 have hc:Tryz.prog.cellsOf 25=2:=by kernel_rfl
 have cp:Tryz.prog.cellsOf 23=1:=by kernel_rfl
 have up:Tryz.prog.underlying 23=some (.slice 70):=by kernel_rfl
 have cp5:Tryz.prog.cellsOf 70=5:=by kernel_rfl
 obtain⟨y0,h0⟩:=hf 0 _ rfl
 obtain⟨y1,h1⟩:=hf 1 _ rfl
 dsimp only at h0 h1
 rw[Jf]at h0
 rw[cp]at h1
 obtain⟨globals,r0⟩:=BI h0
 obtain⟨procs,r1,hp⟩:=qY (W:=W) bN (fun f=>Sm.uz f.body) up cp5 (by decide) (fun _=>rfl) (fun k hk cs x hx=>ah1 hx) h1
 refine⟨⟨globals,procs⟩, ?_,hp⟩
 have:=r0.at (r1.at (fK.end (by rw[hl,hc])))
 simpa[bS]using this
end
end Go.Abs
namespace Go.Abs
open Go.Proofs Go.ChangeShapes Go.WideShapes Go.ChangeAt Go.RowKit
theorem yE {H:Type} {enc:TypeId×Value→H} {P:Program} {W:World} {sp:Nat→Bool} {t:TypeId} {ts:List TypeId} {ps:List MemPlace} : ∀ {l:List Value} {ds:List (DataW H)},DataW.TrodAll enc P W 0 sp true (t::ts) l ds ps→
 ∃ v l' d o6 p q,l=v::l'∧ds=d::o6∧DataW.Trod enc P W 0 sp true t v d p∧DataW.TrodAll enc P W 0 sp true ts l' o6 q
 |v::l,d::ds,⟨p,q,h1,h2,e⟩=>⟨v,l,d,ds,p,q,rfl,rfl,h1,h2⟩
 | [],[],h=>h.elim
 | [],_::_,h=>h.elim
 |_::_,[],h=>h.elim
theorem Z1 {H:Type} {enc:TypeId×Value→H} {P:Program} {W:World} {sp:Nat→Bool} {ps:List MemPlace} : ∀ {l:List Value} {ds:List (DataW H)},DataW.TrodAll enc P W 0 sp true [] l ds ps→l = []∧ds = []
 | [],[],_=>⟨rfl,rfl⟩
 | [],_::_,h=>h.elim
 |_::_,ds,h=>by cases ds<;>exact h.elim
end Go.Abs
