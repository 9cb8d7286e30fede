/-
  What is proved here: part 8 of the road to the claim (R12O, R12Q, R12R, R12S, R12T, R12U, R12V, R12W, OwnF, R12X, LawRua, Cp2, Cp3, MirNum, Nb1, PutP, LawRo, Glue2, Join, Binds1, Join2, Join3, Join4, Join5).
  No conditions.
-/
import Derived.Test.YtpcnegjdjghfcaaGreatRoA7
import Derived.RowKit3
import Derived.WalkKit
import Derived.ProofKit
import Derived.OpenShut
import Derived.ShutString
import Derived.ChangeMaps5
import Derived.ChangeStays
import Derived.KernelRfl

set_option linter.unusedSimpArgs false
set_option linter.unusedVariables false
namespace Go.Abs
set_option maxRecDepth 8000
open Go.Proofs
section
variable {p:Pg} {T W:List Int} {fuel:Int} {y:Ly} {a:Int} {m:Mc} {loc:List (Nat×List D)} {s:St} {fr:Fr} {r:List Fr} {fo g:Nat} {cells:List D}
def JQ (p:Pg) (fr:Fr) (it:Im) (to:Int):Prop:=
 (it.s.kind=10∧(jH (fy p fr).fin it.s.name ((fy p fr).flat.map It.s)).1=to)∨
 (it.s.kind=7∧∃ n,vj (fy p fr).flat n (gR (fy p fr).flat (fy p fr).flat.length it.s.id)=some to)∨
 (it.s.kind=8∧gR (fy p fr).flat (fy p fr).flat.length it.s.id=to)
structure ac3 (p:Pg) (fr:Fr):Prop where
 flat:(fy p fr).flat.length≤1000
 Bb : ∀ x∈(fy p fr).flat,x.s.labels.length<1000000
 fin:(fy p fr).fin.length<1000000
theorem ac4 (h:fz p T W fuel y a m loc s) (ht:rG p y a fr r s fo g cells) (hs:r.length<1000000) (hP:ac3 p fr) {it:Im} {to:Int} (hj:JQ p fr it to) :
 ay Tryz.prog 85 [.ptr y.c 0, .agg (aO it.s)] s (.int .i64 to) ⟨s.ag++ [aO it.s],s.au⟩:=by
 have h1:=h.new (aO it.s)
 have xL:=ht.new (aO it.s)
 have c1:=uy h1 xL hs
 have k0:=ht.c0
 have k1:=ht.c1
 have gV:=xL.at_
 simp only at gV
 have fM:=hP.flat
 have z0:(s.ag++ [aO it.s])[s.ag.length]? = some (aO it.s):=by simp
 have cA:=fun s=>Qx (l:=(fy p fr).flat) (by omega) it.s.id s
 unfold JQ at hj
 obtain⟨_,Qy,xK⟩:=hP
 generalize fy p fr=f at *
 rcases hj with ⟨hk,Ab⟩|⟨hk,n,Ab⟩|⟨hk,Ab⟩
 ·have qd:(it.s.kind==10)=true:=by simp [hk]
  have cB:=fun s=>agW (l:=f.flat) (by omega) (fun x mx=>by have:=Qy x mx;omega) (fin:=f.fin) (by omega) it.s.name s
  generalize jH f.fin it.s.name (f.flat.map It.s)=R at *
  subst Ab
  refine bk.jO oY.h rfl fun B Q hB hQ=>?_
  have⟨hD,hZ,gC,gD⟩:=bc
  repeat' (first
 |simp only[go_sem,hD,hZ,gC,gD,z0,gV,k0,k1,qd,zaP]
 |(with_reducible refine CU (c1) ?_)
 |(with_reducible refine CU (cB _) ?_)
 |(with_reducible refine aX hQ ?_;exact bK))
  (refine dI hQ ?_;simp only[bZ,cd,dn,dq,go_sem])
 ·have qd:(it.s.kind==10)=false:=by simp [hk]
  have b7:(it.s.kind==7)=true:=by simp[hk]
  generalize gR f.flat f.flat.length it.s.id=w at *
  have cH:=fun s=>H9 (l:=f.flat) (by omega) Ab s
  refine bk.jO oY.h rfl fun B Q hB hQ=>?_
  have⟨hD,hZ,gC,gD⟩:=bc
  repeat' (first
 |simp only[go_sem,hD,hZ,gC,gD,z0,gV,k0,qd,b7,zaP]
 |(with_reducible refine CU (c1) ?_)
 |(with_reducible refine CU (cA _) ?_)
 |(with_reducible refine CU (cH _) ?_)
 |(with_reducible refine aX hQ ?_;exact bK))
  (refine dI hQ ?_;simp only[bZ,cd,dn,dq,go_sem])
 ·have qd:(it.s.kind==10)=false:=by simp [hk]
  have b7:(it.s.kind==7)=false:=by simp[hk]
  subst Ab
  generalize gR f.flat f.flat.length it.s.id=w at *
  refine bk.jO oY.h rfl fun B Q hB hQ=>?_
  have⟨hD,hZ,gC,gD⟩:=bc
  repeat' (first
 |simp only[go_sem,hD,hZ,gC,gD,z0,gV,k0,qd,b7,zaP]
 |(with_reducible refine CU (c1) ?_)
 |(with_reducible refine CU (cA _) ?_)
 |(with_reducible refine aX hQ ?_;exact bK))
  (refine dI hQ ?_;simp only[bZ,cd,dn,dq,go_sem])
def Fi (W:List Int) (it:Im) (to:Int) (m:Mc) (v:Int):Int×Mc:=
 if it.s.kind==7 ||it.s.kind==8 ||it.s.kind==10 then(to,m.event W it.s.id [])
 else if it.s.kind==5 then(if v==0 then firstM it.s.aH it.next else firstM it.s.aY it.next,m.event W it.s.id [v])
 else if it.s.kind==6 then(if v==0 then it.next else firstM it.s.aY it.s.id,m.event W it.s.id [v])
 else if it.s.kind==3 then(it.next,{m.event W it.s.id [v]with out:=(m.event W it.s.id [v]).out++ [v]})
 else(it.next,(m.event W it.s.id [v]).set it.s.name v)
structure aeK (p:Pg) (fr:Fr) (it:Im) (to:Int):Prop where
 pl : ∃ n,vj (fy p fr).flat n it.s.id=some it.next
 aY : ∀ d,ud it.s.id false d (fy p fr).flat=eR it.s.aY d
 aH : ∀ d,ud it.s.id true d (fy p fr).flat=eR it.s.aH d
 jump:it.s.kind=7∨it.s.kind=8∨it.s.kind=10→JQ p fr it to
 name:it.s.kind=1∨it.s.kind=2→∃ k,tw fr it.s.name k
 kind:it.s.kind≠4∧it.s.kind≠9∧1≤it.s.kind∧it.s.kind≤10
theorem fz.zl (h:fz p T W fuel y a m loc s) (gG:m.st=fr::r) (sK:y.fs = .dr 5 fo g (r.length+1)) : ∃ more,rG p y a fr r s fo g (iO p a (fr::r)++more):=by
 obtain⟨fo',g',more,h1⟩:=h.Dq gG
 have e:=h1.fs
 rw[sK,D.dr.injEq]at e
 obtain⟨_,rfl,rfl,_⟩:=e
 exact⟨more,h1⟩
theorem GZ (p:Pg) (a:Int) (fr:Fr) (r:List Fr) (more:List D):(r.length*5+2+1≤(iO p a (fr::r)).length+more.length)=True:=by
 rw[sG]
 simp only[zas,eq_iff_iff,iff_true];omega
structure vm (p:Pg) (m:Mc) (fr:Fr) (r:List Fr):Prop where
 st:m.st=fr::r
 len:r.length<1000000
 names:fr.names.length<1000000
 vars:fr.vars.length<1000000
 cells : ∀ c∈fr.vars,c<m.mem.length
 pc:ac3 p fr
theorem QM (h:fz p T W fuel y a m loc s) (hF:vm p m fr r) {it:Im} {to:Int} (hd:aeK p fr it to) (hW:W.length<1000000) (Qr:m.trace.length<2000000) (He:m.out.length<2000000) (v:Int) :
 ∃ y' s',ay Tryz.prog 55 [.ptr y.c 0, .agg (aO it.s), .int .i64 v] s (.tuple []) s'∧fz p T W fuel y' (Fi W it to m v).1 (Fi W it to m v).2 loc s'∧y'.c=y.c:=by
 have h1:=h.new (aO it.s)
 obtain⟨fo,g,more,ht⟩:=h1.Dq hF.st
 have c1:=uy h1 ht hF.len
 have z0:(s.ag++ [aO it.s])[s.ag.length]? = some (aO it.s):=by simp
 generalize hn:s.ag.length=n at *
 have ic : ∀ q∈loc,q∈(n,aO it.s)::loc:=fun q mq=>zan _ mq
 have fM:(fy p fr).flat.length≤1000:=hF.pc.flat
 have gk:=fun a more=>GZ p a fr r more
 have vX:=fun a a' more=>JO p a a' fr r more
 obtain⟨nb,hb⟩:=hd.pl
 have cB:=fun s=>H9 (l:=(fy p fr).flat) (by omega) hb s
 obtain⟨k4,k9,k1,k10⟩:=hd.kind
 unfold Fi
 rcases zaa (it.s.kind==7 ||it.s.kind==8 ||it.s.kind==10)with bj|bj
 ·rw [if_pos bj]
  have hj:=hd.jump (by simp only[zaD,beq_iff_eq]at bj;omega)
  obtain⟨s2,cE,h2⟩:=xb h1 hW Qr it.s.id []
  have zm:ay Tryz.prog 54 [.ptr y.c 0, .int .i64 it.s.id, .slice .full 0 []] ⟨s.ag++ [aO it.s],s.au⟩ (.tuple []) s2:=bk.mT (.cons (Wk.refl _) (.cons (Wk.refl _) (.cons AJ .nil))) cE
  have he:=dV W m it.s.id []
  obtain⟨aeL,jD⟩:=h2.zl (by rw[he.1];exact hF.st) ht.fs
  have x2:=(h2.loc (n,aO it.s) (by simp)).1
  have cJ:=ac4 h2 jD hF.len hF.pc hj
  have h3:=h2.new (aO it.s)
  have ux:=jD.new (aO it.s)
  have h4:=h3.setAt (by rw[he.1];exact hF.st) ux to
  have gV:=ux.at_
  simp only at x2 gV
  refine⟨y,_, ?_,h4.sub fun q mq=>zan _ (ic q mq),rfl⟩
  rcases zaa (it.s.kind==7)with b7|b7
  ·refine bk.jO gX.h rfl fun B Q hB hQ=> ?_
   have⟨hD,hZ,gC,gD⟩:=bc
   repeat' (first
 |simp only[go_sem,hD,hZ,gC,gD,z0,hn,b7,x2,gV,vX,gk]
 |(with_reducible refine CU (c1) ?_)
 |(with_reducible refine CU (zm) ?_)
 |(with_reducible refine CU (cJ) ?_)
 | (with_reducible refine aX hQ ?_;exact bK))
   (refine dI hQ ?_;simp only[bZ,cd,dn,dq,go_sem])
  rcases zaa (it.s.kind==8)with b8|b8
  ·refine bk.jO gX.h rfl fun B Q hB hQ=> ?_
   have⟨hD,hZ,gC,gD⟩:=bc
   repeat' (first
 |simp only[go_sem,hD,hZ,gC,gD,z0,hn,b7,b8,x2,gV,vX,gk]
 |(with_reducible refine CU (c1) ?_)
 |(with_reducible refine CU (zm) ?_)
 |(with_reducible refine CU (cJ) ?_)
 | (with_reducible refine aX hQ ?_;exact bK))
   (refine dI hQ ?_;simp only[bZ,cd,dn,dq,go_sem])
  ·have qd:(it.s.kind==10)=true:=by simpa [b7,b8]using bj
   refine bk.jO gX.h rfl fun B Q hB hQ=>?_
   have⟨hD,hZ,gC,gD⟩:=bc
   repeat' (first
 |simp only[go_sem,hD,hZ,gC,gD,z0,hn,b7,b8,qd,x2,gV,vX,gk]
 |(with_reducible refine CU (c1) ?_)
 |(with_reducible refine CU (zm) ?_)
 |(with_reducible refine CU (cJ) ?_)
 | (with_reducible refine aX hQ ?_;exact bK))
   (refine dI hQ ?_;simp only[bZ,cd,dn,dq,go_sem])
 rw[if_neg (by simp[bj])]
 simp only[Bool.or_eq_false_iff]at bj
 obtain⟨⟨b7,b8⟩,qd⟩:=bj
 obtain⟨s2,cE,h2⟩:=xb h1 hW Qr it.s.id [v]
 have zm:ay Tryz.prog 54 [.ptr y.c 0, .int .i64 it.s.id, .slice .full 1 [[.int .i64 v]]] ⟨s.ag++ [aO it.s],s.au⟩ (.tuple []) s2:=bk.mT (.cons (Wk.refl _) (.cons (Wk.refl _) (.cons (Wk.shared _ _ _) .nil))) cE
 have he:=dV W m it.s.id [v]
 obtain⟨aeL,jD⟩:=h2.zl (by rw[he.1];exact hF.st) ht.fs
 have x2:=(h2.loc (n,aO it.s) (by simp)).1
 have gV:=jD.at_
 have q0:=jD.c0
 simp only at x2
 have nb0:(v != 0) = !(v==0):=rfl
 rcases zaa (it.s.kind==5)with b5|b5
 ·rw [if_pos b5]
  have hI:ud it.s.id (v==0) it.next (fy p fr).flat=(if v==0 then firstM it.s.aH it.next else firstM it.s.aY it.next):=by
   rcases zaa (v==0)with z|z
   ·rw[z,if_pos rfl];exact hd.aH _
   ·rw[z,if_neg (by simp)];exact hd.aY _
  have cI:=fun s=>Ll (l:=(fy p fr).flat) (by omega) it.s.id (v==0) it.next s
  rw[hI]at cI
  have h4:=h2.setAt (by rw[he.1];exact hF.st) jD (if v==0 then firstM it.s.aH it.next else firstM it.s.aY it.next)
  dsimp only
  generalize (if(v==0)=true then firstM it.s.aH it.next else firstM it.s.aY it.next)=R at *
  refine⟨y,_, ?_,h4.sub ic,rfl⟩
  refine bk.jO gX.h rfl fun B Q hB hQ=>?_
  have⟨hD,hZ,gC,gD⟩:=bc
  repeat' (first
 |simp only[go_sem,hD,hZ,gC,gD,z0,hn,b7,b8,qd,b5,x2,gV,q0,vX,gk,zaP]
 |(with_reducible refine CU (c1) ?_)
 |(with_reducible refine CU (zm) ?_)
 |(with_reducible refine CU (cB _) ?_)
 |(with_reducible refine CU (cI _) ?_)
 |(with_reducible refine aX hQ ?_;exact bK))
  (refine dI hQ ?_;simp only[bZ,cd,dn,dq,go_sem])
 rw[if_neg (by simp[b5])]
 rcases zaa (it.s.kind==6)with b6|b6
 ·rw [if_pos b6]
  rcases zaa (v==0)with z|z
  ·rw [if_pos z]
   have h4:=h2.setAt (by rw[he.1];exact hF.st) jD it.next
   refine⟨y,_, ?_,h4.sub ic,rfl⟩
   refine bk.jO gX.h rfl fun B Q hB hQ=>?_
   have⟨hD,hZ,gC,gD⟩:=bc
   repeat' (first
 |simp only[go_sem,hD,hZ,gC,gD,z0,hn,b7,b8,qd,b5,b6,nb0,z,zav,x2,gV,q0,vX,gk,zaP]
 |(with_reducible refine CU (c1) ?_)
 |(with_reducible refine CU (zm) ?_)
 |(with_reducible refine CU (cB _) ?_)
 | (with_reducible refine aX hQ ?_;exact bK))
   (refine dI hQ ?_;simp only[bZ,cd,dn,dq,go_sem])
  ·rw [if_neg (by simp [z])]
   have cI:=fun s=>Ll (l:=(fy p fr).flat) (by omega) it.s.id false it.s.id s
   rw[hd.aY]at cI
   have h4:=h2.setAt (by rw[he.1];exact hF.st) jD (firstM it.s.aY it.s.id)
   unfold firstM at h4 ⊢
   generalize eR it.s.aY it.s.id=R at *
   refine⟨y,_, ?_,h4.sub ic,rfl⟩
   refine bk.jO gX.h rfl fun B Q hB hQ=>?_
   have⟨hD,hZ,gC,gD⟩:=bc
   repeat' (first
 |simp only[go_sem,hD,hZ,gC,gD,z0,hn,b7,b8,qd,b5,b6,nb0,z,zax,x2,gV,q0,vX,gk,zaP]
 |(with_reducible refine CU (c1) ?_)
 |(with_reducible refine CU (zm) ?_)
 |(with_reducible refine CU (cI _) ?_)
 | (with_reducible refine aX hQ ?_;exact bK))
   (refine dI hQ ?_;simp only[bZ,cd,dn,dq,go_sem])
 rw[if_neg (by simp[b6])]
 rcases zaa (it.s.kind==3)with b3|b3
 ·rw [if_pos b3]
  have km:=h2.fi
  have ke:=cY km
  rw[gF]at km
  have dc:fS 1 8 (.slice (.tok 0) 1 ((m.event W it.s.id [v]).out.map bl)) (.slice .full 1 [[.int .i64 v]]) s2=some (.slice (.tok 0) 1 (((m.event W it.s.id [v]).out++ [v]).map bl),⟨s2.ag,s2.au.set 0 (some ((m.event W it.s.id [v]).out.length+1))⟩):=by
   rw[kZ (size:=1) (by simp only[zau,zaH,he.2.2.2.2.2];unfold aT;omega) (by simpa using h2.t0)]
   simp[bl]
  have h3:=h2.nJ (m':= {m.event W it.s.id [v]with out:=(m.event W it.s.id [v]).out++ [v]}) (ts:=s2.au.set 0 (some ((m.event W it.s.id [v]).out.length+1))) rfl rfl (by simp[(zac.1 h2.t0).1]) (by rw[zam (by omega)];exact h2.t1)
  obtain⟨anQ,ux⟩:=h3.zl (by rw[← hF.st, ← he.1]) ht.fs
  have h4:=h3.setAt (by rw[← hF.st, ← he.1]) ux it.next
  have x3:=(h3.loc (n,aO it.s) (by simp)).1
  have Bk:=ux.at_
  have q3:=ux.c0
  rw[gF]at h4 x3 Bk
  simp only[zag,zaf,zaj,bl]at dc h4 x3 Bk
  refine⟨y,_, ?_,h4.sub ic,rfl⟩
  refine bk.jO gX.h rfl fun B Q hB hQ=>?_
  have⟨hD,hZ,gC,gD⟩:=bc
  repeat' (first
 |simp only[go_sem,hD,hZ,gC,gD,z0,hn,b7,b8,qd,b5,b6,b3,x2,km,ke,dc,x3,Bk,q3,vX,gk,zaP]
 |(with_reducible refine CU (c1) ?_)
 |(with_reducible refine CU (zm) ?_)
 |(with_reducible refine CU (cB _) ?_)
 |(with_reducible refine aX hQ ?_;exact bK))
  (refine dI hQ ?_;simp only[bZ,cd,dn,dq,go_sem])
 ·rw [if_neg (by simp [b3])]
  obtain⟨k,hk⟩:=hd.name (by simp at b7 b8 qd b5 b6 b3;omega)
  have hm0:(m.event W it.s.id [v]).top=fr:=by unfold Mc.top;rw[he.1,hF.st];rfl
  have Cg:=hk.cell hm0
  obtain⟨j,hj,sO⟩:=hk
  have Zb:k<m.mem.length:=hF.cells k (zad sO)
  have cS:=S9 h2 jD hF.len hF.names hj sO (by rw[he.2.1];exact Zb) v
  have h3:=h2.K6 (i:=k) v
  obtain⟨anQ,ux⟩:=h3.zl (by rw[← hF.st, ← he.1]) ht.fs
  have h4:=h3.setAt (by rw[← hF.st, ← he.1]) ux it.next
  have x3:=(h3.loc (n,aO it.s) (by simp)).1
  have Bk:=ux.at_
  have q3:=ux.c0
  simp only at x3 Bk
  have h5:=h4
  rw[show({m.event W it.s.id [v]with mem:=(m.event W it.s.id [v]).mem.set k v} : Mc)=(m.event W it.s.id [v]).set it.s.name v by unfold Mc.set;rw[Cg]]at h5
  refine⟨y,_, ?_,h5.sub ic,rfl⟩
  refine bk.jO gX.h rfl fun B Q hB hQ=>?_
  have⟨hD,hZ,gC,gD⟩:=bc
  repeat' (first
 |simp only[go_sem,hD,hZ,gC,gD,z0,hn,b7,b8,qd,b5,b6,b3,x2,x3,Bk,q3,vX,gk,zaP]
 |(with_reducible refine CU (c1) ?_)
 |(with_reducible refine CU (zm) ?_)
 |(with_reducible refine CU (cS) ?_)
 |(with_reducible refine CU (cB _) ?_)
 |(with_reducible refine aX hQ ?_;exact bK))
  (refine dI hQ ?_;simp only[bZ,cd,dn,dq,go_sem])
end
end Go.Abs
namespace Go.Abs
set_option maxRecDepth 8000
open Go.Proofs
theorem jZ (X:List (List D)) (z:List D):(X++ [z])[X.length]? = some z:=by simp
theorem j8 (X:List (List D)) (z r:List D):(X++ [z]).set X.length r=X++ [r]:=by simp
section
variable {p:Pg} {T W:List Int} {fuel:Int} {y:Ly} {a:Int} {m:Mc} {loc:List (Nat×List D)} {s:St} {fr:Fr} {r:List Fr} {fo g:Nat} {cells:List D}
theorem fz.pop (h:fz p T W fuel y a m loc s) {more:List D} (gG:m.st=fr::r) (ht:rG p y a fr r s fo g (iO p a (fr::r)++more)) :
 fz p T W fuel {y with fs:= .dr 5 fo g r.length} fr.call {m with st:=r} loc ⟨s.ag.set y.c (gF p T W fuel {y with fs:= .dr 5 fo g r.length} {m with st:=r}),s.au⟩:=by
 have hn:=h.ya fo (by rw[ht.fs];simp[D.arr])
 have ho:({y with fs:= .dr 5 fo g r.length} : Ly).own=y.own:=by simp only[Ly.own];rw[ht.fs];rfl
 refine h.S8 (by simp[cY h.fi]) h.t0 h.t1 ?_ (.inr ⟨fo,g,Bj p a fr++more,rfl, ?_⟩) (by rw[ho];exact h.own) (fun o mo=> .inl (by rw[← ho];exact mo)) fun q r' e hq=>?_
 ·show(s.ag.set _ _)[_]? = _
  rw[zam h.Ax];exact h.mem
 ·show(s.ag.set _ _)[_]? = _
  rw[zam (Ne.symm hn.1),ht.at_,iO,zaB]
 ·show(s.ag.set _ _)[_]? = _
  rw[zam (fun e'=>hq (by rw[← e'];simp[Ly.own]))];exact e
theorem fz.any (h:fz p T W fuel y a m loc s) (he:m.st = []) (a':Int):fz p T W fuel y a' m loc s:=by
 refine⟨h.fi,h.t0,h.t1,h.mem, ?_,h.own,h.loc⟩
 rcases h.fr with e|⟨fo',g',NR,e,e2⟩
 ·exact .inl e
 ·refine .inr ⟨fo',g',NR,e, ?_⟩
  rw[e2,he];rfl
def aeN (p:Pg) (m:Mc) (fr:Fr) (r:List Fr):Prop:=
 (r = []∧fr.call=0)∨∃ (it:Im) (kh:Fr) (r2:List Fr),r=kh::r2∧fr.call≠0∧fp p.aU.L fr.call=it∧(jI fr.call (fy p kh).flat).s=it.s∧(∃ n,vj (fy p kh).flat n fr.call=some it.next)∧vm p {m with st:=r} kh r2∧(it.s.name≠ []→∃ k,tw kh it.s.name k)
theorem Fj (h:fz p T W fuel y a m loc s) (hF:vm p m fr r) (hE:aeN p m fr r) (o8:Int) :
 ∃ y' s',ay Tryz.prog 49 [.ptr y.c 0, .int .i64 o8] s (.tuple []) s'∧fz p T W fuel y' (m.close p.aU.L o8).1 (m.close p.aU.L o8).2 loc s'∧y'.c=y.c:=by
 obtain⟨fo,g,more,ht⟩:=h.Dq hF.st
 have hp:=h.pop hF.st ht
 have hm:=h.fi
 have hl:=cY hm
 rw[gF,ht.fs]at hm
 have hlen:=hF.len
 have hw:IntKind.wrap .i64 (((r.length+1:Nat):Int) - 1)=((r.length:Nat):Int):=by rw[show((r.length+1:Nat):Int) - 1=(r.length:Int) by omega];exact dE (by omega) (by omega)
 have xp:vA (.dr 5 fo g (r.length+1)) none (some (.int .i64 (r.length:Int)))=some (.dr 5 fo g r.length):=by simp[vA,vt,vu];omega
 have xy : ∀ r,(s.ag.set y.c r)[y.c]? = some r:=fun r=>zaO hl
 have kn:m.top=fr:=by unfold Mc.top;rw[hF.st];rfl
 rcases hE with ⟨hr,hc⟩|⟨it,kh,r2,hr,hc,iG,MG,⟨nb,hb⟩,JD,td⟩
 ·have kP:m.close p.aU.L o8=(-1,{m with st:=r,fin:=1}):=by
   unfold Mc.close
   rw[kn,hc,hF.st];rfl
  rw[kP]
  have h5:=hp.nJ (m':= {m with st:=r,fin:=1}) rfl rfl hp.t0 hp.t1
  simp only[zbA]at h5
  have h6:=h5.any hr (-1)
  subst hr
  simp only[zaC,zaS]at hm hw xp h6
  have e0:((0:Int)==0)=true:=rfl
  have hw0:IntKind.wrap .i64 ((1:Int) - 1)=0:=by decide
  have anR:vA (.dr 5 fo g 1) none (some (.int .i64 0))=some (.dr 5 fo g 0):=rfl
  refine⟨_,_, ?_,h6,rfl⟩
  refine bk.jO oc.h rfl fun B Q hB hQ=>?_
  have⟨hD,hZ,gC,gD⟩:=bc
  refine bT (Gw hm hl hw0 anR xy e0 @List.set_set.{0}) ?_
  (refine dI hQ ?_;simp only[bZ,cd,dn,dq,go_sem])
 ·have kP:m.close p.aU.L o8=(it.next,if it.s.name == []then {m with st:=r}else({m with st:=r} : Mc).set it.s.name o8):=by
   unfold Mc.close
   rw[kn,hF.st]
   dsimp only
   rw[if_neg (by simpa using hc),iG];rfl
  rw[kP]
  rw[hr]at hp
  have wF:r.length=r2.length+1:=by rw[hr];rfl
  obtain⟨aeL,jD⟩:=hp.zl (fr:=kh) (r:=r2) rfl rfl
  have hn:=jD.at_
  have q0:=jD.c0
  have q2:=jD.c2
  have c1:=uy hp jD JD.len
  have h3:=hp.new (aO it.s)
  have ux:=jD.new (aO it.s)
  have Bk:=ux.at_
  have sk:=h3.fi
  have fM:(fy p kh).flat.length≤1000:=JD.pc.flat
  have cI:=fun s=>QG (l:=(fy p kh).flat) (by omega) fr.call s
  have cB:=fun s=>H9 (l:=(fy p kh).flat) (by omega) hb s
  have gk:=fun a more=>GZ p a kh r2 more
  have vX:=fun a a' more=>JO p a a' kh r2 more
  have e0:decide (((r2.length+1:Nat):Int)=0)=false:=by simp;omega
  have e0':(((r2.length+1:Nat):Int)==0)=false:=by simp;omega
  have x3:=(h3.loc _ (zaz ..)).1
  simp only[wF,zas]at hm hw xp hp hn Bk sk x3 c1 h3
  subst hr
  have qL:=Yj (jI fr.call (fy p kh).flat)
  rw[MG]at qL
  generalize jI fr.call (fy p kh).flat=I at *
  rcases zaa (it.s.name == [])with b|b
  ·have h4:=h3.setAt (fr:=kh) (r:=r2) rfl ux it.next
   rw[if_pos b]
   simp only[zas]at h4
   refine⟨_,_, ?_,h4.sub fun q mq=>zan _ mq,rfl⟩
   refine bk.jO oc.h rfl fun B Q hB hQ=>?_
   have⟨hD,hZ,gC,gD⟩:=bc
   repeat' (first
 |simp only[go_sem,hD,hZ,gC,gD,hm,hl,hw,xp,xy,e0',hn,q0,q2,Bk,x3,qL,b,vX,gk,zaP,jZ,j8]
 |(with_reducible refine CU (c1) ?_)
 |(with_reducible refine CU (cI _) ?_)
 |(with_reducible refine CU (cB _) ?_)
 | (with_reducible refine aX hQ ?_;exact bK))
   (refine dI hQ ?_;simp only[bZ,cd,dn,dq,go_sem])
  ·obtain⟨k,hk⟩:=td (by intro e;rw [e]at b;cases b)
   have hm0:({m with st:=kh::r2} : Mc).top=kh:=rfl
   have Cg:=hk.cell hm0
   obtain⟨j,hj,sO⟩:=hk
   have Zb:k<m.mem.length:=JD.cells k (zad sO)
   have cS:=S9 h3 ux JD.len JD.names hj sO Zb o8
   have h4:=h3.K6 (i:=k) o8
   obtain⟨au1,ht4⟩:=h4.zl (fr:=kh) (r:=r2) rfl rfl
   have h5:=h4.setAt (fr:=kh) (r:=r2) rfl ht4 it.next
   rw[show({m with st:=kh::r2,mem:=m.mem.set k o8} : Mc)=({m with st:=kh::r2} : Mc).set it.s.name o8 by unfold Mc.set;rw[Cg]]at h5
   have akU:=ht4.at_
   have p0:=ht4.c0
   have p2:=ht4.c2
   have x4:=(h4.loc _ (zaz ..)).1
   simp only[zas]at h5 akU x4 cS
   rw[if_neg (by simp[b])]
   refine⟨_,_, ?_,h5.sub fun q mq=>zan _ mq,rfl⟩
   refine bk.jO oc.h rfl fun B Q hB hQ=>?_
   have⟨hD,hZ,gC,gD⟩:=bc
   repeat' (first
 |simp only[go_sem,hD,hZ,gC,gD,hm,hl,hw,xp,xy,e0',hn,q0,q2,Bk,x3,qL,b,akU,p0,p2,x4,vX,gk,zaP,jZ,j8]
 |(with_reducible refine CU (c1) ?_)
 |(with_reducible refine CU (cI _) ?_)
 |(with_reducible refine CU (cS) ?_)
 |(with_reducible refine CU (cB _) ?_)
 | (with_reducible refine aX hQ ?_;exact bK))
   (refine dI hQ ?_;simp only[bZ,cd,dn,dq,go_sem])
end
end Go.Abs
namespace Go.Abs
open Go.Proofs
abbrev sr (q:Pc) (at_:Int) (t2:Nat) (N:List aD) (C:List Nat):List D:=
 [.slice .shared 16 (q.flat.map du), .slice .shared 1 (q.fin.map encStr), .int .i64 at_, .slice (.tok t2) 1 (N.map encStr), .slice (.tok (t2+1)) 1 (C.map fun c:Nat=>bl (c:Int))]
structure qe (p:Pg) (T W:List Int) (fuel:Int) (y:Ly) (a:Int) (m:Mc) (loc:List (Nat×List D)) (q:Pc) (at_:Int) (n t2:Nat) (N:List aD) (C:List Nat) (s:St):Prop where
 inv:fz p T W fuel y a m ((n,sr q at_ t2 N C)::loc) s
 nl : ∀ x∈loc,x.1≠n
 two:2≤t2
 tn:s.au[t2]? = some (some N.length)
 tc:s.au[t2+1]? = some (some C.length)
section
variable {p:Pg} {T W:List Int} {fuel:Int} {y:Ly} {a:Int} {m:Mc} {loc:List (Nat×List D)} {q:Pc} {at_:Int} {n t2:Nat} {N:List aD} {C:List Nat} {s:St}
theorem fz.tk (h:fz p T W fuel y a m loc s) {ts:List (Option Nat)} (k0:ts[0]? = s.au[0]?) (k1:ts[1]? = s.au[1]?):fz p T W fuel y a m loc ⟨s.ag,ts⟩:=h.keep (fun _ _ e=>e) k0 k1
theorem qe.name (h:qe p T W fuel y a m loc q at_ n t2 N C s) (x:aD):qe p T W fuel y a m loc q at_ n t2 (N++ [x]) C ⟨s.ag.set n (sr q at_ t2 (N++ [x]) C),s.au.set t2 (some (N.length+1))⟩:=by
 have h2:=h.two
 refine⟨(h.inv.rP (r':=sr q at_ t2 (N++ [x]) C) h.nl).tk (zam (by omega)) (zam (by omega)),h.nl,h2, ?_, ?_⟩
 ·simp[(zac.1 h.tn).1]
 ·show(s.au.set _ _)[_]? = _
  rw[zam (by omega)];exact h.tc
theorem qe.cell (h:qe p T W fuel y a m loc q at_ n t2 N C s) (c:Nat):qe p T W fuel y a m loc q at_ n t2 N (C++ [c]) ⟨s.ag.set n (sr q at_ t2 N (C++ [c])),s.au.set (t2+1) (some (C.length+1))⟩:=by
 have h2:=h.two
 refine⟨(h.inv.rP (r':=sr q at_ t2 N (C++ [c])) h.nl).tk (zam (by omega)) (zam (by omega)),h.nl,h2, ?_, ?_⟩
 ·show(s.au.set _ _)[_]? = _
  rw[zam (by omega)];exact h.tn
 ·simp[(zac.1 h.tc).1]
theorem qe.new (h:qe p T W fuel y a m loc q at_ n t2 N C s) (row:List D):qe p T W fuel y a m loc q at_ n t2 N C ⟨s.ag++ [row],s.au⟩:=
 ⟨(h.inv.new row).sub fun _ mq=>zan _ mq,h.nl,h.two,h.tn,h.tc⟩
theorem qe.K7 (h:qe p T W fuel y a m loc q at_ n t2 N C s) (v:Int):qe p T W fuel {y with gm:=y.gm+1,more:= []} a {m with mem:=m.mem++ [v]} loc q at_ n t2 N C
 ⟨(s.ag.set y.mo (.int .i64 ((y.gm+1:Nat):Int)::(m.mem.map gj++ [.int .i64 v]))).set y.c (gF p T W fuel {y with gm:=y.gm+1,more:= []} {m with mem:=m.mem++ [v]}),s.au⟩:=
 ⟨h.inv.K7 v,h.nl,h.two,h.tn,h.tc⟩
theorem qe.row (h:qe p T W fuel y a m loc q at_ n t2 N C s):s.ag[n]? = some (sr q at_ t2 N C):=(h.inv.loc (n,_) (zaz ..)).1
theorem qe.akV (h:qe p T W fuel y a m loc q at_ n t2 N C s) (x:aD) (hN:N.length<10000000) (os:List (List D)) :
 fS 1 16 (.slice (.tok t2) 1 (N.map encStr)) (.slice .full 1 [[.str x]]) ⟨os,s.au⟩=some (.slice (.tok t2) 1 (N.map encStr++ [[.str x]]),⟨os,s.au.set t2 (some (N.length+1))⟩):=by
 rw[kZ (size:=1) (by simp only[zau,zaH];unfold aT;omega) (by simpa using h.tn)]
 simp
theorem fz.akW (h:fz p T W fuel y a m loc s) (v:Int) (hm:m.mem.length<1000000000):Ct 1 8 (.dr 1 y.mo y.gm m.mem.length) (.slice .full 1 [[.int .i64 v]]) s =
 some (.dr 1 y.mo (y.gm+1) (m.mem.length+1),⟨s.ag.set y.mo (.int .i64 ((y.gm+1:Nat):Int)::(m.mem.map gj++ [.int .i64 v])),s.au⟩):=
 Dd h.mem (by simp) (by unfold aT;omega)
theorem fz.push {Ap:Fr} {s':St} {f':Nat} {g':Nat} {NR:List D} (h:fz p T W fuel y a m loc s) (C2:Ap.call=a) (sK:(y.fs = .ew 5∧m.st = []∧f'=s.ag.length)∨(∃ g more,y.fs = .dr 5 f' g m.st.length∧s.ag[f']? = some (.int .i64 ((g:Nat):Int)::(iO p a m.st++more))))
 (e1:s'.ag[y.c]? = some (gF p T W fuel {y with fs:= .dr 5 f' g' (m.st.length+1)} {m with st:=Ap::m.st})) (e2:s'.ag[f']? = some (.int .i64 ((g':Nat):Int)::(iO p a m.st++Bj p at_ Ap))) (k0:s'.au[0]? = s.au[0]?) (k1:s'.au[1]? = s.au[1]?)
 (k : ∀ (q:Nat) (r:List D),s.ag[q]? = some r→q≠y.c→q≠f'→s'.ag[q]? = some r):fz p T W fuel {y with fs:= .dr 5 f' g' (m.st.length+1)} at_ {m with st:=Ap::m.st} loc s':=by
 have BJ:=h.own
 have hmo:y.mo≠f':=by
  rcases sK with ⟨_,_,e⟩|⟨g,more,e,_⟩
  ·have:=cY h.mem;omega
  ·exact Ne.symm (h.ya f' (by rw[e];simp[D.arr])).2
 have ti:y.c≠f':=by
  rcases sK with ⟨_,_,e⟩|⟨g,more,e,_⟩
  ·have:=cY h.fi;omega
  ·exact Ne.symm (h.ya f' (by rw[e];simp[D.arr])).1
 refine h.S8 e1 (by rw[k0];exact h.t0) (by rw[k1];exact h.t1) (k _ _ h.mem (Ne.symm h.Ax) hmo) (.inr ⟨f',g',[],rfl, ?_⟩) ?_ (fun o mo=>?_) fun q r e hq=>?_
 ·rw[e2,zaF,iO,C2]
 ·simp only [Ly.own,D.arr]
  rw[za4,za4]
  refine⟨?_,by simpa using hmo,by simp⟩
  simp only[zaq,zbG,or_false,not_or]
  exact⟨h.Ax,ti⟩
 ·simp only [Ly.own,D.arr,zaq,zbG,or_false]at mo
  rcases mo with rfl|rfl|rfl
  ·left;simp[Ly.own]
  ·left;simp[Ly.own]
  ·rcases sK with ⟨_,_,e⟩ | ⟨g,more,e,_⟩
   ·right;omega
   ·left;rw[Ly.own,e];simp[D.arr]
 ·refine k q r e (fun e'=>hq (by rw [e'];simp [Ly.own])) fun e'=> ?_
  rcases sK with ⟨_,_,e2⟩|⟨g,more,e2,_⟩
  ·have:=cY e;omega
  ·exact hq (by rw[e',Ly.own,e2];simp[D.arr])
def kE (cell:aD→Nat):List Ar→List Int→List Nat×List Int→List Nat×List Int
 |a::l,v::vs,r=>if a.ref then kE cell l vs (r.1++ [cell a.name],r.2)else kE cell l vs (r.1++ [r.2.length],r.2++ [v])
 |_,_,r=>r
end
end Go.Abs
namespace Go.Abs
set_option maxRecDepth 8000
open Go.Proofs
section
variable {p:Pg} {T W:List Int} {fuel:Int} {y:Ly} {a:Int} {m:Mc} {loc:List (Nat×List D)} {s:St}
structure F2 (p:Pg) (m:Mc) (q:Pc) (j:Nat) (name:aD) (args:List Ar) (vs:List Int):Prop where
 at_:p.procs[j]? = some q
 find:p.find name=some q
 procs:p.procs.length<1000000
 sV:p.globals.length<1000000
 par:q.params.length<1000000
 vars:q.vars.length<1000000
 mem:m.mem.length<100000000
 st:m.st.length<1000000
 au2:q.flat.length≤1000
 flat:Sm.bB q.body<4611686018427387000
 head:ud 0 false (-1) q.flat=eR q.body (-1)
 l1:args.length=q.params.length
 l2:vs.length=q.params.length
 refs : ∀ (i:Nat) (x:Pm) (b:Ar),q.params[i]? = some x→args[i]? = some b→x.ref=b.ref
 cells : ∀ b∈args,b.ref=true→∃ fr r k,vm p m fr r∧tw fr b.name k
theorem MM (h:fz p T W fuel y a m loc s) {q:Pc} {j:Nat} {name:aD} {args:List Ar} {vs:List Int} (hE:F2 p m q j name args vs) {Cf:List Nat} {Mf:List Int} (hc:kE m.cell args vs (List.range p.globals.length,m.mem)=(Cf,Mf)) (hb:Cf.length<3000000∧Mf.length<300000000) :
 bk Tryz.prog 23 [.ptr y.c 0, .str name, .slice .shared 6 (args.map dH), .slice .shared 1 (vs.map bl)] s (fun d s'=>d = .tuple []∧∃ y',y'.c=y.c∧
  fz p T W fuel y' (eR q.body (-1)) {m with st:=⟨(j:Int),p.globals++(q.params.map (·.name))++q.vars,Cf++(List.range q.vars.length).map (Mf.length + ·),a⟩::m.st,mem:=Mf++List.replicate q.vars.length 0} loc s'):=by
 obtain⟨e1,e2,e3,e4,e5,e6,e7,akX,e8,e9,e10,ZD,e12,e13,e14⟩:=hE
 have hm:=h.fi
 have hl:=cY hm
 have cP:=fun s=>agV (p:=p) (by omega) name s
 rw[e2]at cP
 simp only[zbo]at cP
 have cF:=fun s=>yN (f:=q) e9 s
 have cI:=fun s=>Ll (l:=q.flat) (by omega) 0 false (-1) s
 rw[e10]at cI
 have IC : ∀ (N:List aD) (C:List Nat),fy p ⟨(j:Int),N,C,a⟩=q:=fun N C=>by unfold fy;rw[zaW,e1];rfl
 obtain⟨AT,hAT⟩ : ∃ AT,eR q.body (-1)=AT:=⟨_,rfl⟩
 rw[hAT]at cI ⊢
 have h1:=(h.new (bP q)).new [.slice .shared 16 (q.flat.map du), .slice .shared 1 (q.fin.map encStr), .int .i64 0, .slice .full 0 [], .slice .full 0 []]
 simp only[zal,zaH]at h1
 obtain⟨n,hn⟩ : ∃ n,s.ag.length=n:=⟨_,rfl⟩
 obtain⟨tk,qL⟩ : ∃ tk,s.au.length=tk:=⟨_,rfl⟩
 have H2:2≤tk:=by rw[← qL];exact(zac.1 h.t1).1
 rw[hn]at h1
 refine bk.up ?_
 refine bk.jO gM.h rfl fun B Q hB hQ=>?_
 have⟨hD,hZ,gC,gD⟩:=bc
 have hlc : ∀ x∈((n,bP q)::loc),x.1≠n+1:=fun x mx=>by
  rcases zaq.1 mx with rfl|mx
  ·simp
  ·have:=cY (h.loc x mx).1;omega
 -- the variables, the end
 have anS : ∀ (rest:List aD) (k:Nat) (y1:Ly) (m1:Mc) (N0:List aD) (C:List Nat) (s1:St),q.vars.drop k=rest→k≤q.vars.length→N0=p.globals++(q.params.map (·.name))++q.vars.take k→qe p T W fuel y1 a m1 ((n,bP q)::loc) q AT (n+1) tk N0 C s1→y1.c=y.c→y1.fs=y.fs→
  m1 = {m with mem:=Mf++List.replicate k 0}→C=Cf++(List.range k).map (Mf.length + ·)→
  aJ Tryz.prog B 178 Q0G (fV 6 (kp (iW Tryz.prog B 178 Q0H Q) Q)) [(0, .ptr y1.c 0),(9, .ptr (n+1) 0),(136, .slice .shared 1 (q.vars.map encStr)),(137, .int .i64 (q.vars.length:Int)),(138, .int .i64 (k:Int))] s1:=by
  intro rest
  induction rest with
  | nil=>
   intro k y1 m1 N0 C s1 hd JP hN h2 GH QN jQ hC
   have hD:=drop_nil hd
   have hk:k=q.vars.length:=by have:=zaI.1 hd;omega
   subst hk
   rw[List.take_length]at hN
   have r2:=h2.row
   have zG:=h2.inv.fi
   have hX2:=cY zG
   have mB : ∀ (fo:Nat) (r:List D),s1.ag[fo]? = some r→fo≠y1.c→fo≠n+1→True:=fun _ _ _ _ _=>trivial
   have anT : ∀ x∈loc,x∈((n+1,sr q AT tk N0 C)::(n,bP q)::loc):=fun x mx=>zan _ (zan _ mx)
   have ak1:jM (sr q AT tk N0 C) (Bj p AT ⟨(j:Int),N0,C,a⟩):=by
    unfold Bj
    rw[IC]
    exact .cons (Wk.refl _) (.cons (Wk.refl _) (.cons (Wk.refl _) (.cons (Wk.shared _ _ _) (.cons (Wk.shared _ _ _) .nil))))
   have QC:m1.st=m.st:=by rw[jQ]
   have QO : ∀ y2 s2,y2.c=y1.c→fz p T W fuel y2 AT {m1 with st:=⟨(j:Int),N0,C,a⟩::m1.st} ((n+1,sr q AT tk N0 C)::(n,bP q)::loc) s2→
    ∃ y',y'.c=y.c∧fz p T W fuel y' AT {m with st:=⟨(j:Int),p.globals++(q.params.map (·.name))++q.vars,Cf++(List.range q.vars.length).map (Mf.length + ·),a⟩::m.st,mem:=Mf++List.replicate q.vars.length 0} loc s2:=fun y2 s2 hy h9=>by
    refine⟨y2,hy.trans GH, ?_⟩
    have h9:=h9.sub anT
    rw[hN,hC,jQ]at h9
    exact h9
   rcases h2.inv.fr with ⟨Ta,ZE⟩|⟨fo,g,more,Ta,eo⟩
   ·have dc:=Hp (z:=5) (bytes:=104) .full (sr q AT tk N0 C) s1 (by unfold aT;omega)
    have wD : ∀ r:List D,(s1.ag++ [r])[y1.c]? = s1.ag[y1.c]? :=fun r=>zai hX2
    obtain⟨nn,hnn⟩ : ∃ nn,s1.ag.length=nn:=⟨_,rfl⟩
    have dj:nn≠y1.c:=by omega
    have NS:=h2.inv.push (at_:=AT) (Ap:=⟨(j:Int),N0,C,a⟩) (f':=nn) (g':=0) (NR:= []) (s':=⟨((s1.ag++ [.int .i64 ((0:Nat):Int)::sr q AT tk N0 C]).set y1.c (gF p T W fuel {y1 with fs:= .dr 5 nn 0 1} m1)).set nn (.int .i64 ((0:Nat):Int)::Bj p AT ⟨(j:Int),N0,C,a⟩),s1.au⟩) rfl (.inl ⟨Ta,ZE,hnn.symm⟩)
     (by rw [ZE];show(List.set _ _ _)[_]? = _;rw [zam dj,zaO (by rw [zal];omega)];rfl) (by rw [ZE];show(List.set _ _ _)[_]? = _;simp [iO, ← hnn]) rfl rfl (fun o r e h3 h4=>by
      show(List.set _ _ _)[_]? = _
      rw[zam (Ne.symm h4),zam (Ne.symm h3),zai (cY e)];exact e)
    rw[ZE]at NS
    obtain⟨y',hy1,Ao⟩:=QO {y1 with fs:= .dr 5 nn 0 1} _ rfl (by rw[ZE];exact NS)
    subst hnn
    generalize uh:(St.mk _ s1.au)=s2 at Ao
    simp only[sr,gF,Ta,bl]at zG dc r2
    refine aJ.fl ?_
    refine bT (ql r2 zG dc wD) ?_
    (refine dI hQ ?_;simp only[bZ,cd,dn,dq,go_sem])
    refine⟨.tuple [],s2,Wk.refl _, ?_,by rw[← uh],rfl,y',hy1,Ao⟩
    rw[← uh]
    exact iF.setAt (r:= .int .i64 ((0:Nat):Int)::sr q AT tk N0 C) (by rw[zam (Ne.symm dj)];simp[bl]) (.cons (Wk.refl _) ak1)
   ·have fM:=sG p a m1.st
    have dc:=Dd (t:= .full) (z:=5) (bytes:=104) (r:=sr q AT tk N0 C) (len:=m1.st.length) (more:=more) eo fM (by rw[QC];unfold aT;omega)
    have dj:=h2.inv.ya fo (by rw[Ta];simp[D.arr])
    have ak3:=cY eo
    have wD : ∀ r:List D,(s1.ag.set fo r)[y1.c]? = s1.ag[y1.c]? :=fun r=>zam dj.1
    have NS:=h2.inv.push (at_:=AT) (Ap:=⟨(j:Int),N0,C,a⟩) (f':=fo) (g':=g+1) (NR:= []) (s':=⟨((s1.ag.set fo (.int .i64 ((g+1:Nat):Int)::(iO p a m1.st++sr q AT tk N0 C))).set y1.c (gF p T W fuel {y1 with fs:= .dr 5 fo (g+1) (m1.st.length+1)} m1)).set fo (.int .i64 ((g+1:Nat):Int)::(iO p a m1.st++Bj p AT ⟨(j:Int),N0,C,a⟩)),s1.au⟩) rfl (.inr ⟨g,more,Ta,eo⟩)
     (by show(List.set _ _ _)[_]? = _;rw [zam dj.1,zaO (by rw [zbr];exact hX2)]) (by show(List.set _ _ _)[_]? = _;rw [zaO (by rw [zbr,zbr];exact ak3)]) rfl rfl (fun o r e h3 h4=>by
      show(List.set _ _ _)[_]? = _
      rw[zam (Ne.symm h4),zam (Ne.symm h3),zam (Ne.symm h4)];exact e)
    obtain⟨y',hy1,Ao⟩:=QO {y1 with fs:= .dr 5 fo (g+1) (m1.st.length+1)} _ rfl NS
    generalize uh:(St.mk _ s1.au)=s2 at Ao
    simp only[sr,gF,Ta,bl]at zG dc r2
    refine aJ.fl ?_
    refine bT (ql r2 zG dc wD) ?_
    (refine dI hQ ?_;simp only[bZ,cd,dn,dq,go_sem])
    refine⟨.tuple [],s2,Wk.refl _, ?_,by rw[← uh],rfl,y',hy1,Ao⟩
    rw[← uh]
    exact iF.setAt (r:= .int .i64 ((g+1:Nat):Int)::(iO p a m1.st++sr q AT tk N0 C)) (by rw[zam (Ne.symm dj.1)];simp[ak3,bl]) (.cons (Wk.refl _) (jM.append (jM.refl _) ak1))
  |cons v rest ih=>
   intro k y1 m1 N0 C s1 hd JP hN h2 GH QN jQ hC
   obtain⟨hZ,g2,hD,g4⟩:=drop_cons hd
   have aV:k<4611686018427387904:=by omega
   have SC:N0.length<10000000:=by rw[hN];simp;omega
   have hCl:C.length<10000000:=by rw[hC];simp;omega
   have hMl:m1.mem.length<1000000000:=by rw[jQ];simp;omega
   have h3:=h2.name v
   have h4:=h3.cell m1.mem.length
   have h5:=h4.K7 0
   have a1:=fun os=>h2.akV v SC os
   have a2:=h3.tc
   have a2r:(C.length+1)*9≤aT:=by unfold aT;omega
   have a3:=h4.inv.akW 0 hMl
   have r2:=h2.row
   have zG:=h2.inv.fi
   have JR:=h4.inv.fi
   have hX4:=cY JR
   have ZF:=cY r2
   have Dy:=h4.inv.Ax
   have zb : ∀ (X:List (List D)) (r:List D),(X.set y1.mo r)[y1.c]? = X[y1.c]? :=fun X r=>zam (Ne.symm Dy)
   have gs : ∀ (r:List D),(s1.ag.set (n+1) r)[n+1]? = some r:=fun r=>zaO ZF
   simp only[zbA,sr,zag,zaf,zaj,encStr,bl,gF,zal,zas,zaC,zaS]at h5 a2 a3 zG JR hX4
   refine aJ.fl ?_
   refine bT (Vr r2 zG a1 a2 a2r gs JR hX4 a3 zb @List.set_set.{0}) ?_
   refine aJ.iS ?_ (ih (k+1) {y1 with gm:=y1.gm+1,more:= []} {m1 with mem:=m1.mem++ [0]} (N0++ [v]) (C++ [m1.mem.length]) _ g2 g4 (by rw[hN,zaB, ← z6 hZ]) h5 GH QN (by rw[jQ];simp[List.replicate_succ']) (by rw[hC,jQ,zb4];simp))
   simp only[go_sem,ak aV]
   repeat' (first|exact Ok.out|with_reducible refine ej ?_ ?_)
 -- the parameters
 have anU : ∀ (rp:List Pm) (ra:List Ar) (rv:List Int) (k:Nat) (y1:Ly) (m1:Mc) (N0:List aD) (C:List Nat) (s1:St),q.params.drop k=rp→args.drop k=ra→vs.drop k=rv→k≤q.params.length→N0=p.globals++(q.params.take k).map (·.name)→qe p T W fuel y1 a m1 ((n,bP q)::loc) q AT (n+1) tk N0 C s1→y1.c=y.c→y1.fs=y.fs→
  m1 = {m with mem:=m1.mem}→m.mem.length≤m1.mem.length→kE m.cell ra rv (C,m1.mem)=(Cf,Mf)→C.length≤p.globals.length+k→m1.mem.length≤m.mem.length+k→
  aJ Tryz.prog B 178 Q0E (fV 2 (kp (iW Tryz.prog B 178 Q0F Q) Q)) [(0, .ptr y1.c 0),(2, .slice .shared 6 (args.map dH)),(3, .slice .shared 1 (vs.map bl)),(8, .ptr n 0),(9, .ptr (n+1) 0),(58, .slice .shared 2 (q.params.map fc)),(59, .int .i64 (q.params.length:Int)),(60, .int .i64 (k:Int))] s1:=by
  intro rp
  induction rp with
  |nil=>
   intro ra rv k y1 m1 N0 C s1 hdp hda hdv JP hN h2 GH QN jQ hml oT hCl hMl
   have hD:=drop_nil hdp
   have hk:k=q.params.length:=by have:=zaI.1 hdp;omega
   have Tb:ra = []:=by rw[← hda];exact zb6 (by omega)
   have hrv:rv = []:=by rw[← hdv];exact zb6 (by omega)
   subst Tb hrv
   have oT:(C,m1.mem)=(Cf,Mf):=oT
   simp only[Prod.mk.injEq]at oT
   obtain⟨rfl,hMf⟩:=oT
   rw[hk,List.take_length]at hN
   have r0:=(h2.inv.loc (n,bP q) (by simp)).1
   have Za:bP q = [.str q.name, .slice .shared 2 (q.params.map fc), .slice .shared 1 (q.vars.map encStr), .slice .shared 13 (q.body.map aO), .slice .shared 1 (q.fin.map encStr)]:=rfl
   simp only[Za]at r0
   have l3:=anS q.vars 0 y1 m1 N0 C s1 rfl (zaA _) (by rw[hN];simp) h2 GH QN (by rw[jQ];simp[hMf]) (by simp)
   refine aJ.fl ?_
   refine bT r0 ?_
   refine aJ.iS ?_ l3
   simp only[go_sem]
   repeat' (first|exact Ok.out|with_reducible refine ej ?_ ?_)
  | cons x rp ih=>
   intro ra rv k y1 m1 N0 C s1 hdp hda hdv JP hN h2 GH QN jQ hml oT hCl hMl
   obtain⟨hZ,gp,hD,g4⟩:=drop_cons hdp
   have aV:k<4611686018427387904:=by omega
   obtain⟨b,ra',Tb⟩ : ∃ b l,ra=b::l:=by
    cases ra with
    |nil=>have:=zaI.1 hda;omega
    |cons b l=>exact⟨b,l,rfl⟩
   obtain⟨v,rv',hrv⟩ : ∃ v l,rv=v::l:=by
    cases rv with
    |nil=>have:=zaI.1 hdv;omega
    |cons v l=>exact⟨v,l,rfl⟩
   subst Tb hrv
   obtain⟨lQ,ga,_,_⟩:=drop_cons hda
   obtain⟨hgv,gv,_,_⟩:=drop_cons hdv
   have ak8:=e13 k x b hZ lQ
   have SC:N0.length<10000000:=by rw[hN];simp;omega
   have avL:C.length<10000000:=by omega
   have ark:m1.mem.length<1000000000:=by omega
   have h3:=h2.new (fc x)
   have h4:=h3.name x.name
   have LN:fc x = [.str x.name, .bool x.ref]:=rfl
   have hN':N0++ [x.name] = p.globals++(q.params.take (k+1)).map (·.name):=by
    rw[hN,List.take_add_one,hZ];simp
   have r2:=h3.row
   have tN:=h3.tn
   have tC:=h4.tc
   have rN:(N0.length+1)*17≤aT:=by unfold aT;omega
   have rC:(C.length+1)*9≤aT:=by unfold aT;omega
   have ZF:=cY r2
   have gs : ∀ (r:List D),((s1.ag++ [fc x]).set (n+1) r)[n+1]? = some r:=fun r=>zaO ZF
   have LD:n+1<s1.ag.length:=cY h2.row
   have gx : ∀ (r:List D),((s1.ag++ [fc x]).set (n+1) r)[s1.ag.length]? = some (fc x):=fun r=>by rw[zam (by omega)];simp
   have gx0:(s1.ag++ [fc x])[s1.ag.length]? = some (fc x):=by simp
   simp only[kE]at oT
   rcases zaa b.ref with br|br
   ·rw [if_pos br]at oT
    have xr:x.ref=true:=by rw[ak8,br]
    obtain⟨fr,r,kc,hF,hNm⟩:=e14 b (zad lQ) br
    have Cg:=hNm.cell (m:=m) (by unfold Mc.top;rw[hF.st];rfl)
    obtain⟨jj,hj,sO⟩:=hNm
    obtain⟨fo,g,more,ht⟩:=h4.inv.Dq (fr:=fr) (r:=r) (by rw[jQ];exact hF.st)
    have c1:=uy h4.inv ht hF.len
    have h5:=h4.cell kc
    have gV:=ht.at_
    have q3:=ht.c3
    have q4:=ht.c4
    have JR:=h4.inv.fi
    have xK:=hF.names
    rw[Cg]at oT
    simp only[zbA,sr,zag,zaf,zaj,encStr,bl,gF,LN,xr,zal,zas,zaC,zaS,zbr]at h5 JR r2 tN tC gs gx gx0 gV c1 q4
    refine aJ.fl ?_
    repeat' (first
 |simp only[go_sem,hD,hZ,gC,gD,r2,LN,xr,tN,tC,rN,rC,gs,gx,gx0,JR,gV,q3,jZ,j8,zbA]
 |(with_reducible refine CU (c1) ?_)
 | (with_reducible refine aX hQ ?_;exact bK))
    refine aJ.iS ?_ (aJ.ind (ι:=List aD×Nat) (fun i=>fr.names.drop i.2=i.1∧gi b.name (i.2:Int) i.1=(jj:Int)) (fun i=>i.1.length)
     (fun i=> [(0, .ptr y1.c 0),(2, .slice .shared 6 (args.map dH)),(3, .slice .shared 1 (vs.map bl)),(8, .ptr n 0),(9, .ptr (n+1) 0),(12, .int .i64 (k:Int)),(14, .fK fo g (r.length*5)),(58, .slice .shared 2 (q.params.map fc)),(59, .int .i64 (q.params.length:Int)),(60, .int .i64 (k:Int)),(104, .int .i64 (fr.names.length:Int)),(105, .int .i64 (i.2:Int))])
     (fun _=>⟨(s1.ag++ [[D.str x.name,D.bool true]]).set (n+1) [.slice .shared 16 (q.flat.map du), .slice .shared 1 (q.fin.map encStr), .int .i64 AT, .slice (.tok tk) 1 (N0.map encStr++ [[D.str x.name]]), .slice (.tok (tk+1)) 1 (C.map fun c:Nat=> [D.int .i64 (c:Int)])],s1.au.set tk (some (N0.length+1))⟩) ?_ (fr.names,0) ⟨rfl,hj⟩)
    ·simp only [go_sem,zau]
     repeat' (first|exact Ok.out|with_reducible refine ej ?_ ?_)
    rintro⟨rest,i⟩ ⟨j1,j2⟩ rZ
    dsimp only at j1 j2
    cases rest with
    |nil=>simp[gi]at j2
    | cons nm rest=>
     obtain⟨fm,jd,jo,j4⟩:=drop_cons j1
     have hki:i<4611686018427387904:=by omega
     by_cases LI:nm=b.name
     ·have b1:(nm==b.name)=true:=by simpa using LI
      have b2:(b.name==nm)=true:=by simpa using LI.symm
      simp only[gi,b2,if_true]at j2
      have:i=jj:=by omega
      subst this
      refine bT (ah3 fm jo gV q3 q4 lQ @Option.map_some.{0,0} b1 sO gs tC rC @List.set_set.{0}) ?_
      refine aJ.iS ?_ (ih ra' rv' (k+1) y1 m1 (N0++ [x.name]) (C++ [kc]) _ gp ga gv g4 hN' h5 GH QN jQ hml oT (by simp;omega) (by omega))
      simp only[go_sem,ak aV]
      repeat' (first|exact Ok.out|with_reducible refine ej ?_ ?_)
     ·have b1:(nm==b.name)=false:=by simpa using LI
      have b2:(b.name==nm)=false:=by simpa using fun c=>LI c.symm
      simp only[gi,b2,zab,if_false]at j2
      refine bT (Gw fm jo gV q3 lQ @Option.map_some.{0,0} b1) ?_
      refine aJ.iS ?_ (rZ (rest,i+1) ⟨jd,by rw[show((i+1:Nat):Int)=(i:Int)+1 by omega];exact j2⟩ (zae _))
      simp only[go_sem,ak hki]
      repeat' (first|exact Ok.out|with_reducible refine ej ?_ ?_)
   ·rw [if_neg (by simp [br])]at oT
    have xr:x.ref=false:=by rw[ak8,br]
    have h5:=h4.cell m1.mem.length
    have h6:=h5.K7 v
    have a3:=h5.inv.akW v ark
    have JR:=h4.inv.fi
    have hM5:=h5.inv.fi
    have hX5:=cY hM5
    have Dy:=h5.inv.Ax
    have zb : ∀ (X:List (List D)) (r:List D),(X.set y1.mo r)[y1.c]? = X[y1.c]? :=fun X r=>zam (Ne.symm Dy)
    simp only[zbA,sr,zag,zaf,zaj,encStr,bl,gF,LN,xr,zal,zas,zaC,zaS,zbr]at h6 a3 JR hM5 hX5 r2 tN tC gs gx gx0
    refine aJ.fl ?_
    refine bT (aqg r2 LN xr tN tC rN rC gs gx gx0 JR hM5 hX5 a3 zb hgv @Option.map_some.{0,0} @jZ @j8 @List.set_set.{0}) ?_
    refine aJ.iS ?_ (ih ra' rv' (k+1) {y1 with gm:=y1.gm+1,more:= []} {m1 with mem:=m1.mem++ [v]} (N0++ [x.name]) (C++ [m1.mem.length]) _ gp ga gv g4 hN' h6 GH QN (by rw[jQ]) (by simp;omega) oT (by simp;omega) (by simp;omega))
    simp only[go_sem,ak aV]
    repeat' (first|exact Ok.out|with_reducible refine ej ?_ ?_)
 -- the globals
 have anX : ∀ (rest:List aD) (k:Nat) (N0:List aD) (C:List Nat) (s1:St),p.globals.drop k=rest→k≤p.globals.length→N0=p.globals.take k→C=List.range k→qe p T W fuel y a m ((n,bP q)::loc) q AT (n+1) tk N0 C s1→
  aJ Tryz.prog B 178 Q0C (fV 0 (kp (iW Tryz.prog B 178 Q0D Q) Q)) [(0, .ptr y.c 0),(2, .slice .shared 6 (args.map dH)),(3, .slice .shared 1 (vs.map bl)),(8, .ptr n 0),(9, .ptr (n+1) 0),(37, .slice .shared 1 (p.globals.map encStr)),(38, .int .i64 (p.globals.length:Int)),(39, .int .i64 (k:Int))] s1:=by
  intro rest
  induction rest with
  |nil=>
   intro k N0 C s1 hd JP hN hC h2
   have hD:=drop_nil hd
   have hk:k=p.globals.length:=by have:=zaI.1 hd;omega
   subst hk
   rw[List.take_length]at hN
   have r0:=(h2.inv.loc (n,bP q) (by simp)).1
   have Za:bP q = [.str q.name, .slice .shared 2 (q.params.map fc), .slice .shared 1 (q.vars.map encStr), .slice .shared 13 (q.body.map aO), .slice .shared 1 (q.fin.map encStr)]:=rfl
   simp only[Za]at r0
   have l2:=anU q.params args vs 0 y m N0 C s1 rfl rfl rfl (zaA _) (by rw[hN];simp) h2 rfl rfl rfl (zak _) (by rw[hC];exact hc) (by rw[hC];simp) (by omega)
   refine aJ.fl ?_
   refine bT r0 ?_
   refine aJ.iS ?_ l2
   simp only[go_sem]
   repeat' (first|exact Ok.out|with_reducible refine ej ?_ ?_)
  |cons x rest ih=>
   intro k N0 C s1 hd JP hN hC h2
   obtain⟨hZ,g2,hD,g4⟩:=drop_cons hd
   have aV:k<4611686018427387904:=by omega
   have SC:N0.length<10000000:=by rw[hN];simp;omega
   have hCl:C.length<10000000:=by rw[hC];simp;omega
   have h3:=h2.name x
   have h4:=h3.cell k
   have a1:=fun os=>h2.akV x SC os
   have tC:=h3.tc
   have rC:(C.length+1)*9≤aT:=by unfold aT;omega
   have r2:=h2.row
   have ZF:=cY r2
   have gs : ∀ (r:List D),(s1.ag.set (n+1) r)[n+1]? = some r:=fun r=>zaO ZF
   simp only[zbA,sr,zag,zaf,zaj,encStr,bl]at h4 r2
   refine aJ.fl ?_
   refine bT (BG r2 a1 tC rC gs @List.set_set.{0}) ?_
   refine aJ.iS ?_ (ih (k+1) (N0++ [x]) (C++ [k]) _ g2 g4 (by rw[hN, ← z6 hZ]) (by rw[hC,zb4]) h4)
   simp only[go_sem,ak aV]
   repeat' (first|exact Ok.out|with_reducible refine ej ?_ ?_)
 have q8:qe p T W fuel y a m ((n,bP q)::loc) q AT (n+1) tk [] [] ⟨s.ag++ [bP q]++ [sr q AT tk [] []],s.au++ [some 0]++ [some 0]⟩:=by
  have h2:=(h.new (bP q)).new (sr q AT tk [] [])
  have h3:=(h2.au [some 0]).au [some 0]
  simp only[zal,zaH,hn]at h3
  exact⟨h3,hlc,H2,by simp[← qL],by simp[← qL]⟩
 have l1:=anX p.globals 0 [] [] _ rfl (zaA _) rfl rfl q8
 simp only[gF]at hm
 have hA : ∀ e:List (List D),(s.ag++e)[y.c]? = s.ag[y.c]? :=fun e=>zai hl
 have hA2 : ∀ e e2:List (List D),(s.ag++e++e2)[y.c]? = s.ag[y.c]? :=fun e e2=>by rw[zaB];exact hA _
 have n1 : ∀ b c:List D,(s.ag++ [b]++ [c])[n+1]? = some c:=fun b c=>by simp[← hn]
 have n2 : ∀ b c:List D,(s.ag++ [b]++ [c])[n]? = some b:=fun b c=>by simp[← hn]
 have n3 : ∀ b c d:List D,(s.ag++ [b]++ [c]).set (n+1) d=s.ag++ [b]++ [d]:=fun b c d=>by simp[zaB,List.set_append_right, ← hn]
 have n4 : ∀ b:List D,(s.ag++ [b])[n]? = some b:=fun b=>by simp[← hn]
 have n5 : ∀ b c:List D,(s.ag++ [b]).set n c=s.ag++ [c]:=fun b c=>by simp[← hn]
 have Za:bP q = [.str q.name, .slice .shared 2 (q.params.map fc), .slice .shared 1 (q.vars.map encStr), .slice .shared 13 (q.body.map aO), .slice .shared 1 (q.fin.map encStr)]:=rfl
 have hpg:bG p = [.slice .shared 1 (p.globals.map encStr), .slice .shared 5 (p.procs.map bP)]:=rfl
 rw[hpg]at cP
 repeat' (first
 |simp only[go_sem,hD,hZ,gC,gD,hm,hn,hA,hA2,n1,n2,n3,n4,n5]
 |(with_reducible refine CU (cP _) ?_)
 |(with_reducible refine CU (cF _) ?_)
 |(with_reducible refine CU (cI _) ?_)
 |(with_reducible refine aX hQ ?_;exact bK))
 refine aJ.tR (n+1) 3 1 (n1 _ _) rfl ?_
 simp only[n3,zbt,zbT,qL]
 refine aJ.tR (n+1) 4 1 (n1 _ _) rfl ?_
 simp only[n3,zbt,zbT,zal,zaH,qL]
 refine aJ.iS ?_ l1
 simp only[go_sem,zau]
 repeat' (first|exact Ok.out|with_reducible refine ej ?_ ?_)
end
end Go.Abs
namespace Go.Abs
set_option maxRecDepth 8000
open Go.Proofs
def vY (m:Mc):List Ar→Option (List Int)
 | []=>some []
 |b::l=>if b.ref then(vY m l).map (0:: ·)else if(m.bE b.x).1.2 then(vY m l).map ((m.bE b.x).1.1:: ·)else none
theorem ag8 {m:Mc} (hv : ∀ c∈m.top.vars,c<m.mem.length) {M:List Int} (hM : ∃ E,M=m.mem++E) (x:Ex):({m with mem:=M} : Mc).bE x=((m.bE x).1,if(m.bE x).1.2 then {m with mem:=M}else {m with mem:=M,fin:=4}):=by
 obtain⟨E,rfl⟩:=hM
 have h1:({m with mem:=m.mem++E} : Mc).bq=m.bq:=by
  unfold Mc.bq
  refine zbB fun c mc=>?_
  show(m.mem++E).getD c 0=_
  rw[zay,zay,zai (hv c mc)]
 unfold Mc.bE
 rw[h1]
 rfl
theorem QP {m:Mc} (hv : ∀ c∈m.top.vars,c<m.mem.length) : ∀ (l:List Ar) (M:List Int) (out:List Nat),(∃ E,M=m.mem++E)→
 (∀ vs,vY m l=some vs→Mc.args l {m with mem:=M} out=(some (kE m.cell l vs (out,M)).1,{m with mem:=(kE m.cell l vs (out,M)).2}))∧(vY m l=none→∃ M',Mc.args l {m with mem:=M} out=(none,{m with mem:=M',fin:=4}))
 | [],M,out,hM=>⟨fun vs e=>by cases e;rfl,fun e=>by cases e⟩
 | b::l,M,out,hM=>by
  simp only[vY,Mc.args]
  by_cases c:b.ref=true
  ·rw [if_pos c,if_pos c]
   obtain⟨h1,h2⟩:=QP hv l M (out++ [({m with mem:=M} : Mc).cell b.name]) hM
   refine⟨fun vs e=>?_,fun e=>h2 (by simpa using e)⟩
   obtain⟨gf,e1,rfl⟩:=zaw.1 e
   rw[h1 gf e1]
   simp only[kE]
   rw[if_pos c]
   rfl
  ·rw [if_neg c,if_neg c,ag8 hv hM b.x]
   dsimp only
   by_cases c2:(m.bE b.x).1.2=true
   ·rw [if_pos c2,if_pos c2,if_pos c2]
    obtain⟨E,hE⟩:=hM
    obtain⟨h1,h2⟩:=QP hv l (M++ [(m.bE b.x).1.1]) (out++ [M.length]) ⟨E++ [(m.bE b.x).1.1],by rw[hE,zaB]⟩
    refine⟨fun vs e=>?_,fun e=>h2 (by simpa using e)⟩
    obtain⟨gf,e1,rfl⟩:=zaw.1 e
    rw[h1 gf e1]
    simp only[kE]
    rw[if_neg c]
   ·rw [if_neg c2,if_neg c2,if_neg c2]
    exact⟨fun vs e=>(by cases e),fun _=>⟨M,rfl⟩⟩
theorem zn (cell:aD→Nat) : ∀ (l:List Ar) (vs:List Int) (C:List Nat) (M:List Int),(kE cell l vs (C,M)).1=C++(kE cell l vs ([],M)).1∧(kE cell l vs (C,M)).2=(kE cell l vs ([],M)).2
 | [],vs,C,M=>by simp[kE]
 |b::l,[],C,M=>by simp[kE]
 | b::l,v::vs,C,M=>by
  simp only[kE]
  split
  ·have h1:=zn cell l vs (C++ [cell b.name]) M
   have h2:=zn cell l vs ([]++ [cell b.name]) M
   rw[h1.1,h1.2,h2.1,h2.2];simp
  ·have h1:=zn cell l vs (C++ [M.length]) (M++ [v])
   have h2:=zn cell l vs ([]++ [M.length]) (M++ [v])
   rw[h1.1,h1.2,h2.1,h2.2];simp
theorem Ic (cell:aD→Nat) : ∀ (l:List Ar) (vs:List Int) (C:List Nat) (M:List Int),(kE cell l vs (C,M)).1.length≤C.length+l.length∧(kE cell l vs (C,M)).2.length≤M.length+l.length
 | [],vs,C,M=>by simp[kE]
 |b::l,[],C,M=>by simp[kE]
 | b::l,v::vs,C,M=>by
  simp only[kE]
  split
  ·have h1:=Ic cell l vs (C++ [cell b.name]) M
   simp at h1 ⊢;omega
  ·have h1:=Ic cell l vs (C++ [M.length]) (M++ [v])
   simp at h1 ⊢;omega
theorem ZG (W:List Int) (m:Mc) (M:List Int) (id:Int) (bq:List Int):({m with mem:=M} : Mc).event W id bq = {m.event W id bq with mem:=M}:=by unfold Mc.event;split<;>rfl
theorem MN (W:List Int) (m:Mc) (id:Int) (bq:List Int):(m.event W id bq).fin=m.fin:=(dV W m id bq).2.2.1
def Fk (m m':Mc):Prop:=m.fin=m'.fin∧m.steps=m'.steps∧m.reads=m'.reads∧m.out=m'.out∧m.trace=m'.trace
theorem Fk.row {m m':Mc} (h:Fk m m'):fq m=fq m':=by
 obtain⟨h1,h2,h3,h4,h5⟩:=h
 unfold fq
 rw[h1,h2,h3,h4,h5]
theorem F2.event {p:Pg} {m m':Mc} {q:Pc} {j:Nat} {name:aD} {args:List Ar} {vs:List Int} (h:F2 p m q j name args vs) (h1:m'.st=m.st) (h2:m'.mem=m.mem):F2 p m' q j name args vs:=by
 obtain⟨e1,e2,e3,e4,e5,e6,e7,akX,e8,e9,e10,ZD,e12,e13,e14⟩:=h
 refine⟨e1,e2,e3,e4,e5,e6,by rw[h2];exact e7,by rw[h1];exact akX,e8,e9,e10,ZD,e12,e13,fun b mb hb=>?_⟩
 obtain⟨fr,r,k,hF,hN⟩:=e14 b mb hb
 exact⟨fr,r,k,⟨by rw[h1];exact hF.st,hF.len,hF.names,hF.vars,by rw[h2];exact hF.cells,hF.pc⟩,hN⟩
section
variable {p:Pg} {T W:List Int} {fuel:Int} {y:Ly} {a:Int} {m:Mc} {loc:List (Nat×List D)} {s:St} {fr:Fr} {r:List Fr}
structure Tc (p:Pg) (m:Mc) (v:Sm):Prop where
 args : ∀ b∈v.args,b.ref=false→b.x.may=true∧b.x.jr
 len:v.args.length<1000000
 ent : ∀ vs:List Int,vs.length=v.args.length→∃ j q,p.at v.proc=((j:Nat):Int)∧F2 p m q j v.proc v.args vs
 mem : ∀ x∈m.mem,fa x
theorem ada (h:fz p T W fuel y a m loc s) (hF:vm p m fr r) {v:Sm} (ha:v.id=a) (hC:Tc p m v) (q8:m.fin=0) (hW:W.length<1000000) (Qr:m.trace.length<2000000) :
 bk Tryz.prog 53 [.ptr y.c 0, .agg (aO v)] s (fun d s'=>d = .tuple []∧∃ y' a' m',y'.c=y.c∧fz p T W fuel y' a' m' loc s'∧
  if(m.call p W v).2.fin=0 then a'=(m.call p W v).1∧m'=(m.call p W v).2 else m'.fin≠0∧Fk m' (m.call p W v).2):=by
 have h1:=h.new (aO v)
 have H2:2≤s.au.length:=(zac.1 h.t1).1
 obtain⟨n,hn⟩ : ∃ n,s.ag.length=n:=⟨_,rfl⟩
 obtain⟨tk,qL⟩ : ∃ tk,s.au.length=tk:=⟨_,rfl⟩
 rw[hn]at h1
 rw[qL]at H2
 have pg:=hC.len
 have kn:m.top=fr:=by unfold Mc.top;rw[hF.st];rfl
 have Sx:m.bq.length<4611686018427387904:=by unfold Mc.bq;rw[kn,zau];have:=hF.vars;omega
 have arl : ∀ x∈m.bq,fa x:=fun x mx=>by
  unfold Mc.bq at mx
  obtain⟨c,mc,rfl⟩:=zaG.1 mx
  rw[kn]at mc
  have:=hF.cells c mc
  rw[zay,zah this]
  exact hC.mem _ (List.getElem_mem _)
 have hav:=QP (m:=m) (by rw[kn];exact hF.cells) v.args m.mem [] ⟨[],by simp⟩
 have rF:({m with mem:=m.mem} : Mc)=m:=rfl
 rw[rF]at hav
 refine bk.jO oX.h rfl fun B Q hB hQ=>?_
 have⟨hD,hZ,gC,gD⟩:=bc
 have loop : ∀ (rest:List Ar) (k:Nat) (oO:List Int) (s1:St),v.args.drop k=rest→k≤v.args.length→oO.length=k→vY m v.args=(vY m rest).map (oO++ ·)→fz p T W fuel y a m ((n,aO v)::loc) s1→s1.au[tk]? = some (some k)→
  aJ Tryz.prog B 64 Q0O (fV 0 (kp (iW Tryz.prog B 64 Q0P Q) Q)) [(0, .ptr y.c 0),(3, .ptr n 0),(4, .slice (.tok tk) 1 (oO.map bl)),(10, .slice .shared 6 (v.args.map dH)),(11, .int .i64 (v.args.length:Int)),(12, .int .i64 (k:Int))] s1:=by
  intro rest
  induction rest with
  | nil=>
   intro k oO s1 hd JP An nh h2 jD
   have hD:=drop_nil hd
   have hk:k=v.args.length:=by have:=zaI.1 hd;omega
   have arn:vY m v.args=some oO:=by rw[nh];simp[vY]
   have xR:=hav.1 oO arn
   have C2:m.call p W v=if m.st.length > 100 then(-1,{m with mem:=(kE m.cell v.args oO ([],m.mem)).2,fin:=5})else(({m with mem:=(kE m.cell v.args oO ([],m.mem)).2} : Mc).event W v.id []).open p (p.at v.proc) (kE m.cell v.args oO ([],m.mem)).1 v.id:=by
    unfold Mc.call
    rw[xR]
   obtain⟨fo,g,more,ht⟩:=h2.Dq hF.st
   have km:=h2.fi
   have ke:=cY km
   have x2:=(h2.loc (n,aO v) (by simp)).1
   have B5:m.st.length=r.length+1:=by rw[hF.st];rfl
   simp only[gF,ht.fs]at km x2
   rw[C2,B5]at hQ
   refine aJ.fl ?_
   by_cases KO:r.length+1 > 100
   ·have Dg:decide (((r.length+1:Nat):Int) > 100)=true:=by simp;omega
    rw[if_pos KO]at hQ
    have h3:=h2.nJ (m':= {m with fin:=5}) rfl rfl h2.t0 h2.t1
    simp only[gF,ht.fs]at h3
    refine bT (ql km x2 Dg ke) ?_
    (refine dI hQ ?_;simp only[bZ,cd,dn,dq,go_sem])
    exact⟨y,a,{m with fin:=5},rfl,h3.sub fun q mq=>zan _ mq,by rw[if_neg (by simp)];exact⟨by simp,rfl,rfl,rfl,rfl,rfl⟩⟩
   ·have Dg:decide (((r.length+1:Nat):Int) > 100)=false:=by simp;omega
    rw[if_neg KO]at hQ
    obtain⟨s3,cE,h3⟩:=xb h2 hW Qr v.id []
    have zm:ay Tryz.prog 54 [.ptr y.c 0, .int .i64 v.id, .slice .full 0 []] s1 (.tuple []) s3:=bk.mT (.cons (Wk.refl _) (.cons (Wk.refl _) (.cons AJ .nil))) cE
    have he:=dV W m v.id []
    obtain⟨j,q,hj,hE⟩:=hC.ent oO (by omega)
    have hE':=hE.event he.1 he.2.1
    have hec:=Ic m.cell v.args oO (List.range p.globals.length) m.mem
    have jS:(m.event W v.id []).cell=m.cell:=by
     funext nm
     unfold Mc.cell Mc.top
     rw[he.1]
    have kN:=zn m.cell v.args oO (List.range p.globals.length) m.mem
    have hg:=hE.sV
    have aro:=hE.mem
    have cN:=MM h3 hE' (Cf:=(kE m.cell v.args oO (List.range p.globals.length,m.mem)).1) (Mf:=(kE m.cell v.args oO (List.range p.globals.length,m.mem)).2) (by rw[jS,he.2.1]) (by simp at hec;omega)
    have cN':=fun tg:Tag=>bk.mT (.cons (Wk.refl _) (.cons (Wk.refl _) (.cons (Wk.refl _) (.cons (Wk.shared tg 1 _) .nil)))) cN
    have x3:=(h3.loc (n,aO v) (by simp)).1
    simp only at x3
    repeat' (first
 |simp only[go_sem,hD,hZ,gC,gD,km,x2,x3,Dg,ke]
 |(with_reducible refine CU (zm) ?_)
 | (with_reducible refine aX hQ ?_;exact bK))
    refine CR (cN' _) fun d s4 h4=>?_
    obtain⟨rfl,y4,hy4,h4⟩:=h4
    refine bT trivial ?_
    (refine dI hQ ?_;simp only[bZ,cd,dn,dq,go_sem])
    have Wv:(({m with mem:=(kE m.cell v.args oO ([],m.mem)).2} : Mc).event W v.id []).open p (p.at v.proc) (kE m.cell v.args oO ([],m.mem)).1 v.id=(eR q.body (-1),{m.event W v.id []with
     st:=⟨(j:Int),p.globals++(q.params.map (·.name))++q.vars,(kE m.cell v.args oO (List.range p.globals.length,m.mem)).1++(List.range q.vars.length).map ((kE m.cell v.args oO (List.range p.globals.length,m.mem)).2.length + ·),a⟩::(m.event W v.id []).st,
     mem:=(kE m.cell v.args oO (List.range p.globals.length,m.mem)).2++List.replicate q.vars.length 0}):=by
     rw[hj]
     unfold Mc.open
     rw[zaW,hE.at_,ZG]
     dsimp only
     rw[kN.1,kN.2,ha]
     simp[Pc.own,Pc.mg]
    refine⟨y4,_,_,hy4,h4.sub fun q mq=>zan _ mq, ?_⟩
    rw[Wv]
    dsimp only
    rw[MN,if_pos q8]
    exact⟨rfl,rfl⟩
  | cons b rest ih=>
   intro k oO s1 hd JP An nh h2 jD
   obtain⟨hZ,g2,hD,g4⟩:=drop_cons hd
   subst An
   have aV:oO.length<4611686018427387904:=by omega
   have gk:(oO.length+1)*9≤aT:=by unfold aT;omega
   have h3:=h2.new (dH b)
   have ic : ∀ q∈((n,aO v)::loc),q∈((s1.ag.length,dH b)::(n,aO v)::loc):=fun q mq=>zan _ mq
   refine aJ.fl ?_
   rcases zaa b.ref with br|br
   ·have IH:=ih (oO.length+1) (oO++ [0]) ⟨s1.ag++ [dH b],s1.au.set tk (some (oO.length+1))⟩ g2 g4 (by simp) (by
     rw[nh]
     simp only[vY,br,if_true,Option.map_map]
     congr 1
     funext l
     simp) ((h3.sub ic).tk (zam (by omega)) (zam (by omega))) (by simp[(zac.1 jD).1])
    rw[zag,zaf,zaj]at IH
    refine bT (BG @jZ @j8 br jD gk @Bool.not_true) ?_
    refine aJ.iS ?_ IH
    simp only[go_sem,ak aV,bl]
    repeat' (first|exact Ok.out|with_reducible refine ej ?_ ?_)
   ·obtain⟨fo,g,more,ht⟩:=h3.Dq hF.st
    have c1:=uy h3 ht hF.len
    have c2:=QL h3 hF.st ht hF.len (by have:=hF.vars;omega) hF.cells
    have gV:=ht.at_
    have wG:=ht.c3
    obtain⟨hx,MK⟩:=hC.args b (zad hZ) br
    have LD:fr.names.length<4611686018427387904:=by have:=hF.vars;have:=hF.names;omega
    have c3 : ∀ s:St,ay Tryz.prog 51 [.agg (bQ b.x), .slice .shared 1 (fr.names.map encStr), .slice (.tok s1.au.length) 1 (m.bq.map bl)] s (qc (b.x.bE fr.names m.bq)) s:=fun s=>bk.mT (.cons (Wk.refl _) (.cons (Wk.refl _) (.cons (Wk.shared (.tok s1.au.length) 1 _) .nil))) (MJ hx MK LD Sx arl s)
    have Qt:b.x.bE fr.names m.bq=(m.bE b.x).1:=by unfold Mc.bE;rw[kn]
    rw[Qt]at c3
    generalize Cm:(m.bE b.x).1=wo at *
    obtain⟨w,ok⟩:=wo
    simp only[qc]at c3
    cases ok
    ·have CA:vY m v.args=none:=by rw [nh];simp [vY,br,Cm]
     obtain⟨M',hM'⟩:=hav.2 CA
     have C2:m.call p W v=(-1,{m with mem:=M',fin:=4}):=by unfold Mc.call;rw[hM']
     rw[C2]at hQ
     have sk:=h3.fi
     have ZH:=cY sk
     have h5:=(h3.au [some m.bq.length]).nJ (m':= {m with fin:=4}) rfl rfl (h3.au [some m.bq.length]).t0 (h3.au [some m.bq.length]).t1
     simp only[gF,ht.fs]at sk h5
     repeat' (first
 |simp only[go_sem,hD,hZ,gC,gD,jZ,j8,br,gV,wG,sk,ZH]
 |(with_reducible refine CU (c1) ?_)
 |(with_reducible refine CU (c2) ?_)
 |(with_reducible refine CU (c3 _) ?_)
 | (with_reducible refine aX hQ ?_;exact bK))
     (refine dI hQ ?_;simp only[bZ,cd,dn,dq,go_sem])
     exact⟨y,a,{m with fin:=4},rfl,h5.sub fun q mq=>zan _ (zan _ mq),by rw[if_neg (by simp)];exact⟨by simp,rfl,rfl,rfl,rfl,rfl⟩⟩
    ·have IH:=ih (oO.length+1) (oO++ [w]) ⟨s1.ag++ [dH b],(s1.au++ [some m.bq.length]).set tk (some (oO.length+1))⟩ g2 g4 (by simp) (by
      rw[nh]
      simp only[vY,br,Cm,if_true,zab,if_false,Option.map_map]
      congr 1
      funext l
      simp) (((h3.sub ic).au [some m.bq.length]).tk (zam (by omega)) (zam (by omega))) (by rw[zaO (by have:=(zac.1 jD).1;simp;omega)])
     rw[zag,zaf,zaj]at IH
     have arp:(s1.au++ [some m.bq.length])[tk]? = some (some oO.length):=by rw[zai (zac.1 jD).1];exact jD
     repeat' (first
 |simp only[go_sem,hD,hZ,gC,gD,jZ,j8,br,gV,wG,arp,gk]
 |(with_reducible refine CU (c1) ?_)
 |(with_reducible refine CU (c2) ?_)
 |(with_reducible refine CU (c3 _) ?_)
 |(with_reducible refine aX hQ ?_;exact bK))
     refine aJ.iS ?_ IH
     simp only[go_sem,ak aV,bl]
     repeat' (first|exact Ok.out|with_reducible refine ej ?_ ?_)
 have z0:(s.ag++ [aO v])[n]? = some (aO v):=by simp[← hn]
 refine bT (eK hn z0) ?_
 refine aJ.lA 4 1 rfl ?_
 simp only[go_sem,hD,hZ,gC,gD]
 refine aJ.iS ?_ (loop v.args 0 [] ⟨s.ag++ [aO v],s.au++ [some 0]⟩ rfl (zaA _) rfl (by simp) (h1.au _) (by simp[← qL]))
 simp only[go_sem,qL,zaj]
 repeat' (first|exact Ok.out|with_reducible refine ej ?_ ?_)
end
end Go.Abs
namespace Go.Abs
theorem QQ {f:Pc} : ∀ {l:List Pc},Pc.mA l=true→f∈l→f.params.length≤8∧f.vars.length≤16
 |g::l,h,m=>by
  simp only[Pc.mA]at h
  split at h
  ·cases h
  rename_i c
  split at h
  ·cases h
  simp only[zaD,not_or,decide_eq_true_eq]at c
  rcases zaq.1 m with rfl|m
  ·exact⟨by omega,by omega⟩
  ·exact QQ h m
theorem uz {p:Pg} (h:p.may=true):p.globals.length≤16∧p.all.length≤200∧∀ f∈p.procs,f.params.length≤8∧f.vars.length≤16:=by
 unfold Pg.may at h
 split at h
 ·cases h
 rename_i c1
 split at h
 ·cases h
 rename_i c2
 split at h
 ·cases h
 rename_i c3
 simp only[zaD,not_or,decide_eq_true_eq]at c1 c3
 exact⟨by omega,by omega,fun f hf=>QQ (by simpa using c2) hf⟩
theorem G0 {α:Type} {x:List α} : ∀ {l:List (List α)},x∈l→x.length≤l.flatten.length
 |y::l,m=>by
  simp only[zbi,zal]
  rcases zaq.1 m with rfl|m
  ·omega
  ·have:=G0 m;omega
theorem F3 {p:Pg} (h:p.may=true) {f:Pc} (hf:f∈p.procs):f.flat.length≤200:=by
 have h1:=(uz h).2.1
 obtain⟨g1,g2⟩:=FK h
 rw[g2]at h1
 rw[g1 f hf]
 exact zaZ (G0 (zaG.2 ⟨f,hf,rfl⟩)) h1
theorem MO {p:Pg} (h:p.may=true) {f:Pc} (hf:f∈p.procs):f.flat.map It.s=Sm.cU f.body:=by
 rw[(FK h).1 f hf,tt]
theorem arq {p:Pg} (hO:p.gb) (hb:p.may=true) {fr:Fr} {f:Pc} (hp:p.procs[fr.proc.toNat]? = some f):fy p fr=f∧ac3 p fr:=by
 have hf:=zad hp
 have e:fy p fr=f:=by unfold fy;rw[hp];rfl
 have s1:=Pc.cb hf
 have s2:=hO.sz
 simp only[Pg.size]at s2
 simp only[Pc.size]at s1
 refine⟨e, ?_,fun x mx=>?_, ?_⟩<;>rw[e]at *
 ·have:=F3 hb hf;omega
 ·have hm:x.s∈Sm.cU f.body:=by rw [← MO hb hf];exact zaG.2 ⟨x,mx,rfl⟩
  have h1:=Ci f.body _ hm
  have h2:x.s.labels.length≤x.s.size:=by
   cases x with
   |mk s _ _ _=>cases s;simp only[Sm.size];omega
  omega
 ·omega
theorem QR {p:Pg} (hb:p.may=true) {c:Nat} {it:Im} (h:p.aU.L[c]? = some it):it.s.id=(c:Int)+1:=by
 have hs:p.aU.L.map Im.s=p.pre:=by rw[E1 hb,Qj];rfl
 have:=EO hb (i:=c) (v:=it.s) (by rw[← hs,zap,h];rfl)
 rw[this];omega
theorem aeT {p:Pg} (hb:p.may=true) {k a:Int} (h:Hm p.aU.L k a):fp p.aU.L a∈p.aU.L∧(fp p.aU.L a).s.id=a∧(fp p.aU.L a).proc=k:=by
 obtain⟨h1,h2,h3⟩:=h
 have e:p.aU.L[(a - 1).toNat]? = some (fp p.aU.L a):=by
  unfold fp
  rw[zay,zah (show(a - 1).toNat<p.aU.L.length by omega)];rfl
 exact⟨zad e,by rw[QR hb e];omega,h3⟩
section
variable {p:Pg} {T W:List Int} {fuel:Int} {m:Mc} {a:Int} {fr:Fr} {r:List Fr}
theorem Ww (hO:p.gb) (hR:p.Right) (h:nS p p.aU.L a m) (hl:m.st.length≤1000) : ∃ fr r f,na m fr r∧vm p m fr r∧p.procs[fr.proc.toNat]? = some f∧0≤fr.proc∧fy p fr=f∧fr.names=p.globals++f.own∧fr.vars.length=fr.names.length∧m.top=fr:=by
 obtain⟨fr,r,f,ht,h1,h2,h3,h4⟩:=JE hO h hl
 obtain⟨f',g1,g2,g3,g4,g5⟩:=h.fr fr (by rw[ht.st];exact zaz ..)
 have hp:=arq hO hR.may h1
 exact⟨fr,r,f,ht,⟨ht.st,ht.len,ht.names,ht.vars,g5,hp.2⟩,h1,g2,hp.1,h2,h3,h4⟩
theorem Wx (hO:p.gb) (hR:p.Right) (h:nS p p.aU.L a m) (hl:m.st.length≤1000) (ht:na m fr r):aeN p m fr r:=by
 have hs:=h.st
 have gG:=ht.st
 rw[gG]at hs
 rcases JF hO hR h hl ht with hc|⟨c,it,kh,r2,hc,JM,jD,hn⟩
 ·refine .inl ⟨?_,hc⟩
  cases r with
  |nil=>rfl
  |cons kh r2=>
   obtain⟨⟨h1,_⟩,_⟩:=hs
   have:=h1.1;omega
 ·have hr:r=kh::r2:=jD.st
  subst hr
  obtain⟨⟨h1,w5⟩,h2⟩:=hs
  have iG:fp p.aU.L fr.call=it:=by
   unfold fp
   rw[hc,show((c:Int)+1 - 1).toNat=c by omega,zay,JM];rfl
  obtain⟨k1,k2,k3⟩:=aeT hR.may h1
  rw[iG]at k1 k2 k3
  have h3:nS p p.aU.L (-1) {m with st:=kh::r2}:=⟨h2,fun q hq=>h.fr q (by rw[gG];exact zan _ hq), .inl rfl,h.sV⟩
  obtain⟨Ap,r',f,t1,t2,t3,t4,t5,t6⟩:=Ww hO hR h3 (by rw[gG]at hl;simp at hl ⊢;omega)
  have e:=t1.st
  cases e
  have nX:=(Dn hR.may k1 (i:=kh.proc.toNat) (f:=f) (by rw[k3];omega) t3).1
  refine .inr ⟨it,kh,r2,rfl,by omega,iG, ?_, ?_,t2,hn⟩
  ·rw[t5, ← k2];exact nX.item
  ·rw[t5, ← k2];exact⟨_,nX.beh _ (zak _)⟩
def Cn (p:Pg) (it:Im):Int:=if it.s.kind==7 then(fp p.aU.L it.loop).next else if it.s.kind==8 then it.loop else(match p.procs[it.proc.toNat]? with|some f=>(jH f.fin it.s.name (Sm.cU f.body)).1|none=>0)
theorem anY (hO:p.gb) (hR:p.Right) {it:Im} {f:Pc} (hx:yY p p.aU.L it f) (iJ:it∈p.aU.L) (sb:it.proc=fr.proc) (h5:fy p fr=f) (hn:fr.names=p.globals++f.own) (hv:fr.vars.length=fr.names.length) (h4:it.s.kind≠4) (h9:it.s.kind≠9):aeK p fr it (Cn p it):=by
 have hf:=zad hx.proc.1
 have kN:it.s∈p.pre:=by
  simp only[Pg.pre,zbx,zaG];exact⟨_,⟨f,hf,rfl⟩,hx.mem⟩
 obtain⟨pl,ar⟩:=Dn hR.may iJ (i:=it.proc.toNat) (f:=f) (by have:=hx.proc.2;omega) hx.proc.1
 have h1:=Cd hR.may _ kN
 refine⟨?_, ?_, ?_,fun hk=>?_,fun hk=>?_,h4,h9, ?_, ?_⟩
 ·rw[h5];exact⟨_,pl.beh _ (zak _)⟩
 ·rw[h5];exact pl.aY
 ·rw[h5];exact pl.aH
 ·unfold JQ Cn
  rw[h5]
  rcases hk with hk|hk|hk
  ·refine .inr (.inl ⟨hk, ?_⟩)
   obtain⟨k1,k2,k3⟩:=aeT hR.may (hx.loop (.inl hk))
   have pl2:=(Dn hR.may k1 (i:=it.proc.toNat) (f:=f) (by rw[k3];have:=hx.proc.2;omega) hx.proc.1).1
   rw[ar,if_pos (by simp[hk])]
   have:=pl2.beh _ (zak _)
   rw[k2]at this
   exact⟨_,this⟩
  ·refine .inr (.inr ⟨hk, ?_⟩)
   rw[ar,if_neg (by simp[hk]),if_pos (by simp[hk])]
  ·refine .inl ⟨hk, ?_⟩
   rw[if_neg (by simp[hk]),if_neg (by simp[hk]),hx.proc.1,MO hR.may hf]
 ·refine Cj hv ?_
  rw[hn]
  exact vS hR hx (Fa (by rcases hk with hk|hk<;>omega) (Qv h1 hk))
 all_goals
  unfold Sm.one at h1
  split at h1
  ·cases h1
  rename_i c
  simp only[zaD,not_or,decide_eq_true_eq]at c
  omega
mutual
theorem ag9 : ∀ s:Sm,s.jr→∀ v∈s.pre,v.x.jr∧∀ b∈v.args,b.x.jr
 | ⟨id,kind,labels,name,proc,x,has,args,aY,aH⟩,h,v,m=>by
  simp only[Sm.jr]at h
  rw[Sm.mO]at m
  rcases zaq.1 m with rfl|m
  ·exact⟨h.1,h.2.1⟩
  ·rcases zar.1 m with m | m
   ·exact Dr aY h.2.2.1 v m
   ·exact Dr aH h.2.2.2 v m
theorem Dr : ∀ l:List Sm,Sm.vK l→∀ v∈Sm.cU l,v.x.jr∧∀ b∈v.args,b.x.jr
 | [],_,v,m=>by simp[Sm.cU]at m
 |s::l,h,v,m=>by
  simp only[Sm.vK]at h
  simp only[Sm.cU,zar]at m
  rcases m with m|m
  ·exact ag9 s h.1 v m
  ·exact Dr l h.2 v m
end
theorem MP : ∀ {l:List Pm} {k:List Ar},wz l k=true→∀ (i:Nat) (x:Pm) (b:Ar),l[i]? = some x→k[i]? = some b→x.ref=b.ref
 | [],_,_,i,x,b,e,_=>by simp at e
 |_::_,[],_,i,x,b,_,e=>by simp at e
 | y::l,c::k,h,i,x,b,e1,e2=>by
  simp only[wz]at h
  split at h
  ·rename_i hc
   cases i with
   |zero=>simp at e1 e2;subst e1 e2;simpa using hc
   |succ i=>exact MP h i x b (by simpa using e1) (by simpa using e2)
  ·cases h
theorem NT (hR:p.Right) (hg:p.jr) {it:Im} {f:Pc} (hx:yY p p.aU.L it f):(∀ b∈it.s.args,b.ref=false→b.x.may=true∧b.x.jr)∧it.s.x.jr:=by
 have hf:=zad hx.proc.1
 have kN:it.s∈p.pre:=by
  simp only[Pg.pre,zbx,zaG];exact⟨_,⟨f,hf,rfl⟩,hx.mem⟩
 have h1:=Cd hR.may _ kN
 have h2:=Dr f.body (hg f hf) _ hx.mem
 refine⟨fun b mb hr=>⟨?_,h2.2 b mb⟩,h2.1⟩
 have:=HR (Qd h1) b mb
 unfold Ar.may at this
 rw[if_neg (by simp[hr])]at this
 simp only[zat]at this
 exact this.2
theorem aha (hO:p.gb) (hR:p.Right) (hg:p.jr) {it:Im} {f:Pc} (hx:yY p p.aU.L it f) (hk:it.s.kind=4) (hF:vm p m fr r) (hn:fr.names=p.globals++f.own) (hv:fr.vars.length=fr.names.length) (hm:m.mem.length<100000000) (hl:m.st.length≤1000) (jE : ∀ x∈m.mem,fa x):Tc p m it.s:=by
 have hf:=zad hx.proc.1
 have kN:it.s∈p.pre:=by
  simp only[Pg.pre,zbx,zaG];exact⟨_,⟨f,hf,rfl⟩,hx.mem⟩
 have gT:=hR.fits _ kN (by simp[hk])
 have jQ:=uz hR.may
 obtain⟨q,hq⟩:=Ak gT
 have hqm:q∈p.procs:=by
  obtain⟨j,h1,h2⟩:=Db (k:=0) hq
  exact zad h2
 have oz:xX q.params it.s.args=true:=by
  unfold Sm.mC at gT
  rw[hq]at gT
  simpa[hk]using gT
 unfold xX at oz
 split at oz
 rotate_left
 ·cases oz
 rename_i hlen
 have au3:q.params.length=it.s.args.length:=by have:=beq_iff_eq.1 hlen;omega
 have hp8:=jQ.2.2 q hqm
 refine⟨(NT hR hg hx).1,by omega,fun vs nh=>?_,jE⟩
 obtain⟨j,h1,h2⟩:=Db (k:=0) hq
 have s1:=Pc.cb hqm
 have s2:=hO.sz
 simp only[Pg.size]at s2
 simp only[Pc.size]at s1
 have s3:=Pc.dk p.procs
 refine⟨j,q,by simpa[Pg.at]using h1,h2,hq,by omega,by omega,by omega,by omega,hm,by omega, ?_,by omega,(QF hR.may h2).2 (-1),by omega,by omega,fun i x b e1 e2=>MP oz i x b e1 e2,fun b mb hr=>?_⟩
 ·have:=F3 hR.may hqm;omega
 ·obtain⟨k,hk⟩:=Cj hv (n:=b.name) (by rw [hn];exact vS hR hx (vf (.inr ⟨b,mb,hr,rfl⟩)))
  exact⟨fr,r,k,hF,hk⟩
end
end Go.Abs
namespace Go.Abs
theorem Td {m:Mc} (h : ∀ x∈m.mem,fa x) : ∀ v∈m.bq,fa v:=fun v mv=>by
 unfold Mc.bq at mv
 obtain⟨c,mc,rfl⟩:=zaG.1 mv
 rw[zay]
 cases e:m.mem[c]? with
 |none=>simp[fa]
 |some x=>exact h x (zad e)
theorem Ie {m:Mc} (h : ∀ x∈m.mem,fa x) {x:Ex} (hx:x.jr):fa (m.bE x).1.1:=by
 unfold Mc.bE
 show fa (x.bE m.top.names m.bq).1
 unfold Ex.bE
 split
 ·rename_i c
  exact ZC (Td h) 20 x (by rw[show((20:Nat):Int)=20 from rfl,yO];exact c) hx
 ·simp[fa]
structure qF (n:Nat) (m m':Mc):Prop where
 len:m'.mem.length≤m.mem.length+n
 inr:(∀ x∈m.mem,fa x)→∀ x∈m'.mem,fa x
theorem qF.of {m m':Mc} (h:m'.mem=m.mem):qF 0 m m':=⟨by rw[h];exact zak _,fun k=>by rw[h];exact k⟩
theorem qF.trans {n k:Nat} {m m' m2:Mc} (h:qF n m m') (h2:qF k m' m2):qF (n+k) m m2:=⟨by have:=h.len;have:=h2.len;omega,fun x=>h2.inr (h.inr x)⟩
theorem Lm {m:Mc} (name:aD) {v:Int} (hv:(∀ x∈m.mem,fa x)→fa v):qF 0 m (m.set name v):=by
 refine⟨by simp[Mc.set],fun k x mx=>?_⟩
 simp only[Mc.set]at mx
 rcases List.mem_or_eq_of_mem_set mx with mx|rfl
 ·exact k x mx
 ·exact hv k
theorem sH (W:List Int) (m:Mc) (id:Int) (bq:List Int):qF 0 m (m.event W id bq):= .of (dV W m id bq).2.1
theorem Ig : ∀ (l:List Ar) (m:Mc) (out:List Nat),(∀ b∈l,b.ref=false→b.x.may=true∧b.x.jr)→qF l.length m (Mc.args l m out).2
 | [],m,out,_=> .of rfl
 | b::l,m,out,h=>by
  simp only[Mc.args]
  by_cases c:b.ref=true
  ·rw [if_pos c]
   have:=Ig l m (out++ [m.cell b.name]) fun x mx=>h x (zan _ mx)
   exact⟨by have:=this.len;simp;omega,this.inr⟩
  ·rw [if_neg c]
   have hw:=iu m b.x
   by_cases c2:(m.bE b.x).1.2=true
   ·rw [if_pos c2]
    have:=Ig l {(m.bE b.x).2 with mem:=(m.bE b.x).2.mem++ [(m.bE b.x).1.1]} (out++ [(m.bE b.x).2.mem.length]) fun x mx=>h x (zan _ mx)
    refine⟨by have:=this.len;simp[hw.2.1]at this ⊢;omega,fun k=>this.inr fun x mx=>?_⟩
    simp only[hw.2.1,zar,zaJ]at mx
    rcases mx with mx|rfl
    ·exact k x mx
    ·exact Ie k (h b (zaz ..) (by simpa using c)).2
   ·rw [if_neg c2]
    exact⟨by rw[hw.2.1];exact Nat.le_add_right _ _,fun k=>by rw[hw.2.1];exact k⟩
theorem adb {p:Pg} (hp:p.may=true) (m:Mc) (i:Int) (l:List Nat) (c:Int):qF 16 m (m.open p i l c).2:=by
 unfold Mc.open
 cases e:p.procs[i.toNat]? with
 |none=>exact⟨Nat.le_add_right _ _,fun k=>k⟩
 |some f=>
  have:=(uz hp).2.2 f (zad e)
  refine⟨by simp;omega,fun k x mx=>?_⟩
  simp only[zar,List.mem_replicate]at mx
  rcases mx with mx|⟨_,rfl⟩
  ·exact k x mx
  ·simp[fa]
theorem ade {p:Pg} (hp:p.may=true) (W:List Int) (m:Mc) (v:Sm) (h : ∀ b∈v.args,b.ref=false→b.x.may=true∧b.x.jr) (hl:v.args.length≤8):qF 24 m (m.call p W v).2:=by
 have h1:=Ig v.args m [] h
 unfold Mc.call
 generalize Mc.args v.args m [] = r at *
 obtain⟨o,m1⟩:=r
 dsimp only at h1
 cases o with
 |none=>exact⟨by have:=h1.len;dsimp only;omega,h1.inr⟩
 | some l=>
  dsimp only
  split
  ·exact⟨by have:=h1.len;dsimp only;omega,h1.inr⟩
  ·have:=(h1.trans (sH W m1 v.id [])).trans (adb hp (m1.event W v.id []) (p.at v.proc) l v.id)
   exact⟨by have:=this.len;omega,this.inr⟩
theorem ZI (W:List Int) {m:Mc} {v:Sm} (h:v.x.jr):qF 0 m (m.fP W v).2∧((∀ x∈m.mem,fa x)→fa (m.fP W v).1):=by
 have hw:=iu m v.x
 unfold Mc.fP
 split
 ·refine⟨?_,fun k=>Ie k h⟩
  dsimp only
  split
  ·exact .of ((dV _ _ _ _).2.1.trans hw.2.1)
  ·exact .of hw.2.1
 ·exact⟨sH W m v.id [],fun _=>by simp[fa]⟩
theorem ZJ (L:List Im) {m:Mc} {g:Int} (hg:(∀ x∈m.mem,fa x)→fa g):qF 0 m (m.close L g).2:=by
 unfold Mc.close
 dsimp only
 split
 ·exact .of rfl
 ·split
  ·exact .of rfl
  ·have:=Lm (m:= {m with st:=m.st.tail}) (fp L m.top.call).s.name hg
   exact⟨this.len,this.inr⟩
theorem alg (p:Pg) (L:List Im) {T:List Int} (hT : ∀ t∈T,fa t) (W:List Int) {m:Mc} {it:Im} (h:it.s.x.jr):qF 0 m (m.do p L T W it).2∧(0≤m.reads→m.reads≤(T.length:Int)→(m.do p L T W it).2.reads≤(T.length:Int)):=by
 have hw:=iu m it.s.x
 have ev:=fun id bq=>dV W m id bq
 unfold Mc.do
 dsimp only
 split
 ·exact⟨sH ..,fun _ k=>by rw[(ev _ _).2.2.2.2.1];exact k⟩
 split
 ·exact⟨sH ..,fun _ k=>by rw[(ev _ _).2.2.2.2.1];exact k⟩
 split
 ·exact⟨sH ..,fun _ k=>by rw[(ev _ _).2.2.2.2.1];exact k⟩
 split
 ·cases e:T[m.reads.toNat]? with
  |none=>exact⟨.of rfl,fun _ k=>k⟩
  |some n=>
   have h1:=Lm (m:= {m with reads:=m.reads+1}) it.s.name (v:=n) fun _=>hT n (zad e)
   have h2:=h1.trans (sH W (({m with reads:=m.reads+1} : Mc).set it.s.name n) it.s.id [n])
   refine⟨⟨h2.len,h2.inr⟩,fun k0 _=>?_⟩
   dsimp only
   rw[(dV _ _ _ _).2.2.2.2.1]
   have:=(zac.1 e).1
   simp only[Mc.set]
   omega
 split
 ·have e2:=dV W (m.bE it.s.x).2 it.s.id [(m.bE it.s.x).1.1]
  have k:qF 0 m ((m.bE it.s.x).2.event W it.s.id [(m.bE it.s.x).1.1]):= .of (e2.2.1.trans hw.2.1)
  have kr:m.reads≤(T.length:Int)→((m.bE it.s.x).2.event W it.s.id [(m.bE it.s.x).1.1]).reads≤(T.length:Int):=fun h=>by rw[e2.2.2.2.2.1,hw.2.2.2.1];exact h
  split
  ·have h2:=Lm (m:=(m.bE it.s.x).2.event W it.s.id [(m.bE it.s.x).1.1]) it.s.name (v:=(m.bE it.s.x).1.1) fun k'=>Ie (by rw [← e2.2.1.trans hw.2.1];exact k') h
   exact⟨⟨(k.trans h2).len,(k.trans h2).inr⟩,fun _=>kr⟩
  split
  ·exact⟨⟨k.len,k.inr⟩,fun _=>kr⟩
  split
  ·exact⟨k,fun _=>kr⟩
  split
  ·exact⟨k,fun _=>kr⟩
  ·exact⟨k,fun _=>kr⟩
 ·exact⟨.of hw.2.1,fun _ k=>by rw[hw.2.2.2.1];exact k⟩
theorem adf (p:Pg) (W:List Int) (m:Mc) (v:Sm):(m.call p W v).2.reads=m.reads:=by
 have h1:=Aq v.args m []
 unfold Mc.call
 generalize Mc.args v.args m [] = r at *
 obtain⟨o,m1⟩:=r
 dsimp only at h1
 cases o with
 |none=>exact h1.1
 |some l=>
  dsimp only
  split
  ·exact h1.1
  ·rw[(w8 ..).2.2.1,(dV ..).2.2.2.2.1];exact h1.1
theorem ZK (W:List Int) (m:Mc) (v:Sm):(m.fP W v).2.reads=m.reads:=by
 have hw:=iu m v.x
 unfold Mc.fP
 split
 ·dsimp only
  split
  ·rw[(dV ..).2.2.2.2.1,hw.2.2.2.1]
  ·exact hw.2.2.2.1
 ·exact(dV ..).2.2.2.2.1
theorem ZL (W:List Int) (m:Mc) (v:Sm):(m.fP W v).2.mem=m.mem:=by
 have hw:=iu m v.x
 unfold Mc.fP
 split
 ·dsimp only
  split
  ·rw[(dV ..).2.1,hw.2.1]
  ·exact hw.2.1
 ·exact(dV ..).2.1
structure adg (p:Pg) (T W:List Int) (fuel:Int):Prop where
 ok:p.gb
 right:p.Right
 W:W.length<1000000
 TL:T.length<1000000
 fuel:0≤fuel∧fuel≤1000000
 jr:p.jr
 tape : ∀ t∈T,fa t
structure QS (p:Pg) (T W:List Int) (fuel:Int) (a:Int) (m:Mc):Prop where
 ok:nS p p.aU.L a m
 sz:xq m
 fin:m.fin=0
 fuel:m.steps≤fuel
 mem:(m.mem.length:Int)≤40+24*m.steps
 inr : ∀ x∈m.mem,fa x
 reads:m.reads≤(T.length:Int)
section
variable {p:Pg} {T W:List Int} {fuel:Int} {m m2:Mc} {a b:Int}
theorem QT (hR:p.Right) (h:QS p T W fuel a m) {g:Int} (hg:fa g) (e:m.back p.aU.L g=(some b,m2)):QS p T W fuel b m2:=by
 have hk:=SJ (qo hR) h.ok e
 have kP:=vg p.aU.L m g
 have hm:=ZJ p.aU.L (m:=m) (g:=g) fun _=>hg
 have hz:=h.sz.close (L:=p.aU.L) g
 unfold Mc.back at e
 dsimp only at e
 simp only[Prod.mk.injEq]at e
 obtain⟨e1,e2⟩:=e
 rw[e2]at kP hm hz e1
 have hf:(m2.fin==0)=true:=by
  refine Decidable.byContradiction fun c=>?_
  rw[if_neg c]at e1;cases e1
 have hl:=hm.len
 exact⟨hk,hz,by simpa using hf,by rw[kP.2.2.2.1];exact h.fuel,by rw[kP.2.2.2.1];have:=h.mem;omega,hm.inr h.inr,by rw[kP.2.2.1];exact h.reads⟩
theorem adh (hS:adg p T W fuel) (h:QS p T W fuel a m) (e:m.next p p.aU.L T W fuel a=(some b,m2)):QS p T W fuel b m2:=by
 unfold Mc.next at e
 by_cases ba:(a == -1)=true
 ·rw [if_pos ba]at e
  exact QT hS.right h (by simp[fa]) e
 rw[if_neg ba]at e
 by_cases bf:(m.steps==fuel)=true
 ·rw[if_pos bf]at e;cases e
 rw[if_neg bf]at e
 dsimp only at e
 have akt:m.steps<fuel:=by
  have h1:m.steps≠fuel:=by simpa using bf
  have:=h.fuel;omega
 obtain⟨fr,r,f,kn,hF,h1,h0,h5,h2,h3,h4⟩:=Ww hS.ok hS.right h.ok (by have:=h.sz.st;omega)
 obtain⟨hx,sb,iJ,c,hac,JM⟩:=Lc h.ok h4 hS.right (by simpa using ba) h1
 have Bh:nS p p.aU.L a ({m with steps:=m.steps+1} : Mc):=h.ok.of rfl (zak _) h.ok.at_
 have jE:=h.inr
 have hml:=h.mem
 have jy:=h.reads
 have adi:=h.sz.reads.1
 have Fe:=h.sz.st
 have Dj : ∀ m2:Mc,Be ({m with steps:=m.steps+1} : Mc) m2→m2.st.length≤101→xq m2:=fun m2 hl hs=>h.sz.less hl hs
 have gG:({m with steps:=m.steps+1} : Mc).st=m.st:=rfl
 have ow:({m with steps:=m.steps+1} : Mc).steps=m.steps+1:=rfl
 have jQ:({m with steps:=m.steps+1} : Mc).mem=m.mem:=rfl
 have vw:({m with steps:=m.steps+1} : Mc).reads=m.reads:=rfl
 have B6:({m with steps:=m.steps+1} : Mc).fin=0:=h.fin
 have vv:({m with steps:=m.steps+1} : Mc).top=fr:=h4
 generalize fp p.aU.L a=it at *
 generalize ({m with steps:=m.steps+1} : Mc)=m1 at *
 by_cases b4:(it.s.kind==4)=true
 ·rw [if_pos b4]at e
  have hk:it.s.kind=4:=by simpa using b4
  have hlen:it.s.args.length≤8:=by
   obtain⟨j,q,c1,c2,c3⟩:=SK hS.right hx hk
   rw[c3];exact((uz hS.right.may).2.2 q (zad c2)).1
  have rF:=ade hS.right.may W m1 it.s (NT hS.right hS.jr hx).1 hlen
  have kP:=Fb p W m1 it.s
  have hc:=fun h0=>SL (W:=W) hS.right Bh hx hk (by rw[sb,vv]) h0 (a':=(m1.call p W it.s).1) (m':=(m1.call p W it.s).2) rfl B6
  have mK:(m1.call p W it.s).2.st.length≤101:=by
   rcases kP.2 with h|h
   ·rw[gG]at h;omega
   ·exact h
  simp only[Prod.mk.injEq]at e
  obtain⟨e1,e2⟩:=e
  rw[e2]at e1 rF kP mK hc
  have hf:m2.fin=0:=by
   refine Decidable.byContradiction fun c=>?_
   rw[if_neg (by simpa using c)]at e1;cases e1
  rw[if_pos (by simp[hf])]at e1
  have eb:=Option.some.inj e1
  rw[eb]at hc
  have NN:=rF.len
  rw[jQ]at NN
  have GV:=kP.1.reads
  refine⟨hc hf,Dj _ kP.1 mK,hf,by rw[kP.1.steps,ow];omega,by rw[kP.1.steps,ow];omega,rF.inr (by rw[jQ];exact jE), ?_⟩
  have Tb:=adf p W m1 it.s
  rw[e2,vw]at Tb
  rw[Tb];exact jy
 rw[if_neg b4]at e
 have MK:=(NT hS.right hS.jr hx).2
 by_cases b9:(it.s.kind==9)=true
 ·rw [if_pos b9]at e
  have rF:=ZI W (m:=m1) MK
  have mB:=Di W m1 it.s
  have Zl:=HO W m1 it.s
  have hgr:=ZK W m1 it.s
  have Ca:=ZL W m1 it.s
  generalize m1.fP W it.s=G at *
  obtain⟨g,m3⟩:=G
  dsimp only at *
  by_cases c:(m3.fin==0)=true
  ·rw [if_pos c]at e
   have ZH:=rF.1.len
   rw[jQ]at ZH
   refine QT hS.right (a:=a) (m:=m3) ⟨Bh.of Zl.1 ?_ Bh.at_,Dj _ mB (by rw[Zl.1,gG];exact Fe),by simpa using c,by rw[mB.steps,ow];omega,by rw[mB.steps,ow];omega,rF.1.inr (by rw[jQ];exact jE),by rw[hgr,vw];exact jy⟩ (rF.2 (by rw[jQ];exact jE)) e
   rw[Ca];exact zak _
  ·rw[if_neg c]at e;cases e
 rw[if_neg b9]at e
 have rF:=alg p p.aU.L hS.tape W (m:=m1) MK
 have SY:=Ld p p.aU.L T W m1 it
 have xC:=(VW p p.aU.L T W m1 it).1
 have hd:=aez (T:=T) (W:=W) hS.right Bh hx (by rw[sb,vv])
 generalize m1.do p p.aU.L T W it=G at *
 obtain⟨g,m3⟩:=G
 dsimp only at *
 simp only[Prod.mk.injEq]at e
 obtain⟨e1,rfl⟩:=e
 have hf:m3.fin=0:=by
  refine Decidable.byContradiction fun c=>?_
  rw[if_neg (by simpa using c)]at e1;cases e1
 rw[if_pos (by simp[hf])]at e1
 have eb:=Option.some.inj e1
 rw[← eb]
 have ZH:=rF.1.len
 rw[jQ]at ZH
 exact⟨hd hf,Dj _ SY (by rw[xC,gG];exact Fe),hf,by rw[SY.steps,ow];omega,by rw[SY.steps,ow];omega,rF.1.inr (by rw[jQ];exact jE),rF.2 (by rw[vw];exact adi) (by rw[vw];exact jy)⟩
end
end Go.Abs
namespace Go.Abs
set_option maxRecDepth 8000
open Go.Proofs
theorem ZM {x:Ex} (h:x.may=true):x.op≠0:=fun e=>by
 rw[← yO]at h
 obtain⟨op,n,name,kids⟩:=x
 subst e
 have h1:=((wY 0 n name kids 20).1 h).2.1
 have:kJ 0 = -1:=by decide
 omega
theorem anZ {v:Sm} (h:v.one=true):(v.sU=true→v.x.may=true)∧(v.sU=false→v.x.op=0)∧1≤v.kind∧v.kind≤10:=by
 unfold Sm.one at h
 split at h
 ·cases h
 rename_i c
 simp only[zaD,not_or,decide_eq_true_eq]at c
 refine⟨fun e=>?_,fun e=>?_,by omega,by omega⟩
 ·have:=c.1.1.2
  simpa[e]using this
 ·have:=c.1.2
  simp only[e,zax,zbf,zaL,zbd]at this
  unfold Ex.none at this
  simp only[zat,beq_iff_eq]at this
  exact this.1.1.1
def nc (r:Option Int×Mc) (a':Int) (m':Mc):Prop:=match r with
 |(some b,m2)=>a'=b∧m'=m2
 |(none,m2)=>m'.fin≠0∧Fk m' m2
theorem Fk.refl (m:Mc):Fk m m:=⟨rfl,rfl,rfl,rfl,rfl⟩
theorem nc.back (L:List Im) (m:Mc) (g:Int):nc (m.back L g) (m.close L g).1 (m.close L g).2:=by
 unfold Mc.back nc
 dsimp only
 split
 ·rename_i e
  split at e
  ·cases e;exact⟨rfl,rfl⟩
  ·cases e
 ·rename_i e
  split at e
  ·cases e
  ·rename_i c
   cases e
   exact⟨by simpa using c,Fk.refl _⟩
theorem nc.fin {r:Int×Mc} (h:r.2.fin=0):nc (if r.2.fin==0 then some r.1 else none,r.2) r.1 r.2:=by
 unfold nc;rw[if_pos (by simp[h])];exact⟨rfl,rfl⟩
theorem QU {m:Mc} {x:Ex} (h:(m.bE x).1.2=true):(m.bE x).2=m:=by unfold Mc.bE at h ⊢;dsimp only at h ⊢;rw[if_pos h]
theorem QV {m:Mc} {x:Ex} (h:(m.bE x).1.2=false):(m.bE x).2 = {m with fin:=4}:=by unfold Mc.bE at h ⊢;dsimp only at h ⊢;rw[if_neg (by simp[h])]
section
variable {p:Pg} {T W:List Int} {m:Mc} {it:Im}
theorem ahb (hk:it.s.kind=7∨it.s.kind=8∨it.s.kind=10) (v:Int):m.do p p.aU.L T W it=Fi W it (Cn p it) m v:=by
 unfold Mc.do Fi Cn
 dsimp only
 rcases hk with hk|hk|hk<;>simp[hk]
 ·rfl
theorem adj (hk:it.s.kind=1∨it.s.kind=3∨it.s.kind=5∨it.s.kind=6) (h:(m.bE it.s.x).1.2=true):m.do p p.aU.L T W it=Fi W it (Cn p it) m (m.bE it.s.x).1.1:=by
 unfold Mc.do Fi
 dsimp only
 rw[if_pos h,QU h]
 rcases hk with hk|hk|hk|hk<;>simp[hk]
theorem ali (hk:it.s.kind=1∨it.s.kind=3∨it.s.kind=5∨it.s.kind=6) (h:(m.bE it.s.x).1.2=false):m.do p p.aU.L T W it=(-1,{m with fin:=4}):=by
 unfold Mc.do
 dsimp only
 rw[h,QV h]
 rcases hk with hk|hk|hk|hk<;>simp[hk]
theorem ahc (hk:it.s.kind=2) {t:Int} (e:T[m.reads.toNat]? = some t):m.do p p.aU.L T W it=Fi W it (Cn p it) {m with reads:=m.reads+1} t:=by
 unfold Mc.do Fi
 dsimp only
 rw[e]
 simp[hk]
 unfold Mc.event Mc.set Mc.cell Mc.top
 split<;>rfl
theorem alj (hk:it.s.kind=2) (e:T[m.reads.toNat]? = none):m.do p p.aU.L T W it=(-1,{m with fin:=3}):=by
 unfold Mc.do
 dsimp only
 rw[e]
 simp[hk]
theorem Ln (to v:Int):(Fi W it to m v).2.fin=m.fin:=by
 unfold Fi
 repeat' split
 all_goals exact MN ..
end
section
variable {p:Pg} {T W:List Int} {fuel:Int} {y:Ly} {a:Int} {m:Mc} {loc:List (Nat×List D)} {s:St}
set_option maxHeartbeats 1600000 in
theorem adk (hS : adg p T W fuel) (h : fz p T W fuel y a m loc s) (hA : QS p T W fuel a m) :
   bk Tryz.prog 24 [.ptr y.c 0] s (fun d s' => d = .tuple [] ∧ ∃ y' a' m', y'.c = y.c ∧ fz p T W fuel y' a' m' loc s' ∧ nc (m.next p p.aU.L T W fuel a) a' m') := by
 obtain ⟨fr, r, f, kn, hF, h1, h0, h5, h2, h3, h4⟩ := Ww hS.ok hS.right hA.ok (by have := hA.sz.st; omega)
 obtain ⟨fo, g, more, ht⟩ := h.Dq hF.st
 have c1 := uy h ht hF.len
 have gV := ht.at_
 have k0 := ht.c0
 have k2 := ht.c2
 have k3 := ht.c3
 have hm := h.fi
 have hl := cY hm
 have art := h.ya fo (by rw[ht.fs]; simp[D.arr])
 rw[gF]at hm
 unfold Mc.next
 rcases zaa (a == -1) with ba|ba
 · rw [if_pos ba]
   obtain ⟨y2, s2, cL, h6, hy⟩ := Fj h hF (Wx hS.ok hS.right hA.ok (by have := hA.sz.st; omega) kn) 0
   refine bk.jO eO.h rfl fun B Q hB hQ =>?_
   have ⟨hD, hZ, gC, gD⟩ := bc
   repeat' (first
 |simp only[go_sem, hD, hZ, gC, gD, gV, k2, ba]
 |(with_reducible refine CU (c1) ?_)
 |(with_reducible refine CU (cL) ?_)
 | (with_reducible refine aX hQ ?_; exact bK))
   (refine dI hQ ?_; simp only[bZ, cd, dn, dq, go_sem])
   exact ⟨y2, _, _, hy, h6, nc.back _ _ _⟩
 rw[if_neg (by simp[ba])]
 rcases zaa (m.steps == fuel) with bf|bf
 · rw [if_pos bf]
   have h6 := h.nJ (m' := { m with fin := 2 }) rfl rfl h.t0 h.t1
   rw[gF]at h6
   refine bk.jO eO.h rfl fun B Q hB hQ =>?_
   have ⟨hD, hZ, gC, gD⟩ := bc
   repeat' (first
 |simp only[go_sem, hD, hZ, gC, gD, gV, k2, ba, hm, hl, bf]
 |(with_reducible refine CU (c1) ?_)
 | (with_reducible refine aX hQ ?_; exact bK))
   (refine dI hQ ?_; simp only[bZ, cd, dn, dq, go_sem])
   exact ⟨y, a, _, rfl, h6, by simp[nc], Fk.refl _⟩
 rw[if_neg (by simp[bf])]
 obtain ⟨hx, sb, iJ, c, hac, JM⟩ := Lc hA.ok h4 hS.right (by simpa using ba) h1
 have hfb := hS.fuel
 have akt : m.steps < fuel := by
   have h : m.steps ≠ fuel := by simpa using bf
   have := hA.fuel; omega
 have xy := hA.sz.steps
 have zf : IntKind.wrap .i64 (m.steps + 1) = m.steps + 1 := dE (by omega) (by omega)
 have hf := zad hx.proc.1
 have kN : (fp p.aU.L a).s ∈ p.pre := by
   simp only[Pg.pre, zbx, zaG]; exact ⟨_, ⟨f, hf, rfl⟩, hx.mem⟩
 have ig := Cd hS.right.may _ kN
 obtain ⟨o1, o2, o3, o4⟩ := anZ ig
 have fM := F3 hS.right.may hf
 have pl := (Dn hS.right.may iJ (i := fr.proc.toNat) (f := f) (by rw[sb]; omega) h1).1
 have mR : (fp p.aU.L a).s.id = a := by rw[QR hS.right.may JM]; omega
 have iG := pl.item
 rw[mR]at iG
 have cI := fun s => QG (l := f.flat) (by omega) a s
 rw[h5]at k0
 dsimp only
 generalize fp p.aU.L a = it at *
 generalize jI a f.flat = X at *
 have h6 := (h.nJ (m' := { m with steps := m.steps + 1 }) rfl rfl h.t0 h.t1).new (aO it.s)
 obtain ⟨au4, ht7⟩ := h6.zl (fr := fr) (r := r) hF.st ht.fs
 have hF7 : vm p ({ m with steps := m.steps + 1 } : Mc) fr r := ⟨hF.st, hF.len, hF.names, hF.vars, hF.cells, hF.pc⟩
 have au5 : na ({ m with steps := m.steps + 1 } : Mc) fr r := ⟨kn.st, kn.len, kn.names, kn.vars⟩
 have Wy : nS p p.aU.L a ({ m with steps := m.steps + 1 } : Mc) := hA.ok.of rfl (zak _) hA.ok.at_
 have ic : ∀ q ∈ loc, q ∈ ((s.ag.set y.c (gF p T W fuel y { m with steps := m.steps + 1 })).length, aO it.s) :: loc := fun q mq => zan _ mq
 have MQ := h6.fi
 have QW := cY MQ
 have QX := ht7.at_
 have q3 := ht7.c3
 have avP := hA.sz.trace
 have avQ := hA.sz.out
 have aq2 := hA.sz.st
 have aro := hA.mem
 have jy := hA.reads
 have adi := hA.sz.reads
 simp only[gF]at h6 MQ QW QX ic
 have ow : ∀ r, (s.ag.set y.c r)[y.c]? = some r := fun r => zaO hl
 have Ds : ∀ r, (s.ag.set y.c r)[fo]? = s.ag[fo]? := fun r => zam (Ne.symm art.1)
 rcases zaa (it.s.kind == 4) with b4|b4
 · rw [if_pos b4]
   have hk : it.s.kind = 4 := by simpa using b4
   have bo : (it.s.x.op != 0) = false := by rw[o2 (by simp[Sm.sU, hk])]; rfl
   have cC := ada h6 hF7 mR (aha hS.ok hS.right hS.jr hx hk hF7 h2 h3 (by dsimp only; omega) (by dsimp only; omega) hA.inr) hA.fin hS.W (by dsimp only; omega)
   refine bk.jO eO.h rfl fun B Q hB hQ =>?_
   have ⟨hD, hZ, gC, gD⟩ := bc
   repeat' (first
 |simp only[go_sem, hD, hZ, gC, gD, gV, k2, ba, hm, hl, bf, ow, Ds, k0, zf, jZ, j8, iG, b4, bo]
 |(with_reducible refine CU (c1) ?_)
 |(with_reducible refine CU (cI _) ?_)
 | (with_reducible refine aX hQ ?_; exact bK))
   refine CR cC fun d s2 GV =>?_
   obtain ⟨rfl, y2, a2, m2, hy, h8, FG⟩ := GV
   refine bT trivial ?_
   (refine dI hQ ?_; simp only[bZ, cd, dn, dq, go_sem])
   refine ⟨y2, a2, m2, hy, h8.sub ic, ?_⟩
   by_cases ti : (({ m with steps := m.steps + 1 } : Mc).call p W it.s).2.fin = 0
   · rw [if_pos ti] at FG
     obtain ⟨rfl, rfl⟩ := FG
     exact nc.fin ti
   · rw [if_neg ti] at FG
     unfold nc
     rw[if_neg (by simpa using ti)]
     exact FG
 rw[if_neg (by simp[b4])]
 have cV := QL h6 hF.st ht7 hF.len hF.vars hF.cells
 have Sx : ({ m with steps := m.steps + 1 } : Mc).bq.length < 4611686018427387904 := by unfold Mc.bq; rw[zau]; show m.top.vars.length < _; rw[h4]; have := hF.vars; omega
 have MK := (NT hS.right hS.jr hx).2
 have cW : it.s.x.may = true → ∀ (n : Nat) (s : St), ay Tryz.prog 51 [.agg (bQ it.s.x), .slice .shared 1 (fr.names.map encStr), .slice (.tok n) 1 (({ m with steps := m.steps + 1 } : Mc).bq.map bl)] s (qc (({ m with steps := m.steps + 1 } : Mc).bE it.s.x).1) s := fun ze n s => by
   have e : (({ m with steps := m.steps + 1 } : Mc).bE it.s.x).1 = it.s.x.bE fr.names ({ m with steps := m.steps + 1 } : Mc).bq := by unfold Mc.bE; show it.s.x.bE m.top.names _ = _; rw[h4]
   rw[e]
   exact bk.mT (.cons (Wk.refl _) (.cons (Wk.refl _) (.cons (Wk.shared (.tok n) 1 _) .nil))) (MJ ze MK (by have := hF.names; omega) Sx (Td hA.inr) s)
 have h7 := h6.au [some ({ m with steps := m.steps + 1 } : Mc).bq.length]
 rcases zaa (it.s.kind == 9) with b9|b9
 · rw [if_pos b9]
   have hk : it.s.kind = 9 := by simpa using b9
   rcases zaa it.s.has with bh|bh
   · have ze := o1 (by simp [Sm.sU, hk, bh])
     have bo : (it.s.x.op != 0) = true := by simpa using ZM ze
     have JT := cW ze
     cases Cm : (({ m with steps := m.steps + 1 } : Mc).bE it.s.x).1 with
     |mk w ok =>
     rw[Cm]at JT
     simp only[qc]at JT
     cases ok
     · have e2 : (({ m with steps := m.steps + 1 } : Mc).bE it.s.x).1.2 = false := by rw [Cm]
       have hg : ({ m with steps := m.steps + 1 } : Mc).fP W it.s = (w, { m with steps := m.steps + 1, fin := 4 }) := by
         unfold Mc.fP
         rw[if_pos bh]
         dsimp only
         rw[if_neg (by rw[e2]; simp), QV e2, Cm]
       rw[hg, if_neg (by simp)]
       have h8 := h7.nJ (m' := { m with steps := m.steps + 1, fin := 4 }) rfl rfl h7.t0 h7.t1
       simp only[gF]at h8
       refine bk.jO eO.h rfl fun B Q hB hQ =>?_
       have ⟨hD, hZ, gC, gD⟩ := bc
       repeat' (first
 |simp only[go_sem, hD, hZ, gC, gD, gV, k2, ba, hm, hl, bf, ow, Ds, k0, zf, jZ, j8, iG, b4, b9, bh, bo, QX, q3, MQ, QW]
 |(with_reducible refine CU (c1) ?_)
 |(with_reducible refine CU (cI _) ?_)
 |(with_reducible refine CU (cV) ?_)
 |(with_reducible refine CU (JT _ _) ?_)
 |(with_reducible refine aX hQ ?_; exact bK))
       (refine dI hQ ?_; simp only[bZ, cd, dn, dq, go_sem])
       exact ⟨y, a, _, rfl, h8.sub ic, by simp[nc], Fk.refl _⟩
     · have e2 : (({ m with steps := m.steps + 1 } : Mc).bE it.s.x).1.2 = true := by rw [Cm]
       have hg : ({ m with steps := m.steps + 1 } : Mc).fP W it.s = (w, ({ m with steps := m.steps + 1 } : Mc).event W it.s.id [w]) := by
         unfold Mc.fP
         rw[if_pos bh]
         dsimp only
         rw[if_pos e2, QU e2, Cm]
       obtain ⟨s8, cE, h8⟩ := xb h7 hS.W (by dsimp only; omega) it.s.id [w]
       have zm : ay Tryz.prog 54 [.ptr y.c 0, .int .i64 it.s.id, .slice .full 1 [[.int .i64 w]]] _ (.tuple []) s8 := bk.mT (.cons (Wk.refl _) (.cons (Wk.refl _) (.cons (Wk.shared _ _ _) .nil))) cE
       have he := dV W ({ m with steps := m.steps + 1 } : Mc) it.s.id [w]
       have ZN : vm p (({ m with steps := m.steps + 1 } : Mc).event W it.s.id [w]) fr r := ⟨by rw[he.1]; exact hF.st, hF.len, hF.names, hF.vars, by rw[he.2.1]; exact hF.cells, hF.pc⟩
       have hE8 := Wx hS.ok hS.right (Wy.of he.1 (by rw[he.2.1]; exact zak _) Wy.at_) (by rw[he.1]; dsimp only; omega) (fr := fr) (r := r) ⟨by rw[he.1]; exact kn.st, kn.len, kn.names, kn.vars⟩
       obtain ⟨y9, s9, cL, h9, JU⟩ := Fj h8 ZN hE8 w
       rw[hg]
       rw[if_pos (by rw[he.2.2.1]; simp[hA.fin])]
       refine bk.jO eO.h rfl fun B Q hB hQ =>?_
       have ⟨hD, hZ, gC, gD⟩ := bc
       repeat' (first
 |simp only[go_sem, hD, hZ, gC, gD, gV, k2, ba, hm, hl, bf, ow, Ds, k0, zf, jZ, j8, iG, b4, b9, bh, bo, QX, q3, MQ, QW]
 |(with_reducible refine CU (c1) ?_)
 |(with_reducible refine CU (cI _) ?_)
 |(with_reducible refine CU (cV) ?_)
 |(with_reducible refine CU (JT _ _) ?_)
 |(with_reducible refine CU (zm) ?_)
 |(with_reducible refine CU (cL) ?_)
 | (with_reducible refine aX hQ ?_; exact bK))
       (refine dI hQ ?_; simp only[bZ, cd, dn, dq, go_sem])
       exact ⟨y9, _, _, JU, h9.sub ic, nc.back _ _ _⟩
   · have bo : (it.s.x.op != 0) = false := by rw [o2 (by simp [Sm.sU, hk, bh])]; rfl
     obtain ⟨s8, cE, h8⟩ := xb h6 hS.W (by dsimp only; omega) it.s.id []
     have zm : ay Tryz.prog 54 [.ptr y.c 0, .int .i64 it.s.id, .slice .full 0 []] _ (.tuple []) s8 := bk.mT (.cons (Wk.refl _) (.cons (Wk.refl _) (.cons AJ .nil))) cE
     have hg : ({ m with steps := m.steps + 1 } : Mc).fP W it.s = (0, ({ m with steps := m.steps + 1 } : Mc).event W it.s.id []) := by unfold Mc.fP; rw[if_neg (by simp[bh])]
     have he := dV W ({ m with steps := m.steps + 1 } : Mc) it.s.id []
     have ZN : vm p (({ m with steps := m.steps + 1 } : Mc).event W it.s.id []) fr r := ⟨by rw[he.1]; exact hF.st, hF.len, hF.names, hF.vars, by rw[he.2.1]; exact hF.cells, hF.pc⟩
     have hE8 := Wx hS.ok hS.right (Wy.of he.1 (by rw[he.2.1]; exact zak _) Wy.at_) (by rw[he.1]; dsimp only; omega) (fr := fr) (r := r) ⟨by rw[he.1]; exact kn.st, kn.len, kn.names, kn.vars⟩
     obtain ⟨y9, s9, cL, h9, JU⟩ := Fj h8 ZN hE8 0
     rw[hg]
     rw[if_pos (by rw[he.2.2.1]; simp[hA.fin])]
     refine bk.jO eO.h rfl fun B Q hB hQ =>?_
     have ⟨hD, hZ, gC, gD⟩ := bc
     repeat' (first
 |simp only[go_sem, hD, hZ, gC, gD, gV, k2, ba, hm, hl, bf, ow, Ds, k0, zf, jZ, j8, iG, b4, b9, bh, bo]
 |(with_reducible refine CU (c1) ?_)
 |(with_reducible refine CU (cI _) ?_)
 |(with_reducible refine CU (zm) ?_)
 |(with_reducible refine CU (cL) ?_)
 |(with_reducible refine aX hQ ?_; exact bK))
     (refine dI hQ ?_; simp only[bZ, cd, dn, dq, go_sem])
     exact ⟨y9, _, _, JU, h9.sub ic, nc.back _ _ _⟩
 rw[if_neg (by simp[b9])]
 have Ol := anY hS.ok hS.right hx iJ sb h5 h2 h3 (by simpa using b4) (by simpa using b9)
 have k4 : it.s.kind ≠ 4 := by simpa using b4
 have k9 : it.s.kind ≠ 9 := by simpa using b9
 rcases zaa (it.s.kind == 2) with b2|b2
 · have hk : it.s.kind = 2 := by simpa using b2
   have bo : (it.s.x.op != 0) = false := by rw[o2 (by simp[Sm.sU, hk])]; rfl
   cases e : T[m.reads.toNat]? with
   | none =>
     have hle := zbC.1 e
     have bt : (((T.length : Nat) : Int) == m.reads) = true := by simp; omega
     rw[alj (m := { m with steps := m.steps + 1 }) hk e, if_neg (by simp)]
     have h8 := h6.nJ (m' := { m with steps := m.steps + 1, fin := 3 }) rfl rfl h6.t0 h6.t1
     simp only[gF]at h8
     refine bk.jO eO.h rfl fun B Q hB hQ =>?_
     have ⟨hD, hZ, gC, gD⟩ := bc
     repeat' (first
 |simp only[go_sem, hD, hZ, gC, gD, gV, k2, ba, hm, hl, bf, ow, Ds, k0, zf, jZ, j8, iG, b4, b9, b2, bo, bt, MQ, QW]
 |(with_reducible refine CU (c1) ?_)
 |(with_reducible refine CU (cI _) ?_)
 | (with_reducible refine aX hQ ?_; exact bK))
     (refine dI hQ ?_; simp only[bZ, cd, dn, dq, go_sem])
     exact ⟨y, a, _, rfl, h8.sub ic, by simp[nc], Fk.refl _⟩
   | some tv =>
     have Bz := (zac.1 e).1
     have bt : (((T.length : Nat) : Int) == m.reads) = false := by simp; omega
     have Mx := hS.TL
     have w1 : IntKind.wrap .i64 (m.reads + 1) = m.reads + 1 := dE (by omega) (by omega)
     have w2 : IntKind.wrap .i64 (m.reads + 1 - 1) = m.reads := by rw[show m.reads + 1 - 1 = m.reads by omega]; exact dE (by omega) (by omega)
     have r0 : (0 ≤ m.reads) = True := by simp[adi.1]
     rw[ahc (m := { m with steps := m.steps + 1 }) hk e]
     have h8 := h6.nJ (m' := { m with steps := m.steps + 1, reads := m.reads + 1 }) rfl rfl h6.t0 h6.t1
     have hm8 := h8.fi
     have z8 := (h8.loc _ (zaz ..)).1
     have ZN : vm p ({ m with steps := m.steps + 1, reads := m.reads + 1 } : Mc) fr r := ⟨hF.st, hF.len, hF.names, hF.vars, hF.cells, hF.pc⟩
     simp only[gF]at h8 hm8 z8
     obtain ⟨y9, s9, cD, h9, JU⟩ := QM h8 ZN Ol hS.W (by dsimp only; omega) (by dsimp only; omega) tv
     refine bk.jO eO.h rfl fun B Q hB hQ =>?_
     have ⟨hD, hZ, gC, gD⟩ := bc
     repeat' (first
 |simp only[go_sem, hD, hZ, gC, gD, gV, k2, ba, hm, hl, bf, ow, Ds, k0, zf, jZ, j8, iG, b4, b9, b2, bo, bt, MQ, QW, w1, w2, r0, e, hm8, z8]
 |(with_reducible refine CU (c1) ?_)
 |(with_reducible refine CU (cI _) ?_)
 |(with_reducible refine CU (cD) ?_)
 |(with_reducible refine aX hQ ?_; exact bK))
     (refine dI hQ ?_; simp only[bZ, cd, dn, dq, go_sem])
     exact ⟨y9, _, _, JU, h9.sub ic, nc.fin (by rw[Ln]; exact hA.fin)⟩
 have k2' : it.s.kind ≠ 2 := by simpa using b2
 by_cases hj : it.s.kind = 7 ∨ it.s.kind = 8 ∨ it.s.kind = 10
 · have bo : (it.s.x.op != 0) = false := by rw [o2 (by rcases hj with hk | hk | hk <;> simp [Sm.sU, hk])]; rfl
   rw[ahb hj 0]
   obtain ⟨y9, s9, cD, h9, JU⟩ := QM h6 hF7 Ol hS.W (by dsimp only; omega) (by dsimp only; omega) 0
   refine bk.jO eO.h rfl fun B Q hB hQ =>?_
   have ⟨hD, hZ, gC, gD⟩ := bc
   repeat' (first
 |simp only[go_sem, hD, hZ, gC, gD, gV, k2, ba, hm, hl, bf, ow, Ds, k0, zf, jZ, j8, iG, b4, b9, b2, bo]
 |(with_reducible refine CU (c1) ?_)
 |(with_reducible refine CU (cI _) ?_)
 |(with_reducible refine CU (cD) ?_)
 | (with_reducible refine aX hQ ?_; exact bK))
   (refine dI hQ ?_; simp only[bZ, cd, dn, dq, go_sem])
   exact ⟨y9, _, _, JU, h9.sub ic, nc.fin (by rw[Ln]; exact hA.fin)⟩
 have hk : it.s.kind = 1 ∨ it.s.kind = 3 ∨ it.s.kind = 5 ∨ it.s.kind = 6 := by omega
 have ze := o1 (by rcases hk with hk|hk|hk|hk<;>simp[Sm.sU, hk])
 have bo : (it.s.x.op != 0) = true := by simpa using ZM ze
 have JT := cW ze
 cases Cm : (({ m with steps := m.steps + 1 } : Mc).bE it.s.x).1 with
 |mk w ok =>
 rw[Cm]at JT
 simp only[qc]at JT
 cases ok
 · have e2 : (({ m with steps := m.steps + 1 } : Mc).bE it.s.x).1.2 = false := by rw [Cm]
   rw[ali hk e2, if_neg (by simp)]
   have h8 := h7.nJ (m' := { m with steps := m.steps + 1, fin := 4 }) rfl rfl h7.t0 h7.t1
   simp only[gF]at h8
   refine bk.jO eO.h rfl fun B Q hB hQ =>?_
   have ⟨hD, hZ, gC, gD⟩ := bc
   repeat' (first
 |simp only[go_sem, hD, hZ, gC, gD, gV, k2, ba, hm, hl, bf, ow, Ds, k0, zf, jZ, j8, iG, bo, QX, q3, MQ, QW]
 |(with_reducible refine CU (c1) ?_)
 |(with_reducible refine CU (cI _) ?_)
 |(with_reducible refine CU (cV) ?_)
 |(with_reducible refine CU (JT _ _) ?_)
 | (with_reducible refine aX hQ ?_; exact bK))
   (refine dI hQ ?_; simp only[bZ, cd, dn, dq, go_sem])
   exact ⟨y, a, _, rfl, h8.sub ic, by simp[nc], Fk.refl _⟩
 · have e2 : (({ m with steps := m.steps + 1 } : Mc).bE it.s.x).1.2 = true := by rw [Cm]
   rw[adj hk e2, Cm]
   obtain ⟨y9, s9, cD, h9, JU⟩ := QM h7 hF7 Ol hS.W (by dsimp only; omega) (by dsimp only; omega) w
   refine bk.jO eO.h rfl fun B Q hB hQ =>?_
   have ⟨hD, hZ, gC, gD⟩ := bc
   repeat' (first
 |simp only[go_sem, hD, hZ, gC, gD, gV, k2, ba, hm, hl, bf, ow, Ds, k0, zf, jZ, j8, iG, b4, b9, b2, bo, QX, q3, MQ, QW]
 |(with_reducible refine CU (c1) ?_)
 |(with_reducible refine CU (cI _) ?_)
 |(with_reducible refine CU (cV) ?_)
 |(with_reducible refine CU (JT _ _) ?_)
 |(with_reducible refine CU (cD) ?_)
 | (with_reducible refine aX hQ ?_; exact bK))
   (refine dI hQ ?_; simp only[bZ, cd, dn, dq, go_sem])
   exact ⟨y9, _, _, JU, h9.sub ic, nc.fin (by rw[Ln]; exact hA.fin)⟩
end
end Go.Abs
namespace Go.Abs
theorem Rel.arw {M:Map} {s:St} {w:World} (r:Rel M s w) (o i z':Nat) {z:Nat} {cs:List D} (hc:s.ag[o]? = some cs) (hi:cs[i]? = some (.slice .full z [])) :
 Rel (M.eY s.au.length none) ⟨s.ag.set o (cs.set i (.slice (.tok s.au.length) z' [])),s.au++ [some 0]⟩ w∧Le M s (M.eY s.au.length none) ⟨s.ag.set o (cs.set i (.slice (.tok s.au.length) z' [])),s.au++ [some 0]⟩∧
 Ext M s w (M.eY s.au.length none) ⟨s.ag.set o (cs.set i (.slice (.tok s.au.length) z' [])),s.au++ [some 0]⟩ w:=by
 obtain⟨r',le⟩:=r.blank
 have OC:Le M s (M.eY s.au.length none) ⟨s.ag.set o (cs.set i (.slice (.tok s.au.length) z' [])),s.au++ [some 0]⟩:=⟨le.G,by simp,le.loc,le.t,le.tk⟩
 have OD:Le (M.eY s.au.length none) {s with au:=s.au++ [some 0]} (M.eY s.au.length none) ⟨s.ag.set o (cs.set i (.slice (.tok s.au.length) z' [])),s.au++ [some 0]⟩:=
  ⟨fun _ _ _ h=>h,by simp,fun _ _=> .refl _,zak _,fun t n' _ e=>⟨n',e,zak _,fun _=>rfl⟩⟩
 refine⟨⟨r'.comm,fun o' ds e=>?_,fun o ho=>r'.kU o (by simpa using ho),fun o o' ho nF=>r'.inj o o' (by simpa using ho) (by simpa using nF),r'.tok,
  fun t b c z o hv e ho=>r'.fL t b c z o hv e (by simpa using ho),r'.gS⟩,OC, ?_⟩
 ·simp only [zaM]at e
  split at e
  ·rename_i ho
   subst ho
   split at e
   ·cases e
    obtain⟨vs,T,g1,g2,g3,g4⟩:=r.obj o cs hc
    refine⟨vs,T,g1,by simpa using g2,g3,fun j d v e1 e2=>?_⟩
    rw[zaM]at e1
    split at e1
    ·rename_i hj
     subst hj
     split at e1
     ·cases e1
      exact((g4 i _ v hi e2).own (z':=z')).mono OD
     ·cases e1
    ·exact(g4 j d v e1 e2).mono OC
   ·cases e
  ·obtain⟨vs,T,g1,g2,g3,g4⟩:=r'.obj o' ds e
   exact⟨vs,T,g1,g2,g3,fun i d v e1 e2=>(g4 i d v e1 e2).mono OD⟩
 ·refine(En (Ext.refl M s w) le).trans ⟨OD,fun _ _ _ _=>rfl,fun o h1 h2=> ?_,fun t b c z hl e=> .inl ⟨hl,c,z,e⟩,fun _ _ h=>(h rfl).elim,zak _,rfl,rfl,rfl⟩
  simp at h2
  exact h1.elim (fun h1=>absurd h2 (Nat.not_lt.2 h1)) fun h1=>(h1 rfl).elim
theorem bk.tR {P:Program} {f:FuncId} {args:List D} {s:St} {Q:D→St→Prop} (o i z':Nat) {z:Nat} {cs:List D} (hc:s.ag[o]? = some cs) (hi:cs[i]? = some (.slice .full z []))
 (h:bk P f args ⟨s.ag.set o (cs.set i (.slice (.tok s.au.length) z' [])),s.au++ [some 0]⟩ Q):bk P f args s Q:=by
 intro M w fH r hd hl ha
 obtain⟨r2,OC,ee⟩:=r.arw o i z' hc hi
 refine(h _ w fH r2 (hd.ext ee) hl fun i d v e1 e2=>(ha i d v e1 e2).mono OC).mono fun e w' ⟨M',d,v,s',h1,h2,h3,h4⟩=>⟨M',d,v,s',h1,h2,ee.trans h3,h4⟩
set_option maxRecDepth 8000
open Go.Proofs
theorem adl {p:Pg} (hR:p.Right) : ∃ (j:Nat) (q:Pc),p.at jq=(j:Int)∧p.procs[j]? = some q∧p.find jq=some q∧q.params.length=0:=by
 have h:=hR.main
 unfold Pg.pZ at h
 cases e:p.find jq with
 |none=>rw[e]at h;cases h
 |some q=>
  rw[e]at h
  obtain⟨j,h1,h2⟩:=Db (k:=0) e
  refine⟨j,q,by simpa[Pg.at]using h1,h2,rfl, ?_⟩
  simp only[decide_eq_false_iff_not]at h
  omega
theorem ahd {p:Pg} (hO:p.gb) (hg:p.jr) {T W:List Int} (hT:T.length<1000000) (hTi : ∀ t∈T,fa t) (hW:W.length<1000000) (fuel:Int) (s:St) :
 ay Tryz.prog 9 [.agg (bG p), .slice .shared 1 (T.map bl), .int .i64 fuel, .slice .shared 1 (W.map bl)] s (.tuple [.agg (fq (ofM p T W fuel).1), .int .i64 (ofM p T W fuel).2]) s:=by
 refine ay.pure ?_ (by simp[D.bJ,D.ok,Tag.ok,fW,gY]) (by simp only[D.ok,D.bJ,Dk];rfl) s
 have cM:=fun s=>acM hO s
 generalize hR:ofM p T W fuel=R
 unfold ofM at hR
 obtain⟨R1,R2⟩:=R
 dsimp only
 unfold S0
 by_cases zi:(decide (fuel<0) ||(decide (fuel > 1000000) || !(p.check.1==0)))=true
 ·rw [if_pos zi]at hR
  cases hR
  simp only[fq,zaj]
  rcases zaa (p.check.1==0)with b3|b3
  ·rw [b3]at cM
   rcases zaa (decide (fuel<0))with b1|b1
   ·refine ay.go og.h rfl fun B Q hB hQ=> ?_
    have⟨hD,hZ,gC,gD⟩:=bc
    exact jn (eK b1 @Bool.not_true) cM
   ·have b2:decide (fuel > 1000000)=true:=by simpa [b1,b3]using zi
    refine ay.go og.h rfl fun B Q hB hQ=>?_
    have⟨hD,hZ,gC,gD⟩:=bc
    exact jn (ly b1 b2 @Bool.not_true) cM
  ·rw [b3]at cM
   refine ay.go og.h rfl fun B Q hB hQ=>?_
   have⟨hD,hZ,gC,gD⟩:=bc
   exact wT @Bool.not_false cM
 rw[if_neg zi]at hR
 simp only[zaD,not_or,zbH,Bool.not_eq_false']at zi
 obtain⟨b1,b2,b3⟩:=zi
 rw[b3]at cM
 have FX:0≤fuel∧fuel≤1000000:=by simp at b1 b2;omega
 obtain⟨mf,Au⟩:=Aj p T W FX.1
 rw[Au]at hR
 simp only[zbo]at hR
 cases hR
 have DR:=HU b3
 have hS:adg p T W fuel:=⟨hO,DR,hW,hT,FX,hg,hTi⟩
 obtain⟨j,q,j1,j2,j3,j4⟩:=adl DR
 have hG:=(uz DR.may).1
 have gk:(((p.globals.length:Nat):Int)*(((8:Nat):Int)+1)≤((aT:Nat):Int))=True:=by simp[aT];omega
 have hz:(gJ [D.int .i64 0] p.globals.length).flatten=(List.replicate p.globals.length (0:Int)).map gj:=by
  generalize p.globals.length=n
  induction n with
  |zero=>rfl
  |succ n ih=>rw[gJ,zbi,ih,List.replicate_succ];rfl
 simp only[bG]at cM
 refine ay.go og.h rfl fun B Q hB hQ=>?_
 have⟨hD,hZ,gC,gD⟩:=bc
 have fin : ∀ (y:Ly) (a:Int) (m:Mc) (s1:St),y.c=3→fz p T W fuel y a m [(1,zh)] s1→m.fin≠0→fq m=fq R1→aJ Tryz.prog B 47 Q04 (fV 0 (kp (iW Tryz.prog B 47 Q05 Q) Q)) [(8, .ptr 1 0),(10, .ptr 3 0)] s1:=by
  intro y a m s1 hy h2 hf hr
  have km:=h2.fi
  rw[gF,hy]at km
  have QB:=(h2.loc (1,zh) (by simp)).1
  simp only at QB
  have ke:=cY QB
  have uh : ∀ r,(s1.ag.set 1 r)[1]? = some r:=fun r=>zaO ke
  have bf:(m.fin==0)=false:=by simpa using hf
  rw[← hr]at hQ
  simp only[fq]at hQ
  refine aJ.fl ?_
  exact iX (ql km QB uh bf)
 have loop : ∀ (N:Nat) (a:Int) (m:Mc) (y:Ly) (s1:St),y.c=3→fz p T W fuel y a m [(1,zh)] s1→QS p T W fuel a m→Mc.go p p.aU.L T W fuel N a m=some R1→aJ Tryz.prog B 47 Q04 (fV 0 (kp (iW Tryz.prog B 47 Q05 Q) Q)) [(8, .ptr 1 0),(10, .ptr 3 0)] s1:=by
  intro N
  induction N with
  |zero=>intro a m y s1 _ _ _ h;cases h
  | succ N ih=>
   intro a m y s1 hy h2 hA lg
   have cS:=adk hS h2 hA
   rw[hy]at cS
   have bf:(m.fin==0)=true:=by simp[hA.fin]
   have km:=h2.fi
   rw[gF,hy]at km
   refine aJ.fl ?_
   refine bT (eK km bf) ?_
   refine CR cS fun d s3 hr3=>?_
   obtain⟨rfl,y3,a3,m3,hy3,h3,gG⟩:=hr3
   refine bT trivial ?_
   simp only[Mc.go]at lg
   rcases e:m.next p p.aU.L T W fuel a with ⟨_|b,m2⟩
   ·rw [e]at lg gG
    obtain rfl:m2=R1:=by simpa using lg
    obtain⟨f1,f2⟩:=gG
    refine aJ.iS ?_ (fin y3 a3 m3 s3 hy3 h3 f1 f2.row)
    simp only[go_sem]
    repeat' (first|exact Ok.out|with_reducible refine ej ?_ ?_)
   ·have hn:=adh hS hA e
    rw[e]at lg gG
    obtain⟨rfl,rfl⟩:=gG
    refine aJ.iS ?_ (ih _ _ y3 s3 hy3 h3 hn lg)
    simp only[go_sem]
    repeat' (first|exact Ok.out|with_reducible refine ej ?_ ?_)
 repeat' (first
 |simp only[go_sem,hD,hZ,gC,gD,b1,b2,zav,gk,hz,bG]
 |(with_reducible refine CU (cM _) ?_)
 |(with_reducible refine aX hQ ?_;exact bK))
 refine bk.tR 3 10 1 rfl rfl ?_
 refine bk.tR 3 11 2 rfl rfl ?_
 simp only[zbt,zbT,zaC,za1,zas,zaV]
 have hm0:(gZ p).mem.length=p.globals.length:=by simp[gZ]
 obtain⟨O,hOe⟩ : ∃ O:List (List D),O = [[.slice .shared 1 (p.globals.map encStr), .slice .shared 5 (p.procs.map bP)],[.int .i64 0, .int .i64 0, .int .i64 0, .slice .full 0 [], .slice .full 0 []], .int .i64 0::(List.replicate p.globals.length 0).map gj,
  [.slice .shared 1 (p.globals.map encStr), .slice .shared 5 (p.procs.map bP), .dr 1 2 0 p.globals.length, .ew 5, .slice .shared 1 (T.map bl), .int .i64 fuel, .slice .shared 1 (W.map bl), .int .i64 0, .int .i64 0, .int .i64 0, .slice (.tok 0) 1 [], .slice (.tok 1) 2 []]]:=⟨_,rfl⟩
 have hi:fz p T W fuel ⟨3,2,0,[], .ew 5⟩ 0 (gZ p) [(1,zh)] ⟨O,[some 0,some 0]⟩:=by
  rw[hOe]
  refine⟨by simp[gF,gZ],rfl,rfl,by simp[gZ], .inl ⟨rfl,rfl⟩,by simp[Ly.own,D.arr],fun x mx=>?_⟩
  rw[zaJ.1 mx]
  exact⟨rfl,by simp[Ly.own,D.arr]⟩
 have hq:=zad j2
 have hms:=(uz DR.may).2.2 q hq
 have s1:=Pc.cb hq
 have s2:=hO.sz
 simp only[Pg.size]at s2
 simp only[Pc.size]at s1
 have s3:=Pc.dk p.procs
 have hE:F2 p (gZ p) q j jq [] []:=⟨j2,j3,by omega,by omega,by omega,by omega,by omega,by simp[gZ],by have:=F3 DR.may hq;omega,by omega,(QF DR.may j2).2 (-1),by simp[j4],by simp[j4],fun i x b _ e=>by simp at e,fun b mb=>by cases mb⟩
 have cN:=MM hi hE (Cf:=List.range p.globals.length) (Mf:=(gZ p).mem) rfl (by simp;omega)
 have hw:iF ([[.slice .shared 1 (p.globals.map encStr), .slice .shared 5 (p.procs.map bP)],[.int .i64 0, .int .i64 0, .int .i64 0, .slice .full 0 [], .slice .full 0 []], .int .i64 0::(List.replicate p.globals.length 0).map gj,
  [.slice .shared 1 (p.globals.map encStr), .slice .shared 5 (p.procs.map bP), .dr 1 2 0 p.globals.length, .slice .full 0 [], .slice .shared 1 (T.map bl), .int .i64 fuel, .slice .shared 1 (W.map bl), .int .i64 0, .int .i64 0, .int .i64 0, .slice (.tok 0) 1 [], .slice (.tok 1) 2 []]] : List (List D)) O:=by
  rw[hOe]
  exact .cons (jM.refl _) (.cons (jM.refl _) (.cons (jM.refl _) (.cons (.cons (Wk.refl _) (.cons (Wk.refl _) (.cons (Wk.refl _) (.cons (Wk.ew _ _) (jM.refl _))))) .nil)))
 refine bk.anC hw ?_
 refine bk.mono (bk.mT (.cons (Wk.refl _) (.cons (Wk.refl _) (.cons (Wk.nil .full 0 6) (.cons (Wk.nil .full 0 1) .nil)))) cN) fun d s2 hr=>?_
 obtain⟨rfl,y2,Ao,h2⟩:=hr
 have Wv:(gZ p).open p (j:Int) [] 0=(eR q.body (-1),{gZ p with st:=⟨(j:Int),p.globals++(q.params.map (·.name))++q.vars,List.range p.globals.length++(List.range q.vars.length).map ((gZ p).mem.length + ·),0⟩::(gZ p).st,mem:=(gZ p).mem++List.replicate q.vars.length 0}):=by
  unfold Mc.open
  rw[zaW,j2]
  simp[Pc.own,Pc.mg]
 have qj:=K5 (m:=gZ p) (qo DR) j2 (l:= []) (call:=0) (by simp[j4]) (by simp) (by simp[gZ]) (by simp[gZ]) (.inl ⟨rfl,rfl⟩)
 unfold runM at Au
 rw[j1]at Au
 dsimp only at Au
 rw[Wv]at Au qj
 dsimp only at Au qj
 have hAt:QS p T W fuel (eR q.body (-1)) {gZ p with st:=⟨(j:Int),p.globals++(q.params.map (·.name))++q.vars,List.range p.globals.length++(List.range q.vars.length).map ((gZ p).mem.length + ·),0⟩::(gZ p).st,mem:=(gZ p).mem++List.replicate q.vars.length 0}:=
  ⟨qj,⟨by simp [gZ],by simp [gZ],by simp [gZ],by simp [gZ],by simp [gZ]⟩,rfl,FX.1,by simp [gZ];omega,fun x mx=>by
   have:x=0:=by
    simp only[gZ,zar,List.mem_replicate]at mx
    rcases mx with mx|mx<;>exact mx.2
   subst this;simp[fa],by simp[gZ]⟩
 generalize ({gZ p with st:=⟨(j:Int),p.globals++(q.params.map (·.name))++q.vars,List.range p.globals.length++(List.range q.vars.length).map ((gZ p).mem.length + ·),0⟩::(gZ p).st,mem:=(gZ p).mem++List.replicate q.vars.length 0} : Mc)=m at *
 generalize eR q.body (-1)=a at *
 refine bT trivial ?_
 refine aJ.iS ?_ (loop _ a m y2 s2 Ao h2 hAt Au)
 simp only[go_sem]
 repeat' (first|exact Ok.out|with_reducible refine ej ?_ ?_)
theorem alp {n:Int} (h:(Lit.int .i64 n).wf=true):fa n:=by
 unfold Lit.wf at h
 simp only[zat,decide_eq_true_eq]at h
 rw[show IntKind.i64.min = -9223372036854775808 by decide,show IntKind.i64.max=9223372036854775807 by decide]at h
 unfold fa;omega
def Vl (m:Mc):Prop:=∀ e∈m.trace,e.2.length≤1
structure ZO (n:Nat) (m m':Mc):Prop where
 trace:m'.trace.length≤m.trace.length+n
 out:m'.out.length≤m.out.length+n
 bq:(∀ e∈m.trace,e.2.length≤1)→∀ e∈m'.trace,e.2.length≤1
theorem ZO.same {m m':Mc} (h1:m'.trace=m.trace) (h2:m'.out=m.out) (n:Nat):ZO n m m':=⟨by rw[h1];omega,by rw[h2];omega,fun h=>by rw[h1];exact h⟩
theorem yi (W:List Int) {m m0:Mc} (h0:m.trace=m0.trace) (id:Int) {bq:List Int} (hl:bq.length≤1) (h : ∀ e∈m0.trace,e.2.length≤1) : ∀ e∈(m.event W id bq).trace,e.2.length≤1:=by
 unfold Mc.event
 split
 ·intro e me
  rcases zar.1 me with me|me
  ·exact h e (by rw[← h0];exact me)
  ·rw[zaJ.1 me];exact hl
 ·rw[h0];exact h
theorem an1 (p:Pg) (L:List Im) (T W:List Int) (m1:Mc) (it:Im) (h1:Vl m1):Vl (m1.do p L T W it).2:=by
 have hw:=iu m1 it.s.x
 have h2:Vl (m1.bE it.s.x).2:=fun e me=>h1 e (by rw[← hw.2.2.2.2.2];exact me)
 have e1 : ∀ id (bq:List Int),bq.length≤1→Vl (m1.event W id bq):=fun id bq hl=>yi W rfl id hl h1
 have e2 : ∀ id (bq:List Int),bq.length≤1→Vl ((m1.bE it.s.x).2.event W id bq):=fun id bq hl=>yi W hw.2.2.2.2.2 id hl h1
 unfold Mc.do
 dsimp only
 split
 ·exact e1 _ _ (by simp)
 split
 ·exact e1 _ _ (by simp)
 split
 ·exact e1 _ _ (by simp)
 split
 ·split
  ·exact h1
  ·exact yi W (m:=({m1 with reads:=m1.reads+1} : Mc).set it.s.name _) (m0:=m1) rfl _ (by simp) h1
 split
 ·split
  ·exact e2 it.s.id [(m1.bE it.s.x).1.1] (by simp)
  split
  ·exact e2 it.s.id [(m1.bE it.s.x).1.1] (by simp)
  split
  ·exact e2 it.s.id [(m1.bE it.s.x).1.1] (by simp)
  split
  ·exact e2 it.s.id [(m1.bE it.s.x).1.1] (by simp)
  ·exact e2 it.s.id [(m1.bE it.s.x).1.1] (by simp)
 ·exact h2
theorem adn (p:Pg) (T W:List Int) (fuel a:Int) (m:Mc):ZO 1 m (m.next p p.aU.L T W fuel a).2:=by
 have hb : ∀ (m1:Mc) (g:Int),(m1.back p.aU.L g).2.trace=m1.trace∧(m1.back p.aU.L g).2.out=m1.out:=fun m1 g=>⟨(vg p.aU.L m1 g).1,(vg p.aU.L m1 g).2.1⟩
 unfold Mc.next
 split
 ·exact .same (hb m 0).1 (hb m 0).2 1
 split
 ·exact⟨Nat.le_succ _,Nat.le_succ _,fun h=>h⟩
 dsimp only
 have ht:({m with steps:=m.steps+1} : Mc).trace=m.trace:=rfl
 have ho:({m with steps:=m.steps+1} : Mc).out=m.out:=rfl
 generalize fp p.aU.L a=it
 generalize ({m with steps:=m.steps+1} : Mc)=m1 at *
 have hw:=iu m1 it.s.x
 have g1 : ∀ m2,Be m1 m2→((∀ e∈m.trace,e.2.length≤1)→∀ e∈m2.trace,e.2.length≤1)→ZO 1 m m2:=fun m2 h hv=>⟨by rw[← ht];exact h.trace,by rw[← ho];exact h.out,hv⟩
 split
 ·refine g1 _ (Fb p W m1 it.s).1 fun h=> ?_
  have h1:=Df it.s.args m1 []
  show ∀ e∈(m1.call p W it.s).2.trace,_
  unfold Mc.call
  generalize Mc.args it.s.args m1 [] = r at *
  obtain⟨o,m3⟩:=r
  dsimp only at h1
  cases o with
  |none=>dsimp only;rw[h1.2,ht];exact h
  | some l=>
   dsimp only
   split
   ·dsimp only;rw[h1.2,ht];exact h
   ·rw [(w8 ..).1]
    exact yi W (h1.2.trans ht) _ (by simp) h
 split
 ·have hg:=Di W m1 it.s
  have hv:(∀ e∈m.trace,e.2.length≤1)→∀ e∈(m1.fP W it.s).2.trace,e.2.length≤1:=fun h=>by
   unfold Mc.fP
   split
   ·dsimp only
    split
    ·exact yi W (hw.2.2.2.2.2.trans ht) _ (by simp) h
    ·rw[hw.2.2.2.2.2,ht];exact h
   ·exact yi W ht _ (by simp) h
  split
  ·have:=hb (m1.fP W it.s).2 (m1.fP W it.s).1
   have k:=g1 _ hg hv
   exact⟨by rw[this.1];exact k.trace,by rw[this.2];exact k.out,fun h=>by rw[this.1];exact k.bq h⟩
  ·exact g1 _ hg hv
 ·refine g1 _ (Ld p p.aU.L T W m1 it) fun h=> ?_
  exact an1 p p.aU.L T W m1 it fun e me=>h e (by rw[← ht];exact me)
theorem ZP (p:Pg) (T W:List Int) (fuel:Int) : ∀ (N:Nat) (a:Int) (m mf:Mc),Mc.go p p.aU.L T W fuel N a m=some mf→ZO N m mf
 | 0,a,m,mf,h=>by cases h
 | N+1,a,m,mf,h=>by
  have k:=adn p T W fuel a m
  simp only[Mc.go]at h
  generalize m.next p p.aU.L T W fuel a=r at *
  obtain⟨o,m2⟩:=r
  cases o with
  |none=>cases h;exact⟨by have:=k.trace;dsimp only at this;omega,by have:=k.out;dsimp only at this;omega,k.bq⟩
  |some b=>
   have k2:=ZP p T W fuel N b m2 mf h
   exact⟨by have:=k.trace;have:=k2.trace;dsimp only at *;omega,by have:=k.out;have:=k2.out;dsimp only at *;omega,fun h=>k2.bq (k.bq h)⟩
theorem ZQ (p:Pg) (T W:List Int) (fuel:Int):(ofM p T W fuel).1.SZ∧∀ e∈(ofM p T W fuel).1.trace,e.2.length≤1:=by
 unfold ofM
 split
 ·exact⟨⟨by simp,by simp,by simp⟩,by simp⟩
 rename_i h
 simp only[zaD,not_or,decide_eq_true_eq]at h
 obtain⟨m,hm⟩:=Aj p T W (fuel:=fuel) (by omega)
 rw[hm]
 show m.SZ∧∀ e∈m.trace,e.2.length≤1
 unfold runM at hm
 dsimp only at hm
 have k:=ZP p T W fuel _ _ _ _ hm
 have ho:=w8 p (gZ p) (p.at jq) [] 0
 have h1:=k.trace
 have h2:=k.out
 rw[ho.1]at h1
 rw[ho.2.1]at h2
 simp only[gZ,zaC]at h1 h2
 have kv:=k.bq (by rw[ho.1];simp[gZ])
 exact⟨⟨by omega,by omega,fun e me=>zbV (kv e me) (by decide)⟩,kv⟩
theorem Te (p:Pg) (T W:List Int) (fuel:Int):(ofM p T W fuel).1.SZ:=(ZQ p T W fuel).1
theorem an2 (p:Pg) (T W:List Int) (fuel:Int) : ∀ e∈(ofM p T W fuel).1.trace,e.2.length≤1:=(ZQ p T W fuel).2
theorem ado (m:Mc):JN m m=true:=by
 unfold JN FY
 simp
abbrev Sm.avS (t:Sm) (l:List Sm):List Sm:=Sm.mY (nR t) l
abbrev Pg.put (p:Pg) (t:Sm):Pg:=p.qb (nR t)
def Sm.JV (v:Sm):Nat:=v.labels.length+v.x.size+Ar.bB v.args
abbrev aeV (t:Sm) (N:Nat):Prop:=∀ l:List Sm,Sm.bB l<N→∀ s:St,ay Tryz.prog 43 [.slice .shared 13 (l.map aO), .agg (aO t)] s (.slice .shared 13 ((Sm.mY (nR t) l).map aO)) s
theorem adp (t:Sm) (ht:t.JV<10000000) {N:Nat} (hN:N<10000000) (ih:aeV t N) (l:List Sm) (hl:Sm.bB l<N+1) :
 ay Tryz.prog 43 [.slice .shared 13 (l.map aO), .agg (aO t)] S0 (.slice .shared 13 ((Sm.mY (nR t) l).map aO)) S0:=by
 have hlen:l.length<10000001:=by have:=Sm.dk l;omega
 have hct:=fun s=>MD (v:=t) ht s
 have hbt:aO t.bare=_:=ep t.bare
 simp only[hbt,Sm.bare,zaj]at hct
 generalize hR:Sm.mY (nR t) l=R
 unfold S0
 refine ay.go Pb.h rfl fun B Q hB hQ=>?_
 have⟨hD,hZ,gC,gD⟩:=bc
 refine bT trivial ?_
 refine aJ.lA 5 13 rfl ?_
 simp only[go_sem,hD,hZ,gC,gD]
 refine dg 1 1 (aJ.ind (ι:=List Sm×Nat×List Sm) (fun i=>l.drop i.2.1=i.1∧i.2.1=i.2.2.length∧i.2.2++Sm.mY (nR t) i.1=R) (fun i=>i.1.length)
  (fun i=> [(3, .ptr 0 0),(5, .slice (.tok 0) 13 (i.2.2.map aO)),(9, .slice .shared 13 (l.map aO)),(10, .int .i64 (l.length:Int)),(11, .int .i64 (i.2.1:Int))])
  (fun i=>⟨[aO t],[some i.2.1]⟩) ?_ (l,0,[]) ⟨rfl,rfl,hR⟩)
 rintro⟨rest,k,acc⟩ ⟨h1,h2,h3⟩ IH
 dsimp only at h1 h2 h3
 subst h2
 cases rest with
 |nil=>
  have hD:=drop_nil h1
  simp only[Sm.mY,zaF]at h3
  subst h3
  exact dR trivial
 | cons y rest=>
  obtain⟨hZ,g2,hD,g4⟩:=drop_cons h1
  have hk:acc.length<4611686018427387904:=by omega
  have dJ:y.size≤N:=by have:=Sm.cb (zad hZ);omega
  obtain⟨id,kind,labels,name,proc,x,has,args,aY,aH⟩:=y
  simp only[Sm.size]at dJ
  have gk:(acc.length+1)*209≤aT:=by simp only[aT];omega
  have Ye:=fun s=>MD (v:=⟨id,kind,labels,name,proc,x,has,args,aY,aH⟩) (by dsimp only;omega) s
  simp only[Sm.bare,ep,zaj]at Ye
  have c1:=ih aY (by omega)
  have c2:=ih aH (by omega)
  simp only[Sm.mY]at h3
  obtain⟨Y,hY⟩ : ∃ Y,Sm.qb (nR t) ⟨id,kind,labels,name,proc,x,has,args,aY,aH⟩=Y:=⟨_,rfl⟩
  rw[hY]at h3
  rw[SH]at hY
  unfold nR at hY
  obtain⟨T,hT⟩ : ∃ T,Sm.mY (nR t) aY=T:=⟨_,rfl⟩
  obtain⟨E,hE⟩ : ∃ E,Sm.mY (nR t) aH=E:=⟨_,rfl⟩
  unfold nR at hT hE
  simp only[hT,hE]at hY
  unfold nR at c1 c2
  rw[hT]at c1
  rw[hE]at c2
  rcases zaa (id==t.id)with b1|b1
  ·rw [if_pos b1]at hY
   subst hY
   repeat' (first
 |simp only[go_sem,hD,hZ,gC,gD,gk,b1]
 |(with_reducible refine CU (Ye _) ?_)
 |(with_reducible refine CU (hct _) ?_)
 |(with_reducible refine CU (c1 _) ?_)
 |(with_reducible refine CU (c2 _) ?_)
 | (with_reducible refine aX hQ ?_;exact bK))
   refine cr 1 1 ?_ ?_ (IH (rest,acc.length+1,acc++ [{t with aY:=T,aH:=E}]) ⟨g2,by simp,by rw[← h3];simp⟩ (zae _))
   ·(simp only[go_sem,hD,hZ,gC,gD,ak hk,ep];try exact aQ)
   ·(simp only[go_sem,hD,hZ,gC,gD,ak hk,ep];try exact aQ)
  ·rw [if_neg (by simp [b1])]at hY
   subst hY
   repeat' (first
 |simp only[go_sem,hD,hZ,gC,gD,gk,b1]
 |(with_reducible refine CU (Ye _) ?_)
 |(with_reducible refine CU (hct _) ?_)
 |(with_reducible refine CU (c1 _) ?_)
 |(with_reducible refine CU (c2 _) ?_)
 | (with_reducible refine aX hQ ?_;exact bK))
   refine cr 1 1 ?_ ?_ (IH (rest,acc.length+1,acc++ [⟨id,kind,labels,name,proc,x,has,args,T,E⟩]) ⟨g2,by simp,by rw[← h3];simp⟩ (zae _))
   ·(simp only[go_sem,hD,hZ,gC,gD,ak hk];try exact aQ)
   ·(simp only[go_sem,hD,hZ,gC,gD,ak hk];try exact aQ)
theorem ahe (t:Sm) (ht:t.JV<10000000) : ∀ N,N<10000000→aeV t N:=by
 intro N
 induction N with
 |zero=>intro _ l hl;exact absurd hl (zaT _)
 |succ N ih=>
  intro hN l hl s
  exact(adp t ht (by omega) (ih (by omega)) l hl).pure (by simp[D.bJ,D.ok,Tag.ok,pB,nN]) (by simp[D.bJ,D.ok,Tag.ok,pB]) s
theorem als {t:Sm} (ht:t.JV<10000000) {l:List Sm} (h:Sm.bB l<9000000) (s:St):ay Tryz.prog 43 [.slice .shared 13 (l.map aO), .agg (aO t)] s (.slice .shared 13 ((Sm.mY (nR t) l).map aO)) s:=
 ahe t ht 9999999 (by omega) l (by omega) s
theorem an3 {p:Pg} (hp:p.size<1000000) {t:Sm} (ht:t.JV<10000000) (st:St):ay Tryz.prog 21 [.agg (bG p), .agg (aO t)] st (.agg (bG (p.put t))) st:=by
 refine ay.pure ?_ (by simp[D.bJ,D.ok,fW,nN]) (by simp[D.ok,fW]) st
 obtain⟨globals,procs⟩:=p
 simp only[Pg.size]at hp
 have hlen:procs.length<1000000:=by have:=Pc.dk procs;omega
 have hG:=fun s=>FV (l:=globals) (by omega) s
 have e:Pg.qb (nR t) ⟨globals,procs⟩ = ⟨globals,procs.map (Pc.qb (nR t))⟩:=rfl
 show ay _ _ _ _ (.agg (bG (Pg.qb (nR t) ⟨globals,procs⟩))) _
 rw[e]
 generalize hR:procs.map (Pc.qb (nR t))=R
 unfold S0
 refine ay.go O6.h rfl fun B Q hB hQ=>?_
 have⟨hD,hZ,gC,gD⟩:=bc
 repeat' (first
 |simp only[go_sem,hD,hZ,gC,gD]
 |(with_reducible refine CU (hG _) ?_)
 |(with_reducible refine aX hQ ?_;exact bK))
 refine aJ.tR 3 1 5 rfl rfl ?_
 simp only[go_sem,hD,hZ,gC,gD]
 refine dg 4 1 (aJ.ind (ι:=List Pc×Nat×List Pc) (fun i=>procs.drop i.2.1=i.1∧i.2.1=i.2.2.length∧i.2.2++i.1.map (Pc.qb (nR t))=R) (fun i=>i.1.length)
  (fun i=> [(3, .ptr 1 0),(4, .ptr 2 0),(5, .ptr 3 0),(14, .slice .shared 5 (procs.map bP)),(15, .int .i64 (procs.length:Int)),(16, .int .i64 (i.2.1:Int))])
  (fun i=>⟨[bG ⟨globals,procs⟩,aO t,bG pg0,[.slice .shared 1 (globals.map encStr), .slice (.tok 0) 5 (i.2.2.map bP)]],[some i.2.1]⟩) ?_ (procs,0,[]) ⟨rfl,rfl,hR⟩)
 rintro⟨rest,k,acc⟩ ⟨h1,h2,h3⟩ IH
 dsimp only at h1 h2 h3
 subst h2
 cases rest with
 |nil=>
  have hD:=drop_nil h1
  simp only[zaj,zaF]at h3
  subst h3
  exact dR trivial
 | cons y rest=>
  obtain⟨hZ,g2,hD,g4⟩:=drop_cons h1
  have dJ:=Pc.cb (zad hZ)
  obtain⟨name,params,vars,body,fin⟩:=y
  simp only[Pc.size]at dJ
  have hk:acc.length<4611686018427387904:=by omega
  have gk:(acc.length+1)*113≤aT:=by simp only[aT];omega
  have c1:=fun s=>FV (l:=vars) (by omega) s
  have c2:=fun s=>FV (l:=fin) (by omega) s
  have c3:=fun s=>als ht (l:=body) (by omega) s
  have e2:Pc.qb (nR t) ⟨name,params,vars,body,fin⟩ = ⟨name,params,vars,Sm.mY (nR t) body,fin⟩:=rfl
  cases params with
  |nil=>
   have ha:=fun o T=>ub (size:=2) (bytes:=24) (z:=0) (z':=2) (g:= .shared) o T
   repeat' (first
 |simp only[go_sem,hD,hZ,gC,gD,gk,ha]
 |(with_reducible refine CU (c1 _) ?_)
 |(with_reducible refine CU (c2 _) ?_)
 |(with_reducible refine CU (c3 _) ?_)
 | (with_reducible refine aX hQ ?_;exact bK))
   refine cr 4 1 ?_ ?_ (IH (rest,acc.length+1,acc++ [Pc.qb (nR t) ⟨name,[],vars,body,fin⟩]) ⟨g2,by simp,by rw[← h3];simp⟩ (zae _))
   ·(simp only[go_sem,hD,hZ,gC,gD,ak hk,e2];try exact aQ)
   ·(simp only[go_sem,hD,hZ,gC,gD,ak hk,e2];try exact aQ)
  |cons q params=>
   have ha:=fun o T=>tZ (size:=2) (bytes:=24) (rows:=(q::params).map fc) (by simp) (by simp only[zau];unfold aT;omega) (z:=0) (g:= .shared) o T
   generalize q::params=ps at *
   repeat' (first
 |simp only[go_sem,hD,hZ,gC,gD,gk,ha]
 |(with_reducible refine CU (c1 _) ?_)
 |(with_reducible refine CU (c2 _) ?_)
 |(with_reducible refine CU (c3 _) ?_)
 | (with_reducible refine aX hQ ?_;exact bK))
   refine cr 4 1 ?_ ?_ (IH (rest,acc.length+1,acc++ [Pc.qb (nR t) ⟨name,ps,vars,body,fin⟩]) ⟨g2,by simp,by rw[← h3];simp⟩ (zae _))
   ·(simp only[go_sem,hD,hZ,gC,gD,ak hk,e2];try exact aQ)
   ·(simp only[go_sem,hD,hZ,gC,gD,ak hk,e2];try exact aQ)
def au6:List D:= [.junk, .junk, .junk, .junk, .junk]
abbrev au7 (procs:List Pc) (k:Int):Tm:= [(3, .ptr 1 0),(4, .ptr 2 0),(5, .ptr 3 0),(14, .slice .shared 5 (procs.map bP)),(15, .int .i64 (procs.length:Int)),(16, .int .i64 k)]
abbrev au8 (l:List Pc):List D:= .int .i64 ((l.length - 1:Nat):Int)::(l.map bP).flatten
def Pt {α:Type} (o:Option α) (Q:α→Prop):Prop:=∀ a,o=some a→Q a
structure arx (a b:Rd):Prop where
 l:b.l=a.l
 n:b.n=a.n
 g:b.good=true→a.good=true
def SmK (r0:Rd) (p:Sm×Rd):Prop:=arx r0 p.2∧p.1.aY = []∧p.1.aH = []
structure Num (r:Rd) (k:Nat) (r':Rd):Prop where
 l:r'.l=r.l
 g:r'.good=true→r.good=true
 n:r'.good=true→k=r'.n
 le:r'.good=true→r.n≤200→r'.n≤200
theorem an4:(⟨-1,0,[],[],[],sM,false,[],[],[]⟩:Sm).JV<10000000:=by decide
def F4:Sm:=⟨-1,0,[],[],[],sM,false,[],[],[]⟩
theorem alu:aO F4 = [.int .i64 (-1), .int .i64 0, .slice .shared 1 [], .str [], .str [], .int .i64 0, .int .i64 0, .str [], .slice .shared 4 [], .bool false, .slice .shared 6 [], .slice .shared 13 [], .slice .shared 13 []]:=rfl
theorem alv {p:Pg} (hp:p.size<1000000) (st:St):ay Tryz.prog 7 [.agg (bG p)] st (.agg (bG (p.put F4))) st:=by
 refine ay.pure ?_ (by simp[D.bJ,D.ok,fW]) (by simp[D.ok,fW]) st
 have h1:=fun s=>an3 hp (t:=F4) an4 s
 have h2 : ∀ s,ay Tryz.prog 21 [.agg (bG p), .agg [.int .i64 (-1), .int .i64 0, .slice .full 0 [], .str [], .str [], .int .i64 0, .int .i64 0, .str [], .slice .full 0 [], .bool false, .slice .full 0 [], .slice .full 0 [], .slice .full 0 []]] s (.agg (bG (p.put F4))) s:=
  fun s=>bk.mT (.cons (Wk.refl _) (.cons (by rw[alu];exact Wk.agg (.cons (Wk.refl _) (.cons (Wk.refl _) (.cons (Wk.nil _ _ _) (.cons (Wk.refl _) (.cons (Wk.refl _) (.cons (Wk.refl _) (.cons (Wk.refl _) (.cons (Wk.refl _) (.cons (Wk.nil _ _ _) (.cons (Wk.refl _) (.cons (Wk.nil _ _ _) (.cons (Wk.nil _ _ _) (.cons (Wk.nil _ _ _) .nil)))))))))))))) .nil)) (h1 s)
 unfold S0
 refine ay.go MW.h rfl fun B Q hB hQ=>?_
 have⟨hD,hZ,gC,gD⟩:=bc
 exact jn trivial h2
mutual
theorem WA {g:Sm→Sm} : ∀ s:Sm,(∀ v∈s.pre,g v=v)→s.qb g=s
 |⟨id,kind,labels,name,proc,x,has,args,aY,aH⟩,h=>by
  rw[SH,h _ (by rw[Sm.mO];exact zaz ..)]
  dsimp only
  rw[wA aY fun v m=>h v (by rw[Sm.mO];exact zan _ (zaK _ m)),wA aH fun v m=>h v (by rw[Sm.mO];exact zan _ (za7 _ m))]
theorem wA {g:Sm→Sm} : ∀ l:List Sm,(∀ v∈Sm.cU l,g v=v)→Sm.mY g l=l
 | [],_=>rfl
 |s::l,h=>by
  simp only[Sm.cU,zar]at h
  simp only[Sm.mY]
  rw[WA s fun v m=>h v (.inl m),wA l fun v m=>h v (.inr m)]
end
theorem ZS {p:Pg} {t:Sm} (h : ∀ v∈p.pre,v.id≠t.id):p.put t=p:=by
 obtain⟨globals,procs⟩:=p
 simp only[Pg.put,Pg.qb]
 congr 1
 conv=>rhs;rw[← List.map_id procs]
 refine zbB fun f hf=>?_
 simp only[Pc.qb,id_eq]
 rw[wA f.body fun v m=>?_]
 have:v.id≠t.id:=h v (by simp only[Pg.pre,zbx,zaG];exact⟨_,⟨f,hf,rfl⟩,m⟩)
 unfold nR
 rw[if_neg (by simpa using this)]
section
variable {p:Pg} {T:List Int} {fuel:Int} {B:gK} {Q:Exit→Tm→St→Prop} {m:Mc} {n q:Nat}
abbrev alw (p:Pg) (T:List Int) (fuel:Int) (g:Tag) (q:Nat):Tm:= [(1, .slice .shared 1 (T.map bl)),(2, .int .i64 fuel),(3, .ptr 0 0),(7, .ptr 1 0),(8, .slice g 1 (T.map bl)),(9, .ptr q 0)]
theorem ahf (hQ:oa 0 0 [(6,none)] (.bool true) ⟨[],[]⟩=Q) (hp:p.jr) (ho:p.gb) (sQ:p.all.length≤1000) (hT : ∀ t∈T,fa t) (Mx:T.length<1000000) (jK:Pg.beq p p=true) (hK:m.out.length<1000000000) {g:Tag} :
 ∀ (d k:Nat) (s:St),k+d=m.out.length→vi p (m.mH n) q (m.nO n) n 0 m.out.length s→aJ Tryz.prog B 101 Q02 (fV 4 (kp (iW Tryz.prog B 101 Q03 Q) Q)) ((67, .int .i64 (m.out.length:Int))::(68, .int .i64 (k:Int))::alw p T fuel g q) s:=by
 have sb:=ho.procs
 have hW:(p8 0 p.all).length<1000000:=by have:=yV 0 p.all;omega
 have c1:=fun s=>VY (p:=p) (by omega) sQ 0 s
 have c2:=fun s=>ahd (T:=T) (W:=p8 0 p.all) ho hp Mx hT hW fuel s
 have c3:=fun s=>aqR (a:=p) (b:=p) (by have:=ho.sz;omega) s
 have c4:=fun g s=>zk (a:=T) (b:=T) (by omega) g s
 have c5:=fun s=>Wl ho sQ (T:=T) Mx fuel s
 have c6:=fun s=>agP (a:=p.whole T fuel) (b:=p.whole T fuel) (Te p T _ fuel) s
 rw[ado]at c6
 rw[jK]at c3
 have eT:(T==T)=true:=by simp
 rw[eT]at c4
 unfold Pg.whole at c5 c6
 generalize ofM p T (p8 0 p.all) fuel=R at *
 obtain⟨r,e⟩:=R
 simp only at c2 c5 c6
 have⟨hD,hZ,gC,gD⟩:=bc
 intro d
 induction d with
 |zero=>
  intro k s hk hj
  have uf:k=m.out.length:=by omega
  subst uf
  have hd:decide ((m.out.length:Int)<(m.out.length:Int))=false:=by simp
  have h0:=hj.p0
  have h1:=hj.p1
  have z0 : ∀ z:List D,(s.ag++ [z])[0]? = some (bG p):=fun z=>by rw[zai (cY h0)];exact h0
  have z1 : ∀ z:List D,(s.ag++ [z])[1]? = some (bG p):=fun z=>by rw[zai (cY h1)];exact h1
  have z2 : ∀ z:List D,(s.ag++ [z])[s.ag.length]? = some z:=fun z=>by simp
  have z3 : ∀ z r:List D,(s.ag++ [z]).set s.ag.length r=s.ag++ [r]:=fun z r=>by simp
  refine aJ.fl ?_
  repeat' (first
 |simp only[go_sem,hD,hZ,gC,gD,hd,h0,h1,z0,z1,z2,z3]
 |(with_reducible refine CU (c1 _) ?_)
 |(with_reducible refine CU (c2 _) ?_)
 |(with_reducible refine CU (c3 _) ?_)
 |(with_reducible refine CU (c4 _ _) ?_)
 |(with_reducible refine CU (c5 _) ?_)
 |(with_reducible refine CU (c6 _) ?_)
 |(with_reducible refine aX hQ ?_;exact bK))
 |succ d ih=>
  intro k s hk hj
  have hd:decide ((k:Int)<(m.out.length:Int))=true:=by simp;omega
  have aV:k<4611686018427387904:=by omega
  have dj:m.out≠ []:=fun e=>by rw[e]at hk;simp at hk
  have hw:=hj.r
  unfold Mc.mH at hw
  rw[if_neg dj]at hw
  obtain⟨g1,g2,l,g3,g4⟩:=hj.Zs (by omega)
  have sh:k<m.out.length:=by omega
  have gT:k+1≤l.length:=by omega
  have h2:=hj.J3 g4 sh g3 78
  refine aJ.fl ?_
  refine bT (BG hd hw g4 sh gT @Nat.mul_one) ?_
  refine aJ.iS ?_ (ih (k+1) _ (by omega) h2)
  simp only[go_sem,ak aV]
  repeat' (first|exact Ok.out|with_reducible refine ej ?_ ?_)
theorem ZT (hQ:oa 0 0 [(6,none)] (.bool true) ⟨[],[]⟩=Q) (hp:p.jr) (ho:p.gb) (sQ:p.all.length≤1000) (hT : ∀ t∈T,fa t) (Mx:T.length<1000000) (jK:Pg.beq p p=true) (hK:m.SZ) {g:Tag} :
 ∀ (d k:Nat) (s:St),k+d=m.trace.length→vi p (m.mH n) q (m.nO n) n m.trace.length m.out.length s→aJ Tryz.prog B 101 Q00 (fV 0 (kp (iW Tryz.prog B 101 Q01 Q) Q)) ((36, .int .i64 (m.trace.length:Int))::(37, .int .i64 (k:Int))::alw p T fuel g q) s:=by
 have⟨hD,hZ,gC,gD⟩:=bc
 have hLb:=hK.trace
 intro d
 induction d with
 | zero=>
  intro k s hk hj
  have uf:k=m.trace.length:=by omega
  subst uf
  have hd:decide ((m.trace.length:Int)<(m.trace.length:Int))=false:=by simp
  have l0:=ahf (B:=B) (fuel:=fuel) (q:=q) (n:=n) (g:=g) hQ hp ho sQ hT Mx jK hK.out m.out.length 0 s (by omega) ⟨hj.p0,hj.p1,hj.r,hj.len,fun h=>absurd h (by omega),hj.Zs⟩
  have hw:=hj.r
  unfold Mc.mH at hw
  refine aJ.fl ?_
  by_cases dj:m.out = []
  ·have e0:m.out.length=0:=by rw [dj];rfl
   rw[if_pos dj]at hw
   rw[e0]at l0
   refine bT (eK hd hw) ?_
   refine aJ.iS ?_ l0
   simp only[go_sem]
   repeat' (first|exact Ok.out|with_reducible refine ej ?_ ?_)
  ·rw [if_neg dj]at hw
   refine bT (eK hd hw) ?_
   refine aJ.iS ?_ l0
   simp only[go_sem]
   repeat' (first|exact Ok.out|with_reducible refine ej ?_ ?_)
 | succ d ih=>
  intro k s hk hj
  have hd:decide ((k:Int)<(m.trace.length:Int))=true:=by simp;omega
  have aV:k<4611686018427387904:=by omega
  have sh:k<m.trace.length:=by omega
  have dj:m.trace≠ []:=fun e=>by rw[e]at hk;simp at hk
  have dL:m.mH n = [.int .i64 m.fin, .int .i64 m.steps, .int .i64 m.reads,if m.out = []then .slice .shared 1 []else .dr 1 n 0 m.out.length, .dr 2 (m.nO n) 0 m.trace.length]:=by unfold Mc.mH;rw[if_neg dj]
  generalize hdO:(if m.out = []then D.slice .shared 1 []else .dr 1 n 0 m.out.length)=dO at dL
  have hw:=hj.r
  rw[dL]at hw
  obtain⟨g1,cells,g2,g3,g4⟩:=hj.atr (by omega)
  obtain⟨⟨x,g5⟩,g6⟩:=g4 k sh
  have gT:k*2+1≤cells.length:=by omega
  have e00:decide ((0:Int)<0)=false:=rfl
  have e01:decide ((0:Int)<1)=true:=rfl
  have ZD:decide ((1:Int)<1)=false:=rfl
  have ia : ∀ o,wB (.dr 1 o 0 1) (.int .i64 0) 1=some (.fK o 0 0):=fun o=>by simp[wB]
  refine aJ.fl ?_
  rcases g6 with g6|⟨o,y,g6,g7⟩
  ·have h2:=hj.eY g2 sh (-5)
   refine bT (Gw hd hw g2 g5 g6 sh @Nat.zero_add) ?_
   refine aJ.fl ?_
   refine bT (OW hd hw g2 g5 g6 sh gT @Nat.zero_add e00 ZD) ?_
   refine aJ.iS ?_ (ih (k+1) _ (by omega) h2)
   simp only[go_sem,ak aV]
   repeat' (first|exact Ok.out|with_reducible refine ej ?_ ?_)
  ·have h2:=hj.K8 g7 77
   have ta:=h2.r
   rw[dL]at ta
   have IS:(s.ag.set o [xu, .int .i64 77])[m.nO n]? = some (xu::cells):=o9 g2 g7 fun e=>by cases e;simp at g3;omega
   have h3:=h2.eY IS sh (-5)
   simp only at ta h3
   have w1:IntKind.wrap .i64 (0+1)=1:=by decide
   have Sp:(s.ag.set o [.int .i64 0, .int .i64 77])[q]? = some _:=ta
   have g8:(s.ag.set o [.int .i64 0, .int .i64 77])[m.nO n]? = some (xu::cells):=IS
   refine bT (DF hd hw g2 g5 g6 g7 sh @Nat.zero_add) ?_
   refine aJ.fl ?_
   refine bT (Vs hd hw g2 g5 g6 g7 sh gT @Nat.zero_add w1 e01 ia) ?_
   refine aJ.fl ?_
   refine bT (Vr hd Sp g8 g5 g6 g7 sh gT @Nat.zero_add e00 ZD) ?_
   refine aJ.iS ?_ (ih (k+1) _ (by omega) h3)
   simp only[go_sem,ak aV]
   repeat' (first|exact Ok.out|with_reducible refine ej ?_ ?_)
end
theorem QZ {s:St} : ∀ (tr:List (Int×List Int)) (a:Nat),(∀ e∈tr,e.2.length≤1)→(∀ (i:Nat) (r:List D),(w9 tr)[i]? = some r→s.ag[a+i]? = some r)→S1 s (vh a tr) tr.length
 | [],a,_,_=>⟨rfl,fun i h=>absurd h (zaT i)⟩
 | (id,[])::tr,a,hv,h=>by
  obtain⟨h1,h2⟩:=QZ tr a (fun e m=>hv e (zan _ m)) h
  refine⟨by simp only[vh,zas,h1];omega,fun i hi=>?_⟩
  cases i with
  |zero=>exact⟨⟨id,rfl⟩, .inl rfl⟩
  |succ i=>
   have:=h2 i (by simpa using hi)
   rw[show(i+1)*2=i*2+1+1 by omega]
   exact this
 | (id,v::vs)::tr,a,hv,h=>by
  have nh:vs = []:=za2 (by have:=hv (id,v::vs) (zaz ..);simp only[zas]at this;omega)
  subst nh
  obtain⟨h1,h2⟩:=QZ (s:=s) tr (a+1) (fun e m=>hv e (zan _ m)) (fun i r e=>by rw[show a+1+i=a+(i+1) by omega];exact h (i+1) r (by simpa[w9]using e))
  refine⟨by simp only[vh,zas,h1];omega,fun i hi=>?_⟩
  cases i with
  |zero=>exact⟨⟨id,rfl⟩, .inr ⟨a,v,rfl,h 0 _ rfl⟩⟩
  |succ i=>
   have:=h2 i (by simpa using hi)
   rw[show(i+1)*2=i*2+1+1 by omega]
   exact this
theorem vi.start {p:Pg} {m:Mc} {n:Nat} {s:St} (hv : ∀ e∈m.trace,e.2.length≤1) (h0:s.ag[0]? = some (bG p)) (h1:s.ag[1]? = some (bG p)) (h : ∀ (i:Nat) (r:List D),(m.lP n)[i]? = some r→s.ag[n+i]? = some r) :
 vi p (m.mH n) s.ag.length (m.nO n) n m.trace.length m.out.length ⟨s.ag++ [m.mH n],s.au⟩:=by
 have left : ∀ {k:Nat} {r:List D},s.ag[k]? = some r→(s.ag++ [m.mH n])[k]? = some r:=fun e=>by rw[zai (cY e)];exact e
 have hO:=Zp m n 0
 rw[zaP]at hO
 have ha1:((if m.out = []then []else [sq (m.out.map gj)]):List (List D)).length+n=m.nO n:=by unfold Mc.nO;split<;>simp<;>omega
 refine⟨left h0,left h1,by simp,rfl,fun hL=>?_,fun hK=>?_⟩
 ·have dj:m.trace≠ []:=fun e=>by rw [e]at hL;simp at hL
  have ha2:m.nT n=m.nO n+1:=by unfold Mc.nT;rw[if_neg dj]
  have e1:s.ag[m.nO n]? = some (sq (vh (m.nT n) m.trace)):=by
   have:=h (m.nO n - n) (sq (vh (m.nT n) m.trace)) (by
    unfold Mc.lP
    rw[zao (by omega),if_neg dj,show m.nO n - n - _=0 by omega];rfl)
   rwa [show n+(m.nO n - n)=m.nO n by omega]at this
  refine⟨by have:=cY e1;omega,vh (m.nT n) m.trace,left e1,QZ m.trace (m.nT n) hv fun i r e=>?_⟩
  refine left ?_
  have:=h (m.nT n+i - n) r (by
   unfold Mc.lP
   rw[zao (by omega),zao (by rw[if_neg dj];simp;omega),if_neg dj, ← e]
   congr 1
   simp;omega)
  rwa [show n+(m.nT n+i - n)=m.nT n+i by omega]at this
 ·have dj:m.out≠ []:=fun e=>by rw [e]at hK;simp at hK
  have e1:s.ag[n]? = some (sq (m.out.map gj)):=h 0 _ (by unfold Mc.lP;rw[if_neg dj];rfl)
  exact⟨by have:=cY e1;omega,by unfold Mc.nO;rw[if_neg dj];omega,m.out,rfl,left e1⟩
theorem WB (p:Pg) (hp:p.jr) (T:List Int) (hT : ∀ t∈T,fa t) (fuel:Int) (s:St):ay Tryz.prog 3 [.agg (bG p), .slice .shared 1 (T.map bl), .int .i64 fuel] s (.bool true) s:=by
 refine ay.pure ?_ (by simp[D.bJ,D.ok,Tag.ok,fW,gY]) rfl s
 have h1:=fun s=>anL s
 have h2:=fun s=>ajY p s
 unfold S0
 rcases zaa (decide (p.FQ≤20000))with hw|hw
 case inr=>
  simp only[hw]at h2
  refine ay.go kC.h rfl fun B Q hB hQ=>?_
  have⟨hD,hZ,gC,gD⟩:=bc
  exact DG trivial h1 h2
 simp only[hw]at h2
 obtain⟨dJ,an5⟩:=VZ (of_decide_eq_true hw)
 have ho:p.gb:=⟨an5,by omega⟩
 have h3:=fun s=>agT ho T fuel s
 rcases zaa (p.check.1==0 && (decide (0≤fuel) && (decide (fuel≤400) && decide ((T.length:Int)≤100))))with hs|hs
 case inr=>
  simp only[hs]at h3
  refine ay.go kC.h rfl fun B Q hB hQ=>?_
  have⟨hD,hZ,gC,gD⟩:=bc
  exact zN trivial h1 h2 h3
 simp only[hs]at h3
 simp only[zat,decide_eq_true_eq]at hs
 obtain⟨b3,f1,f2,f3⟩:=hs
 have b1:decide (fuel<0)=false:=by simp;omega
 have b2:decide (fuel > 1000000)=false:=by simp;omega
 obtain⟨m,hm⟩:=Aj p T (p8 0 p.all) f1
 have hR:=HU b3
 have hb:=hR.may
 have sQ:p.all.length≤1000:=by have:=(vJ hb).1;omega
 have ary:p.put F4=p:=ZS fun v m e=>by
  obtain⟨i,hi⟩:=zbM m
  have h1:=EO hb hi
  have h2:F4.id = -1:=rfl
  omega
 have h4:=fun s=>alv (p:=p) (by omega) s
 rw[ary]at h4
 have Au:(ofM p T (p8 0 p.all) fuel).1=m:=by
  unfold ofM
  rw[if_neg,hm];rfl
  simp[b1,b2,b3]
 have hlen:=Te p T (p8 0 p.all) fuel
 have xB:=an2 p T (p8 0 p.all) fuel
 rw[Au]at hlen xB
 have jK:=Pg.beq_refl p
 have c5:=fun s=>acW ho sQ (by omega) b1 b2 b3 hm s
 obtain⟨g,ts,dc⟩ : ∃ (g:Tag) (ts:List (Option Nat)),∀ os,fS 1 8 (.slice .full 1 []) (.slice .shared 1 (T.map bl)) ⟨os,[]⟩=some (.slice g 1 (T.map bl),⟨os,ts⟩):=by
  cases T with
  |nil=>exact⟨.full,[],fun os=>ub os []⟩
  |cons x T=>exact⟨_,_,fun os=>tZ (by simp) (by simp only[zau];simp at f3;unfold aT;simp;omega) os []⟩
 refine ay.go kC.h rfl fun B Q hB hQ=>?_
 have⟨hD,hZ,gC,gD⟩:=bc
 repeat' (first
 |simp only[go_sem,hD,hZ,gC,gD,dc]
 |(with_reducible refine CU (h1 _) ?_)
 |(with_reducible refine CU (h2 _) ?_)
 |(with_reducible refine CU (h3 _) ?_)
 |(with_reducible refine CU (h4 _) ?_)
 |(with_reducible refine aX hQ ?_;exact bK))
 refine CR (c5 _) fun d s2 hd=>?_
 obtain⟨n,rfl,hn,_,hold,jb⟩:=hd
 have hJ:=vi.start xB (hold 0 _ rfl) (hold 1 _ rfl) jb
 have z1 : ∀ z r:List D,(s2.ag++ [z]).set s2.ag.length r=s2.ag++ [r]:=fun z r=>by simp
 have z2 : ∀ z:List D,(s2.ag++ [z])[s2.ag.length]? = some z:=fun z=>by simp
 have l0:=ZT (B:=B) (fuel:=fuel) (q:=s2.ag.length) (n:=n) (g:=g) hQ hp ho sQ hT (by omega) jK hlen m.trace.length 0 _ (by omega) hJ
 by_cases dj:m.trace = []
 ·have e0:m.trace.length=0:=by rw [dj];rfl
  rw[e0]at l0
  have hw:m.mH n = [.int .i64 m.fin, .int .i64 m.steps, .int .i64 m.reads,if m.out = []then .slice .shared 1 []else .dr 1 n 0 m.out.length, .slice .shared 2 []]:=by unfold Mc.mH;rw[if_pos dj]
  generalize (if m.out = []then D.slice .shared 1 []else .dr 1 n 0 m.out.length)=dO at hw
  rw[hw]at l0 ⊢
  refine bT (eK z1 z2) ?_
  refine aJ.iS ?_ l0
  simp only[go_sem]
  repeat' (first|exact Ok.out|with_reducible refine ej ?_ ?_)
 ·have hw:m.mH n = [.int .i64 m.fin, .int .i64 m.steps, .int .i64 m.reads,if m.out = []then .slice .shared 1 []else .dr 1 n 0 m.out.length, .dr 2 (m.nO n) 0 m.trace.length]:=by unfold Mc.mH;rw [if_neg dj]
  generalize (if m.out = []then D.slice .shared 1 []else .dr 1 n 0 m.out.length)=dO at hw
  rw[hw]at l0 ⊢
  refine bT (eK z1 z2) ?_
  refine aJ.iS ?_ l0
  simp only[go_sem]
  repeat' (first|exact Ok.out|with_reducible refine ej ?_ ?_)
end Go.Abs
namespace Go.Abs
def M0:Map:=⟨fun _ _=>none,fun _=>(0, .any),fun _=>none⟩
def Kept (w w':World):Prop:=w.keptBut w' (fun _=>False)∧∀ a:Addr,a.block<w.heap.size→w'.frozen? a=w.frozen? a
theorem Kept.frame {w w':World} (h:Kept w w') (may:MemPlace→Prop):w.keptBut w' may:=World.keptBut_mono (fun _ f=>f.elim) h.1
theorem Ext.alx {M M':Map} {s':St} {w w':World} (e:Ext M S0 w M' s' w'):Kept w w':=by
 have hh : ∀ b,b<w.heap.size→w'.heap[b]? = w.heap[b]? :=fun b hb=>
  e.kept b hb (fun o ho=>by simp[S0]at ho) (fun t c z hl=>by obtain⟨n,hn⟩:=hl;simp[S0]at hn)
 refine⟨⟨e.os,e.output,fun i hi=>?_⟩,fun a ha=>?_⟩
 ·rw [hh i hi]
  exact(World.keptBut_refl w (fun _=>False)).2.2 i hi
 ·simp only[World.frozen?,hh _ ha]
theorem arz (G:Nat→Nat→Option Value) (w:World) (h : ∀ b o v,G b o=some v→w.cell? ⟨b,o,none⟩=some v∧v.oneCell'=true):Rel ⟨G,fun _=>(0, .any),fun _=>none⟩ S0 w:=
 ⟨h,fun o ds e=>by simp [S0]at e,fun o ho=>by simp [S0]at ho,fun o o' ho=>by simp [S0]at ho,fun t n e=>by simp [S0]at e,
  fun t b c z o hl=>by obtain⟨n,hn⟩:=hl;simp[S0]at hn,fun t t' b c z c' z' hl=>by obtain⟨n,hn⟩:=hl;simp[S0]at hn⟩
def WC (w:World):Prop:=∀ g cs,ahk g=some cs→∃ T fr,w.heap[g]? = some (.cells cs T fr)
theorem an6 (G:Nat→Nat→Option Value) {w:World} (h:WC w):Laid ⟨G,fun _=>(0, .any),fun _=>none⟩ S0 w:=
 fun g cs hg=>⟨h g cs hg,fun o ho=>by simp[S0]at ho,fun t c z hl=>by obtain⟨n,hn⟩:=hl;simp[S0]at hn⟩
theorem ZU {P:Program} {f:FuncId} {args:List D} {fH:Array Value} {w:World} {G:Nat→Nat→Option Value} (h:bk P f args S0 fun d _=>d = .bool true)
 (hG : ∀ b o v,G b o=some v→w.cell? ⟨b,o,none⟩=some v∧v.oneCell'=true) (hl:fH.size=args.length)
 (ha : ∀ (i:Nat) (d:D) (v:Value),args[i]? = some d→fH[i]? = some v→RD ⟨G,fun _=>(0, .any),fun _=>none⟩ S0 d v) (kM:WC w) :
 Calls P f fH w fun e w'=>e = .returned (.bool true)∧Kept w w':=by
 refine(h _ w fH (arz G w hG) (an6 G kM) hl ha).mono fun e w' hw=>?_
 obtain⟨M',d,v,s',rfl,rfl,he,_,hv⟩:=hw
 rw[hv.qt]
 exact⟨rfl,he.alx⟩
section
variable {P:Program} {H:Type} {enc:TypeId×Value→H}
theorem Q3 {f:Func} {s:ChangeSpec} {apart fresh handsOn again:Bool} {W W':World} {args:Array Value} {v:Value} {ds gs:List (DataW H)} {before pa pv:List MemPlace}
 (hW:DataW.Whole enc P f.params.toList s.vars apart W args.toList ds gs before)
 (QO : ∀ (b:Nat) (sp:Nat→Bool) (hd:Bool),DataW.TrodAll enc P W' b sp hd f.resultTypes.toList (v.resultList f.resultTypes.size) (s.fn H (ds++gs)).results [])
 (xR : ∀ sp:Nat→Bool,(∀ p∈before,sp p.block=true)→DataW.TrodAll enc P W' 0 sp true f.params.toList args.toList (s.fn H (ds++gs)).args pa)
 (De : ∀ sp:Nat→Bool,(∀ p∈before,sp p.block=true)→DataW.TrodVars enc P W' sp s.vars (s.fn H (ds++gs)).vars pv)
 (oE:before=pa++pv) (hk:Kept W W')
 (qj : ∀ (j:Nat) (t:TypeId) (r:Value),f.resultTypes[j]? = some t→(v.resultList f.resultTypes.size)[j]? = some r→Value.okWide P W' .any 0 t r) :
 s.post enc P f apart fresh handsOn again W args v W':=by
 have hD : ∀ p∈before,p.block<W.heap.size:=fun p hp=>hW.lt p hp
 have hold : ∀ p∈before,(fun b=>decide (b<W.heap.size)) p.block=true:=fun p hp=>by simpa using hD p hp
 refine⟨ds,gs,before,[],pa,pv,hW,QO _ _ _,xR _ hold,De _ hold,World.keptBut_mono (fun p hp=>⟨hp, ?_⟩) (hk.frame (· ∈before)),fun _=>?_⟩
 ·rw [oE,zar]at hp
  exact Or.inr hp
 ·obtain⟨_,_,_,_,_,hz,hn⟩:=hW
  refine⟨qj,_,_,([]++pa)++pv,⟨[]++pa,pv,ChangeShapes.trodAll_append (xR _ (fun _ _=>rfl)) (QO _ _ _),De _ (fun _ _=>rfl),rfl, ?_, ?_⟩, ?_⟩
  ·intro b off hp
   have pG:MemPlace.cell b off∈before:=by rw[oE];simpa using hp
   rw[hk.2 _ (hD _ pG)]
   exact hz b off pG
  ·intro ha
   have:=hn ha
   rw[oE]at this
   simpa using this
  ·intro p hp _
   rw[oE]
   simpa using hp
end
end Go.Abs
namespace Go.Abs
open Go.RowKit Go.ChangeShapes Go.WideShapes
def Fl (w:World) (b o:Nat):Option Value:=
 match w.cell? ⟨b,o,none⟩with
 |some v=>if v.oneCell'=true then some v else none
 |none=>none
theorem Tf {w:World} (b o:Nat) (v:Value) (h:Fl w b o=some v):w.cell? ⟨b,o,none⟩=some v∧v.oneCell'=true:=by
 unfold Fl at h
 split at h
 ·split at h
  ·cases h;exact⟨‹_›, ‹_›⟩
  ·cases h
 ·cases h
def vZ (w:World):Map:=⟨Fl w,fun _=>(0, .any),fun _=>none⟩
theorem Kept.sameAt {w w':World} (h:Kept w w') {p:MemPlace} (hp:p.block<w.heap.size):w.sameAt w' p:=by
 have hk:=h.1.2.2 p.block hp
 cases p with
 | cell b off=>
  simp only[MemPlace.block]at hk hp
  simp only[World.sameAt,World.cell?]
  split at hk
  ·rename_i c t fr c' t' Ap e e'
   rw[e,e']
   simp only[hk.2.2.2 off (fun f=>f)]
  ·rename_i es clock Eg aly e e'
   rw[e,e']
  ·rw[hk]
 | map b=>
  simp only[MemPlace.block]at hk hp
  simp only[World.sameAt]
  split at hk
  ·rename_i c t fr c' t' Ap e e'
   rw[e,e']
   obtain⟨rfl,rfl,hs,hc⟩:=hk
   have:c'=c:=by
    apply Array.ext_getElem?
    intro i
    exact hc i (fun f=>f)
   rw[this]
  ·rename_i es clock Eg aly e e'
   rcases hk with f|⟨rfl,rfl⟩
   ·exact f.elim
   ·rw[e,e']
  ·exact hk
section
variable {P:Program} {H:Type} {enc:TypeId×Value→H} {T:TypeId→Prop}
theorem JW (K:Kids P T) (hz : ∀ {t e:TypeId},T t→P.underlying t=some (.slice e)→0<P.cellsOf e) {W W':World} (hk:Kept W W') {sp:Nat→Bool} :
 ∀ {ts:List TypeId} {vs:List Value} {ds:List (DataW H)} {ps:List MemPlace},(∀ t∈ts,T t)→(∀ p∈ps,p.block<W.heap.size)→(∀ p∈ps,sp p.block=true)→
  DataW.TrodAll enc P W 0 (fun _=>true) true ts vs ds ps→DataW.TrodAll enc P W' 0 sp true ts vs ds ps
 | [],[],[],_,_,_,_,h=>h
 |t::ts,v::vs,d::ds,ps,hT,hD,hs,⟨p,q,⟨n,h1⟩,h2,e⟩=>by
  subst e
  refine⟨p,q,⟨n,DataW.trod_stays K hz (fun f=>by cases f) (hT t (zaz ..)) h1 (fun x hx=>hk.sameAt (hD x (zaK _ hx))) (fun x hx=>hs x (zaK _ hx))⟩, ?_,rfl⟩
  exact JW K hz hk (fun t ht=>hT t (zan _ ht)) (fun x hx=>hD x (za7 _ hx)) (fun x hx=>hs x (za7 _ hx)) h2
 | [],[],_::_,_,_,_,_,h=>h.elim
 | [],_::_,_,_,_,_,_,h=>h.elim
 |_::_,[],_,_,_,_,_,h=>h.elim
 |_::_,_::_,[],_,_,_,_,h=>h.elim
theorem adq (K:Kids P T) (hz : ∀ {t e:TypeId},T t→P.underlying t=some (.slice e)→0<P.cellsOf e) {f:Func} {s:ChangeSpec} {apart fresh handsOn again:Bool} {tb:TypeId} {W W':World} {args:Array Value} {ds gs:List (DataW H)} {before:List MemPlace}
 (hT : ∀ t∈f.params.toList,T t) (hb:P.underlying tb=some .bool) (hr:f.resultTypes = #[tb]) (De:s.vars = []) (hW:DataW.Whole enc P f.params.toList s.vars apart W args.toList ds gs before)
 (xK:s.fn H (ds++gs) = {results:= [.lit (.bool true)],args:=ds}) (hk:Kept W W'):s.post enc P f apart fresh handsOn again W args (.bool true) W':=by
 have hW':=hW
 have hD : ∀ p∈before,p.block<W.heap.size:=fun p hp=>hW.lt p hp
 obtain⟨p,q,hA,hV,rfl,hfz,O3⟩:=hW
 rw[De]at hV
 obtain⟨rfl,rfl⟩:=trodVars_none hV
 simp only[zaF]at hD xK
 refine Q3 (pa:=p) (pv:= []) hW' (fun b sp hd=>?_) (fun sp rS=>?_) (fun sp rS=>?_) rfl hk (ok_one hr rfl (okWide_bool_mk hb _))
 ·rw [zaF,xK,hr]
  exact trodAll_cons_mk (shut_bool hb _) trodAll_mk0
 ·rw [zaF,xK]
  simp only[zaF]at rS
  exact JW K hz hk hT hD rS hA
 ·rw [zaF,xK,De]
  rfl
theorem ahh {f:FuncId} {args:List D} {fH:Array Value} {w:World} (h:bk P f args S0 fun d _=>d = .bool true) (hl:fH.size=args.length)
 (ha : ∀ (i:Nat) (d:D) (v:Value),args[i]? = some d→fH[i]? = some v→RD (vZ w) S0 d v) (kM:WC w):Calls P f fH w fun e w'=>e = .returned (.bool true)∧Kept w w':=
 ZU (G:=Fl w) h Tf hl ha kM
end
end Go.Abs
namespace Go.Abs
open Go.Proofs
def su (n:Int):List D:= [.int .i64 n]
theorem an7 (n:Int):D.bJ 0 0 (su n)=true:=rfl
theorem alA (n m:Nat) (l:List Int):D.kY n m (l.map su)=l.map su:=oe an7 n m l
attribute [go_sem] su alA
def an8 (op:Int):aD:=
 if op=5 then [42]else if op=6 then [47]else if op=7 then [37]else if op=8 then [43]else if op=9 then [45]else if op=10 then [60]else if op=11 then [60,61]
 else if op=12 then [62]else if op=13 then [62,61]else if op=14 then [61,61]else if op=15 then [33,61]else if op=16 then [38,38]else [124,124]
def au9 (op:Int):Int:=(ai2 (an8 op)).1
def ZV:Nat→List aD
 | 0=> []
 |n+1=>ZV n++ [[UInt8.ofNat (97+n)]]
end Go.Abs
namespace Go.Abs
open Go.RowKit Go.ChangeShapes Go.WideShapes
theorem ahi {W:World} {a:Addr} {len cap:Nat} {zs:List Int} (hl:len≤cap) (hz:len≤zs.length) (hc : ∀ i,i<zs.length→W.cell? (a.add i)=some (.int .i64 (zs.getD i 0))) :
 RD (vZ W) S0 (.slice .shared 1 ((zs.take len).map su)) (.slice (some a) len cap):=by
 by_cases h0:len=0
 ·subst h0
  exact .lY _ _ _
 ·obtain⟨b,off,rfl,jS⟩:=Go.ints_at hc (by omega)
  have hlen:((zs.take len).map su).length=len:=by simp;omega
  have e:((zs.take len).map su).length=len:=hlen
  have key : ∀ (i:Nat) (row:List D) (j:Nat) (d:D),((zs.take len).map su)[i]? = some row→row[j]? = some d→(vZ W).G b (off+(i*1+j))=some (.int .i64 (zs.getD i 0))∧d = .int .i64 (zs.getD i 0):=by
   intro i row j d h1 h2
   rw[zap,zaw]at h1
   obtain⟨n,h1,rfl⟩:=h1
   rw[zaY]at h1
   split at h1
   ·rename_i hi
    have hd:zs.getD i 0=n:=by rw[zay,h1];rfl
    have lu:i<zs.length:=(zac.1 h1).1
    cases j with
    |zero=>
     simp[su]at h2
     subst h2
     refine⟨?_,by rw[hd]⟩
     have:=jS i lu
     show Fl W b (off+(i*1+0))=_
     unfold Fl
     rw[show off+(i*1+0)=off+i by omega,this]
     rfl
    |succ j=>simp[su]at h2
   ·cases h1
  have:=RD.slice (M:=vZ W) (s:=S0) .shared 1 ((zs.take len).map su) b off cap (by omega) (fun row hr=>by obtain⟨n,_,rfl⟩:=zaG.1 hr;rfl)
   (fun i row j d h1 h2=>⟨_,(key i row j d h1 h2).1⟩) (fun i row j d u h1 h2 hu=>by
    obtain⟨k1,k2⟩:=key i row j d h1 h2
    rw[k1]at hu
    cases hu
    rw[k2]
    exact .int _ _) trivial
  rw[hlen]at this
  exact this
end Go.Abs
namespace Go.Abs
open Go.RowKit Go.ChangeShapes Go.WideShapes
def fY (W:World) (ds:List D) (cs:List Value):Prop:=ds.length=cs.length∧(∀ (i:Nat) (d:D) (v:Value),ds[i]? = some d→cs[i]? = some v→RD (vZ W) S0 d v)∧∀ v∈cs,v.oneCell'=true
theorem fY.one {W:World} {d:D} {v:Value} (h:RD (vZ W) S0 d v) (hv:v.oneCell'=true):fY W [d] [v]:=by
 refine⟨rfl,fun i d' v' h1 h2=>?_,fun u hu=>by simp at hu;subst hu;exact hv⟩
 cases i with
 |zero=>simp at h1 h2;subst h1 h2;exact h
 |succ i=>simp at h1
theorem fY.app {W:World} {ds qi:List D} {cs lq:List Value} (h:fY W ds cs) (h':fY W qi lq):fY W (ds++qi) (cs++lq):=by
 obtain⟨a1,a2,a3⟩:=h
 obtain⟨b1,b2,b3⟩:=h'
 refine⟨by simp[a1,b1],fun i d v h1 h2=>?_,fun v hv=>?_⟩
 ·by_cases hi:i<ds.length
  ·rw [zai hi]at h1
   rw[zai (by omega)]at h2
   exact a2 i d v h1 h2
  ·rw [zao (by omega)]at h1
   rw[zao (by omega), ← a1]at h2
   exact b2 _ d v h1 h2
 ·rcases zar.1 hv with hv | hv
  ·exact a3 v hv
  ·exact b3 v hv
theorem fY.at {W:World} {ds qi:List D} {cs:List Value} {o n:Nat} (h:fY W ds ((cs.drop o).take n)) (h':fY W qi (cs.drop (o+n))):fY W (ds++qi) (cs.drop o):=by
 have e:cs.drop o=(cs.drop o).take n++cs.drop (o+n):=by rw[← List.drop_drop,List.take_append_drop]
 rw[e]
 exact h.app h'
theorem fY.end {W:World} {cs:List Value} {o:Nat} (h:cs.length=o):fY W [] (cs.drop o):=by
 rw[← h,List.drop_length]
 exact⟨rfl,fun i d v h=>by simp at h,fun v hv=>by cases hv⟩
section
variable {H:Type} {enc:TypeId×Value→H} {P:Program} {W:World} {sp:Nat→Bool}
def structOf (P:Program) (t:TypeId):List (TypeId×Nat):=
 match P.underlying t with
 |some (.struct fs)=>fs.toList.map fun f=>(f.type,f.offset)
 |_=> []
theorem oi {t:TypeId} {l:List (TypeId×Nat)} {fuel:Nat} {cs:List Value} {x:DataW H×List MemPlace} (h:structOf P t=l) (dj:l≠ []) (ht:DataW.trod enc P W 0 sp true fuel t cs=some x) :
 ∃ n,fuel=n+1∧cs.length=P.cellsOf t∧∀ (i:Nat) (f:TypeId×Nat),l[i]? = some f→∃ y,DataW.trod enc P W 0 sp true n f.1 ((cs.drop f.2).take (P.cellsOf f.1))=some y:=by
 unfold structOf at h
 split at h
 ·rename_i fs hu
  obtain⟨xs,n,e,_,hl,hlen,hf⟩:=DataW.trod_struct hu ht
  refine⟨n,e,hl,fun i f hi=>?_⟩
  subst h
  rw[zap,zaw]at hi
  obtain⟨g,hg,rfl⟩:=hi
  have Gr:fs[i]? = some g:=by simpa using hg
  have hi:i<xs.length:=by rw[hlen];exact(zaU.1 Gr).1
  exact⟨xs[i],by rw[hf i g Gr,zah hi]⟩
 ·exact absurd h.symm dj
theorem Nr {t:TypeId} {l:List (TypeId×Nat)} (h:structOf P t=l) (dj:l≠ []) : ∃ fs,P.underlying t=some (.struct fs):=by
 unfold structOf at h
 split at h
 ·exact⟨_, ‹_›⟩
 ·exact absurd h.symm dj
theorem G1 {α:Type} {Q:Nat→α→Prop} : ∀ n,(∀ i,i<n→∃ y,Q i y)→∃ ys:List α,ys.length=n∧∀ i y,ys[i]? = some y→Q i y
 | 0,_=>⟨[],rfl,fun i y h=>by simp at h⟩
 | n+1,h=>by
  obtain⟨ys,h1,h2⟩:=G1 n fun i hi=>h i (by omega)
  obtain⟨y,hy⟩:=h n (by omega)
  refine⟨ys++ [y],by simp[h1],fun i z hz=>?_⟩
  by_cases hi:i<ys.length
  ·rw[zai hi]at hz;exact h2 i z hz
  ·rw [zao (by omega)]at hz
   have:i - ys.length=0:=by
    rcases Nat.eq_zero_or_pos (i - ys.length)with h|h
    ·exact h
    ·rw[zbF (by simp only[zas,zaC];omega)]at hz;cases hz
   rw[this]at hz
   simp at hz
   subst hz
   have:i=n:=by omega
   subst this
   exact hy
theorem sv {α:Type} (en:α→List D) (good:α→Prop) {z:Nat} {t e:TypeId} {fuel:Nat} {cs:List Value} {x:DataW H×List MemPlace} (ht:P.underlying t=some (.slice e)) (hz:P.cellsOf e=z) (hz0:0<z) (hen : ∀ y,(en y).length=z)
 (hel : ∀ n<fuel,∀ cs x,DataW.trod enc P W 0 sp true n e cs=some x→∃ y,fY W (en y) cs∧good y) (h:DataW.trod enc P W 0 sp true fuel t cs=some x) :
 ∃ ys:List α,fY W [.slice .shared z (ys.map en)] cs∧∀ y∈ys,good y:=by
 rcases DataW.trod_slice ht h with ⟨rfl,_⟩|⟨a,len,cap,elems,rest,n,hn,rfl,_,hb,hl,hm,hlen,jS,_,_⟩
 ·exact⟨[],fY.one (.jw _ _ _ rfl trivial) rfl,fun y hy=>by cases hy⟩
 ·by_cases h0:len=0
  ·subst h0
   exact⟨[],fY.one (.lY _ _ _) rfl,fun y hy=>by cases hy⟩
  ·obtain⟨ys,hys,CJ⟩:=G1 (Q:=fun i y=>good y∧∃ lq,W.cells? 0 (a.add (i*z)) z=some lq∧fY W (en y) lq) len fun i hi=>by
    have hc:=jS i hi
    rw[zah (by omega),hz,Option.bind_eq_some_iff]at hc
    obtain⟨lq,h1,h2⟩:=hc
    obtain⟨y,h3,h4⟩:=hel n (by omega) _ _ h2
    exact⟨y,h4,lq,h1,h3⟩
   have cell : ∀ i y,ys[i]? = some y→∀ (j:Nat) d,(en y)[j]? = some d→∃ v,W.cell? ((a.add (i*z)).add j)=some v∧RD (vZ W) S0 d v∧v.oneCell'=true:=by
    intro i y hy j d hd
    obtain⟨_,lq,h1,h2,h3,h4⟩:=CJ i y hy
    obtain⟨_,k1,k2⟩:=World.cells?_some h1
    have hj:j<z:=by rw[← hen y];exact(zac.1 hd).1
    have hv:lq[j]? = some lq[j]:=zah (by omega)
    exact⟨lq[j],by rw[k2 j hj,hv],h3 j d _ hd hv,h4 _ (List.getElem_mem _)⟩
   obtain⟨b,off,spot⟩:=a
   have an9:spot=none:=by
    have hy:ys[0]? = some (ys[0]'(by omega)):=zah (by omega)
    obtain⟨d,hd⟩ : ∃ d,(en (ys[0]'(by omega)))[0]? = some d:=⟨_,zah (show 0<(en (ys[0]'(by omega))).length by rw[hen];exact hz0)⟩
    obtain⟨v,hv,_⟩:=cell 0 _ hy 0 _ hd
    have:=World.cell?_spot hv
    simpa[Addr.add]using this
   subst an9
   have e:(ys.map en).length=len:=by simp[hys]
   have:=RD.slice (M:=vZ W) (s:=S0) .shared z (ys.map en) b off cap (by omega) (fun row hr=>by obtain⟨y,_,rfl⟩:=zaG.1 hr;exact hen y)
    (fun i row j d h1 h2=>by
     rw[zap,zaw]at h1
     obtain⟨y,h1,rfl⟩:=h1
     obtain⟨v,hv,_,h4⟩:=cell i y h1 j d h2
     rw[add_plain,add_plain]at hv
     refine⟨v, ?_⟩
     show Fl W b (off+(i*z+j))=_
     unfold Fl
     rw[show off+(i*z+j)=off+i*z+j by omega,hv]
     simp[h4])
    (fun i row j d u h1 h2 hu=>by
     rw[zap,zaw]at h1
     obtain⟨y,h1,rfl⟩:=h1
     obtain⟨v,hv,h3,h4⟩:=cell i y h1 j d h2
     rw[add_plain,add_plain]at hv
     obtain⟨hu,_⟩:=Tf _ _ _ hu
     rw[show off+(i*z+j)=off+i*z+j by omega,hv]at hu
     cases hu
     exact h3) trivial
   rw[e]at this
   refine⟨ys,fY.one this rfl,fun y hy=>?_⟩
   obtain⟨i,hi⟩:=zbM hy
   exact(CJ i y hi).1
theorem JX {t:TypeId} {fuel:Nat} {cs:List Value} {x:DataW H×List MemPlace} (ht:P.underlying t=some (.int .i64)) (h:DataW.trod enc P W 0 sp true fuel t cs=some x) : ∃ n:Int,fY W [.int .i64 n] cs∧n≤9223372036854775807∧ -9223372036854775808≤n:=by
 obtain⟨n,rfl,_,hw⟩:=DataW.trod_int ht h
 simp[Lit.wf,IntKind.min,IntKind.max,IntKind.signed,IntKind.bits]at hw
 exact⟨n,fY.one (.int _ _) rfl,by omega,by omega⟩
theorem Lp {t:TypeId} {fuel:Nat} {cs:List Value} {x:DataW H×List MemPlace} (ht:P.underlying t=some .bool) (h:DataW.trod enc P W 0 sp true fuel t cs=some x) : ∃ b:Bool,fY W [.bool b] cs:=by
 obtain⟨n,rfl,_⟩:=DataW.trod_bool ht h
 exact⟨n,fY.one (.bool _) rfl⟩
theorem zo {t:TypeId} {fuel:Nat} {cs:List Value} {x:DataW H×List MemPlace} (ht:P.underlying t=some .string) (h:DataW.trod enc P W 0 sp true fuel t cs=some x) : ∃ s:aD,fY W (encStr s) cs∧s.length≤maxLen:=by
 obtain⟨s,rfl,_,hm⟩:=DataW.trod_string ht h
 obtain⟨⟨l⟩⟩:=s
 exact⟨l,fY.one (.str l) rfl,hm⟩
theorem aoa {tE tI tN tS tK:TypeId} (hE:structOf P tE = [(tI,0),(tN,1),(tS,2),(tK,3)]) (hEc:P.cellsOf tE=4) (hI:P.underlying tI=some (.int .i64)) (hN:P.underlying tN=some (.int .i64)) (hS:P.underlying tS=some .string) (hK:P.underlying tK=some (.slice tE))
 (cI:P.cellsOf tI=1) (cN:P.cellsOf tN=1) (cS:P.cellsOf tS=1) (cK:P.cellsOf tK=1) :
 ∀ (fuel:Nat) (cs:List Value) (x:DataW H×List MemPlace),DataW.trod enc P W 0 sp true fuel tE cs=some x→∃ y:Ex,fY W (bQ y) cs∧y.jr:=by
 intro fuel
 induction fuel using Nat.strongRecOn with
 | _ fuel ih=>
  intro cs x h
  obtain⟨n,rfl,hl,hf⟩:=oi hE (by simp) h
  obtain⟨y0,h0⟩:=hf 0 _ rfl
  obtain⟨y1,h1⟩:=hf 1 _ rfl
  obtain⟨y2,h2⟩:=hf 2 _ rfl
  obtain⟨y3,h3⟩:=hf 3 _ rfl
  dsimp only at h0 h1 h2 h3
  rw[cI]at h0
  rw[cN]at h1
  rw[cS]at h2
  rw[cK]at h3
  obtain⟨op,r0,_⟩:=JX hI h0
  obtain⟨m,r1,hm,_⟩:=JX hN h1
  obtain⟨s,r2,_⟩:=zo hS h2
  obtain⟨ks,r3,hg⟩:=sv (W:=W) bQ Ex.jr hK hEc (by decide) ad2 (fun k hk cs x hx=>ih k (by omega) cs x hx) h3
  refine⟨⟨op,m,s,ks⟩, ?_,hm, ?_⟩
  ·have:=r0.at (r1.at (r2.at (r3.at (fY.end (by rw [hl,hEc])))))
   rw[jc]
   simpa[encStr]using this
  ·clear r3
   induction ks with
   |nil=>exact trivial
   |cons k ks ihk=>exact⟨hg k (by simp),ihk fun y hy=>hg y (by simp[hy])⟩
theorem fY.agg {ds:List D} {v:Value} (h:fY W ds v.cells.toList) (hv : ∃ vs,v = .agg vs):RD (vZ W) S0 (.agg ds) v:=by
 obtain⟨vs,rfl⟩:=hv
 obtain⟨h1,h2,h3⟩:=h
 have e:(Value.agg vs).cells=vs:=rfl
 rw[e]at h1 h2 h3
 refine .agg ds vs (by simpa using h1) (fun v hv=>h3 v (by simpa using hv)) fun i d v hd hv=>h2 i d v hd (by simpa using hv)
end
end Go.Abs
namespace Go.Abs
open Go.Proofs Go.RowKit Go.ChangeShapes Go.WideShapes
section
variable {H:Type} {enc:TypeId×Value→H} {W:World} {sp:Nat→Bool}
theorem ZW (fuel:Nat) (cs:List Value) (x:DataW H×List MemPlace) (h:DataW.trod enc Tryz.prog W 0 sp true fuel 62 cs=some x) : ∃ y:Ex,fY W (bQ y) cs∧y.jr:=
 aoa (tE:=62) (tI:=3) (tN:=2) (tS:=9) (tK:=60) (by kernel_rfl) (by kernel_rfl) (by kernel_rfl) (by kernel_rfl) (by kernel_rfl) (by kernel_rfl) (by kernel_rfl) (by kernel_rfl) (by kernel_rfl) (by kernel_rfl) _ _ _ h
theorem ahj:Tryz.prog.underlying 22=some (.slice 9):=by kernel_rfl
theorem Co:Tryz.prog.underlying 9=some .string:=by kernel_rfl
theorem ZX:Tryz.prog.underlying 3=some (.int .i64):=by kernel_rfl
theorem Lq:Tryz.prog.underlying 4=some .bool:=by kernel_rfl
theorem Fm:Tryz.prog.cellsOf 9=1:=by kernel_rfl
theorem alE:Tryz.prog.cellsOf 3=1:=by kernel_rfl
theorem Lr:Tryz.prog.cellsOf 4=1:=by kernel_rfl
theorem Ls:Tryz.prog.cellsOf 22=1:=by kernel_rfl
theorem aeW:Tryz.prog.cellsOf 62=4:=by kernel_rfl
theorem Dt {fuel:Nat} {cs:List Value} {x:DataW H×List MemPlace} (h:DataW.trod enc Tryz.prog W 0 sp true fuel 22 cs=some x) : ∃ l:List aD,fY W [.slice .shared 1 (l.map encStr)] cs:=by
 obtain⟨l,h,_⟩:=sv (W:=W) encStr (fun _=>True) ahj Fm (by decide) (fun _=>rfl) (fun k hk cs x hx=>by
  obtain⟨s,hs,_⟩:=zo Co hx
  exact⟨s,hs,trivial⟩) h
 exact⟨l,h⟩
theorem alG {fuel:Nat} {cs:List Value} {x:DataW H×List MemPlace} (h:DataW.trod enc Tryz.prog W 0 sp true fuel 57 cs=some x) : ∃ y:Pm,fY W (fc y) cs:=by
 obtain⟨n,rfl,hl,hf⟩:=oi (l:= [(9,0),(4,1)]) (by kernel_rfl) (by simp) h
 have hc:Tryz.prog.cellsOf 57=2:=by kernel_rfl
 obtain⟨y0,h0⟩:=hf 0 _ rfl
 obtain⟨y1,h1⟩:=hf 1 _ rfl
 dsimp only at h0 h1
 rw[Fm]at h0
 rw[Lr]at h1
 obtain⟨s,r0,_⟩:=zo Co h0
 obtain⟨b,r1⟩:=Lp Lq h1
 refine⟨⟨s,b⟩, ?_⟩
 have:=r0.at (r1.at (fY.end (by rw[hl,hc])))
 simpa[encStr,fc]using this
theorem alH {fuel:Nat} {cs:List Value} {x:DataW H×List MemPlace} (h:DataW.trod enc Tryz.prog W 0 sp true fuel 99 cs=some x) : ∃ y:Ar,fY W (dH y) cs∧y.x.jr:=by
 obtain⟨n,rfl,hl,hf⟩:=oi (l:= [(4,0),(9,1),(62,2)]) (by kernel_rfl) (by simp) h
 have hc:Tryz.prog.cellsOf 99=6:=by kernel_rfl
 obtain⟨y0,h0⟩:=hf 0 _ rfl
 obtain⟨y1,h1⟩:=hf 1 _ rfl
 obtain⟨y2,h2⟩:=hf 2 _ rfl
 dsimp only at h0 h1 h2
 rw[Lr]at h0
 rw[Fm]at h1
 rw[aeW]at h2
 obtain⟨b,r0⟩:=Lp Lq h0
 obtain⟨s,r1,_⟩:=zo Co h1
 obtain⟨e,r2,hr⟩:=ZW _ _ _ h2
 refine⟨⟨b,s,e⟩, ?_,hr⟩
 have:=r0.at (r1.at (r2.at (fY.end (by rw[hl,hc]))))
 rw[jc]at this
 simpa[encStr,dH]using this
theorem Du : ∀ {l:List Sm},(∀ s∈l,s.jr)→Sm.vK l
 | [],_=>trivial
 |s::l,h=>⟨h s (zaz ..),Du fun t m=>h t (zan _ m)⟩
theorem alI : ∀ (fuel:Nat) (cs:List Value) (x:DataW H×List MemPlace),DataW.trod enc Tryz.prog W 0 sp true fuel 65 cs=some x→∃ y:Sm,fY W (aO y) cs∧y.jr:=by
 intro fuel
 induction fuel using Nat.strongRecOn with
 |_ fuel ih=>
  intro cs x h
  obtain⟨n,rfl,hl,hf⟩:=oi (l:= [(3,0),(3,1),(22,2),(9,3),(9,4),(62,5),(4,9),(63,10),(52,11),(52,12)]) (by kernel_rfl) (by simp) h
  have hc:Tryz.prog.cellsOf 65=13:=by kernel_rfl
  have ca:Tryz.prog.cellsOf 63=1:=by kernel_rfl
  have lq:Tryz.prog.cellsOf 52=1:=by kernel_rfl
  have ua:Tryz.prog.underlying 63=some (.slice 99):=by kernel_rfl
  have us:Tryz.prog.underlying 52=some (.slice 65):=by kernel_rfl
  have ca6:Tryz.prog.cellsOf 99=6:=by kernel_rfl
  obtain⟨y0,h0⟩:=hf 0 _ rfl
  obtain⟨y1,h1⟩:=hf 1 _ rfl
  obtain⟨y2,h2⟩:=hf 2 _ rfl
  obtain⟨y3,h3⟩:=hf 3 _ rfl
  obtain⟨y4,h4⟩:=hf 4 _ rfl
  obtain⟨y5,h5⟩:=hf 5 _ rfl
  obtain⟨y6,h6⟩:=hf 6 _ rfl
  obtain⟨y7,h7⟩:=hf 7 _ rfl
  obtain⟨y8,h8⟩:=hf 8 _ rfl
  obtain⟨y9,h9⟩:=hf 9 _ rfl
  dsimp only at h0 h1 h2 h3 h4 h5 h6 h7 h8 h9
  rw[alE]at h0 h1
  rw[Ls]at h2
  rw[Fm]at h3 h4
  rw[aeW]at h5
  rw[Lr]at h6
  rw[ca]at h7
  rw[lq]at h8 h9
  obtain⟨id,r0,_⟩:=JX ZX h0
  obtain⟨kind,r1,_⟩:=JX ZX h1
  obtain⟨labels,r2⟩:=Dt h2
  obtain⟨name,r3,_⟩:=zo Co h3
  obtain⟨proc,r4,_⟩:=zo Co h4
  obtain⟨e,r5,hr⟩:=ZW _ _ _ h5
  obtain⟨b,r6⟩:=Lp Lq h6
  obtain⟨args,r7,ha⟩:=sv (W:=W) dH (fun a=>a.x.jr) ua ca6 (by decide) (fun _=>rfl) (fun k hk cs x hx=>alH hx) h7
  obtain⟨aY,r8,ht⟩:=sv (W:=W) aO Sm.jr us hc (by decide) NA (fun k hk cs x hx=>ih k (by omega) cs x hx) h8
  obtain⟨aH,r9,he⟩:=sv (W:=W) aO Sm.jr us hc (by decide) NA (fun k hk cs x hx=>ih k (by omega) cs x hx) h9
  refine⟨⟨id,kind,labels,name,proc,e,b,args,aY,aH⟩, ?_,hr,ha,Du ht,Du he⟩
  have:=r0.at (r1.at (r2.at (r3.at (r4.at (r5.at (r6.at (r7.at (r8.at (r9.at (fY.end (by rw[hl,hc])))))))))))
  rw[jc]at this
  rw[ep]
  simpa[encStr]using this
theorem alJ {fuel:Nat} {cs:List Value} {x:DataW H×List MemPlace} (h:DataW.trod enc Tryz.prog W 0 sp true fuel 54 cs=some x) : ∃ y:Pc,fY W (bP y) cs∧Sm.vK y.body:=by
 obtain⟨n,rfl,hl,hf⟩:=oi (l:= [(9,0),(51,1),(22,2),(52,3),(22,4)]) (by kernel_rfl) (by simp) h
 have hc:Tryz.prog.cellsOf 54=5:=by kernel_rfl
 have cp:Tryz.prog.cellsOf 51=1:=by kernel_rfl
 have lq:Tryz.prog.cellsOf 52=1:=by kernel_rfl
 have up:Tryz.prog.underlying 51=some (.slice 57):=by kernel_rfl
 have us:Tryz.prog.underlying 52=some (.slice 65):=by kernel_rfl
 have cp2:Tryz.prog.cellsOf 57=2:=by kernel_rfl
 have arB:Tryz.prog.cellsOf 65=13:=by kernel_rfl
 obtain⟨y0,h0⟩:=hf 0 _ rfl
 obtain⟨y1,h1⟩:=hf 1 _ rfl
 obtain⟨y2,h2⟩:=hf 2 _ rfl
 obtain⟨y3,h3⟩:=hf 3 _ rfl
 obtain⟨y4,h4⟩:=hf 4 _ rfl
 dsimp only at h0 h1 h2 h3 h4
 rw[Fm]at h0
 rw[cp]at h1
 rw[Ls]at h2 h4
 rw[lq]at h3
 obtain⟨name,r0,_⟩:=zo Co h0
 obtain⟨ps,r1,_⟩:=sv (W:=W) fc (fun _=>True) up cp2 (by decide) (fun _=>rfl) (fun k hk cs x hx=>by
  obtain⟨y,hy⟩:=alG hx
  exact⟨y,hy,trivial⟩) h1
 obtain⟨vars,r2⟩:=Dt h2
 obtain⟨body,r3,hb⟩:=sv (W:=W) aO Sm.jr us arB (by decide) NA (fun k hk cs x hx=>alI k cs x hx) h3
 obtain⟨fin,r4⟩:=Dt h4
 refine⟨⟨name,ps,vars,body,fin⟩, ?_,Du hb⟩
 have:=r0.at (r1.at (r2.at (r3.at (r4.at (fY.end (by rw[hl,hc]))))))
 simpa[encStr,bP]using this
theorem alK {fuel:Nat} {cs:List Value} {x:DataW H×List MemPlace} (h:DataW.trod enc Tryz.prog W 0 sp true fuel 25 cs=some x) : ∃ y:Pg,fY W (bG y) cs∧y.jr:=by
 obtain⟨n,rfl,hl,hf⟩:=oi (l:= [(22,0),(23,1)]) (by kernel_rfl) (by simp) h
 have hc:Tryz.prog.cellsOf 25=2:=by kernel_rfl
 have cp:Tryz.prog.cellsOf 23=1:=by kernel_rfl
 have up:Tryz.prog.underlying 23=some (.slice 54):=by kernel_rfl
 have cp5:Tryz.prog.cellsOf 54=5:=by kernel_rfl
 obtain⟨y0,h0⟩:=hf 0 _ rfl
 obtain⟨y1,h1⟩:=hf 1 _ rfl
 dsimp only at h0 h1
 rw[Ls]at h0
 rw[cp]at h1
 obtain⟨globals,r0⟩:=Dt h0
 obtain⟨procs,r1,hp⟩:=sv (W:=W) bP (fun f=>Sm.vK f.body) up cp5 (by decide) (fun _=>rfl) (fun k hk cs x hx=>alJ hx) h1
 refine⟨⟨globals,procs⟩, ?_,hp⟩
 have:=r0.at (r1.at (fY.end (by rw[hl,hc])))
 simpa[bG]using this
end
end Go.Abs
namespace Go.Abs
open Go.Proofs Go.ChangeShapes Go.WideShapes Go.ChangeAt Go.RowKit
theorem Fo {H:Type} {enc:TypeId×Value→H} {P:Program} {W:World} {sp:Nat→Bool} {t:TypeId} {ts:List TypeId} {ps:List MemPlace} : ∀ {l:List Value} {ds:List (DataW H)},DataW.TrodAll enc P W 0 sp true (t::ts) l ds ps→
 ∃ v l' d qi p q,l=v::l'∧ds=d::qi∧DataW.Trod enc P W 0 sp true t v d p∧DataW.TrodAll enc P W 0 sp true ts l' qi q
 |v::l,d::ds,⟨p,q,h1,h2,e⟩=>⟨v,l,d,ds,p,q,rfl,rfl,h1,h2⟩
 | [],[],h=>h.elim
 | [],_::_,h=>h.elim
 |_::_,[],h=>h.elim
theorem adr {H:Type} {enc:TypeId×Value→H} {P:Program} {W:World} {sp:Nat→Bool} {ps:List MemPlace} : ∀ {l:List Value} {ds:List (DataW H)},DataW.TrodAll enc P W 0 sp true [] l ds ps→l = []∧ds = []
 | [],[],_=>⟨rfl,rfl⟩
 | [],_::_,h=>h.elim
 |_::_,ds,h=>by cases ds<;>exact h.elim
end Go.Abs
