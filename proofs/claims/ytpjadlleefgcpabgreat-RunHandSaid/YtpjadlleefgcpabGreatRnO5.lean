/-
  What is proved here: part 5 of the road to the claim (RunC8, RunC9, RunL0, RunL1, RunWt, HandF, LawRh3, Glue2, Join, Binds1, Join2, Join3, Join4, Join5).
  No conditions.
-/
import Derived.Test.YtpjadlleefgcpabGreatRnO4
import Derived.RowKit3
import Derived.WalkKit
import Derived.ProofKit
import Derived.OpenShut
import Derived.ShutString
import Derived.ChangeMaps5
import Derived.ChangeStays
import Derived.KernelRfl

set_option linter.unusedSimpArgs false
set_option linter.unusedVariables false
namespace Go.Abs
set_option maxRecDepth 8000
open Go.Proofs
def eK (m:Mc):List D:= [.int .i64 m.fin, .int .i64 m.steps, .int .i64 m.reads, .slice .shared 1 (m.out.map cT), .slice .shared 2 (m.trace.map gE)]
theorem age (e:Int×List Int):D.bI 0 0 (gE e)=true:=by simp[gE,D.bI,D.ok,Tag.ok,kL]
theorem ZX (l:List (Int×List Int)):D.gY 0 0 (l.map gE)=true:=gZ age l
theorem aiT (n m:Nat) (l:List (Int×List Int)):D.kP n m (l.map gE)=l.map gE:=lV age n m l
attribute [go_sem] aiT
abbrev runT (m:Mc):List D:= [.int .i64 m.fin, .int .i64 m.steps, .int .i64 m.reads, .slice (.tok 0) 1 (m.out.map cT), .slice (.tok 1) 2 (m.trace.map gE)]
section
variable {p:Pg} {T W:List Int} {fuel:Int} {B:fa} {Q:Exit→Tm→St→Prop} {mf:Mc}
theorem Inv.rr {y:Lay} {m:Mc} {s:St} {q:Nat} {r r':List D} {loc:List (Nat×List D)} (h:Inv p T W y m ((q,r)::loc) s) (hq : ∀ x∈loc,x.1≠q) (hr:r.length≠4):Inv p T W y m ((q,r')::loc) ⟨s.ah.set q r',s.aw⟩:=by
 obtain⟨h1,h2⟩:=h.loc (q,r) (List.mem_cons_self ..)
 simp only at h1 h2
 have ne : ∀ {o:Nat} {x:List D},s.ah[o]? = some x→o≠q→(s.ah.set q r')[o]? = some x:=fun e hn=>by rw[List.getElem?_set_ne (Ne.symm hn)];exact e
 have no : ∀ o∈y.own,o≠q:=fun o mo e=>h2 (e ▸ mo)
 have ka : ∀ {d:D} {cs:List D},(∀ o∈d.arr,o∈y.own)→jS s d cs→jS ⟨s.ah.set q r',s.aw⟩ d cs:=fun hd ha=>ha.keep fun o mo=>by
  show(s.ah.set q r')[o]? = _
  rw[List.getElem?_set_ne (Ne.symm (no o (hd o mo)))]
 obtain⟨l,hl⟩:=h.dj
 refine⟨ne h.jT (no 0 (by simp[Lay.own])),h.t0,h.t1,h.len,fun i c v e1 e2=>ne (h.cell i c v e1 e2) (no c (by simp[Lay.own,List.mem_of_getElem? e1])),h.sJ,fun i o fr e1 e2=>?_,ka (fun o m=>by simp[Lay.own,m]) h.stack,⟨l,ka (fun o m=>by simp[Lay.own,m]) hl⟩,h.own,fun x mx=>?_⟩
 ·obtain⟨f1,f2,f3⟩:=h.frame i o fr e1 e2
  exact⟨ne f1 (NP f1 h1 fun e=>hr (by rw[← e];rfl)),f2,f3⟩
 ·rcases List.mem_cons.1 mx with rfl | mx
  ·exact⟨by simp[gi h1],h2⟩
  ·obtain⟨f1,f2⟩:=h.loc x (List.mem_cons_of_mem _ mx)
   exact⟨ne f1 (hq x mx),f2⟩
abbrev Ci:List D:= [.int .i64 0, .int .i64 0, .int .i64 0, .slice .full 0 [], .slice .full 0 []]
structure G9 (p:Pg) (T W:List Int) (fuel:Int):Prop where
 ok:p.jc
 right:p.Right
 W:W.length<1000000
 T:T.length<1000000
 fuel:0≤fuel∧fuel≤1000000
structure At (p:Pg) (T W:List Int) (fuel:Int) (a:Int) (m:Mc) (y:Lay) (q:Nat) (s:St):Prop where
 inv : ∃ r:List D,r.length=17∧Inv p T W y m [(q,r),(2,Ci)] s
 ok:pF p p.bh.L a m
 sz:xU m
 fin:m.fin=0
 fuel:m.steps≤fuel
abbrev TMr (fuel:Int) (q:Nat) (a:Int):Tm:= [(2, .int .i64 fuel),(8, .ptr 2 0),(10, .ptr 0 0),(11, .ptr q 0),(13, .int .i64 a)]
abbrev JJ (B:fa) (Q:Exit→Tm→St→Prop):=kd Tryz.prog B 131 Q54 Q
theorem FY (hQ:iC 0 0 [(8,some (true,5)),(9,none)] (.tuple [.agg (eK mf), .int .i64 0]) ⟨[],[]⟩=Q) {y:Lay} {q:Nat} {r:List D} {s:St} (h:Inv p T W y mf [(q,r),(2,Ci)] s) {tm:Tm} (ht:wb tm [(8, .ptr 2 0),(10, .ptr 0 0)]):JJ B Q (.goto 2) tm s:=by
 refine zr (r:= .seq .skip Q4M) rfl (je.pZ ht (je.kB ?_))
 have hm:=h.jT
 rw[fx]at hm
 have h2:=(h.loc (2,Ci) (by simp)).1
 have hl:=gi h2
 have⟨hC,hE,hM,hY⟩:=bE
 have Aj : ∀ r,(s.ah.set 2 r)[2]? = some r:=fun r=>List.getElem?_set_self hl
 simp only[eK]at hQ
 repeat' (first
 |simp only[go_sem,hC,hE,hM,hY,hm,h2,Aj]
 |(with_reducible first|refine aX fun hc=>?_|refine aY fun hc=>?_|refine aZ (fun hc=>?_) fun hc=>?_)<;>(try simp only[hc,bs,↓reduceIte]at h)<;>try simp only[hc]
 |(with_reducible refine aB hQ ?_;(try cases h);simp only[aR,aS,bo,bp,go_sem,hC,hE,hM,hY,hm,h2,Aj];try exact bS)
 |(cases h;done))
theorem LY (hS:G9 p T W fuel) (hQ:iC 0 0 [(8,some (true,5)),(9,none)] (.tuple [.agg (eK mf), .int .i64 0]) ⟨[],[]⟩=Q) {a:Int} {m:Mc} {y:Lay} {q:Nat} {s:St} {g:Int} (h:At p T W fuel a m y q s)
 (agh:m.back p.bh.L g=(none,mf)∨∃ a' m',m.back p.bh.L g=(some a',m')∧∀ y' s' tm,At p T W fuel a' m' y' q s'→wb tm (TMr fuel q a')→JJ B Q (.goto 1) tm s')
 {tm:Tm} (ht:wb tm [(2, .int .i64 fuel),(8, .ptr 2 0),(10, .ptr 0 0),(11, .ptr q 0),(12, .int .i64 g)]):JJ B Q (.goto 0) tm s:=by
 obtain⟨⟨r,hr,hi⟩,pV,ej,v8,hfu⟩:=h
 obtain⟨fr,rs,f,z8,h1,h2,h3,h4⟩:=LX hS.ok pV (by have:=ej.st;omega)
 have DD:=ej.run (by have:=hS.fuel;omega) hS.ok hS.W hS.T
 have hc:=Ry hS.ok hS.right pV (by have:=ej.st;omega) z8
 have c1:=ab2 hi z8 DD.L hc g
 have nM:=FX p.bh.L m g
 refine zr (r:= .seq .skip Q4P) rfl (je.pZ ht (je.kB ?_))
 have⟨hC,hE,hM,hY⟩:=bE
 repeat' (first
 |simp only[go_sem,hC,hE,hM,hY]
 |(with_reducible first|refine aX fun hc=>?_|refine aY fun hc=>?_|refine aZ (fun hc=>?_) fun hc=>?_)<;>(try simp only[hc,bs,↓reduceIte]at h)<;>try simp only[hc]
 |(with_reducible refine aB hQ ?_;exact eA)
 |(cases h;replace h:=hr;clear hr;(try simp only[bs,↓reduceIte]at h))
 |(cases h;done))
 refine CR c1 fun d s2 LZ=>?_
 obtain⟨rfl,y2,wh,o8⟩:=LZ
 have jO:=o8.jT
 rw[fx]at jO
 have ZY:=(o8.loc (2,Ci) (by simp)).1
 have lh:=gi ZY
 have Aj : ∀ r,(s2.ah.set 2 r)[2]? = some r:=fun r=>List.getElem?_set_self lh
 simp only at ZY
 have hb:m.back p.bh.L g=(if(m.close p.bh.L g).2.fin==0 then some (m.close p.bh.L g).1 else none,(m.close p.bh.L g).2):=rfl
 rcases Bool.eq_false_or_eq_true ((m.close p.bh.L g).2.fin==0)with b|b
 ·rw [b,if_pos rfl]at hb
  rcases agh with he|⟨a',m',he,hIH⟩
  ·rw[hb]at he;cases he
  ·have hk:=abV (q8 hS.right) pV he
   rw[hb]at he
   cases he
   repeat' (first
 |simp only[go_sem,hC,hE,hM,hY,jO,b]
 |(with_reducible first|refine aX fun hc=>?_|refine aY fun hc=>?_|refine aZ (fun hc=>?_) fun hc=>?_)<;>(try simp only[hc,bs,↓reduceIte]at h)<;>try simp only[hc]
 |(with_reducible refine aB hQ ?_;(try cases h);simp only[aR,aS,bo,bp,go_sem,hC,hE,hM,hY,jO,b];try exact bS)
 |(cases h;replace h:=hr;clear hr;(try simp only[bs,↓reduceIte]at h))
 | (cases h;done))
   refine hIH y2 s2 _ ⟨⟨r,hr,o8⟩,hk,ej.close g,by simpa using b,by rw[nM.2.2.2.1];exact hfu⟩ ?_
   simp only[go_sem]
   repeat' (first|exact Ok.out|with_reducible refine eP ?_ ?_)
 ·rw [b,if_neg (by simp)]at hb
  rcases agh with he|⟨a',m',he,hIH⟩
  ·rw [hb]at he
   cases he
   simp only[eK]at hQ
   repeat' (first
 |simp only[go_sem,hC,hE,hM,hY,jO,b,ZY,Aj]
 |(with_reducible first|refine aX fun hc=>?_|refine aY fun hc=>?_|refine aZ (fun hc=>?_) fun hc=>?_)<;>(try simp only[hc,bs,↓reduceIte]at h)<;>try simp only[hc]
 |(with_reducible refine aB hQ ?_;(try cases h);simp only[aR,aS,bo,bp,go_sem,hC,hE,hM,hY,jO,b,ZY,Aj];try exact bS)
 |(cases h;replace h:=hr;clear hr;(try simp only[bs,↓reduceIte]at h))
 |(cases h;done))
  ·rw[hb]at he;cases he
theorem X4 (hS:G9 p T W fuel) (hQ:iC 0 0 [(8,some (true,5)),(9,none)] (.tuple [.agg (eK mf), .int .i64 0]) ⟨[],[]⟩=Q) : ∀ (N:Nat) (a:Int) (m:Mc) (y:Lay) (q:Nat) (s:St),At p T W fuel a m y q s→Mc.go p p.bh.L T W fuel N a m=some mf→
 Sem Tryz.prog B 131 Q4X (JJ B Q) (TMr fuel q a) s:=by
 intro N
 induction N with
 |zero=>intro a m y q s _ h;cases h
 | succ N ih=>
  intro a m y q s rz jY
  have IH : ∀ (a':Int) (m':Mc) (y':Lay) (s':St) (tm:Tm),Mc.go p p.bh.L T W fuel N a' m'=some mf→At p T W fuel a' m' y' q s'→wb tm (TMr fuel q a')→JJ B Q (.goto 1) tm s':=fun a' m' y' s' tm hg hA ht=>
   zr (r:= .seq .skip Q4X) rfl (je.pZ ht (je.once (Sem.iS (ih a' m' y' q s' hA hg))))
  have atg:=rz
  obtain⟨⟨r,hr,hi⟩,pV,ej,v8,hfu⟩:=rz
  simp only[Mc.go]at jY
  refine gG ?_
  have⟨hC,hE,hM,hY⟩:=bE
  have hm:=hi.jT
  rw[fx]at hm
  have qW:=hi.uO
  rcases Bool.eq_false_or_eq_true (a == -1)with ba|ba
  ·have hn:m.next p p.bh.L T W fuel a=m.back p.bh.L 0:=by unfold Mc.next;rw [if_pos ba]
   rw[hn]at jY
   repeat' (first
 |simp only[go_sem,hC,hE,hM,hY,ba]
 |(with_reducible first|refine aX fun hc=>?_|refine aY fun hc=>?_|refine aZ (fun hc=>?_) fun hc=>?_)<;>(try simp only[hc,bs,↓reduceIte]at h)<;>try simp only[hc]
 |(with_reducible refine aB hQ ?_;(try cases h);simp only[aR,aS,bo,bp,go_sem,hC,hE,hM,hY,ba];try exact bS)
 |(cases h;replace h:=hr;clear hr;(try simp only[bs,↓reduceIte]at h))
 | (cases h;done))
   refine LY hS hQ atg (g:=0) ?_ ?_
   ·rcases e:m.back p.bh.L 0 with ⟨_ | a',m'⟩
    ·rw[e]at jY;cases jY;exact .inl rfl
    ·rw[e]at jY;exact .inr ⟨a',m',rfl,fun y' s' tm h1 h2=>IH a' m' y' s' tm jY h1 h2⟩
   ·simp only [go_sem]
    repeat' (first|exact Ok.out|with_reducible refine eP ?_ ?_)
  rcases Bool.eq_false_or_eq_true (m.steps==fuel)with bf|bf
  ·have hn:m.next p p.bh.L T W fuel a=(none,{m with fin:=2}):=by unfold Mc.next;rw [if_neg (by simp [ba]),if_pos bf]
   rw[hn]at jY
   cases jY
   have h2:=hi.ua (m':= {m with fin:=2}) rfl rfl hi.t0 hi.t1
   rw[fx]at h2
   simp only at h2
   repeat' (first
 |simp only[go_sem,hC,hE,hM,hY,ba,bf,hm,qW]
 |(with_reducible first|refine aX fun hc=>?_|refine aY fun hc=>?_|refine aZ (fun hc=>?_) fun hc=>?_)<;>(try simp only[hc,bs,↓reduceIte]at h)<;>try simp only[hc]
 |(with_reducible refine aB hQ ?_;(try cases h);simp only[aR,aS,bo,bp,go_sem,hC,hE,hM,hY,ba,bf,hm,qW];try exact bS)
 |(cases h;replace h:=hr;clear hr;(try simp only[bs,↓reduceIte]at h))
 | (cases h;done))
   refine FY hQ h2 ?_
   simp only[go_sem]
   repeat' (first|exact Ok.out|with_reducible refine eP ?_ ?_)
  -- a statement
  obtain⟨fr,rs,f,z8,h1,h2,h3,h4⟩:=LX hS.ok pV (by have:=ej.st;omega)
  have ath:a≠ -1:=by simpa using ba
  obtain⟨hx,yQ,iR,c,hac,L0⟩:=ab3 pV h4 hS.right ath h1
  have hfb:=hS.fuel
  have DD:=ej.run (by omega) hS.ok hS.W hS.T
  have aAS:m.steps<fuel:=by
   have h:m.steps≠fuel:=by simpa using bf
   omega
  have vm:=ej.steps
  have FU:IntKind.wrap .i64 (m.steps+1)=m.steps+1:=er (by omega) (by omega)
  have Cd:IntKind.wrap .i64 (a - 1)=(c:Int):=by
   have:=(List.getElem?_eq_some_iff.1 L0).1
   have:=DD.L
   rw[show a - 1=(c:Int) by omega];exact er (by omega) (by omega)
  have cS:(fA p)[2]? = some (.slice .shared 17 (p.bh.L.map dN)):=rfl
  have N2:=hi.ua (m':= {m with steps:=m.steps+1}) rfl rfl hi.t0 hi.t1
  generalize pY:gj p.bh.L a=it at *
  have ati:2≠q:=by
   have e1:=(hi.loc (q,r) (by simp)).1
   have e2:=(hi.loc (2,Ci) (by simp)).1
   exact NP e2 e1 fun e=>by have e':Ci=r:=e;rw[← e']at hr;cases hr
  have Ha:17≤r.length:=by omega
  have N3:List.drop 17 r = []:=List.drop_of_length_le (by omega)
  have o8:=N2.rr (r':=dN it) (by simpa using ati) (by omega)
  have nF:=N2.jT
  have Ic:=(N2.loc (q,r) (by simp)).1
  have Bo:=(o8.loc (q,dN it) (by simp)).1
  rw[fx]at nF o8 Ic Bo
  simp only at nF o8 Ic Bo
  have hle:q<s.ah.length:=gi (hi.loc (q,r) (by simp)).1
  have RA:mT ({m with steps:=m.steps+1} : Mc) fr rs:=⟨z8.st,z8.len,z8.names,z8.vars⟩
  have RB:Jr p T W ({m with steps:=m.steps+1} : Mc):=⟨DD.W,DD.T,DD.trace,DD.out,DD.L,DD.P,DD.reads⟩
  have L1:pF p p.bh.L a ({m with steps:=m.steps+1} : Mc):=pV.of rfl (Nat.le_refl _) pV.at_
  have hn:m.next p p.bh.L T W fuel a=(if it.s.kind==4 then(if(({m with steps:=m.steps+1} : Mc).call p W it.s).2.fin==0 then some (({m with steps:=m.steps+1} : Mc).call p W it.s).1 else none,(({m with steps:=m.steps+1} : Mc).call p W it.s).2)
   else if it.s.kind==9 then(if(({m with steps:=m.steps+1} : Mc).ju W it.s).2.fin==0 then(({m with steps:=m.steps+1} : Mc).ju W it.s).2.back p.bh.L (({m with steps:=m.steps+1} : Mc).ju W it.s).1 else(none,(({m with steps:=m.steps+1} : Mc).ju W it.s).2))
   else(if(({m with steps:=m.steps+1} : Mc).do p p.bh.L T W it).2.fin==0 then some (({m with steps:=m.steps+1} : Mc).do p p.bh.L T W it).1 else none,(({m with steps:=m.steps+1} : Mc).do p p.bh.L T W it).2)):=by
   unfold Mc.next
   rw[if_neg (by simp[ba]),if_neg (by simp[bf])]
   dsimp only
   rw[pY]
  rw[hn]at jY
  generalize ND:({m with steps:=m.steps+1} : Mc)=m1 at *
  have atj:m1.fin=0:=by rw[← ND];exact v8
  have X5:m1.steps=m.steps+1:=by rw[← ND]
  have RC : ∀ m2:Mc,Cg m1 m2→m2.st.length≤101→xU m2:=fun m2 hl hs=>ej.less (by rw[ND];exact hl) hs
  have L2:m1.st=m.st:=by rw[← ND]
  rcases Bool.eq_false_or_eq_true (it.s.kind==4)with b4|b4
  ·rw [if_pos b4]at jY
   have H2:it.s.kind=4:=by simpa using b4
   have c1:=UI hS.ok hS.right.may o8 RA RB L1.ux (UJ hS.ok hS.right hx H2 h2 h3)
   repeat' (first
 |simp only[go_sem,hC,hE,hM,hY,ba,bf,hm,qW,FU,nF,Cd,L0,cS,Ic,Bo,hle,b4,Ha,N3,List.append_nil]
 |(with_reducible first|refine aX fun hc=>?_|refine aY fun hc=>?_|refine aZ (fun hc=>?_) fun hc=>?_)<;>(try simp only[hc,bs,↓reduceIte]at h)<;>try simp only[hc]
 |(with_reducible refine aB hQ ?_;(try cases h);simp only[aR,aS,bo,bp,go_sem,hC,hE,hM,hY,ba,bf,hm,qW,FU,nF,Cd,L0,cS,Ic,Bo,hle,b4,Ha,N3,List.append_nil];try exact bS)
 |(cases h;replace h:=hr;clear hr;(try simp only[bs,↓reduceIte]at h))
 | (cases h;done))
   refine CR c1 fun d s2 LZ=>?_
   obtain⟨rfl,y2,_,Cj⟩:=LZ
   have ox:=Cj.jT
   rw[fx]at ox
   have nM:=UL p W m1 it.s
   have qX:(m1.call p W it.s).2.st.length≤101:=by
    rcases nM.2 with h|h
    ·rw[L2]at h;have:=ej.st;omega
    ·exact h
   rcases Bool.eq_false_or_eq_true ((m1.call p W it.s).2.fin==0)with b|b
   ·rw [b,if_pos rfl]at jY
    repeat' (first
 |simp only[go_sem,hC,hE,hM,hY,ox,b]
 |(with_reducible first|refine aX fun hc=>?_|refine aY fun hc=>?_|refine aZ (fun hc=>?_) fun hc=>?_)<;>(try simp only[hc,bs,↓reduceIte]at h)<;>try simp only[hc]
 |(with_reducible refine aB hQ ?_;(try cases h);simp only[aR,aS,bo,bp,go_sem,hC,hE,hM,hY,ox,b];try exact bS)
 |(cases h;replace h:=hr;clear hr;(try simp only[bs,↓reduceIte]at h))
 | (cases h;done))
    refine IH _ _ y2 s2 _ jY ⟨⟨dN it,rfl,Cj⟩,abX hS.right L1 hx H2 (by rw[yQ, ← h4];unfold Mc.top;rw[L2]) (by simpa using b) rfl atj,RC _ nM.1 qX,by simpa using b,by rw[nM.1.steps,X5];omega⟩ ?_
    simp only[go_sem]
    repeat' (first|exact Ok.out|with_reducible refine eP ?_ ?_)
   ·rw [b,if_neg (by simp)]at jY
    cases jY
    repeat' (first
 |simp only[go_sem,hC,hE,hM,hY,ox,b]
 |(with_reducible first|refine aX fun hc=>?_|refine aY fun hc=>?_|refine aZ (fun hc=>?_) fun hc=>?_)<;>(try simp only[hc,bs,↓reduceIte]at h)<;>try simp only[hc]
 |(with_reducible refine aB hQ ?_;(try cases h);simp only[aR,aS,bo,bp,go_sem,hC,hE,hM,hY,ox,b];try exact bS)
 |(cases h;replace h:=hr;clear hr;(try simp only[bs,↓reduceIte]at h))
 | (cases h;done))
    refine FY hQ Cj ?_
    simp only[go_sem]
    repeat' (first|exact Ok.out|with_reducible refine eP ?_ ?_)
  rw[if_neg (by simp[b4])]at jY
  rcases Bool.eq_false_or_eq_true (it.s.kind==9)with b9|b9
  ·rw [if_pos b9]at jY
   have c1:=ab0 o8 RA (N1 hS.ok hS.right hx h2 h3).said RB.W RB.trace
   repeat' (first
 |simp only[go_sem,hC,hE,hM,hY,ba,bf,hm,qW,FU,nF,Cd,L0,cS,Ic,Bo,hle,b4,b9,Ha,N3,List.append_nil]
 |(with_reducible first|refine aX fun hc=>?_|refine aY fun hc=>?_|refine aZ (fun hc=>?_) fun hc=>?_)<;>(try simp only[hc,bs,↓reduceIte]at h)<;>try simp only[hc]
 |(with_reducible refine aB hQ ?_;(try cases h);simp only[aR,aS,bo,bp,go_sem,hC,hE,hM,hY,ba,bf,hm,qW,FU,nF,Cd,L0,cS,Ic,Bo,hle,b4,b9,Ha,N3,List.append_nil];try exact bS)
 |(cases h;replace h:=hr;clear hr;(try simp only[bs,↓reduceIte]at h))
 | (cases h;done))
   refine CR c1 fun d s2 LZ=>?_
   obtain⟨rfl,y2,_,Cj⟩:=LZ
   have ox:=Cj.jT
   rw[fx]at ox
   have rZ:=Rz W m1 it.s
   have hgs:=(LK W m1 it.s).1
   rcases Bool.eq_false_or_eq_true ((m1.ju W it.s).2.fin==0)with b|b
   ·rw [b,if_pos rfl]at jY
    repeat' (first
 |simp only[go_sem,hC,hE,hM,hY,ox,b]
 |(with_reducible first|refine aX fun hc=>?_|refine aY fun hc=>?_|refine aZ (fun hc=>?_) fun hc=>?_)<;>(try simp only[hc,bs,↓reduceIte]at h)<;>try simp only[hc]
 |(with_reducible refine aB hQ ?_;(try cases h);simp only[aR,aS,bo,bp,go_sem,hC,hE,hM,hY,ox,b];try exact bS)
 |(cases h;replace h:=hr;clear hr;(try simp only[bs,↓reduceIte]at h))
 | (cases h;done))
    have T3:m1.mem.length≤(m1.ju W it.s).2.mem.length:=by
     have hw:=jR m1 it.s.x
     unfold Mc.ju
     split
     ·dsimp only
      split
      ·rw[(fJ _ _ _ _).2.1,hw.2.1];exact Nat.le_refl _
      ·rw[hw.2.1];exact Nat.le_refl _
     ·rw[(fJ _ _ _ _).2.1];exact Nat.le_refl _
    refine LY (a:=a) (g:=(m1.ju W it.s).1) hS hQ (y:=y2) ⟨⟨dN it,rfl,Cj⟩,L1.of hgs T3 L1.at_,RC _ rZ (by rw[hgs,L2];exact ej.st),by simpa using b,by rw[rZ.steps,X5];omega⟩ ?_ ?_
    ·rcases e:(m1.ju W it.s).2.back p.bh.L (m1.ju W it.s).1 with ⟨_ | a',m'⟩
     ·rw[e]at jY;cases jY;exact .inl rfl
     ·rw[e]at jY;exact .inr ⟨a',m',rfl,fun y' s' tm h1 h2=>IH a' m' y' s' tm jY h1 h2⟩
    ·simp only [go_sem]
     repeat' (first|exact Ok.out|with_reducible refine eP ?_ ?_)
   ·rw [b,if_neg (by simp)]at jY
    cases jY
    repeat' (first
 |simp only[go_sem,hC,hE,hM,hY,ox,b]
 |(with_reducible first|refine aX fun hc=>?_|refine aY fun hc=>?_|refine aZ (fun hc=>?_) fun hc=>?_)<;>(try simp only[hc,bs,↓reduceIte]at h)<;>try simp only[hc]
 |(with_reducible refine aB hQ ?_;(try cases h);simp only[aR,aS,bo,bp,go_sem,hC,hE,hM,hY,ox,b];try exact bS)
 |(cases h;replace h:=hr;clear hr;(try simp only[bs,↓reduceIte]at h))
 | (cases h;done))
    refine FY hQ Cj ?_
    simp only[go_sem]
    repeat' (first|exact Ok.out|with_reducible refine eP ?_ ?_)
  rw[if_neg (by simp[b9])]at jY
  have c1:=atd hS.ok hS.right.may o8 RA RB (N1 hS.ok hS.right hx h2 h3)
  repeat' (first
 |simp only[go_sem,hC,hE,hM,hY,ba,bf,hm,qW,FU,nF,Cd,L0,cS,Ic,Bo,hle,b4,b9,Ha,N3,List.append_nil]
 |(with_reducible first|refine aX fun hc=>?_|refine aY fun hc=>?_|refine aZ (fun hc=>?_) fun hc=>?_)<;>(try simp only[hc,bs,↓reduceIte]at h)<;>try simp only[hc]
 |(with_reducible refine aB hQ ?_;(try cases h);simp only[aR,aS,bo,bp,go_sem,hC,hE,hM,hY,ba,bf,hm,qW,FU,nF,Cd,L0,cS,Ic,Bo,hle,b4,b9,Ha,N3,List.append_nil];try exact bS)
 |(cases h;replace h:=hr;clear hr;(try simp only[bs,↓reduceIte]at h))
 | (cases h;done))
  refine CR c1 fun d s2 LZ=>?_
  obtain⟨rfl,y2,_,Cj⟩:=LZ
  have ox:=Cj.jT
  rw[fx]at ox
  have hdl:=ab4 p p.bh.L T W m1 it
  have Bi:=(ZQ p p.bh.L T W m1 it).1
  rcases Bool.eq_false_or_eq_true ((m1.do p p.bh.L T W it).2.fin==0)with b|b
  ·rw [b,if_pos rfl]at jY
   repeat' (first
 |simp only[go_sem,hC,hE,hM,hY,ox,b]
 |(with_reducible first|refine aX fun hc=>?_|refine aY fun hc=>?_|refine aZ (fun hc=>?_) fun hc=>?_)<;>(try simp only[hc,bs,↓reduceIte]at h)<;>try simp only[hc]
 |(with_reducible refine aB hQ ?_;(try cases h);simp only[aR,aS,bo,bp,go_sem,hC,hE,hM,hY,ox,b];try exact bS)
 |(cases h;replace h:=hr;clear hr;(try simp only[bs,↓reduceIte]at h))
 | (cases h;done))
   refine IH _ _ y2 s2 _ jY ⟨⟨dN it,rfl,Cj⟩,aiG hS.right L1 hx (by rw[yQ, ← h4];unfold Mc.top;rw[L2]) (by simpa using b),RC _ hdl (by rw[Bi,L2];exact ej.st),by simpa using b,by rw[hdl.steps,X5];omega⟩ ?_
   simp only[go_sem]
   repeat' (first|exact Ok.out|with_reducible refine eP ?_ ?_)
  ·rw [b,if_neg (by simp)]at jY
   cases jY
   repeat' (first
 |simp only[go_sem,hC,hE,hM,hY,ox,b]
 |(with_reducible first|refine aX fun hc=>?_|refine aY fun hc=>?_|refine aZ (fun hc=>?_) fun hc=>?_)<;>(try simp only[hc,bs,↓reduceIte]at h)<;>try simp only[hc]
 |(with_reducible refine aB hQ ?_;(try cases h);simp only[aR,aS,bo,bp,go_sem,hC,hE,hM,hY,ox,b];try exact bS)
 |(cases h;replace h:=hr;clear hr;(try simp only[bs,↓reduceIte]at h))
 | (cases h;done))
   refine FY hQ Cj ?_
   simp only[go_sem]
   repeat' (first|exact Ok.out|with_reducible refine eP ?_ ?_)
end
end Go.Abs
namespace Go.Abs
set_option maxRecDepth 8000
open Go.Proofs
def ofM (p:Pg) (T W:List Int) (fuel:Int):Mc×Int:=
 if decide (fuel<0) ||(decide (fuel > 1000000) || !(p.check.1==0))then(⟨[],[],0,0,0,[],[]⟩,1)else((runM p T W fuel).getD ⟨[],[],0,0,0,[],[]⟩,0)
theorem FZ (m:Mc):D.bI 0 0 (eK m)=true:=by simp[eK,D.bI,D.ok,Tag.ok,kL,ZX]
theorem ab5 {p:Pg} (hR:p.Right) : ∃ (j:Nat) (q:Pc),p.at mg=(j:Int)∧p.procs[j]? = some q∧p.find q.name=some q∧q.params.length=0:=by
 have h:=hR.main
 unfold Pg.tP at h
 cases e:p.find mg with
 |none=>rw[e]at h;cases h
 |some q=>
  rw[e]at h
  obtain⟨j,h1,h2⟩:=Jq (k:=0) e
  refine⟨j,q,by simpa[Pg.at]using h1,h2,by rw[Ag e];exact e, ?_⟩
  simp only[decide_eq_false_iff_not]at h
  omega
theorem agi {p:Pg} (hO:p.jc) {T W:List Int} (hT:T.length<1000000) (hW:W.length<1000000) (fuel:Int) (s:St) :
 az Tryz.prog kp [.agg (cO p), .slice .shared 1 (T.map cT), .int .i64 fuel, .slice .shared 1 (W.map cT)] s (.tuple [.agg (eK (ofM p T W fuel).1), .int .i64 (ofM p T W fuel).2]) s:=by
 refine az.pure ?_ (by simp[D.bI,D.ok,Tag.ok,j8,kL]) (by simp only[D.ok,D.bI,FZ];rfl) s
 have cM:=fun s=>aft hO s
 have cN:=fun s=>Cz (p:=p) (by have:=hO.procs;omega) s
 generalize hR:ofM p T W fuel=R
 unfold ofM at hR
 obtain⟨R1,R2⟩:=R
 dsimp only
 unfold S0
 by_cases L3:(decide (fuel<0) ||(decide (fuel > 1000000) || !(p.check.1==0)))=true
 ·rw [if_pos L3]at hR
  cases hR
  simp only[eK,List.map_nil]
  rcases Bool.eq_false_or_eq_true (decide (fuel<0))with b1|b1
  ·refine az.go uZ rfl fun B Q hB hQ=> ?_
   have⟨hC,hE,hM,hY⟩:=bE
   repeat' (first
 |simp only[go_sem,hC,hE,hM,hY,b1]
 |(with_reducible first|refine aX fun hc=>?_|refine aY fun hc=>?_|refine aZ (fun hc=>?_) fun hc=>?_)<;>(try simp only[hc,bs,↓reduceIte]at h)<;>try simp only[hc]
 |(with_reducible refine aB hQ ?_;(try cases h);simp only[aR,aS,bo,bp,go_sem,hC,hE,hM,hY,b1];try exact bS)
 | (cases h;done))
   refine je.kB ?_
   repeat' (first
 |simp only[go_sem,hC,hE,hM,hY,b1]
 |(with_reducible first|refine aX fun hc=>?_|refine aY fun hc=>?_|refine aZ (fun hc=>?_) fun hc=>?_)<;>(try simp only[hc,bs,↓reduceIte]at h)<;>try simp only[hc]
 |(with_reducible refine aB hQ ?_;(try cases h);simp only[aR,aS,bo,bp,go_sem,hC,hE,hM,hY,b1];try exact bS)
 | (cases h;done))
  rcases Bool.eq_false_or_eq_true (decide (fuel > 1000000))with b2|b2
  ·refine az.go uZ rfl fun B Q hB hQ=> ?_
   have⟨hC,hE,hM,hY⟩:=bE
   repeat' (first
 |simp only[go_sem,hC,hE,hM,hY,b1,b2]
 |(with_reducible first|refine aX fun hc=>?_|refine aY fun hc=>?_|refine aZ (fun hc=>?_) fun hc=>?_)<;>(try simp only[hc,bs,↓reduceIte]at h)<;>try simp only[hc]
 |(with_reducible refine aB hQ ?_;(try cases h);simp only[aR,aS,bo,bp,go_sem,hC,hE,hM,hY,b1,b2];try exact bS)
 | (cases h;done))
   refine je.kB ?_
   repeat' (first
 |simp only[go_sem,hC,hE,hM,hY,b1,b2]
 |(with_reducible first|refine aX fun hc=>?_|refine aY fun hc=>?_|refine aZ (fun hc=>?_) fun hc=>?_)<;>(try simp only[hc,bs,↓reduceIte]at h)<;>try simp only[hc]
 |(with_reducible refine aB hQ ?_;(try cases h);simp only[aR,aS,bo,bp,go_sem,hC,hE,hM,hY,b1,b2];try exact bS)
 | (cases h;done))
  ·have b3:(p.check.1==0)=false:=by simpa [b1,b2]using L3
   rw[b3]at cM
   refine az.go uZ rfl fun B Q hB hQ=>?_
   have⟨hC,hE,hM,hY⟩:=bE
   repeat' (first
 |simp only[go_sem,hC,hE,hM,hY,b1,b2]
 |(with_reducible refine CU (cM _) ?_)
 |(with_reducible first|refine aX fun hc=>?_|refine aY fun hc=>?_|refine aZ (fun hc=>?_) fun hc=>?_)<;>(try simp only[hc,bs,↓reduceIte]at h)<;>try simp only[hc]
 |(with_reducible refine aB hQ ?_;(try cases h);simp only[aR,aS,bo,bp,go_sem,hC,hE,hM,hY,b1,b2];try exact bS)
 | (cases h;done))
   refine je.kB ?_
   repeat' (first
 |simp only[go_sem,hC,hE,hM,hY,b1,b2]
 |(with_reducible refine CU (cM _) ?_)
 |(with_reducible first|refine aX fun hc=>?_|refine aY fun hc=>?_|refine aZ (fun hc=>?_) fun hc=>?_)<;>(try simp only[hc,bs,↓reduceIte]at h)<;>try simp only[hc]
 |(with_reducible refine aB hQ ?_;(try cases h);simp only[aR,aS,bo,bp,go_sem,hC,hE,hM,hY,b1,b2];try exact bS)
 |(cases h;done))
 rw[if_neg L3]at hR
 simp only[Bool.or_eq_true,not_or,Bool.not_eq_true,Bool.not_eq_false']at L3
 obtain⟨b1,b2,b3⟩:=L3
 rw[b3]at cM
 have RE:0≤fuel∧fuel≤1000000:=by simp at b1 b2;omega
 obtain⟨mf,hmf⟩:=Uu p T W RE.1
 rw[hmf]at hR
 simp only[Option.getD_some]at hR
 cases hR
 have ZZ:=XP b3
 have hS:G9 p T W fuel:=⟨hO,ZZ,hW,hT,RE⟩
 obtain⟨j,q,j1,j2,j3,j4⟩:=ab5 ZZ
 have cP:=fun s=>(show az Tryz.prog iI [.dO (fA p) 0, .str [109,97,105,110]] s (.int .i64 (p.at mg)) s from Fl (p:=p) (by have:=hO.procs;omega) mg s)
 rw[j1]at cP
 have rZ:=hO.procs.2.2
 refine az.go uZ rfl fun B Q hB hQ=>?_
 have⟨hC,hE,hM,hY⟩:=bE
 -- from the globals on
 have start : ∀ (y:Lay) (s:St),Inv p T W y (pE p) [(2,Ci)] s→Sem Tryz.prog B 131 Q51 (JJ B Q) [(2, .int .i64 fuel),(8, .ptr 2 0),(10, .ptr 0 0)] s:=by
  intro y s hi
  have N2:=hi.new [.int .i64 0, .int .i64 0, .slice .full 0 [], .str [], .str [], .int .i64 0, .int .i64 0, .str [], .slice .full 0 [], .bool false, .slice .full 0 [], .slice .full 0 [], .slice .full 0 [], .int .i64 0, .int .i64 0, .int .i64 0, .int .i64 0]
  have nF:=N2.jT
  rw[fx]at nF
  simp only at nF
  obtain⟨y2,s2,hF,o8⟩:=N0 N2 hO ZZ.may j2 j3 (by simp[pE]) (l:= []) (by simp) (by simp) (by simp[pE]) 0
  have hF':=bL.mA (.cons (Wk.refl _) (.cons (Wk.refl _) (.cons (Wk.nil .full 0 1) (jz.refl _)))) hF
  have hF2:az Tryz.prog jq [.ptr 0 0, .int .i64 (j:Int), .slice .full 0 [], .int .i64 0] _ _ s2:=hF'
  have pV:=NT (m:=pE p) (q8 ZZ) j2 (l:= []) (call:=0) (by simp[j4]) (by simp) (by simp[pE]) (by simp[pE]) (.inl ⟨rfl,rfl⟩)
  have jY:=hmf
  unfold runM at jY
  rw[j1]at jY
  dsimp only at jY
  have jX:=Ib p (pE p) (j:Int) [] 0
  have uE:=(CO p (pE p) (j:Int) [] 0).1
  have BW:((pE p).open p (j:Int) [] 0).2.fin=0:=by
   unfold Mc.open
   split<;>rfl
  have agk:=X4 (B:=B) hS hQ _ _ _ y2 s.ah.length s2 ⟨⟨_,rfl,o8⟩,pV,⟨by rw[jX.2.2.2];simp[pE],by rw[jX.1,jX.2.2.2];simp[pE],by rw[jX.2.1,jX.2.2.2];simp[pE],by rw[jX.2.2.1,jX.2.2.2];simp[pE],Nat.le_trans uE (by simp[pE])⟩,BW,by rw[jX.2.2.2];simp[pE];exact RE.1⟩ jY
  refine Sem.iS ?_
  repeat' (first
 |simp only[go_sem,hC,hE,hM,hY]
 |(with_reducible first|refine aX fun hc=>?_|refine aY fun hc=>?_|refine aZ (fun hc=>?_) fun hc=>?_)<;>(try simp only[hc,bs,↓reduceIte]at h)<;>try simp only[hc]
 |(with_reducible refine aB hQ ?_;exact eA)
 |(cases h;done))
  refine Sem.iS ?_
  repeat' (first
 |simp only[go_sem,hC,hE,hM,hY]
 |(with_reducible first|refine aX fun hc=>?_|refine aY fun hc=>?_|refine aZ (fun hc=>?_) fun hc=>?_)<;>(try simp only[hc,bs,↓reduceIte]at h)<;>try simp only[hc]
 |(with_reducible refine aB hQ ?_;exact eA)
 |(cases h;done))
  refine Sem.iS ?_
  repeat' (first
 |simp only[go_sem,hC,hE,hM,hY,nF]
 |(with_reducible refine CU (cP _) ?_)
 |(with_reducible refine CU (hF2) ?_)
 |(with_reducible first|refine aX fun hc=>?_|refine aY fun hc=>?_|refine aZ (fun hc=>?_) fun hc=>?_)<;>(try simp only[hc,bs,↓reduceIte]at h)<;>try simp only[hc]
 |(with_reducible refine aB hQ ?_;(try cases h);simp only[aR,aS,bo,bp,go_sem,hC,hE,hM,hY,nF];try exact bS)
 |(cases h;done))
  refine Sem.iS ?_
  repeat' (first
 |simp only[go_sem,hC,hE,hM,hY]
 |(with_reducible first|refine aX fun hc=>?_|refine aY fun hc=>?_|refine aZ (fun hc=>?_) fun hc=>?_)<;>(try simp only[hc,bs,↓reduceIte]at h)<;>try simp only[hc]
 |(with_reducible refine aB hQ ?_;exact eA)
 |(cases h;done))
  refine Sem.pZ ?_ agk
  simp only[go_sem]
  repeat' (first|exact Ok.out|with_reducible refine eP ?_ ?_)
 generalize hG:p.globals.length=G at *
 have hGb:G≤900000:=by rw[← hG];exact hO.procs.2.2
 let row:Nat→List D:=fun k=> [.dO (fA p) 0, .slice (.tok 2) 1 ((List.range k).map fun i=>fk (3+i)), .slice .shared 1 (T.map cT), .slice .shared 1 (W.map cT), .eH 1, .eH 1, .int .i64 0, .int .i64 0, .int .i64 0, .slice (.tok 0) 1 [], .slice (.tok 1) 2 []]
 have loop : ∀ d k:Nat,k+d=G→bg Tryz.prog B 131 Q3F (iH 0 (kO (Sem Tryz.prog B 131 Q51 (JJ B Q)) (JJ B Q))) [(2, .int .i64 fuel),(8, .ptr 2 0),(10, .ptr 0 0),(34, .int .i64 (G:Int)),(35, .int .i64 (k:Int))]
  ⟨row k::cO p::Ci::List.replicate k [.int .i64 0],[some 0,some 0,some k]⟩:=by
  intro d
  induction d with
  |zero=>
   intro k hk
   have uB:k=G:=by omega
   subst uB
   have hC:decide ((k:Int)<(k:Int))=false:=by simp
   refine bg.kB ?_
   repeat' (first
 |simp only[go_sem,hC,hE,hM,hY]
 |(with_reducible first|refine aX fun hc=>?_|refine aY fun hc=>?_|refine aZ (fun hc=>?_) fun hc=>?_)<;>(try simp only[hc,bs,↓reduceIte]at h)<;>try simp only[hc]
 |(with_reducible refine aB hQ ?_;exact eA)
 | (cases h;done))
   refine Sem.pZ (bF:= [(2, .int .i64 fuel),(8, .ptr 2 0),(10, .ptr 0 0)]) (by simp only[go_sem];repeat' (first|exact Ok.out|with_reducible refine eP ?_ ?_)) ?_
   have hκ:((List.range k).map (3 + ·)).length=k:=by simp
   have hmp:((List.range k).map fun i=>fk (3+i))=(((List.range k).map (3 + ·)).take k).map fk:=by rw[List.take_of_length_le (by simp),List.map_map];rfl
   refine Sem.wkO (fx p T W ⟨(List.range k).map (3 + ·),[], .eH 1, .eH 1⟩ (pE p)::cO p::Ci::List.replicate k [.int .i64 0]) ?_ (start ⟨(List.range k).map (3 + ·),[], .eH 1, .eH 1⟩ _ ?_)
   ·refine .cons ?_ (gB.refl _)
    simp only[row,fx,hG, ← hmp,pE,List.map_nil]
    exact Ok.out
   ·have UD:((List.range k).map (3 + ·)).Nodup:=by
     rw[List.nodup_iff_pairwise_ne,List.pairwise_map]
     exact List.Pairwise.imp (fun h=>by omega) (List.nodup_iff_pairwise_ne.1 List.nodup_range)
    refine⟨rfl,rfl,rfl,by simp[pE,hG],fun i c v e1 e2=>?_,rfl,fun i o fr e1 e2=>by simp at e1, .inl ⟨rfl,rfl⟩,⟨[], .inl ⟨rfl,rfl⟩⟩, ?_,fun x mx=>?_⟩
    ·have hC:=(List.getElem?_eq_some_iff.1 e1).1
     simp only[hκ]at hC
     rw[List.getElem?_map,List.getElem?_range hC]at e1
     simp only[pE]at e2
     rw[List.getElem?_replicate_of_lt (by omega)]at e2
     simp only[Option.map_some,Option.some.injEq]at e1 e2
     subst e1 e2
     show(_::_::_::List.replicate k [D.int .i64 0])[3+i]? = _
     rw[show 3+i=i+1+1+1 by omega]
     simp only[List.getElem?_cons_succ]
     exact List.getElem?_replicate_of_lt hC
    ·simp only [Lay.own,D.arr,List.append_nil]
     rw[List.nodup_cons]
     exact⟨by simp,UD⟩
    ·rw [List.mem_singleton.1 mx]
     refine⟨rfl, ?_⟩
     simp only[Lay.own,D.arr,List.append_nil,List.mem_cons,List.mem_map,List.mem_range,not_or]
     exact⟨by omega,by rintro⟨i,_,h⟩;omega⟩
  | succ d ih=>
   intro k hk
   have hC:decide ((k:Int)<(G:Int))=true:=by simp;omega
   have cp:k<4611686018427387904:=by omega
   have eU : ∀ os,gw 1 8 (.slice (.tok 2) 1 ((List.range k).map fun i=>fk (3+i))) (.slice .full 1 [[.ptr (3+k) 0]]) ⟨os,[some 0,some 0,some k]⟩ =
    some (.slice (.tok 2) 1 ((List.range (k+1)).map fun i=>fk (3+i)),⟨os,[some 0,some 0,some (k+1)]⟩):=fun os=>by
    rw[pf (size:=1) (by simp only[List.length_map,List.length_range,List.length_singleton];unfold bA;omega) (by simp)]
    simp[List.range_succ,fk]
   have hln : ∀ a b c:List D,(a::b::c::List.replicate k [D.int .i64 0]).length=3+k:=fun a b c=>by simp;omega
   have agl : ∀ a b c:List D,a::b::c::List.replicate k [D.int .i64 0]++ [[D.int .i64 0]] = a::b::c::List.replicate (k+1) [D.int .i64 0]:=fun a b c=>by rw[List.replicate_succ'];rfl
   refine bg.kB ?_
   simp only[row]
   repeat' (first
 |simp only[go_sem,hC,hE,hM,hY,eU,hln,agl]
 |(with_reducible first|refine aX fun hc=>?_|refine aY fun hc=>?_|refine aZ (fun hc=>?_) fun hc=>?_)<;>(try simp only[hc,bs,↓reduceIte]at h)<;>try simp only[hc]
 |(with_reducible refine aB hQ ?_;(try cases h);simp only[aR,aS,bo,bp,go_sem,hC,hE,hM,hY,eU,hln,agl];try exact bS)
 | (cases h;done))
   have:=ih (k+1) (by omega)
   simp only[row,List.range_succ,List.map_append,List.map_cons,List.map_nil]at this
   refine bg.pZ ?_ this
   simp only[go_sem,aL cp]
   repeat' (first|exact Ok.out|with_reducible refine eP ?_ ?_)
 repeat' (first
 |simp only[go_sem,hC,hE,hM,hY,b1,b2]
 |(with_reducible first|refine aX fun hc=>?_|refine aY fun hc=>?_|refine aZ (fun hc=>?_) fun hc=>?_)<;>(try simp only[hc,bs,↓reduceIte]at h)<;>try simp only[hc]
 |(with_reducible refine aB hQ ?_;(try cases h);simp only[aR,aS,bo,bp,go_sem,hC,hE,hM,hY,b1,b2];try exact bS)
 |(cases h;done))
 refine je.once (Sem.iS ?_)
 repeat' (first
 |simp only[go_sem,hC,hE,hM,hY,b1,b2]
 |(with_reducible refine CU (cM _) ?_)
 |(with_reducible first|refine aX fun hc=>?_|refine aY fun hc=>?_|refine aZ (fun hc=>?_) fun hc=>?_)<;>(try simp only[hc,bs,↓reduceIte]at h)<;>try simp only[hc]
 |(with_reducible refine aB hQ ?_;(try cases h);simp only[aR,aS,bo,bp,go_sem,hC,hE,hM,hY,b1,b2];try exact bS)
 |(cases h;done))
 refine Sem.iS ?_
 repeat' (first
 |simp only[go_sem,hC,hE,hM,hY]
 |(with_reducible refine CU (cN _) ?_)
 |(with_reducible first|refine aX fun hc=>?_|refine aY fun hc=>?_|refine aZ (fun hc=>?_) fun hc=>?_)<;>(try simp only[hc,bs,↓reduceIte]at h)<;>try simp only[hc]
 |(with_reducible refine aB hQ ?_;exact eA)
 |(cases h;done))
 refine Sem.iS ?_
 repeat' (first
 |simp only[go_sem,hC,hE,hM,hY]
 |(with_reducible first|refine aX fun hc=>?_|refine aY fun hc=>?_|refine aZ (fun hc=>?_) fun hc=>?_)<;>(try simp only[hc,bs,↓reduceIte]at h)<;>try simp only[hc]
 |(with_reducible refine aB hQ ?_;exact eA)
 |(cases h;done))
 refine bg.qM 2 9 1 rfl rfl ?_
 refine bg.qM 2 10 2 rfl rfl ?_
 refine bg.qM 2 1 1 rfl rfl ?_
 simp only[List.set_cons_succ,List.set_cons_zero,List.length_nil,List.nil_append,List.length_cons,List.cons_append]
 have l0:=loop G 0 (by omega)
 simp only[row,List.range_zero,List.map_nil,List.replicate_zero]at l0
 refine bg.re [(2, .int .i64 fuel),(8, .ptr 1 0),(10, .ptr 2 0),(34, .int .i64 (G:Int)),(35, .int .i64 ((0:Nat):Int))]
  [cO p,Ci,[.dO (fA p) 0, .slice (.tok 2) 1 [], .slice .shared 1 (T.map cT), .slice .shared 1 (W.map cT), .eH 1, .eH 1, .int .i64 0, .int .i64 0, .int .i64 0, .slice (.tok 0) 1 [], .slice (.tok 1) 2 []]] 3 3 (by rw[hB];exact Nat.zero_le _) (by rw[hB];exact Nat.zero_le _) ?_ ?_ ?_
 ·simp only [go_sem,hG]
  repeat' (first|exact Ok.out|with_reducible refine eP ?_ ?_)
 ·simp only [go_sem,Zz]
  repeat' (first|exact Ok.out|with_reducible refine eP ?_ ?_)
 have r1 : ∀ os ts,D.eW os ts (fA p)=fA p:=fun os ts=>fb os ts _ (uw p)
 have r2 : ∀ n m,D.bI n m (fA p)=true:=fun n m=>gH (Nat.zero_le n) (Nat.zero_le m) _ (uw p)
 have r3 : ∀ os ts l,D.nW os ts (List.map cT l)=List.map cT l:=fun os ts l=>ik os ts _ (kL l)
 have r4 : ∀ n m l,D.gY n m (List.map cT l)=true:=fun n m l=>lG (Nat.zero_le n) (Nat.zero_le m) _ (kL l)
 refine bg.as3 hB [2,0,1] _ _ (by decide) (by simp) ?_ ?_ l0
 ·simp[B9,D.eW,D.de,D.nW,D.bI,D.gY,D.ok,Tag.de,Tag.ok,St.cut,r1,r2,r3,r4,NQ,Ut,Ci]
 ·simp[DC,Tm.get,D.de,D.ok]
theorem wk {a b:List Int} (ha:a.length<1000000000) (g:Tag) (s:St):az Tryz.prog iD [.slice .shared 1 (a.map cT), .slice g 1 (b.map cT)] s (.bool (a==b)) s:=by
 refine bL.mA (.cons (Wk.refl _) (.cons (Wk.shared _ _ _) .nil)) (az.pure ?_ (by simp[D.bI,D.ok,Tag.ok,kL]) rfl s)
 generalize h:(a==b)=R
 unfold S0
 by_cases hl:a.length=b.length
 ·have e1:((a.length:Int) != (b.length:Int))=false:=by simp [hl]
  refine az.go vP rfl fun B Q hB hQ=>?_
  have⟨hC,hE,hM,hY⟩:=bE
  repeat' (first
 |simp only[go_sem,hC,hE,hM,hY,e1]
 |(with_reducible first|refine aX fun hc=>?_|refine aY fun hc=>?_|refine aZ (fun hc=>?_) fun hc=>?_)<;>(try simp only[hc,bs,↓reduceIte]at h)<;>try simp only[hc]
 |(with_reducible refine aB hQ ?_;(try cases h);simp only[aR,aS,bo,bp,go_sem,hC,hE,hM,hY,e1];try exact bS)
 | (cases h;done))
  refine dS 0 0 (bg.ind (ι:=List Int×List Int×Nat) (fun i=>a.drop i.2.2=i.1∧b.drop i.2.2=i.2.1∧(i.1==i.2.1)=R) (fun i=>i.1.length)
   (fun i=> [(0, .slice .shared 1 (a.map cT)),(1, .slice .shared 1 (b.map cT)),(12, .int .i64 (a.length:Int)),(13, .int .i64 (i.2.2:Int))]) (fun i=>⟨[],[]⟩) ?_ (a,b,0) ⟨rfl,rfl,h⟩)
  rintro⟨ra,rb,k⟩ ⟨h1,h2,h⟩ IH
  dsimp only at h1 h2 h
  cases ra with
  |nil=>
   have hC:=drop_nil h1
   have:b.drop k = []:=by rw[List.drop_eq_nil_iff]at h1 ⊢;omega
   rw[h2]at this
   subst this
   have h':true=R:=h
   subst h'
   repeat' (first
 |simp only[go_sem,hC,hE,hM,hY]
 |(with_reducible first|refine aX fun hc=>?_|refine aY fun hc=>?_|refine aZ (fun hc=>?_) fun hc=>?_)<;>(try simp only[hc,bs,↓reduceIte]at h)<;>try simp only[hc]
 |(with_reducible refine aB hQ ?_;exact eA)
 | (cases h;done))
  | cons x ra=>
   obtain⟨hE,g2,hC,g4⟩:=drop_cons h1
   have cp:k<4611686018427387904:=by omega
   cases rb with
   |nil=>rw[List.drop_eq_nil_iff]at h2;omega
   | cons y rb=>
    obtain⟨l9,g2',Xj,g4'⟩:=drop_cons h2
    have e2:(x != y) = !(x==y):=rfl
    simp only[List.cons_beq_cons]at h
    rcases Bool.eq_false_or_eq_true (x==y)with c|c
    ·simp only [c,Bool.true_and]at h
     repeat' (first
 |simp only[go_sem,hC,hE,hM,hY,e2,c,l9]
 |(with_reducible first|refine aX fun hc=>?_|refine aY fun hc=>?_|refine aZ (fun hc=>?_) fun hc=>?_)<;>(try simp only[hc,bs,↓reduceIte]at h)<;>try simp only[hc]
 |(with_reducible refine aB hQ ?_;(try cases h);simp only[aR,aS,bo,bp,go_sem,hC,hE,hM,hY,e2,c,l9];try exact bS)
 | (cases h;done))
     refine eV 0 0 ?_ ?_ (IH (ra,rb,k+1) ⟨g2,g2',h⟩ (Nat.lt_succ_self _))
     ·(simp only[go_sem,hC,hE,hM,hY,aL cp];try exact cu)
     ·(simp only[go_sem,hC,hE,hM,hY,aL cp];try exact cu)
    ·simp only [c,Bool.false_and]at h
     repeat' (first
 |simp only[go_sem,hC,hE,hM,hY,e2,c,l9]
 |(with_reducible first|refine aX fun hc=>?_|refine aY fun hc=>?_|refine aZ (fun hc=>?_) fun hc=>?_)<;>(try simp only[hc,bs,↓reduceIte]at h)<;>try simp only[hc]
 |(with_reducible refine aB hQ ?_;(try cases h);simp only[aR,aS,bo,bp,go_sem,hC,hE,hM,hY,e2,c,l9];try exact bS)
 |(cases h;done))
 ·have e1:((a.length:Int) != (b.length:Int))=true:=by simp;omega
  have:(a==b)=false:=by
   rw[beq_eq_false_iff_ne];intro e;rw[e]at hl;exact hl rfl
  rw[this]at h
  subst h
  refine az.go vP rfl fun B Q hB hQ=>?_
  have⟨hC,hE,hM,hY⟩:=bE
  repeat' (first
 |simp only[go_sem,hC,hE,hM,hY,e1]
 |(with_reducible first|refine aX fun hc=>?_|refine aY fun hc=>?_|refine aZ (fun hc=>?_) fun hc=>?_)<;>(try simp only[hc,bs,↓reduceIte]at h)<;>try simp only[hc]
 |(with_reducible refine aB hQ ?_;(try cases h);simp only[aR,aS,bo,bp,go_sem,hC,hE,hM,hY,e1];try exact bS)
 |(cases h;done))
theorem UO {a b:List (Int×List Int)} (ha:a.length<1000000000) (hv : ∀ e∈a,e.2.length<1000000000) (s:St):az Tryz.prog rG [.slice .shared 2 (a.map gE), .slice .shared 2 (b.map gE)] s (.bool (a==b)) s:=by
 refine az.pure ?_ (by simp[D.bI,D.ok,Tag.ok,ZX]) rfl s
 generalize h:(a==b)=R
 unfold S0
 by_cases hl:a.length=b.length
 ·have e1:((a.length:Int) != (b.length:Int))=false:=by simp [hl]
  refine az.go uJ rfl fun B Q hB hQ=>?_
  have⟨hC,hE,hM,hY⟩:=bE
  repeat' (first
 |simp only[go_sem,hC,hE,hM,hY,e1]
 |(with_reducible first|refine aX fun hc=>?_|refine aY fun hc=>?_|refine aZ (fun hc=>?_) fun hc=>?_)<;>(try simp only[hc,bs,↓reduceIte]at h)<;>try simp only[hc]
 |(with_reducible refine aB hQ ?_;(try cases h);simp only[aR,aS,bo,bp,go_sem,hC,hE,hM,hY,e1];try exact bS)
 | (cases h;done))
  refine dS 0 0 (bg.ind (ι:=List (Int×List Int)×List (Int×List Int)×Nat) (fun i=>a.drop i.2.2=i.1∧b.drop i.2.2=i.2.1∧(i.1==i.2.1)=R) (fun i=>i.1.length)
   (fun i=> [(0, .slice .shared 2 (a.map gE)),(1, .slice .shared 2 (b.map gE)),(12, .int .i64 (a.length:Int)),(13, .int .i64 (i.2.2:Int))]) (fun i=>⟨[],[]⟩) ?_ (a,b,0) ⟨rfl,rfl,h⟩)
  rintro⟨ra,rb,k⟩ ⟨h1,h2,h⟩ IH
  dsimp only at h1 h2 h
  cases ra with
  |nil=>
   have hC:=drop_nil h1
   have:b.drop k = []:=by rw[List.drop_eq_nil_iff]at h1 ⊢;omega
   rw[h2]at this
   subst this
   have h':true=R:=h
   subst h'
   repeat' (first
 |simp only[go_sem,hC,hE,hM,hY]
 |(with_reducible first|refine aX fun hc=>?_|refine aY fun hc=>?_|refine aZ (fun hc=>?_) fun hc=>?_)<;>(try simp only[hc,bs,↓reduceIte]at h)<;>try simp only[hc]
 |(with_reducible refine aB hQ ?_;exact eA)
 | (cases h;done))
  | cons x ra=>
   obtain⟨hE,g2,hC,g4⟩:=drop_cons h1
   have cp:k<4611686018427387904:=by omega
   cases rb with
   |nil=>rw[List.drop_eq_nil_iff]at h2;omega
   |cons y rb=>
    obtain⟨l9,g2',Xj,g4'⟩:=drop_cons h2
    obtain⟨x1,x2⟩:=x
    obtain⟨y1,y2⟩:=y
    have e2:(x1 != y1) = !(x1==y1):=rfl
    have hb:((x1,x2)==(y1,y2))=(x1==y1 && x2==y2):=rfl
    have cE:=fun g s=>wk (a:=x2) (b:=y2) (hv _ (List.mem_of_getElem? hE)) g s
    simp only[List.cons_beq_cons,hb]at h
    rcases Bool.eq_false_or_eq_true (x1==y1)with c|c<;>rcases Bool.eq_false_or_eq_true (x2==y2)with c2|c2<;>simp only[c,c2,Bool.true_and,Bool.false_and]at h
    ·repeat' (first
 |simp only[go_sem,hC,hE,hM,hY,e2,c,c2,l9,gE]
 |(with_reducible refine CU (cE _ _) ?_)
 |(with_reducible first|refine aX fun hc=>?_|refine aY fun hc=>?_|refine aZ (fun hc=>?_) fun hc=>?_)<;>(try simp only[hc,bs,↓reduceIte]at h)<;>try simp only[hc]
 |(with_reducible refine aB hQ ?_;(try cases h);simp only[aR,aS,bo,bp,go_sem,hC,hE,hM,hY,e2,c,c2,l9,gE];try exact bS)
 | (cases h;done))
     refine eV 0 0 ?_ ?_ (IH (ra,rb,k+1) ⟨g2,g2',h⟩ (Nat.lt_succ_self _))
     ·(simp only[go_sem,hC,hE,hM,hY,aL cp,gE];try exact cu)
     ·(simp only[go_sem,hC,hE,hM,hY,aL cp,gE];try exact cu)
    ·repeat' (first
 |simp only[go_sem,hC,hE,hM,hY,e2,c,c2,l9,gE]
 |(with_reducible refine CU (cE _ _) ?_)
 |(with_reducible first|refine aX fun hc=>?_|refine aY fun hc=>?_|refine aZ (fun hc=>?_) fun hc=>?_)<;>(try simp only[hc,bs,↓reduceIte]at h)<;>try simp only[hc]
 |(with_reducible refine aB hQ ?_;(try cases h);simp only[aR,aS,bo,bp,go_sem,hC,hE,hM,hY,e2,c,c2,l9,gE];try exact bS)
 | (cases h;done))
    ·repeat' (first
 |simp only[go_sem,hC,hE,hM,hY,e2,c,c2,l9,gE]
 |(with_reducible refine CU (cE _ _) ?_)
 |(with_reducible first|refine aX fun hc=>?_|refine aY fun hc=>?_|refine aZ (fun hc=>?_) fun hc=>?_)<;>(try simp only[hc,bs,↓reduceIte]at h)<;>try simp only[hc]
 |(with_reducible refine aB hQ ?_;(try cases h);simp only[aR,aS,bo,bp,go_sem,hC,hE,hM,hY,e2,c,c2,l9,gE];try exact bS)
 | (cases h;done))
    ·repeat' (first
 |simp only[go_sem,hC,hE,hM,hY,e2,c,c2,l9,gE]
 |(with_reducible refine CU (cE _ _) ?_)
 |(with_reducible first|refine aX fun hc=>?_|refine aY fun hc=>?_|refine aZ (fun hc=>?_) fun hc=>?_)<;>(try simp only[hc,bs,↓reduceIte]at h)<;>try simp only[hc]
 |(with_reducible refine aB hQ ?_;(try cases h);simp only[aR,aS,bo,bp,go_sem,hC,hE,hM,hY,e2,c,c2,l9,gE];try exact bS)
 |(cases h;done))
 ·have e1:((a.length:Int) != (b.length:Int))=true:=by simp;omega
  have:(a==b)=false:=by
   rw[beq_eq_false_iff_ne];intro e;rw[e]at hl;exact hl rfl
  rw[this]at h
  subst h
  refine az.go uJ rfl fun B Q hB hQ=>?_
  have⟨hC,hE,hM,hY⟩:=bE
  repeat' (first
 |simp only[go_sem,hC,hE,hM,hY,e1]
 |(with_reducible first|refine aX fun hc=>?_|refine aY fun hc=>?_|refine aZ (fun hc=>?_) fun hc=>?_)<;>(try simp only[hc,bs,↓reduceIte]at h)<;>try simp only[hc]
 |(with_reducible refine aB hQ ?_;(try cases h);simp only[aR,aS,bo,bp,go_sem,hC,hE,hM,hY,e1];try exact bS)
 |(cases h;done))
structure Mc.Len (m:Mc):Prop where
 out:m.out.length<1000000000
 trace:m.trace.length<1000000000
 dj : ∀ e∈m.trace,e.2.length<1000000000
def CW (a b:Mc):Bool:=a.fin==b.fin && (a.steps==b.steps && (a.reads==b.reads && a.out==b.out))
def F0 (a b:Mc):Bool:=CW a b && a.trace==b.trace
theorem ab7 {a b:Mc} (ha:a.Len) (s:St):az Tryz.prog ub [.agg (eK a), .agg (eK b)] s (.bool (CW a b)) s:=by
 refine az.pure ?_ (by simp[D.bI,D.ok,FZ]) rfl s
 have cE:=fun g s=>wk (a:=a.out) (b:=b.out) ha.out g s
 generalize h:CW a b=R
 simp only[CW]at h
 unfold S0
 simp only[eK]
 rcases Bool.eq_false_or_eq_true (a.fin==b.fin)with c1|c1
 all_goals rcases Bool.eq_false_or_eq_true (a.steps==b.steps)with c2|c2
 all_goals rcases Bool.eq_false_or_eq_true (a.reads==b.reads)with c3|c3
 all_goals
  simp only[c1,c2,c3,Bool.true_and,Bool.false_and]at h
  subst h
  refine az.go E5 rfl fun B Q hB hQ=>?_
  have⟨hC,hE,hM,hY⟩:=bE
  repeat' (first
 |simp only[go_sem,hC,hE,hM,hY,c1,c2,c3]
 |(with_reducible refine CU (cE _ _) ?_)
 |(with_reducible first|refine aX fun hc=>?_|refine aY fun hc=>?_|refine aZ (fun hc=>?_) fun hc=>?_)<;>(try simp only[hc,bs,↓reduceIte]at h)<;>try simp only[hc]
 |(with_reducible refine aB hQ ?_;(try cases h);simp only[aR,aS,bo,bp,go_sem,hC,hE,hM,hY,c1,c2,c3];try exact bS)
 |(cases h;done))
theorem ab8 {a b:Mc} (ha:a.Len) (s:St):az Tryz.prog oq [.agg (eK a), .agg (eK b)] s (.bool (F0 a b)) s:=by
 refine az.pure ?_ (by simp[D.bI,D.ok,FZ]) rfl s
 have c1:=fun s=>ab7 (b:=b) ha s
 have c2:=fun s=>UO (a:=a.trace) (b:=b.trace) ha.trace ha.dj s
 have e : ∀ m:Mc,(eK m).length=5:=fun m=>rfl
 have e0 : ∀ m:Mc,List.take 5 (eK m)=eK m:=fun m=>rfl
 have e4 : ∀ m:Mc,(eK m)[4]? = some (.slice .shared 2 (m.trace.map gE)):=fun m=>rfl
 generalize h:F0 a b=R
 simp only[F0]at h
 unfold S0
 rcases Bool.eq_false_or_eq_true (CW a b)with b1|b1
 all_goals
  simp only[b1,Bool.true_and,Bool.false_and]at h
  subst h
  refine az.go E4 rfl fun B Q hB hQ=>?_
  have⟨hC,hE,hM,hY⟩:=bE
  repeat' (first
 |simp only[go_sem,hC,hE,hM,hY,b1,e,e0,e4]
 |(with_reducible refine CU (c1 _) ?_)
 |(with_reducible refine CU (c2 _) ?_)
 |(with_reducible first|refine aX fun hc=>?_|refine aY fun hc=>?_|refine aZ (fun hc=>?_) fun hc=>?_)<;>(try simp only[hc,bs,↓reduceIte]at h)<;>try simp only[hc]
 |(with_reducible refine aB hQ ?_;(try cases h);simp only[aR,aS,bo,bp,go_sem,hC,hE,hM,hY,b1,e,e0,e4];try exact bS)
 |(cases h;done))
theorem Hb:eK (ofM r9 [] [5,2] 50).1 = [.int .i64 1, .int .i64 7, .int .i64 0, .slice .shared 1 ([5,5].map cT), .slice .shared 2 ([(2,[]),(5,[5])].map gE)]:=by kernel_rfl
theorem aiU:(ofM r9 [] [5,2] 50).2=0:=by kernel_rfl
theorem ab9:Nat.ble (r9.size+1) 1000=true:=by kernel_rfl
theorem UP (n:Int):qH (.ofInt .f64) (.int .i64 n) (.int .i64 n)=some (.val (.float .f64 (FloatKind.nearest .f64 n))):=nd rfl
theorem L4 (a b:Nat):qH .Js (.val (.float .f64 a)) (.val (.float .f64 b))=some (.val (.complex .f64 a b)):=nd rfl
theorem L5 (a b:Nat) (d:D):qH .real (.val (.complex .f64 a b)) d=some (.val (.float .f64 a)):=nd rfl
theorem Z0:qH .eq (.val (.float .f64 (FloatKind.nearest .f64 7))) (.val (.float .f64 4619567317775286272))=some (.bool true):=by
 have:FloatKind.nearest .f64 7=4619567317775286272:=by decide +kernel
 rw[this]
 have h:(FloatKind.f64.format.order 4619567317775286272 4619567317775286272==some .eq)=true:=by decide +kernel
 show(if FloatKind.f64=FloatKind.f64 then some (D.bool (FloatKind.f64.format.order 4619567317775286272 4619567317775286272==some .eq))else none)=_
 rw[if_pos rfl,h]
theorem ago:r9.jc:=by
 have vm:r9.size<100000:=by have:=Nat.le_of_ble_eq_true ab9;omega
 exact⟨BX (by decide +kernel) (by omega),by omega⟩
theorem agp (n k:Nat) (m:Mc):D.gA n k (eK m)=eK m:=il n k _ (FZ m)
theorem aca (m:Mc):(eK m).length=5:=nd rfl
theorem X9 (m:Mc):List.take 5 (eK m)=eK m:=nd rfl
theorem aiV (m:Mc):(eK m)[0]? = some (.int .i64 m.fin):=nd rfl
theorem aiW (m:Mc):(eK m)[1]? = some (.int .i64 m.steps):=nd rfl
theorem aiX (m:Mc):(eK m)[2]? = some (.int .i64 m.reads):=nd rfl
theorem aiY (m:Mc):(eK m)[3]? = some (.slice .shared 1 (m.out.map cT)):=nd rfl
theorem aiZ (m:Mc):(eK m)[4]? = some (.slice .shared 2 (m.trace.map gE)):=nd rfl
attribute [go_sem] agp aca X9 aiV aiW aiX aiY aiZ
theorem acb (m:Mc) (s:St):az Tryz.prog xB [.agg (eK m)] s (.val (.complex .f64 (FloatKind.nearest .f64 m.steps) (FloatKind.nearest .f64 m.reads))) s:=by
 refine az.pure ?_ (by simp[D.bI,D.ok,FZ]) rfl s
 unfold S0
 refine az.go Iu rfl fun B Q hB hQ=>?_
 have⟨hC,hE,hM,hY⟩:=bE
 repeat' (first
 |simp only[go_sem,hC,hE,hM,hY,eK,UP,L4]
 |(with_reducible first|refine aX fun hc=>?_|refine aY fun hc=>?_|refine aZ (fun hc=>?_) fun hc=>?_)<;>(try simp only[hc,bs,↓reduceIte]at h)<;>try simp only[hc]
 |(with_reducible refine aB hQ ?_;(try cases h);simp only[aR,aS,bo,bp,go_sem,hC,hE,hM,hY,eK,UP,L4];try exact bS)
 |(cases h;done))
theorem ai0 (s:St):az Tryz.prog xx [] s (.bool true) s:=by
 refine az.pure ?_ rfl rfl s
 have h1:=fun s=>afs s
 have h2:=fun s=>agi (T:= []) (W:= [5,2]) ago (by simp) (by simp) 50 s
 have h4:=fun s=>acb (ofM r9 [] [5,2] 50).1 s
 have m1:(ofM r9 [] [5,2] 50).1.steps=7:=by have:=congrArg (fun l=>l[1]?) Hb;simpa[eK]using this
 have m2:(ofM r9 [] [5,2] 50).1.reads=0:=by have:=congrArg (fun l=>l[2]?) Hb;simpa[eK]using this
 rw[m1,m2]at h4
 rw[Hb]at h2 h4
 rw[aiU]at h2
 simp only[List.map_cons,List.map_nil,cT,gE]at h2 h4
 have h3:=fun g s=>wk (a:= [5,5]) (b:= [5,5]) (by simp) g s
 have h5:=fun g s=>wk (a:= [5]) (b:= [5]) (by simp) g s
 have e5:(([5,5] : List Int) == [5,5])=true:=rfl
 have e6:(([5] : List Int) == [5])=true:=rfl
 rw[e5]at h3
 rw[e6]at h5
 simp only[List.map_cons,List.map_nil,cT]at h3 h5
 have uF:=fun s=>bL.mA (.cons (Wk.refl _) (.cons (Wk.nil .full 0 1) (.cons (Wk.refl _) (.cons (Wk.shared .full _ _) .nil)))) (h2 s)
 have h2 : ∀ s,az Tryz.prog kp [.agg (cO r9), .slice .full 0 [], .int .i64 50, .slice .full 1 [[.int .i64 5],[.int .i64 2]]] s _ s:=uF
 clear uF
 have z0 : ∀ x:Int,(x==x)=true:=fun x=>beq_self_eq_true x
 have z2:(((2:Nat):Int)==2)=true:=rfl
 unfold S0
 refine az.go Iq rfl fun B Q hB hQ=>?_
 have⟨hC,hE,hM,hY⟩:=bE
 repeat' (first
 |simp only[go_sem,hC,hE,hM,hY,z0,z2,L5,Z0,Int.toNat_one,List.getElem?_cons_succ,List.getElem?_cons_zero]
 |(with_reducible refine CU (h1 _) ?_)
 |(with_reducible refine CU (h2 _) ?_)
 |(with_reducible refine CU (h3 _ _) ?_)
 |(with_reducible refine CU (h5 _ _) ?_)
 |(with_reducible refine CU (h4 _) ?_)
 |(with_reducible first|refine aX fun hc=>?_|refine aY fun hc=>?_|refine aZ (fun hc=>?_) fun hc=>?_)<;>(try simp only[hc,bs,↓reduceIte]at h)<;>try simp only[hc]
 |(with_reducible refine aB hQ ?_;(try cases h);simp only[aR,aS,bo,bp,go_sem,hC,hE,hM,hY,z0,z2,L5,Z0,Int.toNat_one,List.getElem?_cons_succ,List.getElem?_cons_zero];try exact bS)
 |(cases h;done))
def Pg.whole (p:Pg) (T:List Int) (fuel:Int):Mc:=(ofM p T (Xw 0 p.all) fuel).1
end Go.Abs
namespace Go.Abs
open Go.Proofs
theorem N4 {m:Mc} {fin steps reads:Int} {out:List Int} (h1:m.fin=fin) (h2:m.steps=steps) (h3:m.reads=reads) (h4:m.out=out) (h5:m.trace = []) (hl:out.length<1000000) (g g2:Tag) (z z2:Nat) (hz:z=1∨out = []) (s:St) :
 az Tryz.prog oq [.agg (eK m), .agg [.int .i64 fin, .int .i64 steps, .int .i64 reads, .slice g z (out.map cT), .slice g2 z2 []]] s (.bool true) s:=by
 have hm:m.Len:=⟨by rw[h4];omega,by rw[h5];simp,by rw[h5];simp⟩
 have:=ab8 (a:=m) (b:=⟨[],[],fin,steps,reads,out,[]⟩) hm s
 have e:F0 m ⟨[],[],fin,steps,reads,out,[]⟩=true:=by
  unfold F0 CW
  rw[h1,h2,h3,h4,h5];simp
 rw[e]at this
 refine bL.mA (.cons (Wk.refl _) (.cons (Wk.agg (.cons (Wk.refl _) (.cons (Wk.refl _) (.cons (Wk.refl _) (.cons ?_ (.cons (Wk.nil _ _ _) .nil)))))) .nil)) this
 rcases hz with rfl|rfl
 ·exact Wk.shared _ _ _
 ·exact Wk.nil _ _ _
set_option maxRecDepth 100000
open Go.Proofs
structure Hand (T:aF) (p:Pg):Prop where
 read:FI 20000 T=some (p,0,0)
 may:p.may=true
 check:p.check=(0,0)
 size:p.size<100000
 len:T.length<4611686018427387904
theorem UQ:Hand ZL Jk:=⟨by kernel_rfl,by decide +kernel,by decide +kernel,by decide +kernel,by decide +kernel⟩
theorem UR:Hand ZM Jl:=⟨by kernel_rfl,by decide +kernel,by decide +kernel,by decide +kernel,by decide +kernel⟩
theorem US:Hand ZN Jm:=⟨by kernel_rfl,by decide +kernel,by decide +kernel,by decide +kernel,by decide +kernel⟩
theorem UT:Hand ZO Jn:=⟨by kernel_rfl,by decide +kernel,by decide +kernel,by decide +kernel,by decide +kernel⟩
theorem Hand.text {T:aF} {p:Pg} (h:Hand T p) (s:St):az Tryz.prog lH [.str T] s (.tuple [.agg (cO p), .agg [.int .i64 0, .int .i64 0]]) s:=XD h.read h.may h.check h.size h.len s
theorem Hand.run {T:aF} {p:Pg} (h:Hand T p) {L W:List Int} {fuel:Int} {m:Mc} (hm:runM p L W fuel=some m) (h0:0≤fuel) (h1:fuel≤1000000) (hL:L.length<1000000) (hW:W.length<1000000) (s:St) :
 az Tryz.prog kp [.agg (cO p), .slice .shared 1 (L.map cT), .int .i64 fuel, .slice .shared 1 (W.map cT)] s (.tuple [.agg (eK m), .int .i64 0]) s:=by
 have hs:=h.size
 have ho:p.jc:=⟨BX h.may (by omega),by omega⟩
 have:=agi ho hL hW fuel s
 have e:ofM p L W fuel=(m,0):=by
  unfold ofM
  rw[if_neg,hm];rfl
  rw[h.check];simp;omega
 rw[e]at this
 exact this
end Go.Abs
namespace Go.Abs
set_option maxRecDepth 8000
open Go.Proofs
theorem F1 {p:Pg} {T W:List Int} {fuel fin steps reads:Int} {out:List Int} {tr:Nat} (h:CN p T W fuel fin steps reads out tr=true) : ∃ m,runM p T W fuel=some m∧m.fin=fin∧m.steps=steps∧m.reads=reads∧m.out=out∧m.trace.length=tr:=by
 unfold CN at h
 cases e:runM p T W fuel with
 |none=>rw[e]at h;cases h
 |some m=>
  rw[e]at h
  simp only[Bool.and_eq_true,beq_iff_eq]at h
  exact⟨m,rfl,h.1,h.2.1,h.2.2.1,h.2.2.2.1,h.2.2.2.2⟩
theorem Ie {a b:List Int} (h:a=b) (hl:b.length<1000000) (s:St):az Tryz.prog iD [.slice .shared 1 (a.map cT), .slice .full 1 (b.map cT)] s (.bool true) s:=by
 subst h
 have:=wk (a:=a) (b:=a) (by omega) .full s
 rwa [beq_self_eq_true]at this
theorem MY (s:St):az Tryz.prog wN [] s (.bool true) s:=by
 refine az.pure ?_ rfl rfl s
 have h1:=fun s=>ai0 s
 have t1:=fun s=>UQ.text s
 have t2:=fun s=>UR.text s
 have t3:=fun s=>US.text s
 have t4:=fun s=>UT.text s
 unfold ZL at t1
 unfold ZM at t2
 unfold ZN at t3
 unfold ZO at t4
 obtain⟨m1,a1,a2,a3,a4,a5,a6⟩:=F1 Xz
 obtain⟨m2,b1,b2,b3,b4,b5,b6⟩:=F1 XA
 obtain⟨m3,c1,c2,c3,c4,c5,c6⟩:=F1 XB
 obtain⟨m4,d1,d2,d3,d4,d5,d6⟩:=F1 XC
 have r1:=fun s=>bL.mA (.cons (Wk.refl _) (.cons (Wk.nil .full 0 1) (.cons (Wk.refl _) (.cons (Wk.shared .full _ _) .nil)))) (UQ.run a1 (by omega) (by omega) (by simp) (by simp) s)
 have r2:=fun s=>bL.mA (.cons (Wk.refl _) (.cons (Wk.shared .full _ _) (.cons (Wk.refl _) (.cons (Wk.nil .full 0 1) .nil)))) (UR.run b1 (by omega) (by omega) (by simp) (by simp) s)
 have r3:=fun s=>bL.mA (.cons (Wk.refl _) (.cons (Wk.nil .full 0 1) (.cons (Wk.refl _) (.cons (Wk.shared .full _ _) .nil)))) (US.run c1 (by omega) (by omega) (by simp) (by simp) s)
 have r4:=fun s=>bL.mA (.cons (Wk.refl _) (.cons (Wk.shared .full _ _) (.cons (Wk.refl _) (.cons (Wk.nil .full 0 1) .nil)))) (UT.run d1 (by omega) (by omega) (by simp) (by simp) s)
 have r1 : ∀ s,az Tryz.prog kp [.agg (cO Jk), .slice .full 0 [], .int .i64 100, .slice .full 1 [[.int .i64 1]]] s (.tuple [.agg (eK m1), .int .i64 0]) s:=r1
 have r2 : ∀ s,az Tryz.prog kp [.agg (cO Jl), .slice .full 1 [[.int .i64 21]], .int .i64 1000, .slice .full 0 []] s (.tuple [.agg (eK m2), .int .i64 0]) s:=r2
 have r3 : ∀ s,az Tryz.prog kp [.agg (cO Jm), .slice .full 0 [], .int .i64 10, .slice .full 1 [[.int .i64 2]]] s (.tuple [.agg (eK m3), .int .i64 0]) s:=r3
 have r4 : ∀ s,az Tryz.prog kp [.agg (cO Jn), .slice .full 1 [[.int .i64 (-9)]], .int .i64 10, .slice .full 0 []] s (.tuple [.agg (eK m4), .int .i64 0]) s:=r4
 have e1:=fun s=>Ie a5 (by simp) s
 have e2:=fun s=>Ie b5 (by simp) s
 have e3:=fun s=>N4 c2 c3 c4 c5 (List.eq_nil_of_length_eq_zero c6) (by simp) .full .full 1 0 (.inl rfl) s
 have e4:=fun s=>N4 d2 d3 d4 d5 (List.eq_nil_of_length_eq_zero d6) (by simp) .full .full 1 0 (.inl rfl) s
 simp only[List.map_cons,List.map_nil,cT]at e1 e2 e3 e4
 have z : ∀ x:Int,(x==x)=true:=fun x=>beq_self_eq_true x
 have f1:(m1.fin==4)=true:=by rw[a2];rfl
 have f2:((m1.trace.length:Int)==4)=true:=by rw[a6];rfl
 have f3:(m2.fin==1)=true:=by rw[b2];rfl
 generalize Jk=P1 at *
 generalize Jl=P2 at *
 generalize Jm=P3 at *
 generalize Jn=P4 at *
 unfold S0
 refine az.go C7 rfl fun B Q hB hQ=>?_
 have⟨hC,hE,hM,hY⟩:=bE
 repeat' (first
 |simp only[go_sem,hC,hE,hM,hY,z,f1,f2,f3]
 |(with_reducible refine CU (h1 _) ?_)
 |(with_reducible refine CU (t1 _) ?_)
 |(with_reducible refine CU (t2 _) ?_)
 |(with_reducible refine CU (t3 _) ?_)
 |(with_reducible refine CU (t4 _) ?_)
 |(with_reducible refine CU (r1 _) ?_)
 |(with_reducible refine CU (r2 _) ?_)
 |(with_reducible refine CU (r3 _) ?_)
 |(with_reducible refine CU (r4 _) ?_)
 |(with_reducible refine CU (e1 _) ?_)
 |(with_reducible refine CU (e2 _) ?_)
 |(with_reducible refine CU (e3 _) ?_)
 |(with_reducible refine CU (e4 _) ?_)
 |(with_reducible first|refine aX fun hc=>?_|refine aY fun hc=>?_|refine aZ (fun hc=>?_) fun hc=>?_)<;>(try simp only[hc,bs,↓reduceIte]at h)<;>try simp only[hc]
 |(with_reducible refine aB hQ ?_;(try cases h);simp only[aR,aS,bo,bp,go_sem,hC,hE,hM,hY,z,f1,f2,f3];try exact bS)
 |(cases h;done))
def M0:Map:=⟨fun _ _=>none,fun _=>(0, .any),fun _=>none⟩
def Kept (w w':World):Prop:=w.keptBut w' (fun _=>False)∧∀ a:Addr,a.block<w.heap.size→w'.frozen? a=w.frozen? a
theorem Kept.frame {w w':World} (h:Kept w w') (may:MemPlace→Prop):w.keptBut w' may:=World.keptBut_mono (fun _ f=>f.elim) h.1
theorem Ext.agq {M M':Map} {s':St} {w w':World} (e:Ext M S0 w M' s' w'):Kept w w':=by
 have hh : ∀ b,b<w.heap.size→w'.heap[b]? = w.heap[b]? :=fun b hb=>
  e.kept b hb (fun o ho=>by simp[S0]at ho) (fun t c z hl=>by obtain⟨n,hn⟩:=hl;simp[S0]at hn)
 refine⟨⟨e.os,e.output,fun i hi=>?_⟩,fun a ha=>?_⟩
 ·rw [hh i hi]
  exact(World.keptBut_refl w (fun _=>False)).2.2 i hi
 ·simp only[World.frozen?,hh _ ha]
theorem atk (G:Nat→Nat→Option Value) (w:World) (h : ∀ b o v,G b o=some v→w.cell? ⟨b,o,none⟩=some v∧v.oneCell'=true):Rel ⟨G,fun _=>(0, .any),fun _=>none⟩ S0 w:=
 ⟨h,fun o ds e=>by simp [S0]at e,fun o ho=>by simp [S0]at ho,fun o o' ho=>by simp [S0]at ho,fun t n e=>by simp [S0]at e,
  fun t b c z o hl=>by obtain⟨n,hn⟩:=hl;simp[S0]at hn,fun t t' b c z c' z' hl=>by obtain⟨n,hn⟩:=hl;simp[S0]at hn⟩
def RF (w:World):Prop:=∀ g cs,acv g=some cs→∃ T fr,w.heap[g]? = some (.cells cs T fr)
theorem ai1 (G:Nat→Nat→Option Value) {w:World} (h:RF w):Laid ⟨G,fun _=>(0, .any),fun _=>none⟩ S0 w:=
 fun g cs hg=>⟨h g cs hg,fun o ho=>by simp[S0]at ho,fun t c z hl=>by obtain⟨n,hn⟩:=hl;simp[S0]at hn⟩
theorem UU {P:Program} {f:FuncId} {args:List D} {fL:Array Value} {w:World} {G:Nat→Nat→Option Value} (h:bL P f args S0 fun d _=>d = .bool true)
 (hG : ∀ b o v,G b o=some v→w.cell? ⟨b,o,none⟩=some v∧v.oneCell'=true) (hl:fL.size=args.length)
 (ha : ∀ (i:Nat) (d:D) (v:Value),args[i]? = some d→fL[i]? = some v→RD ⟨G,fun _=>(0, .any),fun _=>none⟩ S0 d v) (kQ:RF w) :
 Calls P f fL w fun e w'=>e = .returned (.bool true)∧Kept w w':=by
 refine(h _ w fL (atk G w hG) (ai1 G kQ) hl ha).mono fun e w' hw=>?_
 obtain⟨M',d,v,s',rfl,rfl,he,_,hv⟩:=hw
 rw[hv.nU]
 exact⟨rfl,he.agq⟩
section
variable {P:Program} {H:Type} {enc:TypeId×Value→H}
theorem L6 {f:Func} {s:ChangeSpec} {apart fresh handsOn again:Bool} {W W':World} {args:Array Value} {v:Value} {ds gs:List (DataW H)} {before pa pv:List MemPlace}
 (hW:DataW.Whole enc P f.params.toList s.vars apart W args.toList ds gs before)
 (agr : ∀ (b:Nat) (sp:Nat→Bool) (hd:Bool),DataW.TrodAll enc P W' b sp hd f.resultTypes.toList (v.resultList f.resultTypes.size) (s.fn H (ds++gs)).results [])
 (zo : ∀ sp:Nat→Bool,(∀ p∈before,sp p.block=true)→DataW.TrodAll enc P W' 0 sp true f.params.toList args.toList (s.fn H (ds++gs)).args pa)
 (Ae : ∀ sp:Nat→Bool,(∀ p∈before,sp p.block=true)→DataW.TrodVars enc P W' sp s.vars (s.fn H (ds++gs)).vars pv)
 (r5:before=pa++pv) (hk:Kept W W')
 (pV : ∀ (j:Nat) (t:TypeId) (r:Value),f.resultTypes[j]? = some t→(v.resultList f.resultTypes.size)[j]? = some r→Value.okWide P W' .any 0 t r) :
 s.post enc P f apart fresh handsOn again W args v W':=by
 have hC : ∀ p∈before,p.block<W.heap.size:=fun p hp=>hW.lt p hp
 have hold : ∀ p∈before,(fun b=>decide (b<W.heap.size)) p.block=true:=fun p hp=>by simpa using hC p hp
 refine⟨ds,gs,before,[],pa,pv,hW,agr _ _ _,zo _ hold,Ae _ hold,World.keptBut_mono (fun p hp=>⟨hp, ?_⟩) (hk.frame (· ∈before)),fun _=>?_⟩
 ·rw [r5,List.mem_append]at hp
  exact Or.inr hp
 ·obtain⟨_,_,_,_,_,hz,hn⟩:=hW
  refine⟨pV,_,_,([]++pa)++pv,⟨[]++pa,pv,ChangeShapes.trodAll_append (zo _ (fun _ _=>rfl)) (agr _ _ _),Ae _ (fun _ _=>rfl),rfl, ?_, ?_⟩, ?_⟩
  ·intro b off hp
   have mU:MemPlace.cell b off∈before:=by rw[r5];simpa using hp
   rw[hk.2 _ (hC _ mU)]
   exact hz b off mU
  ·intro ha
   have:=hn ha
   rw[r5]at this
   simpa using this
  ·intro p hp _
   rw[r5]
   simpa using hp
end
end Go.Abs
namespace Go.Abs
open Go.RowKit Go.ChangeShapes Go.WideShapes
def RG (w:World) (b o:Nat):Option Value:=
 match w.cell? ⟨b,o,none⟩with
 |some v=>if v.oneCell'=true then some v else none
 |none=>none
theorem ace {w:World} (b o:Nat) (v:Value) (h:RG w b o=some v):w.cell? ⟨b,o,none⟩=some v∧v.oneCell'=true:=by
 unfold RG at h
 split at h
 ·split at h
  ·cases h;exact⟨‹_›, ‹_›⟩
  ·cases h
 ·cases h
def ags (w:World):Map:=⟨RG w,fun _=>(0, .any),fun _=>none⟩
theorem Kept.sameAt {w w':World} (h:Kept w w') {p:MemPlace} (hp:p.block<w.heap.size):w.sameAt w' p:=by
 have hk:=h.1.2.2 p.block hp
 cases p with
 | cell b off=>
  simp only[MemPlace.block]at hk hp
  simp only[World.sameAt,World.cell?]
  split at hk
  ·rename_i c t fr c' t' NZ e e'
   rw[e,e']
   simp only[hk.2.2.2 off (fun f=>f)]
  ·rename_i es clock Bh agt e e'
   rw[e,e']
  ·rw[hk]
 | map b=>
  simp only[MemPlace.block]at hk hp
  simp only[World.sameAt]
  split at hk
  ·rename_i c t fr c' t' NZ e e'
   rw[e,e']
   obtain⟨rfl,rfl,hs,hc⟩:=hk
   have:c'=c:=by
    apply Array.ext_getElem?
    intro i
    exact hc i (fun f=>f)
   rw[this]
  ·rename_i es clock Bh agt e e'
   rcases hk with f|⟨rfl,rfl⟩
   ·exact f.elim
   ·rw[e,e']
  ·exact hk
section
variable {P:Program} {H:Type} {enc:TypeId×Value→H} {T:TypeId→Prop}
theorem F2 (K:Kids P T) (hz : ∀ {t e:TypeId},T t→P.underlying t=some (.slice e)→0<P.cellsOf e) {W W':World} (hk:Kept W W') {sp:Nat→Bool} :
 ∀ {ts:List TypeId} {vs:List Value} {ds:List (DataW H)} {ps:List MemPlace},(∀ t∈ts,T t)→(∀ p∈ps,p.block<W.heap.size)→(∀ p∈ps,sp p.block=true)→
  DataW.TrodAll enc P W 0 (fun _=>true) true ts vs ds ps→DataW.TrodAll enc P W' 0 sp true ts vs ds ps
 | [],[],[],_,_,_,_,h=>h
 |t::ts,v::vs,d::ds,ps,hT,hC,hs,⟨p,q,⟨n,h1⟩,h2,e⟩=>by
  subst e
  refine⟨p,q,⟨n,DataW.trod_stays K hz (fun f=>by cases f) (hT t (List.mem_cons_self ..)) h1 (fun x hx=>hk.sameAt (hC x (List.mem_append_left _ hx))) (fun x hx=>hs x (List.mem_append_left _ hx))⟩, ?_,rfl⟩
  exact F2 K hz hk (fun t ht=>hT t (List.mem_cons_of_mem _ ht)) (fun x hx=>hC x (List.mem_append_right _ hx)) (fun x hx=>hs x (List.mem_append_right _ hx)) h2
 | [],[],_::_,_,_,_,_,h=>h.elim
 | [],_::_,_,_,_,_,_,h=>h.elim
 |_::_,[],_,_,_,_,_,h=>h.elim
 |_::_,_::_,[],_,_,_,_,h=>h.elim
theorem Ya (K:Kids P T) (hz : ∀ {t e:TypeId},T t→P.underlying t=some (.slice e)→0<P.cellsOf e) {f:Func} {s:ChangeSpec} {apart fresh handsOn again:Bool} {tb:TypeId} {W W':World} {args:Array Value} {ds gs:List (DataW H)} {before:List MemPlace}
 (hT : ∀ t∈f.params.toList,T t) (hb:P.underlying tb=some .bool) (hr:f.resultTypes = #[tb]) (Ae:s.vars = []) (hW:DataW.Whole enc P f.params.toList s.vars apart W args.toList ds gs before)
 (AG:s.fn H (ds++gs) = {results:= [.lit (.bool true)],args:=ds}) (hk:Kept W W'):s.post enc P f apart fresh handsOn again W args (.bool true) W':=by
 have hW':=hW
 have hC : ∀ p∈before,p.block<W.heap.size:=fun p hp=>hW.lt p hp
 obtain⟨p,q,hA,hV,rfl,hfz,UD⟩:=hW
 rw[Ae]at hV
 obtain⟨rfl,rfl⟩:=trodVars_none hV
 simp only[List.append_nil]at hC AG
 refine L6 (pa:=p) (pv:= []) hW' (fun b sp hd=>?_) (fun sp Dr=>?_) (fun sp Dr=>?_) rfl hk (ok_one hr rfl (okWide_bool_mk hb _))
 ·rw [List.append_nil,AG,hr]
  exact trodAll_cons_mk (shut_bool hb _) trodAll_mk0
 ·rw [List.append_nil,AG]
  simp only[List.append_nil]at Dr
  exact F2 K hz hk hT hC Dr hA
 ·rw [List.append_nil,AG,Ae]
  rfl
theorem acf {f:FuncId} {args:List D} {fL:Array Value} {w:World} (h:bL P f args S0 fun d _=>d = .bool true) (hl:fL.size=args.length)
 (ha : ∀ (i:Nat) (d:D) (v:Value),args[i]? = some d→fL[i]? = some v→RD (ags w) S0 d v) (kQ:RF w):Calls P f fL w fun e w'=>e = .returned (.bool true)∧Kept w w':=
 UU (G:=RG w) h ace hl ha kQ
end
end Go.Abs
namespace Go.Abs
open Go.Proofs
def F3 (n:Int):List D:= [.int .i64 n]
theorem ai2 (n:Int):D.bI 0 0 (F3 n)=true:=rfl
theorem agv (n m:Nat) (l:List Int):D.kP n m (l.map F3)=l.map F3:=lV ai2 n m l
attribute [go_sem] F3 agv
def ai3 (op:Int):aF:=
 if op=5 then [42]else if op=6 then [47]else if op=7 then [37]else if op=8 then [43]else if op=9 then [45]else if op=10 then [60]else if op=11 then [60,61]
 else if op=12 then [62]else if op=13 then [62,61]else if op=14 then [61,61]else if op=15 then [33,61]else if op=16 then [38,38]else [124,124]
def aAf (op:Int):Int:=(aes (ai3 op)).1
def UW:Nat→List aF
 | 0=> []
 |n+1=>UW n++ [[UInt8.ofNat (97+n)]]
end Go.Abs
namespace Go.Abs
open Go.RowKit Go.ChangeShapes Go.WideShapes
end Go.Abs
namespace Go.Abs
open Go.RowKit Go.ChangeShapes Go.WideShapes
def aAg (W:World) (ds:List D) (cs:List Value):Prop:=ds.length=cs.length∧(∀ (i:Nat) (d:D) (v:Value),ds[i]? = some d→cs[i]? = some v→RD (ags W) S0 d v)∧∀ v∈cs,v.oneCell'=true
section
variable {H:Type} {enc:TypeId×Value→H} {P:Program} {W:World} {sp:Nat→Bool}
def structOf (P:Program) (t:TypeId):List (TypeId×Nat):=
 match P.underlying t with
 |some (.struct fs)=>fs.toList.map fun f=>(f.type,f.offset)
 |_=> []
end
end Go.Abs
namespace Go.Abs
open Go.Proofs Go.RowKit Go.ChangeShapes Go.WideShapes
section
variable {H:Type} {enc:TypeId×Value→H} {W:World} {sp:Nat→Bool}
end
end Go.Abs
namespace Go.Abs
open Go.Proofs Go.ChangeShapes Go.WideShapes Go.ChangeAt Go.RowKit
theorem Yb {H:Type} {enc:TypeId×Value→H} {P:Program} {W:World} {sp:Nat→Bool} {ps:List MemPlace} : ∀ {l:List Value} {ds:List (DataW H)},DataW.TrodAll enc P W 0 sp true [] l ds ps→l = []∧ds = []
 | [],[],_=>⟨rfl,rfl⟩
 | [],_::_,h=>h.elim
 |_::_,ds,h=>by cases ds<;>exact h.elim
end Go.Abs
