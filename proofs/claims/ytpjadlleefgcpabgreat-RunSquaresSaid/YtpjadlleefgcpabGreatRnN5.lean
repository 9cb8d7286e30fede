/-
  What is proved here: part 5 of the road to the claim (RunC8, RunC9, RunL0, RunL1, RunWt, HandF, LawRh2, Glue2, Join, Binds1, Join2, Join3, Join4, Join5).
  No conditions.
-/
import Derived.Test.YtpjadlleefgcpabGreatRnN4
import Derived.RowKit3
import Derived.WalkKit
import Derived.ProofKit
import Derived.OpenShut
import Derived.ShutString
import Derived.ChangeMaps5
import Derived.ChangeStays
import Derived.KernelRfl

set_option linter.unusedSimpArgs false
set_option linter.unusedVariables false
namespace Go.Abs
set_option maxRecDepth 8000
open Go.Proofs
def eO (m:Mc):List D:= [.int .i64 m.fin, .int .i64 m.steps, .int .i64 m.reads, .slice .shared 1 (m.out.map cO), .slice .shared 2 (m.trace.map gC)]
theorem af8 (e:Int×List Int):D.bH 0 0 (gC e)=true:=by simp[gC,D.bH,D.ok,Tag.ok,kG]
theorem ZL (l:List (Int×List Int)):D.gW 0 0 (l.map gC)=true:=gX af8 l
theorem aiP (n m:Nat) (l:List (Int×List Int)):D.kL n m (l.map gC)=l.map gC:=lR af8 n m l
attribute [go_sem] aiP
abbrev runT (m:Mc):List D:= [.int .i64 m.fin, .int .i64 m.steps, .int .i64 m.reads, .slice (.tok 0) 1 (m.out.map cO), .slice (.tok 1) 2 (m.trace.map gC)]
section
variable {p:Pg} {T W:List Int} {fuel:Int} {B:e7} {Q:Exit→Tm→St→Prop} {mf:Mc}
theorem Inv.rr {y:Lay} {m:Mc} {s:St} {q:Nat} {r r':List D} {loc:List (Nat×List D)} (h:Inv p T W y m ((q,r)::loc) s) (hq : ∀ x∈loc,x.1≠q) (hr:r.length≠4):Inv p T W y m ((q,r')::loc) ⟨s.ah.set q r',s.aw⟩:=by
 obtain⟨h1,h2⟩:=h.loc (q,r) (List.mem_cons_self ..)
 simp only at h1 h2
 have ne : ∀ {o:Nat} {x:List D},s.ah[o]? = some x→o≠q→(s.ah.set q r')[o]? = some x:=fun e hn=>by rw[List.getElem?_set_ne (Ne.symm hn)];exact e
 have no : ∀ o∈y.own,o≠q:=fun o mo e=>h2 (e ▸ mo)
 have ka : ∀ {d:D} {cs:List D},(∀ o∈d.arr,o∈y.own)→jO s d cs→jO ⟨s.ah.set q r',s.aw⟩ d cs:=fun hd ha=>ha.keep fun o mo=>by
  show(s.ah.set q r')[o]? = _
  rw[List.getElem?_set_ne (Ne.symm (no o (hd o mo)))]
 obtain⟨l,hl⟩:=h.dg
 refine⟨ne h.jP (no 0 (by simp[Lay.own])),h.t0,h.t1,h.len,fun i c v e1 e2=>ne (h.cell i c v e1 e2) (no c (by simp[Lay.own,List.mem_of_getElem? e1])),h.sL,fun i o fr e1 e2=>?_,ka (fun o m=>by simp[Lay.own,m]) h.stack,⟨l,ka (fun o m=>by simp[Lay.own,m]) hl⟩,h.own,fun x mx=>?_⟩
 ·obtain⟨f1,f2,f3⟩:=h.frame i o fr e1 e2
  exact⟨ne f1 (NM f1 h1 fun e=>hr (by rw[← e];rfl)),f2,f3⟩
 ·rcases List.mem_cons.1 mx with rfl | mx
  ·exact⟨by simp[gd h1],h2⟩
  ·obtain⟨f1,f2⟩:=h.loc x (List.mem_cons_of_mem _ mx)
   exact⟨ne f1 (hq x mx),f2⟩
abbrev Ci:List D:= [.int .i64 0, .int .i64 0, .int .i64 0, .slice .full 0 [], .slice .full 0 []]
structure GZ (p:Pg) (T W:List Int) (fuel:Int):Prop where
 ok:p.iX
 right:p.Right
 W:W.length<1000000
 T:T.length<1000000
 fuel:0≤fuel∧fuel≤1000000
structure At (p:Pg) (T W:List Int) (fuel:Int) (a:Int) (m:Mc) (y:Lay) (q:Nat) (s:St):Prop where
 inv : ∃ r:List D,r.length=17∧Inv p T W y m [(q,r),(2,Ci)] s
 ok:pA p p.bh.L a m
 sz:xU m
 fin:m.fin=0
 fuel:m.steps≤fuel
abbrev TMr (fuel:Int) (q:Nat) (a:Int):Tm:= [(2, .int .i64 fuel),(8, .ptr 2 0),(10, .ptr 0 0),(11, .ptr q 0),(13, .int .i64 a)]
abbrev JJ (B:e7) (Q:Exit→Tm→St→Prop):=jZ Tryz.prog B 131 Q5G Q
theorem FM (hQ:iz 0 0 [(8,some (true,5)),(9,none)] (.tuple [.agg (eO mf), .int .i64 0]) ⟨[],[]⟩=Q) {y:Lay} {q:Nat} {r:List D} {s:St} (h:Inv p T W y mf [(q,r),(2,Ci)] s) {tm:Tm} (ht:wa tm [(8, .ptr 2 0),(10, .ptr 0 0)]):JJ B Q (.goto 2) tm s:=by
 refine zu (r:= .seq .skip Q4Y) rfl (iZ.pU ht (iZ.kv ?_))
 have hm:=h.jP
 rw[fu]at hm
 have h2:=(h.loc (2,Ci) (by simp)).1
 have hl:=gd h2
 have⟨hC,hE,hM,hY⟩:=bC
 have Al : ∀ r,(s.ah.set 2 r)[2]? = some r:=fun r=>List.getElem?_set_self hl
 simp only[eO]at hQ
 repeat' (first
 |simp only[go_sem,hC,hE,hM,hY,hm,h2,Al]
 |(with_reducible first|refine aX fun hc=>?_|refine aY fun hc=>?_|refine aZ (fun hc=>?_) fun hc=>?_)<;>(try simp only[hc,bs,↓reduceIte]at h)<;>try simp only[hc]
 |(with_reducible refine aB hQ ?_;(try cases h);simp only[aQ,aR,bn,bo,go_sem,hC,hE,hM,hY,hm,h2,Al];try exact bR)
 |(cases h;done))
theorem LX (hS:GZ p T W fuel) (hQ:iz 0 0 [(8,some (true,5)),(9,none)] (.tuple [.agg (eO mf), .int .i64 0]) ⟨[],[]⟩=Q) {a:Int} {m:Mc} {y:Lay} {q:Nat} {s:St} {g:Int} (h:At p T W fuel a m y q s)
 (aga:m.back p.bh.L g=(none,mf)∨∃ a' m',m.back p.bh.L g=(some a',m')∧∀ y' s' tm,At p T W fuel a' m' y' q s'→wa tm (TMr fuel q a')→JJ B Q (.goto 1) tm s')
 {tm:Tm} (ht:wa tm [(2, .int .i64 fuel),(8, .ptr 2 0),(10, .ptr 0 0),(11, .ptr q 0),(12, .int .i64 g)]):JJ B Q (.goto 0) tm s:=by
 obtain⟨⟨r,hr,hi⟩,pQ,eg,v7,hfu⟩:=h
 obtain⟨fr,rs,f,Aa,h1,h2,h3,h4⟩:=LW hS.ok pQ (by have:=eg.st;omega)
 have DB:=eg.run (by have:=hS.fuel;omega) hS.ok hS.W hS.T
 have hc:=Ry hS.ok hS.right pQ (by have:=eg.st;omega) Aa
 have c1:=abT hi Aa DB.L hc g
 have nF:=FL p.bh.L m g
 refine zu (r:= .seq .skip Q51) rfl (iZ.pU ht (iZ.kv ?_))
 have⟨hC,hE,hM,hY⟩:=bC
 repeat' (first
 |simp only[go_sem,hC,hE,hM,hY]
 |(with_reducible first|refine aX fun hc=>?_|refine aY fun hc=>?_|refine aZ (fun hc=>?_) fun hc=>?_)<;>(try simp only[hc,bs,↓reduceIte]at h)<;>try simp only[hc]
 |(with_reducible refine aB hQ ?_;exact ep)
 |(cases h;replace h:=hr;clear hr;(try simp only[bs,↓reduceIte]at h))
 |(cases h;done))
 refine CR c1 fun d s2 LY=>?_
 obtain⟨rfl,y2,wg,o4⟩:=LY
 have jK:=o4.jP
 rw[fu]at jK
 have ZM:=(o4.loc (2,Ci) (by simp)).1
 have lb:=gd ZM
 have Al : ∀ r,(s2.ah.set 2 r)[2]? = some r:=fun r=>List.getElem?_set_self lb
 simp only at ZM
 have hb:m.back p.bh.L g=(if(m.close p.bh.L g).2.fin==0 then some (m.close p.bh.L g).1 else none,(m.close p.bh.L g).2):=rfl
 rcases Bool.eq_false_or_eq_true ((m.close p.bh.L g).2.fin==0)with b|b
 ·rw [b,if_pos rfl]at hb
  rcases aga with he|⟨a',m',he,hIH⟩
  ·rw[hb]at he;cases he
  ·have hk:=abM (q7 hS.right) pQ he
   rw[hb]at he
   cases he
   repeat' (first
 |simp only[go_sem,hC,hE,hM,hY,jK,b]
 |(with_reducible first|refine aX fun hc=>?_|refine aY fun hc=>?_|refine aZ (fun hc=>?_) fun hc=>?_)<;>(try simp only[hc,bs,↓reduceIte]at h)<;>try simp only[hc]
 |(with_reducible refine aB hQ ?_;(try cases h);simp only[aQ,aR,bn,bo,go_sem,hC,hE,hM,hY,jK,b];try exact bR)
 |(cases h;replace h:=hr;clear hr;(try simp only[bs,↓reduceIte]at h))
 | (cases h;done))
   refine hIH y2 s2 _ ⟨⟨r,hr,o4⟩,hk,eg.close g,by simpa using b,by rw[nF.2.2.2.1];exact hfu⟩ ?_
   simp only[go_sem]
   repeat' (first|exact Ok.out|with_reducible refine eL ?_ ?_)
 ·rw [b,if_neg (by simp)]at hb
  rcases aga with he|⟨a',m',he,hIH⟩
  ·rw [hb]at he
   cases he
   simp only[eO]at hQ
   repeat' (first
 |simp only[go_sem,hC,hE,hM,hY,jK,b,ZM,Al]
 |(with_reducible first|refine aX fun hc=>?_|refine aY fun hc=>?_|refine aZ (fun hc=>?_) fun hc=>?_)<;>(try simp only[hc,bs,↓reduceIte]at h)<;>try simp only[hc]
 |(with_reducible refine aB hQ ?_;(try cases h);simp only[aQ,aR,bn,bo,go_sem,hC,hE,hM,hY,jK,b,ZM,Al];try exact bR)
 |(cases h;replace h:=hr;clear hr;(try simp only[bs,↓reduceIte]at h))
 |(cases h;done))
  ·rw[hb]at he;cases he
theorem XU (hS:GZ p T W fuel) (hQ:iz 0 0 [(8,some (true,5)),(9,none)] (.tuple [.agg (eO mf), .int .i64 0]) ⟨[],[]⟩=Q) : ∀ (N:Nat) (a:Int) (m:Mc) (y:Lay) (q:Nat) (s:St),At p T W fuel a m y q s→Mc.go p p.bh.L T W fuel N a m=some mf→
 Sem Tryz.prog B 131 Q59 (JJ B Q) (TMr fuel q a) s:=by
 intro N
 induction N with
 |zero=>intro a m y q s _ h;cases h
 | succ N ih=>
  intro a m y q s rz jU
  have IH : ∀ (a':Int) (m':Mc) (y':Lay) (s':St) (tm:Tm),Mc.go p p.bh.L T W fuel N a' m'=some mf→At p T W fuel a' m' y' q s'→wa tm (TMr fuel q a')→JJ B Q (.goto 1) tm s':=fun a' m' y' s' tm hg hA ht=>
   zu (r:= .seq .skip Q59) rfl (iZ.pU ht (iZ.once (Sem.iN (ih a' m' y' q s' hA hg))))
  have atk:=rz
  obtain⟨⟨r,hr,hi⟩,pQ,eg,v7,hfu⟩:=rz
  simp only[Mc.go]at jU
  refine gE ?_
  have⟨hC,hE,hM,hY⟩:=bC
  have hm:=hi.jP
  rw[fu]at hm
  have qU:=hi.uO
  rcases Bool.eq_false_or_eq_true (a == -1)with ba|ba
  ·have hn:m.next p p.bh.L T W fuel a=m.back p.bh.L 0:=by unfold Mc.next;rw [if_pos ba]
   rw[hn]at jU
   repeat' (first
 |simp only[go_sem,hC,hE,hM,hY,ba]
 |(with_reducible first|refine aX fun hc=>?_|refine aY fun hc=>?_|refine aZ (fun hc=>?_) fun hc=>?_)<;>(try simp only[hc,bs,↓reduceIte]at h)<;>try simp only[hc]
 |(with_reducible refine aB hQ ?_;(try cases h);simp only[aQ,aR,bn,bo,go_sem,hC,hE,hM,hY,ba];try exact bR)
 |(cases h;replace h:=hr;clear hr;(try simp only[bs,↓reduceIte]at h))
 | (cases h;done))
   refine LX hS hQ atk (g:=0) ?_ ?_
   ·rcases e:m.back p.bh.L 0 with ⟨_ | a',m'⟩
    ·rw[e]at jU;cases jU;exact .inl rfl
    ·rw[e]at jU;exact .inr ⟨a',m',rfl,fun y' s' tm h1 h2=>IH a' m' y' s' tm jU h1 h2⟩
   ·simp only [go_sem]
    repeat' (first|exact Ok.out|with_reducible refine eL ?_ ?_)
  rcases Bool.eq_false_or_eq_true (m.steps==fuel)with bf|bf
  ·have hn:m.next p p.bh.L T W fuel a=(none,{m with fin:=2}):=by unfold Mc.next;rw [if_neg (by simp [ba]),if_pos bf]
   rw[hn]at jU
   cases jU
   have h2:=hi.ud (m':= {m with fin:=2}) rfl rfl hi.t0 hi.t1
   rw[fu]at h2
   simp only at h2
   repeat' (first
 |simp only[go_sem,hC,hE,hM,hY,ba,bf,hm,qU]
 |(with_reducible first|refine aX fun hc=>?_|refine aY fun hc=>?_|refine aZ (fun hc=>?_) fun hc=>?_)<;>(try simp only[hc,bs,↓reduceIte]at h)<;>try simp only[hc]
 |(with_reducible refine aB hQ ?_;(try cases h);simp only[aQ,aR,bn,bo,go_sem,hC,hE,hM,hY,ba,bf,hm,qU];try exact bR)
 |(cases h;replace h:=hr;clear hr;(try simp only[bs,↓reduceIte]at h))
 | (cases h;done))
   refine FM hQ h2 ?_
   simp only[go_sem]
   repeat' (first|exact Ok.out|with_reducible refine eL ?_ ?_)
  -- a statement
  obtain⟨fr,rs,f,Aa,h1,h2,h3,h4⟩:=LW hS.ok pQ (by have:=eg.st;omega)
  have atl:a≠ -1:=by simpa using ba
  obtain⟨hx,yR,iM,c,hac,LZ⟩:=abU pQ h4 hS.right atl h1
  have hfb:=hS.fuel
  have DB:=eg.run (by omega) hS.ok hS.W hS.T
  have aA0:m.steps<fuel:=by
   have h:m.steps≠fuel:=by simpa using bf
   omega
  have vl:=eg.steps
  have FI:IntKind.wrap .i64 (m.steps+1)=m.steps+1:=dN (by omega) (by omega)
  have Ce:IntKind.wrap .i64 (a - 1)=(c:Int):=by
   have:=(List.getElem?_eq_some_iff.1 LZ).1
   have:=DB.L
   rw[show a - 1=(c:Int) by omega];exact dN (by omega) (by omega)
  have cS:(fw p)[2]? = some (.slice .shared 17 (p.bh.L.map dK)):=rfl
  have NZ:=hi.ud (m':= {m with steps:=m.steps+1}) rfl rfl hi.t0 hi.t1
  generalize pT:gf p.bh.L a=it at *
  have atm:2≠q:=by
   have e1:=(hi.loc (q,r) (by simp)).1
   have e2:=(hi.loc (2,Ci) (by simp)).1
   exact NM e2 e1 fun e=>by have e':Ci=r:=e;rw[← e']at hr;cases hr
  have G0:17≤r.length:=by omega
  have N0:List.drop 17 r = []:=List.drop_of_length_le (by omega)
  have o4:=NZ.rr (r':=dK it) (by simpa using atm) (by omega)
  have ny:=NZ.jP
  have H3:=(NZ.loc (q,r) (by simp)).1
  have Br:=(o4.loc (q,dK it) (by simp)).1
  rw[fu]at ny o4 H3 Br
  simp only at ny o4 H3 Br
  have hle:q<s.ah.length:=gd (hi.loc (q,r) (by simp)).1
  have RA:mN ({m with steps:=m.steps+1} : Mc) fr rs:=⟨Aa.st,Aa.len,Aa.names,Aa.vars⟩
  have RB:Js p T W ({m with steps:=m.steps+1} : Mc):=⟨DB.W,DB.T,DB.trace,DB.out,DB.L,DB.P,DB.reads⟩
  have L0:pA p p.bh.L a ({m with steps:=m.steps+1} : Mc):=pQ.of rfl (Nat.le_refl _) pQ.at_
  have hn:m.next p p.bh.L T W fuel a=(if it.s.kind==4 then(if(({m with steps:=m.steps+1} : Mc).call p W it.s).2.fin==0 then some (({m with steps:=m.steps+1} : Mc).call p W it.s).1 else none,(({m with steps:=m.steps+1} : Mc).call p W it.s).2)
   else if it.s.kind==9 then(if(({m with steps:=m.steps+1} : Mc).jn W it.s).2.fin==0 then(({m with steps:=m.steps+1} : Mc).jn W it.s).2.back p.bh.L (({m with steps:=m.steps+1} : Mc).jn W it.s).1 else(none,(({m with steps:=m.steps+1} : Mc).jn W it.s).2))
   else(if(({m with steps:=m.steps+1} : Mc).do p p.bh.L T W it).2.fin==0 then some (({m with steps:=m.steps+1} : Mc).do p p.bh.L T W it).1 else none,(({m with steps:=m.steps+1} : Mc).do p p.bh.L T W it).2)):=by
   unfold Mc.next
   rw[if_neg (by simp[ba]),if_neg (by simp[bf])]
   dsimp only
   rw[pT]
  rw[hn]at jU
  generalize NA:({m with steps:=m.steps+1} : Mc)=m1 at *
  have atn:m1.fin=0:=by rw[← NA];exact v7
  have XV:m1.steps=m.steps+1:=by rw[← NA]
  have RC : ∀ m2:Mc,Cg m1 m2→m2.st.length≤101→xU m2:=fun m2 hl hs=>eg.less (by rw[NA];exact hl) hs
  have L1:m1.st=m.st:=by rw[← NA]
  rcases Bool.eq_false_or_eq_true (it.s.kind==4)with b4|b4
  ·rw [if_pos b4]at jU
   have HS:it.s.kind=4:=by simpa using b4
   have c1:=UH hS.ok hS.right.may o4 RA RB L0.ux (UI hS.ok hS.right hx HS h2 h3)
   repeat' (first
 |simp only[go_sem,hC,hE,hM,hY,ba,bf,hm,qU,FI,ny,Ce,LZ,cS,H3,Br,hle,b4,G0,N0,List.append_nil]
 |(with_reducible first|refine aX fun hc=>?_|refine aY fun hc=>?_|refine aZ (fun hc=>?_) fun hc=>?_)<;>(try simp only[hc,bs,↓reduceIte]at h)<;>try simp only[hc]
 |(with_reducible refine aB hQ ?_;(try cases h);simp only[aQ,aR,bn,bo,go_sem,hC,hE,hM,hY,ba,bf,hm,qU,FI,ny,Ce,LZ,cS,H3,Br,hle,b4,G0,N0,List.append_nil];try exact bR)
 |(cases h;replace h:=hr;clear hr;(try simp only[bs,↓reduceIte]at h))
 | (cases h;done))
   refine CR c1 fun d s2 LY=>?_
   obtain⟨rfl,y2,_,Cj⟩:=LY
   have oe:=Cj.jP
   rw[fu]at oe
   have nF:=UK p W m1 it.s
   have qV:(m1.call p W it.s).2.st.length≤101:=by
    rcases nF.2 with h|h
    ·rw[L1]at h;have:=eg.st;omega
    ·exact h
   rcases Bool.eq_false_or_eq_true ((m1.call p W it.s).2.fin==0)with b|b
   ·rw [b,if_pos rfl]at jU
    repeat' (first
 |simp only[go_sem,hC,hE,hM,hY,oe,b]
 |(with_reducible first|refine aX fun hc=>?_|refine aY fun hc=>?_|refine aZ (fun hc=>?_) fun hc=>?_)<;>(try simp only[hc,bs,↓reduceIte]at h)<;>try simp only[hc]
 |(with_reducible refine aB hQ ?_;(try cases h);simp only[aQ,aR,bn,bo,go_sem,hC,hE,hM,hY,oe,b];try exact bR)
 |(cases h;replace h:=hr;clear hr;(try simp only[bs,↓reduceIte]at h))
 | (cases h;done))
    refine IH _ _ y2 s2 _ jU ⟨⟨dK it,rfl,Cj⟩,abO hS.right L0 hx HS (by rw[yR, ← h4];unfold Mc.top;rw[L1]) (by simpa using b) rfl atn,RC _ nF.1 qV,by simpa using b,by rw[nF.1.steps,XV];omega⟩ ?_
    simp only[go_sem]
    repeat' (first|exact Ok.out|with_reducible refine eL ?_ ?_)
   ·rw [b,if_neg (by simp)]at jU
    cases jU
    repeat' (first
 |simp only[go_sem,hC,hE,hM,hY,oe,b]
 |(with_reducible first|refine aX fun hc=>?_|refine aY fun hc=>?_|refine aZ (fun hc=>?_) fun hc=>?_)<;>(try simp only[hc,bs,↓reduceIte]at h)<;>try simp only[hc]
 |(with_reducible refine aB hQ ?_;(try cases h);simp only[aQ,aR,bn,bo,go_sem,hC,hE,hM,hY,oe,b];try exact bR)
 |(cases h;replace h:=hr;clear hr;(try simp only[bs,↓reduceIte]at h))
 | (cases h;done))
    refine FM hQ Cj ?_
    simp only[go_sem]
    repeat' (first|exact Ok.out|with_reducible refine eL ?_ ?_)
  rw[if_neg (by simp[b4])]at jU
  rcases Bool.eq_false_or_eq_true (it.s.kind==9)with b9|b9
  ·rw [if_pos b9]at jU
   have c1:=abR o4 RA (NY hS.ok hS.right hx h2 h3).said RB.W RB.trace
   repeat' (first
 |simp only[go_sem,hC,hE,hM,hY,ba,bf,hm,qU,FI,ny,Ce,LZ,cS,H3,Br,hle,b4,b9,G0,N0,List.append_nil]
 |(with_reducible first|refine aX fun hc=>?_|refine aY fun hc=>?_|refine aZ (fun hc=>?_) fun hc=>?_)<;>(try simp only[hc,bs,↓reduceIte]at h)<;>try simp only[hc]
 |(with_reducible refine aB hQ ?_;(try cases h);simp only[aQ,aR,bn,bo,go_sem,hC,hE,hM,hY,ba,bf,hm,qU,FI,ny,Ce,LZ,cS,H3,Br,hle,b4,b9,G0,N0,List.append_nil];try exact bR)
 |(cases h;replace h:=hr;clear hr;(try simp only[bs,↓reduceIte]at h))
 | (cases h;done))
   refine CR c1 fun d s2 LY=>?_
   obtain⟨rfl,y2,_,Cj⟩:=LY
   have oe:=Cj.jP
   rw[fu]at oe
   have rZ:=Rz W m1 it.s
   have hgs:=(LJ W m1 it.s).1
   rcases Bool.eq_false_or_eq_true ((m1.jn W it.s).2.fin==0)with b|b
   ·rw [b,if_pos rfl]at jU
    repeat' (first
 |simp only[go_sem,hC,hE,hM,hY,oe,b]
 |(with_reducible first|refine aX fun hc=>?_|refine aY fun hc=>?_|refine aZ (fun hc=>?_) fun hc=>?_)<;>(try simp only[hc,bs,↓reduceIte]at h)<;>try simp only[hc]
 |(with_reducible refine aB hQ ?_;(try cases h);simp only[aQ,aR,bn,bo,go_sem,hC,hE,hM,hY,oe,b];try exact bR)
 |(cases h;replace h:=hr;clear hr;(try simp only[bs,↓reduceIte]at h))
 | (cases h;done))
    have T2:m1.mem.length≤(m1.jn W it.s).2.mem.length:=by
     have hw:=jN m1 it.s.x
     unfold Mc.jn
     split
     ·dsimp only
      split
      ·rw[(fG _ _ _ _).2.1,hw.2.1];exact Nat.le_refl _
      ·rw[hw.2.1];exact Nat.le_refl _
     ·rw[(fG _ _ _ _).2.1];exact Nat.le_refl _
    refine LX (a:=a) (g:=(m1.jn W it.s).1) hS hQ (y:=y2) ⟨⟨dK it,rfl,Cj⟩,L0.of hgs T2 L0.at_,RC _ rZ (by rw[hgs,L1];exact eg.st),by simpa using b,by rw[rZ.steps,XV];omega⟩ ?_ ?_
    ·rcases e:(m1.jn W it.s).2.back p.bh.L (m1.jn W it.s).1 with ⟨_ | a',m'⟩
     ·rw[e]at jU;cases jU;exact .inl rfl
     ·rw[e]at jU;exact .inr ⟨a',m',rfl,fun y' s' tm h1 h2=>IH a' m' y' s' tm jU h1 h2⟩
    ·simp only [go_sem]
     repeat' (first|exact Ok.out|with_reducible refine eL ?_ ?_)
   ·rw [b,if_neg (by simp)]at jU
    cases jU
    repeat' (first
 |simp only[go_sem,hC,hE,hM,hY,oe,b]
 |(with_reducible first|refine aX fun hc=>?_|refine aY fun hc=>?_|refine aZ (fun hc=>?_) fun hc=>?_)<;>(try simp only[hc,bs,↓reduceIte]at h)<;>try simp only[hc]
 |(with_reducible refine aB hQ ?_;(try cases h);simp only[aQ,aR,bn,bo,go_sem,hC,hE,hM,hY,oe,b];try exact bR)
 |(cases h;replace h:=hr;clear hr;(try simp only[bs,↓reduceIte]at h))
 | (cases h;done))
    refine FM hQ Cj ?_
    simp only[go_sem]
    repeat' (first|exact Ok.out|with_reducible refine eL ?_ ?_)
  rw[if_neg (by simp[b9])]at jU
  have c1:=ath hS.ok hS.right.may o4 RA RB (NY hS.ok hS.right hx h2 h3)
  repeat' (first
 |simp only[go_sem,hC,hE,hM,hY,ba,bf,hm,qU,FI,ny,Ce,LZ,cS,H3,Br,hle,b4,b9,G0,N0,List.append_nil]
 |(with_reducible first|refine aX fun hc=>?_|refine aY fun hc=>?_|refine aZ (fun hc=>?_) fun hc=>?_)<;>(try simp only[hc,bs,↓reduceIte]at h)<;>try simp only[hc]
 |(with_reducible refine aB hQ ?_;(try cases h);simp only[aQ,aR,bn,bo,go_sem,hC,hE,hM,hY,ba,bf,hm,qU,FI,ny,Ce,LZ,cS,H3,Br,hle,b4,b9,G0,N0,List.append_nil];try exact bR)
 |(cases h;replace h:=hr;clear hr;(try simp only[bs,↓reduceIte]at h))
 | (cases h;done))
  refine CR c1 fun d s2 LY=>?_
  obtain⟨rfl,y2,_,Cj⟩:=LY
  have oe:=Cj.jP
  rw[fu]at oe
  have hdl:=abV p p.bh.L T W m1 it
  have Bl:=(ZE p p.bh.L T W m1 it).1
  rcases Bool.eq_false_or_eq_true ((m1.do p p.bh.L T W it).2.fin==0)with b|b
  ·rw [b,if_pos rfl]at jU
   repeat' (first
 |simp only[go_sem,hC,hE,hM,hY,oe,b]
 |(with_reducible first|refine aX fun hc=>?_|refine aY fun hc=>?_|refine aZ (fun hc=>?_) fun hc=>?_)<;>(try simp only[hc,bs,↓reduceIte]at h)<;>try simp only[hc]
 |(with_reducible refine aB hQ ?_;(try cases h);simp only[aQ,aR,bn,bo,go_sem,hC,hE,hM,hY,oe,b];try exact bR)
 |(cases h;replace h:=hr;clear hr;(try simp only[bs,↓reduceIte]at h))
 | (cases h;done))
   refine IH _ _ y2 s2 _ jU ⟨⟨dK it,rfl,Cj⟩,aiC hS.right L0 hx (by rw[yR, ← h4];unfold Mc.top;rw[L1]) (by simpa using b),RC _ hdl (by rw[Bl,L1];exact eg.st),by simpa using b,by rw[hdl.steps,XV];omega⟩ ?_
   simp only[go_sem]
   repeat' (first|exact Ok.out|with_reducible refine eL ?_ ?_)
  ·rw [b,if_neg (by simp)]at jU
   cases jU
   repeat' (first
 |simp only[go_sem,hC,hE,hM,hY,oe,b]
 |(with_reducible first|refine aX fun hc=>?_|refine aY fun hc=>?_|refine aZ (fun hc=>?_) fun hc=>?_)<;>(try simp only[hc,bs,↓reduceIte]at h)<;>try simp only[hc]
 |(with_reducible refine aB hQ ?_;(try cases h);simp only[aQ,aR,bn,bo,go_sem,hC,hE,hM,hY,oe,b];try exact bR)
 |(cases h;replace h:=hr;clear hr;(try simp only[bs,↓reduceIte]at h))
 | (cases h;done))
   refine FM hQ Cj ?_
   simp only[go_sem]
   repeat' (first|exact Ok.out|with_reducible refine eL ?_ ?_)
end
end Go.Abs
namespace Go.Abs
set_option maxRecDepth 8000
open Go.Proofs
def ofM (p:Pg) (T W:List Int) (fuel:Int):Mc×Int:=
 if decide (fuel<0) ||(decide (fuel > 1000000) || !(p.check.1==0))then(⟨[],[],0,0,0,[],[]⟩,1)else((runM p T W fuel).getD ⟨[],[],0,0,0,[],[]⟩,0)
theorem FN (m:Mc):D.bH 0 0 (eO m)=true:=by simp[eO,D.bH,D.ok,Tag.ok,kG,ZL]
theorem abW {p:Pg} (hR:p.Right) : ∃ (j:Nat) (q:Pc),p.at l7=(j:Int)∧p.procs[j]? = some q∧p.find q.name=some q∧q.params.length=0:=by
 have h:=hR.main
 unfold Pg.tS at h
 cases e:p.find l7 with
 |none=>rw[e]at h;cases h
 |some q=>
  rw[e]at h
  obtain⟨j,h1,h2⟩:=Jr (k:=0) e
  refine⟨j,q,by simpa[Pg.at]using h1,h2,by rw[Ah e];exact e, ?_⟩
  simp only[decide_eq_false_iff_not]at h
  omega
theorem agb {p:Pg} (hO:p.iX) {T W:List Int} (hT:T.length<1000000) (hW:W.length<1000000) (fuel:Int) (s:St) :
 az Tryz.prog qL [.agg (cR p), .slice .shared 1 (T.map cO), .int .i64 fuel, .slice .shared 1 (W.map cO)] s (.tuple [.agg (eO (ofM p T W fuel).1), .int .i64 (ofM p T W fuel).2]) s:=by
 refine az.pure ?_ (by simp[D.bH,D.ok,Tag.ok,jX,kG]) (by simp only[D.ok,D.bH,FN];rfl) s
 have cM:=fun s=>afm hO s
 have cN:=fun s=>Cy (p:=p) (by have:=hO.procs;omega) s
 generalize hR:ofM p T W fuel=R
 unfold ofM at hR
 obtain⟨R1,R2⟩:=R
 dsimp only
 unfold S0
 by_cases L2:(decide (fuel<0) ||(decide (fuel > 1000000) || !(p.check.1==0)))=true
 ·rw [if_pos L2]at hR
  cases hR
  simp only[eO,List.map_nil]
  rcases Bool.eq_false_or_eq_true (decide (fuel<0))with b1|b1
  ·refine az.go uY rfl fun B Q hB hQ=> ?_
   have⟨hC,hE,hM,hY⟩:=bC
   repeat' (first
 |simp only[go_sem,hC,hE,hM,hY,b1]
 |(with_reducible first|refine aX fun hc=>?_|refine aY fun hc=>?_|refine aZ (fun hc=>?_) fun hc=>?_)<;>(try simp only[hc,bs,↓reduceIte]at h)<;>try simp only[hc]
 |(with_reducible refine aB hQ ?_;(try cases h);simp only[aQ,aR,bn,bo,go_sem,hC,hE,hM,hY,b1];try exact bR)
 | (cases h;done))
   refine iZ.kv ?_
   repeat' (first
 |simp only[go_sem,hC,hE,hM,hY,b1]
 |(with_reducible first|refine aX fun hc=>?_|refine aY fun hc=>?_|refine aZ (fun hc=>?_) fun hc=>?_)<;>(try simp only[hc,bs,↓reduceIte]at h)<;>try simp only[hc]
 |(with_reducible refine aB hQ ?_;(try cases h);simp only[aQ,aR,bn,bo,go_sem,hC,hE,hM,hY,b1];try exact bR)
 | (cases h;done))
  rcases Bool.eq_false_or_eq_true (decide (fuel > 1000000))with b2|b2
  ·refine az.go uY rfl fun B Q hB hQ=> ?_
   have⟨hC,hE,hM,hY⟩:=bC
   repeat' (first
 |simp only[go_sem,hC,hE,hM,hY,b1,b2]
 |(with_reducible first|refine aX fun hc=>?_|refine aY fun hc=>?_|refine aZ (fun hc=>?_) fun hc=>?_)<;>(try simp only[hc,bs,↓reduceIte]at h)<;>try simp only[hc]
 |(with_reducible refine aB hQ ?_;(try cases h);simp only[aQ,aR,bn,bo,go_sem,hC,hE,hM,hY,b1,b2];try exact bR)
 | (cases h;done))
   refine iZ.kv ?_
   repeat' (first
 |simp only[go_sem,hC,hE,hM,hY,b1,b2]
 |(with_reducible first|refine aX fun hc=>?_|refine aY fun hc=>?_|refine aZ (fun hc=>?_) fun hc=>?_)<;>(try simp only[hc,bs,↓reduceIte]at h)<;>try simp only[hc]
 |(with_reducible refine aB hQ ?_;(try cases h);simp only[aQ,aR,bn,bo,go_sem,hC,hE,hM,hY,b1,b2];try exact bR)
 | (cases h;done))
  ·have b3:(p.check.1==0)=false:=by simpa [b1,b2]using L2
   rw[b3]at cM
   refine az.go uY rfl fun B Q hB hQ=>?_
   have⟨hC,hE,hM,hY⟩:=bC
   repeat' (first
 |simp only[go_sem,hC,hE,hM,hY,b1,b2]
 |(with_reducible refine CU (cM _) ?_)
 |(with_reducible first|refine aX fun hc=>?_|refine aY fun hc=>?_|refine aZ (fun hc=>?_) fun hc=>?_)<;>(try simp only[hc,bs,↓reduceIte]at h)<;>try simp only[hc]
 |(with_reducible refine aB hQ ?_;(try cases h);simp only[aQ,aR,bn,bo,go_sem,hC,hE,hM,hY,b1,b2];try exact bR)
 | (cases h;done))
   refine iZ.kv ?_
   repeat' (first
 |simp only[go_sem,hC,hE,hM,hY,b1,b2]
 |(with_reducible refine CU (cM _) ?_)
 |(with_reducible first|refine aX fun hc=>?_|refine aY fun hc=>?_|refine aZ (fun hc=>?_) fun hc=>?_)<;>(try simp only[hc,bs,↓reduceIte]at h)<;>try simp only[hc]
 |(with_reducible refine aB hQ ?_;(try cases h);simp only[aQ,aR,bn,bo,go_sem,hC,hE,hM,hY,b1,b2];try exact bR)
 |(cases h;done))
 rw[if_neg L2]at hR
 simp only[Bool.or_eq_true,not_or,Bool.not_eq_true,Bool.not_eq_false']at L2
 obtain⟨b1,b2,b3⟩:=L2
 rw[b3]at cM
 have RE:0≤fuel∧fuel≤1000000:=by simp at b1 b2;omega
 obtain⟨mf,hmf⟩:=Ut p T W RE.1
 rw[hmf]at hR
 simp only[Option.getD_some]at hR
 cases hR
 have ZN:=XF b3
 have hS:GZ p T W fuel:=⟨hO,ZN,hW,hT,RE⟩
 obtain⟨j,q,j1,j2,j3,j4⟩:=abW ZN
 have cP:=fun s=>(show az Tryz.prog iE [.dL (fw p) 0, .str [109,97,105,110]] s (.int .i64 (p.at l7)) s from Fb (p:=p) (by have:=hO.procs;omega) l7 s)
 rw[j1]at cP
 have rZ:=hO.procs.2.2
 refine az.go uY rfl fun B Q hB hQ=>?_
 have⟨hC,hE,hM,hY⟩:=bC
 -- from the globals on
 have start : ∀ (y:Lay) (s:St),Inv p T W y (pz p) [(2,Ci)] s→Sem Tryz.prog B 131 Q5D (JJ B Q) [(2, .int .i64 fuel),(8, .ptr 2 0),(10, .ptr 0 0)] s:=by
  intro y s hi
  have NZ:=hi.new [.int .i64 0, .int .i64 0, .slice .full 0 [], .str [], .str [], .int .i64 0, .int .i64 0, .str [], .slice .full 0 [], .bool false, .slice .full 0 [], .slice .full 0 [], .slice .full 0 [], .int .i64 0, .int .i64 0, .int .i64 0, .int .i64 0]
  have ny:=NZ.jP
  rw[fu]at ny
  simp only at ny
  obtain⟨y2,s2,hF,o4⟩:=NW NZ hO ZN.may j2 j3 (by simp[pz]) (l:= []) (by simp) (by simp) (by simp[pz]) 0
  have hF':=bP.ou (.cons (Wk.refl _) (.cons (Wk.refl _) (.cons (Wk.nil .full 0 1) (ju.refl _)))) hF
  have hF2:az Tryz.prog jl [.ptr 0 0, .int .i64 (j:Int), .slice .full 0 [], .int .i64 0] _ _ s2:=hF'
  have pQ:=NQ (m:=pz p) (q7 ZN) j2 (l:= []) (call:=0) (by simp[j4]) (by simp) (by simp[pz]) (by simp[pz]) (.inl ⟨rfl,rfl⟩)
  have jU:=hmf
  unfold runM at jU
  rw[j1]at jU
  dsimp only at jU
  have jT:=H2 p (pz p) (j:Int) [] 0
  have uE:=(CM p (pz p) (j:Int) [] 0).1
  have BX:((pz p).open p (j:Int) [] 0).2.fin=0:=by
   unfold Mc.open
   split<;>rfl
  have agd:=XU (B:=B) hS hQ _ _ _ y2 s.ah.length s2 ⟨⟨_,rfl,o4⟩,pQ,⟨by rw[jT.2.2.2];simp[pz],by rw[jT.1,jT.2.2.2];simp[pz],by rw[jT.2.1,jT.2.2.2];simp[pz],by rw[jT.2.2.1,jT.2.2.2];simp[pz],Nat.le_trans uE (by simp[pz])⟩,BX,by rw[jT.2.2.2];simp[pz];exact RE.1⟩ jU
  refine Sem.iN ?_
  repeat' (first
 |simp only[go_sem,hC,hE,hM,hY]
 |(with_reducible first|refine aX fun hc=>?_|refine aY fun hc=>?_|refine aZ (fun hc=>?_) fun hc=>?_)<;>(try simp only[hc,bs,↓reduceIte]at h)<;>try simp only[hc]
 |(with_reducible refine aB hQ ?_;exact ep)
 |(cases h;done))
  refine Sem.iN ?_
  repeat' (first
 |simp only[go_sem,hC,hE,hM,hY]
 |(with_reducible first|refine aX fun hc=>?_|refine aY fun hc=>?_|refine aZ (fun hc=>?_) fun hc=>?_)<;>(try simp only[hc,bs,↓reduceIte]at h)<;>try simp only[hc]
 |(with_reducible refine aB hQ ?_;exact ep)
 |(cases h;done))
  refine Sem.iN ?_
  repeat' (first
 |simp only[go_sem,hC,hE,hM,hY,ny]
 |(with_reducible refine CU (cP _) ?_)
 |(with_reducible refine CU (hF2) ?_)
 |(with_reducible first|refine aX fun hc=>?_|refine aY fun hc=>?_|refine aZ (fun hc=>?_) fun hc=>?_)<;>(try simp only[hc,bs,↓reduceIte]at h)<;>try simp only[hc]
 |(with_reducible refine aB hQ ?_;(try cases h);simp only[aQ,aR,bn,bo,go_sem,hC,hE,hM,hY,ny];try exact bR)
 |(cases h;done))
  refine Sem.iN ?_
  repeat' (first
 |simp only[go_sem,hC,hE,hM,hY]
 |(with_reducible first|refine aX fun hc=>?_|refine aY fun hc=>?_|refine aZ (fun hc=>?_) fun hc=>?_)<;>(try simp only[hc,bs,↓reduceIte]at h)<;>try simp only[hc]
 |(with_reducible refine aB hQ ?_;exact ep)
 |(cases h;done))
  refine Sem.pU ?_ agd
  simp only[go_sem]
  repeat' (first|exact Ok.out|with_reducible refine eL ?_ ?_)
 generalize hG:p.globals.length=G at *
 have hGb:G≤900000:=by rw[← hG];exact hO.procs.2.2
 let row:Nat→List D:=fun k=> [.dL (fw p) 0, .slice (.tok 2) 1 ((List.range k).map fun i=>fh (3+i)), .slice .shared 1 (T.map cO), .slice .shared 1 (W.map cO), .eD 1, .eD 1, .int .i64 0, .int .i64 0, .int .i64 0, .slice (.tok 0) 1 [], .slice (.tok 1) 2 []]
 have loop : ∀ d k:Nat,k+d=G→bd Tryz.prog B 131 Q3R (iD 0 (kK (Sem Tryz.prog B 131 Q5D (JJ B Q)) (JJ B Q))) [(2, .int .i64 fuel),(8, .ptr 2 0),(10, .ptr 0 0),(34, .int .i64 (G:Int)),(35, .int .i64 (k:Int))]
  ⟨row k::cR p::Ci::List.replicate k [.int .i64 0],[some 0,some 0,some k]⟩:=by
  intro d
  induction d with
  |zero=>
   intro k hk
   have uB:k=G:=by omega
   subst uB
   have hC:decide ((k:Int)<(k:Int))=false:=by simp
   refine bd.kv ?_
   repeat' (first
 |simp only[go_sem,hC,hE,hM,hY]
 |(with_reducible first|refine aX fun hc=>?_|refine aY fun hc=>?_|refine aZ (fun hc=>?_) fun hc=>?_)<;>(try simp only[hc,bs,↓reduceIte]at h)<;>try simp only[hc]
 |(with_reducible refine aB hQ ?_;exact ep)
 | (cases h;done))
   refine Sem.pU (bE:= [(2, .int .i64 fuel),(8, .ptr 2 0),(10, .ptr 0 0)]) (by simp only[go_sem];repeat' (first|exact Ok.out|with_reducible refine eL ?_ ?_)) ?_
   have hκ:((List.range k).map (3 + ·)).length=k:=by simp
   have hmp:((List.range k).map fun i=>fh (3+i))=(((List.range k).map (3 + ·)).take k).map fh:=by rw[List.take_of_length_le (by simp),List.map_map];rfl
   refine Sem.wkO (fu p T W ⟨(List.range k).map (3 + ·),[], .eD 1, .eD 1⟩ (pz p)::cR p::Ci::List.replicate k [.int .i64 0]) ?_ (start ⟨(List.range k).map (3 + ·),[], .eD 1, .eD 1⟩ _ ?_)
   ·refine .cons ?_ (gx.refl _)
    simp only[row,fu,hG, ← hmp,pz,List.map_nil]
    exact Ok.out
   ·have UC:((List.range k).map (3 + ·)).Nodup:=by
     rw[List.nodup_iff_pairwise_ne,List.pairwise_map]
     exact List.Pairwise.imp (fun h=>by omega) (List.nodup_iff_pairwise_ne.1 List.nodup_range)
    refine⟨rfl,rfl,rfl,by simp[pz,hG],fun i c v e1 e2=>?_,rfl,fun i o fr e1 e2=>by simp at e1, .inl ⟨rfl,rfl⟩,⟨[], .inl ⟨rfl,rfl⟩⟩, ?_,fun x mx=>?_⟩
    ·have hC:=(List.getElem?_eq_some_iff.1 e1).1
     simp only[hκ]at hC
     rw[List.getElem?_map,List.getElem?_range hC]at e1
     simp only[pz]at e2
     rw[List.getElem?_replicate_of_lt (by omega)]at e2
     simp only[Option.map_some,Option.some.injEq]at e1 e2
     subst e1 e2
     show(_::_::_::List.replicate k [D.int .i64 0])[3+i]? = _
     rw[show 3+i=i+1+1+1 by omega]
     simp only[List.getElem?_cons_succ]
     exact List.getElem?_replicate_of_lt hC
    ·simp only [Lay.own,D.arr,List.append_nil]
     rw[List.nodup_cons]
     exact⟨by simp,UC⟩
    ·rw [List.mem_singleton.1 mx]
     refine⟨rfl, ?_⟩
     simp only[Lay.own,D.arr,List.append_nil,List.mem_cons,List.mem_map,List.mem_range,not_or]
     exact⟨by omega,by rintro⟨i,_,h⟩;omega⟩
  | succ d ih=>
   intro k hk
   have hC:decide ((k:Int)<(G:Int))=true:=by simp;omega
   have cm:k<4611686018427387904:=by omega
   have eS : ∀ os,gp 1 8 (.slice (.tok 2) 1 ((List.range k).map fun i=>fh (3+i))) (.slice .full 1 [[.ptr (3+k) 0]]) ⟨os,[some 0,some 0,some k]⟩ =
    some (.slice (.tok 2) 1 ((List.range (k+1)).map fun i=>fh (3+i)),⟨os,[some 0,some 0,some (k+1)]⟩):=fun os=>by
    rw[o9 (size:=1) (by simp only[List.length_map,List.length_range,List.length_singleton];unfold bu;omega) (by simp)]
    simp[List.range_succ,fh]
   have hln : ∀ a b c:List D,(a::b::c::List.replicate k [D.int .i64 0]).length=3+k:=fun a b c=>by simp;omega
   have age : ∀ a b c:List D,a::b::c::List.replicate k [D.int .i64 0]++ [[D.int .i64 0]] = a::b::c::List.replicate (k+1) [D.int .i64 0]:=fun a b c=>by rw[List.replicate_succ'];rfl
   refine bd.kv ?_
   simp only[row]
   repeat' (first
 |simp only[go_sem,hC,hE,hM,hY,eS,hln,age]
 |(with_reducible first|refine aX fun hc=>?_|refine aY fun hc=>?_|refine aZ (fun hc=>?_) fun hc=>?_)<;>(try simp only[hc,bs,↓reduceIte]at h)<;>try simp only[hc]
 |(with_reducible refine aB hQ ?_;(try cases h);simp only[aQ,aR,bn,bo,go_sem,hC,hE,hM,hY,eS,hln,age];try exact bR)
 | (cases h;done))
   have:=ih (k+1) (by omega)
   simp only[row,List.range_succ,List.map_append,List.map_cons,List.map_nil]at this
   refine bd.pU ?_ this
   simp only[go_sem,aL cm]
   repeat' (first|exact Ok.out|with_reducible refine eL ?_ ?_)
 repeat' (first
 |simp only[go_sem,hC,hE,hM,hY,b1,b2]
 |(with_reducible first|refine aX fun hc=>?_|refine aY fun hc=>?_|refine aZ (fun hc=>?_) fun hc=>?_)<;>(try simp only[hc,bs,↓reduceIte]at h)<;>try simp only[hc]
 |(with_reducible refine aB hQ ?_;(try cases h);simp only[aQ,aR,bn,bo,go_sem,hC,hE,hM,hY,b1,b2];try exact bR)
 |(cases h;done))
 refine iZ.once (Sem.iN ?_)
 repeat' (first
 |simp only[go_sem,hC,hE,hM,hY,b1,b2]
 |(with_reducible refine CU (cM _) ?_)
 |(with_reducible first|refine aX fun hc=>?_|refine aY fun hc=>?_|refine aZ (fun hc=>?_) fun hc=>?_)<;>(try simp only[hc,bs,↓reduceIte]at h)<;>try simp only[hc]
 |(with_reducible refine aB hQ ?_;(try cases h);simp only[aQ,aR,bn,bo,go_sem,hC,hE,hM,hY,b1,b2];try exact bR)
 |(cases h;done))
 refine Sem.iN ?_
 repeat' (first
 |simp only[go_sem,hC,hE,hM,hY]
 |(with_reducible refine CU (cN _) ?_)
 |(with_reducible first|refine aX fun hc=>?_|refine aY fun hc=>?_|refine aZ (fun hc=>?_) fun hc=>?_)<;>(try simp only[hc,bs,↓reduceIte]at h)<;>try simp only[hc]
 |(with_reducible refine aB hQ ?_;exact ep)
 |(cases h;done))
 refine Sem.iN ?_
 repeat' (first
 |simp only[go_sem,hC,hE,hM,hY]
 |(with_reducible first|refine aX fun hc=>?_|refine aY fun hc=>?_|refine aZ (fun hc=>?_) fun hc=>?_)<;>(try simp only[hc,bs,↓reduceIte]at h)<;>try simp only[hc]
 |(with_reducible refine aB hQ ?_;exact ep)
 |(cases h;done))
 refine bd.pZ 2 9 1 rfl rfl ?_
 refine bd.pZ 2 10 2 rfl rfl ?_
 refine bd.pZ 2 1 1 rfl rfl ?_
 simp only[List.set_cons_succ,List.set_cons_zero,List.length_nil,List.nil_append,List.length_cons,List.cons_append]
 have l0:=loop G 0 (by omega)
 simp only[row,List.range_zero,List.map_nil,List.replicate_zero]at l0
 refine bd.re [(2, .int .i64 fuel),(8, .ptr 1 0),(10, .ptr 2 0),(34, .int .i64 (G:Int)),(35, .int .i64 ((0:Nat):Int))]
  [cR p,Ci,[.dL (fw p) 0, .slice (.tok 2) 1 [], .slice .shared 1 (T.map cO), .slice .shared 1 (W.map cO), .eD 1, .eD 1, .int .i64 0, .int .i64 0, .int .i64 0, .slice (.tok 0) 1 [], .slice (.tok 1) 2 []]] 3 3 (by rw[hB];exact Nat.zero_le _) (by rw[hB];exact Nat.zero_le _) ?_ ?_ ?_
 ·simp only [go_sem,hG]
  repeat' (first|exact Ok.out|with_reducible refine eL ?_ ?_)
 ·simp only [go_sem,Zq]
  repeat' (first|exact Ok.out|with_reducible refine eL ?_ ?_)
 have r1 : ∀ os ts,D.eT os ts (fw p)=fw p:=fun os ts=>e8 os ts _ (uw p)
 have r2 : ∀ n m,D.bH n m (fw p)=true:=fun n m=>gF (Nat.zero_le n) (Nat.zero_le m) _ (uw p)
 have r3 : ∀ os ts l,D.nQ os ts (List.map cO l)=List.map cO l:=fun os ts l=>ig os ts _ (kG l)
 have r4 : ∀ n m l,D.gW n m (List.map cO l)=true:=fun n m l=>lD (Nat.zero_le n) (Nat.zero_le m) _ (kG l)
 refine bd.as7 hB [2,0,1] _ _ (by decide) (by simp) ?_ ?_ l0
 ·simp[Ca,D.eT,D.db,D.nQ,D.bH,D.gW,D.ok,Tag.db,Tag.ok,St.cut,r1,r2,r3,r4,NN,Us,Ci]
 ·simp[DA,Tm.get,D.db,D.ok]
theorem Ai {a b:List Int} (ha:a.length<1000000000) (g:Tag) (s:St):az Tryz.prog lx [.slice .shared 1 (a.map cO), .slice g 1 (b.map cO)] s (.bool (a==b)) s:=by
 refine bP.ou (.cons (Wk.refl _) (.cons (Wk.shared _ _ _) .nil)) (az.pure ?_ (by simp[D.bH,D.ok,Tag.ok,kG]) rfl s)
 generalize h:(a==b)=R
 unfold S0
 by_cases hl:a.length=b.length
 ·have e1:((a.length:Int) != (b.length:Int))=false:=by simp [hl]
  refine az.go vO rfl fun B Q hB hQ=>?_
  have⟨hC,hE,hM,hY⟩:=bC
  repeat' (first
 |simp only[go_sem,hC,hE,hM,hY,e1]
 |(with_reducible first|refine aX fun hc=>?_|refine aY fun hc=>?_|refine aZ (fun hc=>?_) fun hc=>?_)<;>(try simp only[hc,bs,↓reduceIte]at h)<;>try simp only[hc]
 |(with_reducible refine aB hQ ?_;(try cases h);simp only[aQ,aR,bn,bo,go_sem,hC,hE,hM,hY,e1];try exact bR)
 | (cases h;done))
  refine dQ 0 0 (bd.ind (ι:=List Int×List Int×Nat) (fun i=>a.drop i.2.2=i.1∧b.drop i.2.2=i.2.1∧(i.1==i.2.1)=R) (fun i=>i.1.length)
   (fun i=> [(0, .slice .shared 1 (a.map cO)),(1, .slice .shared 1 (b.map cO)),(12, .int .i64 (a.length:Int)),(13, .int .i64 (i.2.2:Int))]) (fun i=>⟨[],[]⟩) ?_ (a,b,0) ⟨rfl,rfl,h⟩)
  rintro⟨ra,rb,k⟩ ⟨h1,h2,h⟩ IH
  dsimp only at h1 h2 h
  cases ra with
  |nil=>
   have hC:=drop_nil h1
   have:b.drop k = []:=by rw[List.drop_eq_nil_iff]at h1 ⊢;omega
   rw[h2]at this
   subst this
   have h':true=R:=h
   subst h'
   repeat' (first
 |simp only[go_sem,hC,hE,hM,hY]
 |(with_reducible first|refine aX fun hc=>?_|refine aY fun hc=>?_|refine aZ (fun hc=>?_) fun hc=>?_)<;>(try simp only[hc,bs,↓reduceIte]at h)<;>try simp only[hc]
 |(with_reducible refine aB hQ ?_;exact ep)
 | (cases h;done))
  | cons x ra=>
   obtain⟨hE,g2,hC,g4⟩:=drop_cons h1
   have cm:k<4611686018427387904:=by omega
   cases rb with
   |nil=>rw[List.drop_eq_nil_iff]at h2;omega
   | cons y rb=>
    obtain⟨l5,g2',Xc,g4'⟩:=drop_cons h2
    have e2:(x != y) = !(x==y):=rfl
    simp only[List.cons_beq_cons]at h
    rcases Bool.eq_false_or_eq_true (x==y)with c|c
    ·simp only [c,Bool.true_and]at h
     repeat' (first
 |simp only[go_sem,hC,hE,hM,hY,e2,c,l5]
 |(with_reducible first|refine aX fun hc=>?_|refine aY fun hc=>?_|refine aZ (fun hc=>?_) fun hc=>?_)<;>(try simp only[hc,bs,↓reduceIte]at h)<;>try simp only[hc]
 |(with_reducible refine aB hQ ?_;(try cases h);simp only[aQ,aR,bn,bo,go_sem,hC,hE,hM,hY,e2,c,l5];try exact bR)
 | (cases h;done))
     refine eM 0 0 ?_ ?_ (IH (ra,rb,k+1) ⟨g2,g2',h⟩ (Nat.lt_succ_self _))
     ·(simp only[go_sem,hC,hE,hM,hY,aL cm];try exact cb)
     ·(simp only[go_sem,hC,hE,hM,hY,aL cm];try exact cb)
    ·simp only [c,Bool.false_and]at h
     repeat' (first
 |simp only[go_sem,hC,hE,hM,hY,e2,c,l5]
 |(with_reducible first|refine aX fun hc=>?_|refine aY fun hc=>?_|refine aZ (fun hc=>?_) fun hc=>?_)<;>(try simp only[hc,bs,↓reduceIte]at h)<;>try simp only[hc]
 |(with_reducible refine aB hQ ?_;(try cases h);simp only[aQ,aR,bn,bo,go_sem,hC,hE,hM,hY,e2,c,l5];try exact bR)
 |(cases h;done))
 ·have e1:((a.length:Int) != (b.length:Int))=true:=by simp;omega
  have:(a==b)=false:=by
   rw[beq_eq_false_iff_ne];intro e;rw[e]at hl;exact hl rfl
  rw[this]at h
  subst h
  refine az.go vO rfl fun B Q hB hQ=>?_
  have⟨hC,hE,hM,hY⟩:=bC
  repeat' (first
 |simp only[go_sem,hC,hE,hM,hY,e1]
 |(with_reducible first|refine aX fun hc=>?_|refine aY fun hc=>?_|refine aZ (fun hc=>?_) fun hc=>?_)<;>(try simp only[hc,bs,↓reduceIte]at h)<;>try simp only[hc]
 |(with_reducible refine aB hQ ?_;(try cases h);simp only[aQ,aR,bn,bo,go_sem,hC,hE,hM,hY,e1];try exact bR)
 |(cases h;done))
theorem UN {a b:List (Int×List Int)} (ha:a.length<1000000000) (hv : ∀ e∈a,e.2.length<1000000000) (s:St):az Tryz.prog rH [.slice .shared 2 (a.map gC), .slice .shared 2 (b.map gC)] s (.bool (a==b)) s:=by
 refine az.pure ?_ (by simp[D.bH,D.ok,Tag.ok,ZL]) rfl s
 generalize h:(a==b)=R
 unfold S0
 by_cases hl:a.length=b.length
 ·have e1:((a.length:Int) != (b.length:Int))=false:=by simp [hl]
  refine az.go uJ rfl fun B Q hB hQ=>?_
  have⟨hC,hE,hM,hY⟩:=bC
  repeat' (first
 |simp only[go_sem,hC,hE,hM,hY,e1]
 |(with_reducible first|refine aX fun hc=>?_|refine aY fun hc=>?_|refine aZ (fun hc=>?_) fun hc=>?_)<;>(try simp only[hc,bs,↓reduceIte]at h)<;>try simp only[hc]
 |(with_reducible refine aB hQ ?_;(try cases h);simp only[aQ,aR,bn,bo,go_sem,hC,hE,hM,hY,e1];try exact bR)
 | (cases h;done))
  refine dQ 0 0 (bd.ind (ι:=List (Int×List Int)×List (Int×List Int)×Nat) (fun i=>a.drop i.2.2=i.1∧b.drop i.2.2=i.2.1∧(i.1==i.2.1)=R) (fun i=>i.1.length)
   (fun i=> [(0, .slice .shared 2 (a.map gC)),(1, .slice .shared 2 (b.map gC)),(12, .int .i64 (a.length:Int)),(13, .int .i64 (i.2.2:Int))]) (fun i=>⟨[],[]⟩) ?_ (a,b,0) ⟨rfl,rfl,h⟩)
  rintro⟨ra,rb,k⟩ ⟨h1,h2,h⟩ IH
  dsimp only at h1 h2 h
  cases ra with
  |nil=>
   have hC:=drop_nil h1
   have:b.drop k = []:=by rw[List.drop_eq_nil_iff]at h1 ⊢;omega
   rw[h2]at this
   subst this
   have h':true=R:=h
   subst h'
   repeat' (first
 |simp only[go_sem,hC,hE,hM,hY]
 |(with_reducible first|refine aX fun hc=>?_|refine aY fun hc=>?_|refine aZ (fun hc=>?_) fun hc=>?_)<;>(try simp only[hc,bs,↓reduceIte]at h)<;>try simp only[hc]
 |(with_reducible refine aB hQ ?_;exact ep)
 | (cases h;done))
  | cons x ra=>
   obtain⟨hE,g2,hC,g4⟩:=drop_cons h1
   have cm:k<4611686018427387904:=by omega
   cases rb with
   |nil=>rw[List.drop_eq_nil_iff]at h2;omega
   |cons y rb=>
    obtain⟨l5,g2',Xc,g4'⟩:=drop_cons h2
    obtain⟨x1,x2⟩:=x
    obtain⟨y1,y2⟩:=y
    have e2:(x1 != y1) = !(x1==y1):=rfl
    have hb:((x1,x2)==(y1,y2))=(x1==y1 && x2==y2):=rfl
    have cE:=fun g s=>Ai (a:=x2) (b:=y2) (hv _ (List.mem_of_getElem? hE)) g s
    simp only[List.cons_beq_cons,hb]at h
    rcases Bool.eq_false_or_eq_true (x1==y1)with c|c<;>rcases Bool.eq_false_or_eq_true (x2==y2)with c2|c2<;>simp only[c,c2,Bool.true_and,Bool.false_and]at h
    ·repeat' (first
 |simp only[go_sem,hC,hE,hM,hY,e2,c,c2,l5,gC]
 |(with_reducible refine CU (cE _ _) ?_)
 |(with_reducible first|refine aX fun hc=>?_|refine aY fun hc=>?_|refine aZ (fun hc=>?_) fun hc=>?_)<;>(try simp only[hc,bs,↓reduceIte]at h)<;>try simp only[hc]
 |(with_reducible refine aB hQ ?_;(try cases h);simp only[aQ,aR,bn,bo,go_sem,hC,hE,hM,hY,e2,c,c2,l5,gC];try exact bR)
 | (cases h;done))
     refine eM 0 0 ?_ ?_ (IH (ra,rb,k+1) ⟨g2,g2',h⟩ (Nat.lt_succ_self _))
     ·(simp only[go_sem,hC,hE,hM,hY,aL cm,gC];try exact cb)
     ·(simp only[go_sem,hC,hE,hM,hY,aL cm,gC];try exact cb)
    ·repeat' (first
 |simp only[go_sem,hC,hE,hM,hY,e2,c,c2,l5,gC]
 |(with_reducible refine CU (cE _ _) ?_)
 |(with_reducible first|refine aX fun hc=>?_|refine aY fun hc=>?_|refine aZ (fun hc=>?_) fun hc=>?_)<;>(try simp only[hc,bs,↓reduceIte]at h)<;>try simp only[hc]
 |(with_reducible refine aB hQ ?_;(try cases h);simp only[aQ,aR,bn,bo,go_sem,hC,hE,hM,hY,e2,c,c2,l5,gC];try exact bR)
 | (cases h;done))
    ·repeat' (first
 |simp only[go_sem,hC,hE,hM,hY,e2,c,c2,l5,gC]
 |(with_reducible refine CU (cE _ _) ?_)
 |(with_reducible first|refine aX fun hc=>?_|refine aY fun hc=>?_|refine aZ (fun hc=>?_) fun hc=>?_)<;>(try simp only[hc,bs,↓reduceIte]at h)<;>try simp only[hc]
 |(with_reducible refine aB hQ ?_;(try cases h);simp only[aQ,aR,bn,bo,go_sem,hC,hE,hM,hY,e2,c,c2,l5,gC];try exact bR)
 | (cases h;done))
    ·repeat' (first
 |simp only[go_sem,hC,hE,hM,hY,e2,c,c2,l5,gC]
 |(with_reducible refine CU (cE _ _) ?_)
 |(with_reducible first|refine aX fun hc=>?_|refine aY fun hc=>?_|refine aZ (fun hc=>?_) fun hc=>?_)<;>(try simp only[hc,bs,↓reduceIte]at h)<;>try simp only[hc]
 |(with_reducible refine aB hQ ?_;(try cases h);simp only[aQ,aR,bn,bo,go_sem,hC,hE,hM,hY,e2,c,c2,l5,gC];try exact bR)
 |(cases h;done))
 ·have e1:((a.length:Int) != (b.length:Int))=true:=by simp;omega
  have:(a==b)=false:=by
   rw[beq_eq_false_iff_ne];intro e;rw[e]at hl;exact hl rfl
  rw[this]at h
  subst h
  refine az.go uJ rfl fun B Q hB hQ=>?_
  have⟨hC,hE,hM,hY⟩:=bC
  repeat' (first
 |simp only[go_sem,hC,hE,hM,hY,e1]
 |(with_reducible first|refine aX fun hc=>?_|refine aY fun hc=>?_|refine aZ (fun hc=>?_) fun hc=>?_)<;>(try simp only[hc,bs,↓reduceIte]at h)<;>try simp only[hc]
 |(with_reducible refine aB hQ ?_;(try cases h);simp only[aQ,aR,bn,bo,go_sem,hC,hE,hM,hY,e1];try exact bR)
 |(cases h;done))
structure Mc.Len (m:Mc):Prop where
 out:m.out.length<1000000000
 trace:m.trace.length<1000000000
 dg : ∀ e∈m.trace,e.2.length<1000000000
def CS (a b:Mc):Bool:=a.fin==b.fin && (a.steps==b.steps && (a.reads==b.reads && a.out==b.out))
def FP (a b:Mc):Bool:=CS a b && a.trace==b.trace
theorem abY {a b:Mc} (ha:a.Len) (s:St):az Tryz.prog uf [.agg (eO a), .agg (eO b)] s (.bool (CS a b)) s:=by
 refine az.pure ?_ (by simp[D.bH,D.ok,FN]) rfl s
 have cE:=fun g s=>Ai (a:=a.out) (b:=b.out) ha.out g s
 generalize h:CS a b=R
 simp only[CS]at h
 unfold S0
 simp only[eO]
 rcases Bool.eq_false_or_eq_true (a.fin==b.fin)with c1|c1
 all_goals rcases Bool.eq_false_or_eq_true (a.steps==b.steps)with c2|c2
 all_goals rcases Bool.eq_false_or_eq_true (a.reads==b.reads)with c3|c3
 all_goals
  simp only[c1,c2,c3,Bool.true_and,Bool.false_and]at h
  subst h
  refine az.go EV rfl fun B Q hB hQ=>?_
  have⟨hC,hE,hM,hY⟩:=bC
  repeat' (first
 |simp only[go_sem,hC,hE,hM,hY,c1,c2,c3]
 |(with_reducible refine CU (cE _ _) ?_)
 |(with_reducible first|refine aX fun hc=>?_|refine aY fun hc=>?_|refine aZ (fun hc=>?_) fun hc=>?_)<;>(try simp only[hc,bs,↓reduceIte]at h)<;>try simp only[hc]
 |(with_reducible refine aB hQ ?_;(try cases h);simp only[aQ,aR,bn,bo,go_sem,hC,hE,hM,hY,c1,c2,c3];try exact bR)
 |(cases h;done))
theorem abZ {a b:Mc} (ha:a.Len) (s:St):az Tryz.prog qy [.agg (eO a), .agg (eO b)] s (.bool (FP a b)) s:=by
 refine az.pure ?_ (by simp[D.bH,D.ok,FN]) rfl s
 have c1:=fun s=>abY (b:=b) ha s
 have c2:=fun s=>UN (a:=a.trace) (b:=b.trace) ha.trace ha.dg s
 have e : ∀ m:Mc,(eO m).length=5:=fun m=>rfl
 have e0 : ∀ m:Mc,List.take 5 (eO m)=eO m:=fun m=>rfl
 have e4 : ∀ m:Mc,(eO m)[4]? = some (.slice .shared 2 (m.trace.map gC)):=fun m=>rfl
 generalize h:FP a b=R
 simp only[FP]at h
 unfold S0
 rcases Bool.eq_false_or_eq_true (CS a b)with b1|b1
 all_goals
  simp only[b1,Bool.true_and,Bool.false_and]at h
  subst h
  refine az.go EU rfl fun B Q hB hQ=>?_
  have⟨hC,hE,hM,hY⟩:=bC
  repeat' (first
 |simp only[go_sem,hC,hE,hM,hY,b1,e,e0,e4]
 |(with_reducible refine CU (c1 _) ?_)
 |(with_reducible refine CU (c2 _) ?_)
 |(with_reducible first|refine aX fun hc=>?_|refine aY fun hc=>?_|refine aZ (fun hc=>?_) fun hc=>?_)<;>(try simp only[hc,bs,↓reduceIte]at h)<;>try simp only[hc]
 |(with_reducible refine aB hQ ?_;(try cases h);simp only[aQ,aR,bn,bo,go_sem,hC,hE,hM,hY,b1,e,e0,e4];try exact bR)
 |(cases h;done))
theorem G1:eO (ofM sb [] [5,2] 50).1 = [.int .i64 1, .int .i64 7, .int .i64 0, .slice .shared 1 ([5,5].map cO), .slice .shared 2 ([(2,[]),(5,[5])].map gC)]:=by kernel_rfl
theorem aiQ:(ofM sb [] [5,2] 50).2=0:=by kernel_rfl
theorem ab0:Nat.ble (sb.size+1) 1000=true:=by kernel_rfl
theorem UO (n:Int):qG (.ofInt .f64) (.int .i64 n) (.int .i64 n)=some (.val (.float .f64 (FloatKind.nearest .f64 n))):=nd rfl
theorem L3 (a b:Nat):qG .Jt (.val (.float .f64 a)) (.val (.float .f64 b))=some (.val (.complex .f64 a b)):=nd rfl
theorem L4 (a b:Nat) (d:D):qG .real (.val (.complex .f64 a b)) d=some (.val (.float .f64 a)):=nd rfl
theorem ZO:qG .eq (.val (.float .f64 (FloatKind.nearest .f64 7))) (.val (.float .f64 4619567317775286272))=some (.bool true):=by
 have:FloatKind.nearest .f64 7=4619567317775286272:=by decide +kernel
 rw[this]
 have h:(FloatKind.f64.format.order 4619567317775286272 4619567317775286272==some .eq)=true:=by decide +kernel
 show(if FloatKind.f64=FloatKind.f64 then some (D.bool (FloatKind.f64.format.order 4619567317775286272 4619567317775286272==some .eq))else none)=_
 rw[if_pos rfl,h]
theorem agi:sb.iX:=by
 have vl:sb.size<100000:=by have:=Nat.le_of_ble_eq_true ab0;omega
 exact⟨BY (by decide +kernel) (by omega),by omega⟩
theorem agj (n k:Nat) (m:Mc):D.gw n k (eO m)=eO m:=ij n k _ (FN m)
theorem ab1 (m:Mc):(eO m).length=5:=nd rfl
theorem XZ (m:Mc):List.take 5 (eO m)=eO m:=nd rfl
theorem aiR (m:Mc):(eO m)[0]? = some (.int .i64 m.fin):=nd rfl
theorem aiS (m:Mc):(eO m)[1]? = some (.int .i64 m.steps):=nd rfl
theorem aiT (m:Mc):(eO m)[2]? = some (.int .i64 m.reads):=nd rfl
theorem aiU (m:Mc):(eO m)[3]? = some (.slice .shared 1 (m.out.map cO)):=nd rfl
theorem aiV (m:Mc):(eO m)[4]? = some (.slice .shared 2 (m.trace.map gC)):=nd rfl
attribute [go_sem] agj ab1 XZ aiR aiS aiT aiU aiV
theorem ab2 (m:Mc) (s:St):az Tryz.prog xx [.agg (eO m)] s (.val (.complex .f64 (FloatKind.nearest .f64 m.steps) (FloatKind.nearest .f64 m.reads))) s:=by
 refine az.pure ?_ (by simp[D.bH,D.ok,FN]) rfl s
 unfold S0
 refine az.go Ih rfl fun B Q hB hQ=>?_
 have⟨hC,hE,hM,hY⟩:=bC
 repeat' (first
 |simp only[go_sem,hC,hE,hM,hY,eO,UO,L3]
 |(with_reducible first|refine aX fun hc=>?_|refine aY fun hc=>?_|refine aZ (fun hc=>?_) fun hc=>?_)<;>(try simp only[hc,bs,↓reduceIte]at h)<;>try simp only[hc]
 |(with_reducible refine aB hQ ?_;(try cases h);simp only[aQ,aR,bn,bo,go_sem,hC,hE,hM,hY,eO,UO,L3];try exact bR)
 |(cases h;done))
theorem aiW (s:St):az Tryz.prog xu [] s (.bool true) s:=by
 refine az.pure ?_ rfl rfl s
 have h1:=fun s=>afl s
 have h2:=fun s=>agb (T:= []) (W:= [5,2]) agi (by simp) (by simp) 50 s
 have h4:=fun s=>ab2 (ofM sb [] [5,2] 50).1 s
 have m1:(ofM sb [] [5,2] 50).1.steps=7:=by have:=congrArg (fun l=>l[1]?) G1;simpa[eO]using this
 have m2:(ofM sb [] [5,2] 50).1.reads=0:=by have:=congrArg (fun l=>l[2]?) G1;simpa[eO]using this
 rw[m1,m2]at h4
 rw[G1]at h2 h4
 rw[aiQ]at h2
 simp only[List.map_cons,List.map_nil,cO,gC]at h2 h4
 have h3:=fun g s=>Ai (a:= [5,5]) (b:= [5,5]) (by simp) g s
 have h5:=fun g s=>Ai (a:= [5]) (b:= [5]) (by simp) g s
 have e5:(([5,5] : List Int) == [5,5])=true:=rfl
 have e6:(([5] : List Int) == [5])=true:=rfl
 rw[e5]at h3
 rw[e6]at h5
 simp only[List.map_cons,List.map_nil,cO]at h3 h5
 have uF:=fun s=>bP.ou (.cons (Wk.refl _) (.cons (Wk.nil .full 0 1) (.cons (Wk.refl _) (.cons (Wk.shared .full _ _) .nil)))) (h2 s)
 have h2 : ∀ s,az Tryz.prog qL [.agg (cR sb), .slice .full 0 [], .int .i64 50, .slice .full 1 [[.int .i64 5],[.int .i64 2]]] s _ s:=uF
 clear uF
 have z0 : ∀ x:Int,(x==x)=true:=fun x=>beq_self_eq_true x
 have z2:(((2:Nat):Int)==2)=true:=rfl
 unfold S0
 refine az.go Ic rfl fun B Q hB hQ=>?_
 have⟨hC,hE,hM,hY⟩:=bC
 repeat' (first
 |simp only[go_sem,hC,hE,hM,hY,z0,z2,L4,ZO,Int.toNat_one,List.getElem?_cons_succ,List.getElem?_cons_zero]
 |(with_reducible refine CU (h1 _) ?_)
 |(with_reducible refine CU (h2 _) ?_)
 |(with_reducible refine CU (h3 _ _) ?_)
 |(with_reducible refine CU (h5 _ _) ?_)
 |(with_reducible refine CU (h4 _) ?_)
 |(with_reducible first|refine aX fun hc=>?_|refine aY fun hc=>?_|refine aZ (fun hc=>?_) fun hc=>?_)<;>(try simp only[hc,bs,↓reduceIte]at h)<;>try simp only[hc]
 |(with_reducible refine aB hQ ?_;(try cases h);simp only[aQ,aR,bn,bo,go_sem,hC,hE,hM,hY,z0,z2,L4,ZO,Int.toNat_one,List.getElem?_cons_succ,List.getElem?_cons_zero];try exact bR)
 |(cases h;done))
def Pg.whole (p:Pg) (T:List Int) (fuel:Int):Mc:=(ofM p T (Xp 0 p.all) fuel).1
end Go.Abs
namespace Go.Abs
open Go.Proofs
theorem ab3 {m:Mc} {fin steps reads:Int} {out:List Int} (h1:m.fin=fin) (h2:m.steps=steps) (h3:m.reads=reads) (h4:m.out=out) (h5:m.trace = []) (hl:out.length<1000000) (g g2:Tag) (z z2:Nat) (hz:z=1∨out = []) (s:St) :
 az Tryz.prog qy [.agg (eO m), .agg [.int .i64 fin, .int .i64 steps, .int .i64 reads, .slice g z (out.map cO), .slice g2 z2 []]] s (.bool true) s:=by
 have hm:m.Len:=⟨by rw[h4];omega,by rw[h5];simp,by rw[h5];simp⟩
 have:=abZ (a:=m) (b:=⟨[],[],fin,steps,reads,out,[]⟩) hm s
 have e:FP m ⟨[],[],fin,steps,reads,out,[]⟩=true:=by
  unfold FP CS
  rw[h1,h2,h3,h4,h5];simp
 rw[e]at this
 refine bP.ou (.cons (Wk.refl _) (.cons (Wk.agg (.cons (Wk.refl _) (.cons (Wk.refl _) (.cons (Wk.refl _) (.cons ?_ (.cons (Wk.nil _ _ _) .nil)))))) .nil)) this
 rcases hz with rfl|rfl
 ·exact Wk.shared _ _ _
 ·exact Wk.nil _ _ _
set_option maxRecDepth 100000
open Go.Proofs
structure Hand (T:aF) (p:Pg):Prop where
 read:Fy 20000 T=some (p,0,0)
 may:p.may=true
 check:p.check=(0,0)
 size:p.size<100000
 len:T.length<4611686018427387904
theorem L5:Hand afn GM:=⟨by kernel_rfl,by decide +kernel,by decide +kernel,by decide +kernel,by decide +kernel⟩
theorem Hand.text {T:aF} {p:Pg} (h:Hand T p) (s:St):az Tryz.prog rG [.str T] s (.tuple [.agg (cR p), .agg [.int .i64 0, .int .i64 0]]) s:=Xt h.read h.may h.check h.size h.len s
theorem Hand.run {T:aF} {p:Pg} (h:Hand T p) {L W:List Int} {fuel:Int} {m:Mc} (hm:runM p L W fuel=some m) (h0:0≤fuel) (h1:fuel≤1000000) (hL:L.length<1000000) (hW:W.length<1000000) (s:St) :
 az Tryz.prog qL [.agg (cR p), .slice .shared 1 (L.map cO), .int .i64 fuel, .slice .shared 1 (W.map cO)] s (.tuple [.agg (eO m), .int .i64 0]) s:=by
 have hs:=h.size
 have ho:p.iX:=⟨BY h.may (by omega),by omega⟩
 have:=agb ho hL hW fuel s
 have e:ofM p L W fuel=(m,0):=by
  unfold ofM
  rw[if_neg,hm];rfl
  rw[h.check];simp;omega
 rw[e]at this
 exact this
end Go.Abs
namespace Go.Abs
set_option maxRecDepth 8000
open Go.Proofs
theorem agk (n:Nat) (h:n<40) : ∃ m,runM GM [(n:Int)] [] 1000=some m∧m.fin=1∧m.steps=(oH n).2∧m.reads=1∧m.out=(oH n).1∧m.trace = []:=by
 have:=Xs n h
 unfold Rj at this
 cases e:runM GM [(n:Int)] [] 1000 with
 |none=>rw[e]at this;cases this
 |some m=>
  rw[e]at this
  simp only[Bool.and_eq_true,beq_iff_eq,List.isEmpty_iff]at this
  exact⟨m,rfl,this.1,this.2.1,this.2.2.1,this.2.2.2.1,this.2.2.2.2⟩
theorem N1 (n:Nat):(oH n).1.length≤n∧4≤(oH n).2∧(oH n).2≤4+7*(n:Int):=by
 induction n with
 |zero=>simp[oH]
 |succ n ih=>
  simp only[oH]
  split
  ·simp only[List.length_append,List.length_singleton];omega
  ·dsimp only;omega
theorem G2 (n:Int) (s:St):az Tryz.prog tH [.int .i64 n] s (.bool true) s:=by
 refine az.pure ?_ (by simp[D.bH,D.ok]) rfl s
 have h1:=fun s=>aiW s
 have h2:=fun s=>L5.text s
 have F3:=fun s=>aib n (k:=40) (by omega) (by omega) s
 obtain⟨m1,m2⟩:=abi n (k:=40) (by omega)
 obtain⟨k,hk⟩ : ∃ k:Nat,xQ n 40=(k:Int):=⟨(xQ n 40).toNat,by omega⟩
 rw[hk]at F3
 have hkl:k<40:=by omega
 obtain⟨m,r1,r2,r3,r4,r5,r6⟩:=agk k hkl
 have h3':=fun s=>L5.run (L:= [(k:Int)]) (W:= []) r1 (by omega) (by omega) (by simp) (by simp) s
 have h3:=fun s=>bP.ou (.cons (Wk.refl _) (.cons (Wk.shared .full _ _) (.cons (Wk.refl _) (.cons (Wk.nil .full 0 1) .nil)))) (h3' s)
 simp only[List.map_cons,List.map_nil,cO]at h3
 have h3 : ∀ s,az Tryz.prog qL [.agg (cR GM), .slice .full 1 [[.int .i64 (k:Int)]], .int .i64 1000, .slice .full 0 []] s (.tuple [.agg (eO m), .int .i64 0]) s:=h3
 have z : ∀ x:Int,(x==x)=true:=fun x=>beq_self_eq_true x
 have h4:=fun g s=>ab3 r2 r3 r4 r5 r6 (by have:=(N1 k).1;omega) g .full 1 0 (.inl rfl) s
 unfold afn at h2
 generalize GM=P at *
 unfold S0
 refine az.go zE rfl fun B Q hB hQ=>?_
 have⟨hC,hE,hM,hY⟩:=bC
 repeat' (first
 |simp only[go_sem,hC,hE,hM,hY]
 |(with_reducible refine CU (h1 _) ?_)
 |(with_reducible refine CU (h2 _) ?_)
 |(with_reducible refine CU (F3 _) ?_)
 |(with_reducible refine CU (h3 _) ?_)
 |(with_reducible first|refine aX fun hc=>?_|refine aY fun hc=>?_|refine aZ (fun hc=>?_) fun hc=>?_)<;>(try simp only[hc,bs,↓reduceIte]at h)<;>try simp only[hc]
 |(with_reducible refine aB hQ ?_;exact ep)
 |(cases h;done))
 refine bd.pZ 3 3 1 rfl rfl ?_
 simp only[go_sem,hC,hE,hM,hY]
 refine eM 4 1 ?_ ?_ (bd.ind (ι:=Nat×List Int×Int×Nat) (fun i=>i.1≤k∧oH i.1=(i.2.1,i.2.2.1)∧i.2.2.2=i.2.1.length) (fun i=>k - i.1)
  (fun i=> [(0, .int .i64 (k:Int)),(4, .ptr 1 0),(5, .ptr 2 0),(6, .int .i64 0),(7, .ptr 3 0),(8, .int .i64 ((i.1:Int)+1))]) (fun i=>⟨[cR P,[.int .i64 0, .int .i64 0],eO m,[.int .i64 1, .int .i64 i.2.2.1, .int .i64 1, .slice (.tok 0) 1 (i.2.1.map cO), .slice .full 0 []]],[some i.2.2.2]⟩) ?_ (0,[],4,0) ⟨Nat.zero_le _,rfl,rfl⟩)
 ·(simp only[go_sem,hC,hE,hM,hY,Int.zero_add,Int.cast_ofNat_Int];try exact cb)
 ·(simp only[go_sem,hC,hE,hM,hY,Int.zero_add,Int.cast_ofNat_Int];try exact cb)
 rintro⟨j,out,st,c⟩ ⟨j1,j2,j3⟩ IH
 dsimp only at j1 j2 j3
 subst j3
 have hle:=N1 j
 rw[j2]at hle
 dsimp only at hle
 by_cases hj:j<k
 ·have Eo:decide (((j:Int)+1)≤(k:Int))=true:=by simp;omega
  have w1:IntKind.wrap .i64 (st+5)=st+5:=dN (by omega) (by omega)
  have w2:IntKind.wrap .i64 (st+5+2)=st+5+2:=dN (by omega) (by omega)
  have w3:IntKind.wrap .i64 ((j:Int)+1+1)=(j:Int)+1+1:=dN (by omega) (by omega)
  have w4:IntKind.wrap .i64 (((j:Int)+1)*((j:Int)+1))=((j:Int)+1)*((j:Int)+1):=dN (by
   have:(0:Int)≤((j:Int)+1)*((j:Int)+1):=Int.mul_nonneg (by omega) (by omega)
   omega) (by
   have:((j:Int)+1)*((j:Int)+1)≤40*40:=Int.mul_le_mul (by omega) (by omega) (by omega) (by omega)
   omega)
  have hM:(out.length+1)*9≤bu:=by unfold bu;omega
  have ZP:((2:Int)=0)=False:=by simp
  rcases Bool.eq_false_or_eq_true (((j:Int)+1).tmod 2==1)with b|b
  ·have e2:oH (j+1)=(out++ [((j:Int)+1)*((j:Int)+1)],st+5+2):=by
    simp only[oH,j2,show((j+1:Nat):Int)=(j:Int)+1 by omega,b,if_true]
   repeat' (first
 |simp only[go_sem,hC,hE,hM,hY,Eo,ZP,if_false,b,w1,w2,w3,w4]
 |(with_reducible first|refine aX fun hc=>?_|refine aY fun hc=>?_|refine aZ (fun hc=>?_) fun hc=>?_)<;>(try simp only[hc,bs,↓reduceIte]at h)<;>try simp only[hc]
 |(with_reducible refine aB hQ ?_;(try cases h);simp only[aQ,aR,bn,bo,go_sem,hC,hE,hM,hY,Eo,ZP,if_false,b,w1,w2,w3,w4];try exact bR)
 | (cases h;done))
   refine eM 4 1 ?_ ?_ (IH (j+1,out++ [((j:Int)+1)*((j:Int)+1)],st+5+2,out.length+1) ⟨by dsimp only;omega,e2,by simp⟩ (by dsimp only;omega))
   ·(simp only[go_sem,hC,hE,hM,hY,w3,Int.natCast_add,Int.natCast_one,List.map_append,List.map_cons,List.map_nil,cO];try exact cb)
   ·(simp only[go_sem,hC,hE,hM,hY,w3,Int.natCast_add,Int.natCast_one,List.map_append,List.map_cons,List.map_nil,cO];try exact cb)
  ·have e2:oH (j+1)=(out,st+5):=by
    simp only[oH,j2,show((j+1:Nat):Int)=(j:Int)+1 by omega,b,Bool.false_eq_true,if_false]
   repeat' (first
 |simp only[go_sem,hC,hE,hM,hY,Eo,ZP,if_false,b,w1,w2,w3,w4]
 |(with_reducible first|refine aX fun hc=>?_|refine aY fun hc=>?_|refine aZ (fun hc=>?_) fun hc=>?_)<;>(try simp only[hc,bs,↓reduceIte]at h)<;>try simp only[hc]
 |(with_reducible refine aB hQ ?_;(try cases h);simp only[aQ,aR,bn,bo,go_sem,hC,hE,hM,hY,Eo,ZP,if_false,b,w1,w2,w3,w4];try exact bR)
 | (cases h;done))
   refine eM 4 1 ?_ ?_ (IH (j+1,out,st+5,out.length) ⟨by dsimp only;omega,e2,rfl⟩ (by dsimp only;omega))
   ·(simp only[go_sem,hC,hE,hM,hY,w3,Int.natCast_add,Int.natCast_one];try exact cb)
   ·(simp only[go_sem,hC,hE,hM,hY,w3,Int.natCast_add,Int.natCast_one];try exact cb)
 ·have y6:j=k:=by omega
  subst y6
  rw[j2]at h4
  dsimp only at h4
  have Eo:decide (((j:Int)+1)≤(j:Int))=false:=by simp;omega
  repeat' (first
 |simp only[go_sem,hC,hE,hM,hY,Eo,z]
 |(with_reducible refine CU (h4 _ _) ?_)
 |(with_reducible first|refine aX fun hc=>?_|refine aY fun hc=>?_|refine aZ (fun hc=>?_) fun hc=>?_)<;>(try simp only[hc,bs,↓reduceIte]at h)<;>try simp only[hc]
 |(with_reducible refine aB hQ ?_;(try cases h);simp only[aQ,aR,bn,bo,go_sem,hC,hE,hM,hY,Eo,z];try exact bR)
 |(cases h;done))
def M0:Map:=⟨fun _ _=>none,fun _=>(0, .any),fun _=>none⟩
def Kept (w w':World):Prop:=w.keptBut w' (fun _=>False)∧∀ a:Addr,a.block<w.heap.size→w'.frozen? a=w.frozen? a
theorem Kept.frame {w w':World} (h:Kept w w') (may:MemPlace→Prop):w.keptBut w' may:=World.keptBut_mono (fun _ f=>f.elim) h.1
theorem Ext.agl {M M':Map} {s':St} {w w':World} (e:Ext M S0 w M' s' w'):Kept w w':=by
 have hh : ∀ b,b<w.heap.size→w'.heap[b]? = w.heap[b]? :=fun b hb=>
  e.kept b hb (fun o ho=>by simp[S0]at ho) (fun t c z hl=>by obtain⟨n,hn⟩:=hl;simp[S0]at hn)
 refine⟨⟨e.os,e.output,fun i hi=>?_⟩,fun a ha=>?_⟩
 ·rw [hh i hi]
  exact(World.keptBut_refl w (fun _=>False)).2.2 i hi
 ·simp only[World.frozen?,hh _ ha]
theorem ato (G:Nat→Nat→Option Value) (w:World) (h : ∀ b o v,G b o=some v→w.cell? ⟨b,o,none⟩=some v∧v.oneCell'=true):Rel ⟨G,fun _=>(0, .any),fun _=>none⟩ S0 w:=
 ⟨h,fun o ds e=>by simp [S0]at e,fun o ho=>by simp [S0]at ho,fun o o' ho=>by simp [S0]at ho,fun t n e=>by simp [S0]at e,
  fun t b c z o hl=>by obtain⟨n,hn⟩:=hl;simp[S0]at hn,fun t t' b c z c' z' hl=>by obtain⟨n,hn⟩:=hl;simp[S0]at hn⟩
def RF (w:World):Prop:=∀ g cs,acm g=some cs→∃ T fr,w.heap[g]? = some (.cells cs T fr)
theorem aiX (G:Nat→Nat→Option Value) {w:World} (h:RF w):Laid ⟨G,fun _=>(0, .any),fun _=>none⟩ S0 w:=
 fun g cs hg=>⟨h g cs hg,fun o ho=>by simp[S0]at ho,fun t c z hl=>by obtain⟨n,hn⟩:=hl;simp[S0]at hn⟩
theorem UP {P:Program} {f:FuncId} {args:List D} {fI:Array Value} {w:World} {G:Nat→Nat→Option Value} (h:bP P f args S0 fun d _=>d = .bool true)
 (hG : ∀ b o v,G b o=some v→w.cell? ⟨b,o,none⟩=some v∧v.oneCell'=true) (hl:fI.size=args.length)
 (ha : ∀ (i:Nat) (d:D) (v:Value),args[i]? = some d→fI[i]? = some v→RD ⟨G,fun _=>(0, .any),fun _=>none⟩ S0 d v) (kM:RF w) :
 Calls P f fI w fun e w'=>e = .returned (.bool true)∧Kept w w':=by
 refine(h _ w fI (ato G w hG) (aiX G kM) hl ha).mono fun e w' hw=>?_
 obtain⟨M',d,v,s',rfl,rfl,he,_,hv⟩:=hw
 rw[hv.nN]
 exact⟨rfl,he.agl⟩
section
variable {P:Program} {H:Type} {enc:TypeId×Value→H}
theorem L6 {f:Func} {s:ChangeSpec} {apart fresh handsOn again:Bool} {W W':World} {args:Array Value} {v:Value} {ds gs:List (DataW H)} {before pa pv:List MemPlace}
 (hW:DataW.Whole enc P f.params.toList s.vars apart W args.toList ds gs before)
 (agm : ∀ (b:Nat) (sp:Nat→Bool) (hd:Bool),DataW.TrodAll enc P W' b sp hd f.resultTypes.toList (v.resultList f.resultTypes.size) (s.fn H (ds++gs)).results [])
 (zr : ∀ sp:Nat→Bool,(∀ p∈before,sp p.block=true)→DataW.TrodAll enc P W' 0 sp true f.params.toList args.toList (s.fn H (ds++gs)).args pa)
 (Af : ∀ sp:Nat→Bool,(∀ p∈before,sp p.block=true)→DataW.TrodVars enc P W' sp s.vars (s.fn H (ds++gs)).vars pv)
 (r7:before=pa++pv) (hk:Kept W W')
 (pQ : ∀ (j:Nat) (t:TypeId) (r:Value),f.resultTypes[j]? = some t→(v.resultList f.resultTypes.size)[j]? = some r→Value.okWide P W' .any 0 t r) :
 s.post enc P f apart fresh handsOn again W args v W':=by
 have hC : ∀ p∈before,p.block<W.heap.size:=fun p hp=>hW.lt p hp
 have hold : ∀ p∈before,(fun b=>decide (b<W.heap.size)) p.block=true:=fun p hp=>by simpa using hC p hp
 refine⟨ds,gs,before,[],pa,pv,hW,agm _ _ _,zr _ hold,Af _ hold,World.keptBut_mono (fun p hp=>⟨hp, ?_⟩) (hk.frame (· ∈before)),fun _=>?_⟩
 ·rw [r7,List.mem_append]at hp
  exact Or.inr hp
 ·obtain⟨_,_,_,_,_,hz,hn⟩:=hW
  refine⟨pQ,_,_,([]++pa)++pv,⟨[]++pa,pv,ChangeShapes.trodAll_append (zr _ (fun _ _=>rfl)) (agm _ _ _),Af _ (fun _ _=>rfl),rfl, ?_, ?_⟩, ?_⟩
  ·intro b off hp
   have mO:MemPlace.cell b off∈before:=by rw[r7];simpa using hp
   rw[hk.2 _ (hC _ mO)]
   exact hz b off mO
  ·intro ha
   have:=hn ha
   rw[r7]at this
   simpa using this
  ·intro p hp _
   rw[r7]
   simpa using hp
end
end Go.Abs
namespace Go.Abs
open Go.RowKit Go.ChangeShapes Go.WideShapes
def RG (w:World) (b o:Nat):Option Value:=
 match w.cell? ⟨b,o,none⟩with
 |some v=>if v.oneCell'=true then some v else none
 |none=>none
theorem ab5 {w:World} (b o:Nat) (v:Value) (h:RG w b o=some v):w.cell? ⟨b,o,none⟩=some v∧v.oneCell'=true:=by
 unfold RG at h
 split at h
 ·split at h
  ·cases h;exact⟨‹_›, ‹_›⟩
  ·cases h
 ·cases h
def agn (w:World):Map:=⟨RG w,fun _=>(0, .any),fun _=>none⟩
theorem Kept.sameAt {w w':World} (h:Kept w w') {p:MemPlace} (hp:p.block<w.heap.size):w.sameAt w' p:=by
 have hk:=h.1.2.2 p.block hp
 cases p with
 | cell b off=>
  simp only[MemPlace.block]at hk hp
  simp only[World.sameAt,World.cell?]
  split at hk
  ·rename_i c t fr c' t' NV e e'
   rw[e,e']
   simp only[hk.2.2.2 off (fun f=>f)]
  ·rename_i es clock Bk ago e e'
   rw[e,e']
  ·rw[hk]
 | map b=>
  simp only[MemPlace.block]at hk hp
  simp only[World.sameAt]
  split at hk
  ·rename_i c t fr c' t' NV e e'
   rw[e,e']
   obtain⟨rfl,rfl,hs,hc⟩:=hk
   have:c'=c:=by
    apply Array.ext_getElem?
    intro i
    exact hc i (fun f=>f)
   rw[this]
  ·rename_i es clock Bk ago e e'
   rcases hk with f|⟨rfl,rfl⟩
   ·exact f.elim
   ·rw[e,e']
  ·exact hk
section
variable {P:Program} {H:Type} {enc:TypeId×Value→H} {T:TypeId→Prop}
theorem FQ (K:Kids P T) (hz : ∀ {t e:TypeId},T t→P.underlying t=some (.slice e)→0<P.cellsOf e) {W W':World} (hk:Kept W W') {sp:Nat→Bool} :
 ∀ {ts:List TypeId} {vs:List Value} {ds:List (DataW H)} {ps:List MemPlace},(∀ t∈ts,T t)→(∀ p∈ps,p.block<W.heap.size)→(∀ p∈ps,sp p.block=true)→
  DataW.TrodAll enc P W 0 (fun _=>true) true ts vs ds ps→DataW.TrodAll enc P W' 0 sp true ts vs ds ps
 | [],[],[],_,_,_,_,h=>h
 |t::ts,v::vs,d::ds,ps,hT,hC,hs,⟨p,q,⟨n,h1⟩,h2,e⟩=>by
  subst e
  refine⟨p,q,⟨n,DataW.trod_stays K hz (fun f=>by cases f) (hT t (List.mem_cons_self ..)) h1 (fun x hx=>hk.sameAt (hC x (List.mem_append_left _ hx))) (fun x hx=>hs x (List.mem_append_left _ hx))⟩, ?_,rfl⟩
  exact FQ K hz hk (fun t ht=>hT t (List.mem_cons_of_mem _ ht)) (fun x hx=>hC x (List.mem_append_right _ hx)) (fun x hx=>hs x (List.mem_append_right _ hx)) h2
 | [],[],_::_,_,_,_,_,h=>h.elim
 | [],_::_,_,_,_,_,_,h=>h.elim
 |_::_,[],_,_,_,_,_,h=>h.elim
 |_::_,_::_,[],_,_,_,_,h=>h.elim
theorem X0 (K:Kids P T) (hz : ∀ {t e:TypeId},T t→P.underlying t=some (.slice e)→0<P.cellsOf e) {f:Func} {s:ChangeSpec} {apart fresh handsOn again:Bool} {tb:TypeId} {W W':World} {args:Array Value} {ds gs:List (DataW H)} {before:List MemPlace}
 (hT : ∀ t∈f.params.toList,T t) (hb:P.underlying tb=some .bool) (hr:f.resultTypes = #[tb]) (Af:s.vars = []) (hW:DataW.Whole enc P f.params.toList s.vars apart W args.toList ds gs before)
 (AJ:s.fn H (ds++gs) = {results:= [.lit (.bool true)],args:=ds}) (hk:Kept W W'):s.post enc P f apart fresh handsOn again W args (.bool true) W':=by
 have hW':=hW
 have hC : ∀ p∈before,p.block<W.heap.size:=fun p hp=>hW.lt p hp
 obtain⟨p,q,hA,hV,rfl,hfz,UC⟩:=hW
 rw[Af]at hV
 obtain⟨rfl,rfl⟩:=trodVars_none hV
 simp only[List.append_nil]at hC AJ
 refine L6 (pa:=p) (pv:= []) hW' (fun b sp hd=>?_) (fun sp Dp=>?_) (fun sp Dp=>?_) rfl hk (ok_one hr rfl (okWide_bool_mk hb _))
 ·rw [List.append_nil,AJ,hr]
  exact trodAll_cons_mk (shut_bool hb _) trodAll_mk0
 ·rw [List.append_nil,AJ]
  simp only[List.append_nil]at Dp
  exact FQ K hz hk hT hC Dp hA
 ·rw [List.append_nil,AJ,Af]
  rfl
theorem ab6 {f:FuncId} {args:List D} {fI:Array Value} {w:World} (h:bP P f args S0 fun d _=>d = .bool true) (hl:fI.size=args.length)
 (ha : ∀ (i:Nat) (d:D) (v:Value),args[i]? = some d→fI[i]? = some v→RD (agn w) S0 d v) (kM:RF w):Calls P f fI w fun e w'=>e = .returned (.bool true)∧Kept w w':=
 UP (G:=RG w) h ab5 hl ha kM
end
end Go.Abs
namespace Go.Abs
open Go.Proofs
def FR (n:Int):List D:= [.int .i64 n]
theorem aiY (n:Int):D.bH 0 0 (FR n)=true:=rfl
theorem agq (n m:Nat) (l:List Int):D.kL n m (l.map FR)=l.map FR:=lR aiY n m l
attribute [go_sem] FR agq
def aiZ (op:Int):aF:=
 if op=5 then [42]else if op=6 then [47]else if op=7 then [37]else if op=8 then [43]else if op=9 then [45]else if op=10 then [60]else if op=11 then [60,61]
 else if op=12 then [62]else if op=13 then [62,61]else if op=14 then [61,61]else if op=15 then [33,61]else if op=16 then [38,38]else [124,124]
def aAn (op:Int):Int:=(aek (aiZ op)).1
def UQ:Nat→List aF
 | 0=> []
 |n+1=>UQ n++ [[UInt8.ofNat (97+n)]]
end Go.Abs
namespace Go.Abs
open Go.RowKit Go.ChangeShapes Go.WideShapes
end Go.Abs
namespace Go.Abs
open Go.RowKit Go.ChangeShapes Go.WideShapes
def aAo (W:World) (ds:List D) (cs:List Value):Prop:=ds.length=cs.length∧(∀ (i:Nat) (d:D) (v:Value),ds[i]? = some d→cs[i]? = some v→RD (agn W) S0 d v)∧∀ v∈cs,v.oneCell'=true
section
variable {H:Type} {enc:TypeId×Value→H} {P:Program} {W:World} {sp:Nat→Bool}
def structOf (P:Program) (t:TypeId):List (TypeId×Nat):=
 match P.underlying t with
 |some (.struct fs)=>fs.toList.map fun f=>(f.type,f.offset)
 |_=> []
end
end Go.Abs
namespace Go.Abs
open Go.Proofs Go.RowKit Go.ChangeShapes Go.WideShapes
section
variable {H:Type} {enc:TypeId×Value→H} {W:World} {sp:Nat→Bool}
end
end Go.Abs
namespace Go.Abs
open Go.Proofs Go.ChangeShapes Go.WideShapes Go.ChangeAt Go.RowKit
theorem UR {H:Type} {enc:TypeId×Value→H} {P:Program} {W:World} {sp:Nat→Bool} {t:TypeId} {ts:List TypeId} {ps:List MemPlace} : ∀ {l:List Value} {ds:List (DataW H)},DataW.TrodAll enc P W 0 sp true (t::ts) l ds ps→
 ∃ v l' d qS p q,l=v::l'∧ds=d::qS∧DataW.Trod enc P W 0 sp true t v d p∧DataW.TrodAll enc P W 0 sp true ts l' qS q
 |v::l,d::ds,⟨p,q,h1,h2,e⟩=>⟨v,l,d,ds,p,q,rfl,rfl,h1,h2⟩
 | [],[],h=>h.elim
 | [],_::_,h=>h.elim
 |_::_,[],h=>h.elim
theorem X1 {H:Type} {enc:TypeId×Value→H} {P:Program} {W:World} {sp:Nat→Bool} {ps:List MemPlace} : ∀ {l:List Value} {ds:List (DataW H)},DataW.TrodAll enc P W 0 sp true [] l ds ps→l = []∧ds = []
 | [],[],_=>⟨rfl,rfl⟩
 | [],_::_,h=>h.elim
 |_::_,ds,h=>by cases ds<;>exact h.elim
end Go.Abs
