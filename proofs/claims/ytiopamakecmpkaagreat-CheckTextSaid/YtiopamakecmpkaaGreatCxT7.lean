/-
  What is proved here: part 7 of the road to the claim (Jm3, Rj1, Rj2, Swap0, Swap2p, ToP, Al1, Al2, Al3, Prs3, Prs4, Prs5, Prs6, Lex3, MirParse, Prs7, Room1, Al4, Full1, Fits1, MirEq, RefEq, RefEq2, LawTo1, AlP, SwP, Ck1, Tot, Tot2, Tot3, Parsed2, RefLex2, RefLex3, Ref4, Ref5, Ref6, MirNum, Ref7).
  No conditions.
-/
import Derived.Test.YtiopamakecmpkaaGreatCxT6
import Derived.KernelRfl

set_option linter.unusedSimpArgs false
set_option linter.unusedVariables false
namespace Go.Abs
set_option maxRecDepth 8000
open Go.Proofs
theorem ZS {p:Pg} (h:p.iK) (jd:(p.scope.1==0)=true) (s:St):aC Tryz.prog 68 [.agg (bQ p)] s (.dJ (iA p) 0) s:=by
 refine aC.pure ?_ (by simp[D.bP,D.ok,fH]) (by simp[D.ok,yu]) s
 obtain⟨n7,nh,pz⟩:=h.procs
 have gS:=fun s=>uJ h s
 have dK:=fun s=>DL (p:=p) (by omega) s
 have b0:(p.scope.1 != 0) = !(p.scope.1==0):=rfl
 rw[jd]at b0
 unfold S0
 refine aC.go xm.h rfl fun B Q hB hQ=>?_
 have⟨hC,hE,hF,hS⟩:=bt
 repeat' (first
 |simp only[go_sem,hC,hE,hF,hS,b0,zan]
 |(with_reducible refine CU (gS _) ?_)
 |(with_reducible refine CU (dK _) ?_)
 |(with_reducible refine ay hQ ?_;exact aK))
theorem ZT {p:Pg} (h:p.iK) (jd:(p.scope.1==0)=false) (s:St):aC Tryz.prog 68 [.agg (bQ p)] s .fx s:=by
 refine aC.pure ?_ (by simp[D.bP,D.ok,fH]) rfl s
 have gS:=fun s=>uJ h s
 have b0:(p.scope.1 != 0) = !(p.scope.1==0):=rfl
 rw[jd]at b0
 unfold S0
 refine aC.go xm.h rfl fun B Q hB hQ=>?_
 have⟨hC,hE,hF,hS⟩:=bt
 repeat' (first
 |simp only[go_sem,hC,hE,hF,hS,b0,zao]
 |(with_reducible refine CU (gS _) ?_)
 |(with_reducible refine ay hQ ?_;exact aK))
mutual
theorem WC {pr up next loop:Int} : ∀ (s:Sm) (m:Im),m∈s.tG pr up next loop→m.proc=pr
 | ⟨id,kind,labels,name,pc,x,has,args,bb,aR⟩,m,h=>by
  simp only[Sm.tG]at h
  rcases zaw.1 h with rfl|h
  ·rfl
  ·rcases zaB.1 h with h | h
   ·exact vR bb m h
   ·exact vR aR m h
theorem vR {pr up next loop:Int} : ∀ (l:List Sm) (m:Im),m∈Sm.jz pr up next loop l→m.proc=pr
 |s::l,m,h=>by
  simp only[Sm.jz]at h
  rcases zaB.1 h with h|h
  ·exact WC s m h
  ·exact vR l m h
end
theorem wM : ∀ a b:List Sm,eT (a++b)=eT a++eT b
 | [],b=>rfl
 |v::a,b=>by simp only[zaH,eT,wM a b,zaD]
mutual
theorem K9 : ∀ s:Sm,(eT s.pre).length≤s.size
 |⟨id,kind,labels,name,pc,x,has,args,bb,aR⟩=>by
  have:=oS bb;have:=oS aR
  simp only[Sm.pre,eT,wM,zak,Sm.size];omega
theorem oS : ∀ l:List Sm,(eT (Sm.du l)).length≤Sm.aQ l
 | []=>zaj _
 |s::l=>by
  have:=K9 s;have:=oS l
  simp only[Sm.du,wM,zak,Sm.aQ];omega
end
theorem SD (seen l:List aB):(hY seen l).1.length≤seen.length+l.length:=(Gs l seen).2
theorem WD {p:Pg} (h:p.iK) (s:St):aC Tryz.prog 25 [.agg (bQ p)] s (.agg [.int .i64 p.jump.1, .int .i64 p.jump.2]) s:=by
 refine aC.pure ?_ (by simp[D.bP,D.ok,fH]) rfl s
 obtain⟨n7,nh,pz⟩:=h.procs
 obtain⟨R,hR⟩ : ∃ R,p.jump=R:=⟨_,rfl⟩
 rw[hR]
 unfold Pg.jump at hR
 unfold S0
 rcases zad (p.scope.1==0)with jd|jd
 case inr=>
  have hs:=fun s=>ZT h jd s
  simp only[jd,zaa,if_false]at hR
  subst hR
  refine aC.go xj.h rfl fun B Q hB hQ=>?_
  have⟨hC,hE,hF,hS⟩:=bt
  repeat' (first
 |simp only[go_sem,hC,hE,hF,hS]
 |(with_reducible refine CU (hs _) ?_)
 |(with_reducible refine ay hQ ?_;exact aK))
 have hs:=fun s=>ZS h jd s
 have hb:=ni jd
 simp only[jd,if_true]at hR
 refine aC.go xj.h rfl fun B Q hB hQ=>?_
 have⟨hC,hE,hF,hS⟩:=bt
 repeat' (first
 |simp only[go_sem,hC,hE,hF,hS]
 |(with_reducible refine CU (hs _) ?_)
 |(with_reducible refine ay hQ ?_;exact aK))
 refine b8 2 0 (aV.ind (ι:=List Pc×Nat) (fun i=>p.procs.drop i.2=i.1∧ln 7 (pZ i.1)=R) (fun i=>i.1.length)
  (fun i=> [(1, .ptr 0 0),(2, .ptr 1 0),(3, .dJ (iA p) 0),(16, .slice .shared 5 (p.procs.map cf)),(17, .int .i64 (p.procs.length:Int)),(18, .int .i64 (i.2:Int))]) (fun i=>⟨[bQ p,[.int .i64 0, .int .i64 0]],[]⟩) ?_ (p.procs,0) ⟨rfl,hR⟩)
 clear hR
 rintro⟨rest,k⟩ ⟨h1,hR⟩ IH
 dsimp only at h1 hR
 cases rest with
 |nil=>
  have hC:=drop_nil h1
  simp only[pZ,ln]at hR
  subst hR
  repeat' (first
 |simp only[go_sem,hC,hE,hF,hS]
 |(with_reducible refine ay hQ ?_;exact aK))
 | cons f rest=>
  obtain⟨hE,g2,hC,g4⟩:=drop_cons h1
  have bm:k<4611686018427387904:=by omega
  have mS:=zae hE
  have DX:=fun s=>acW hb hE (by omega) s
  have rN:=xQ (k:Int) 0 (-1) 0 f.body
  have tE:=WA (k:Int) f
  have O7:=fun m=>vR (pr:=(k:Int)) (up:=0) (next:= -1) (loop:=0) f.body m
  have Jz:=D5 h mS
  have acY:=AA h mS
  have Pw:(eT (Sm.du f.body)).length≤900000:=by
   have h1:=oS f.body
   have h2:=Pc.bX mS
   simp only[Pc.size]at h2
   omega
  rw[← rN]at Pw
  generalize hI:Sm.jz (k:Int) 0 (-1) 0 f.body=I at *
  have hIl:I.length≤900000:=by rw[← rN,zaC]at Jz;exact Jz
  simp only[pZ, ← tE]at hR
  obtain⟨J,hJ⟩ : ∃ J,q6 f.labels f.fin [] (I.map Im.pair)=J:=⟨_,rfl⟩
  rw[hJ]at hR
  have hld:=fun(m:Im) (hm:m∈I) s=>ZR h hb hE m (O7 m hm) s
  repeat' (first
 |simp only[go_sem,hC,hE,hF,hS]
 |(with_reducible refine CU (DX _) ?_)
 | (with_reducible refine ay hQ ?_;exact aK))
  refine aV.gY 6 1 rfl ?_
  simp only[go_sem,hC,hE,hF,hS]
  refine b8 3 1 (aV.ind (ι:=List Im×Nat×List aB×Nat) (fun i=>I.drop i.2.1=i.1∧q6 f.labels f.fin i.2.2.1 (i.1.map Im.pair)=J∧i.2.2.2=i.2.2.1.length∧i.2.2.1.length+(eT (i.1.map Im.s)).length≤900000) (fun i=>i.1.length)
   (fun i=> [(1, .ptr 0 0),(2, .ptr 1 0),(3, .dJ (iA p) 0),(5, .ptr 2 0),(6, .slice (.tok 0) 1 (i.2.2.1.map encStr)),(16, .slice .shared 5 (p.procs.map cf)),(17, .int .i64 (p.procs.length:Int)),(18, .int .i64 (k:Int)),
    (25, .slice .shared 17 (I.map eO)),(26, .int .i64 (I.length:Int)),(27, .int .i64 (i.2.1:Int))]) (fun i=>⟨[bQ p,[.int .i64 0, .int .i64 0],cf f],[some i.2.2.2]⟩) ?_ (I,0,[],0) ⟨rfl,hJ,rfl,by simpa using Pw⟩)
  clear hJ
  rintro⟨jC,k2,seen,n2⟩ ⟨j1,j2,j3,j4⟩ sK
  dsimp only at j1 j2 j3 j4
  subst j3
  cases jC with
  | nil=>
   have tg:=drop_nil j1
   simp only[zah,q6]at j2
   simp only[zah,eT,zax,zaP]at j4
   have Gu:=fun {s:St} {t:Nat} (ht:s.aE[t]? = some (some seen.length))=>SB (seen:=seen) (l:=f.fin) (by omega) ht
   obtain⟨P1,hP1⟩ : ∃ P1,hY seen f.fin=P1:=⟨_,rfl⟩
   rw[hP1]at j2 Gu
   rcases zad P1.2 with c1|c1
   ·simp only [c1,if_true]at j2
    subst j2
    simp only at hR
    repeat' (first
 |simp only[go_sem,hC,hE,hF,hS,tg,c1,zan]
 |(with_reducible refine CU (Gu (by with_unfolding_all rfl)) ?_)
 | (with_reducible refine ay hQ ?_;exact aK))
    refine b9 2 0 ?_ ?_ (IH (rest,k+1) ⟨g2,hR⟩ (zac _))
    ·(simp only[go_sem,hC,hE,hF,hS,az bm];try exact aT)
    ·(simp only[go_sem,hC,hE,hF,hS,az bm];try exact aT)
   ·simp only [c1,zaa,if_false]at j2
    subst j2
    simp only[ln]at hR
    subst hR
    repeat' (first
 |simp only[go_sem,hC,hE,hF,hS,tg,c1,zao]
 |(with_reducible refine CU (Gu (by with_unfolding_all rfl)) ?_)
 | (with_reducible refine ay hQ ?_;exact aK))
  | cons m jC=>
   obtain⟨ez,j5,gX,j6⟩:=drop_cons j1
   have eS:k2<4611686018427387904:=by omega
   have hmm:=zae ez
   have LU:=fun s=>hld m hmm s
   simp only[zaf,Im.pair,q6]at j2
   simp only[zaf,eT,zak]at j4
   have Gu:=fun {s:St} {t:Nat} (ht:s.aE[t]? = some (some seen.length))=>SB (seen:=seen) (l:=m.s.labels) (by omega) ht
   have BK:=SD seen m.s.labels
   obtain⟨P1,hP1⟩ : ∃ P1,hY seen m.s.labels=P1:=⟨_,rfl⟩
   rw[hP1]at j2 Gu BK
   rcases zad P1.2 with c1|c1
   ·rcases zad (tU f.labels m.s m.loop)with c2 | c2
    ·simp only [c1,c2,if_true]at j2
     repeat' (first
 |simp only[go_sem,hC,hE,hF,hS,ez,gX,c1,c2,zan]
 |(with_reducible refine CU (Gu (by with_unfolding_all rfl)) ?_)
 |(with_reducible refine CU (LU _) ?_)
 | (with_reducible refine ay hQ ?_;exact aK))
     refine b9 3 1 ?_ ?_ (sK (jC,k2+1,P1.1,P1.1.length) ⟨j5,j2,rfl,by dsimp only;omega⟩ (zac _))
     ·(simp only[go_sem,hC,hE,hF,hS,az eS];try exact aT)
     ·(simp only[go_sem,hC,hE,hF,hS,az eS];try exact aT)
    ·simp only [c1,c2,if_true,zaa,if_false]at j2
     subst j2
     simp only[ln]at hR
     subst hR
     repeat' (first
 |simp only[go_sem,hC,hE,hF,hS,ez,gX,c1,c2,zan,zao]
 |(with_reducible refine CU (Gu (by with_unfolding_all rfl)) ?_)
 |(with_reducible refine CU (LU _) ?_)
 | (with_reducible refine ay hQ ?_;exact aK))
   ·simp only [c1,zaa,if_false]at j2
    subst j2
    simp only[ln]at hR
    subst hR
    repeat' (first
 |simp only[go_sem,hC,hE,hF,hS,ez,gX,c1,zao]
 |(with_reducible refine CU (Gu (by with_unfolding_all rfl)) ?_)
 |(with_reducible refine CU (LU _) ?_)
 |(with_reducible refine ay hQ ?_;exact aK))
set_option maxRecDepth 8000
open Go.Proofs
theorem WG (x:It):(dX x)[2]? = some (.slice .shared 1 (x.s.labels.map encStr)):=nd rfl
theorem SE (x:It):(dX x)[14]? = some (.int .i64 x.bF):=nd rfl
attribute [go_sem] WG SE
theorem WH {l:List It} (hl:l.length≤1000000) (id:Int) (s:St):aC Tryz.prog 104 [.slice .shared 16 (l.map dX), .int .i64 id] s (.tuple [.int .i64 (hZ l l.length id), .bool (hZ l l.length id != 0)]) s:=by
 refine aC.pure ?_ (by simp[D.bP,D.ok,Tag.ok,Bd]) rfl s
 obtain⟨R,hR⟩ : ∃ R,hZ l l.length id=R:=⟨_,rfl⟩
 rw[hR]
 have w0:IntKind.wrap .i64 ((l.length:Int) - 1)=(l.length:Int) - 1:=by rw[cL]<;>omega
 unfold S0
 refine aC.go Dq.h rfl fun B Q hB hQ=>?_
 have⟨hC,hE,hF,hS⟩:=bt
 repeat' (first
 |simp only[go_sem,hC,hE,hF,hS,w0]
 |(with_reducible first|refine aX fun hc=>?_|refine aY fun hc=>?_|refine aZ (fun hc=>?_) fun hc=>?_)<;>(try simp only[hc,bs,↓reduceIte]at h)<;>try simp only[hc]
 |(with_reducible refine ay hQ ?_;simp only[bp,bq,bS,bT,go_sem,hC,hE,hF,hS,w0];try exact cp))
 refine b8 0 0 (aV.ind (ι:=Nat×Int) (fun i=>i.1≤l.length∧i.2=(i.1:Int) - 1∧hZ l i.1 id=R) (fun i=>i.1)
  (fun i=> [(0, .slice .shared 16 (l.map dX)),(1, .int .i64 id),(6, .int .i64 i.2)]) (fun i=>⟨[],[]⟩) ?_ (l.length,(l.length:Int) - 1) ⟨zaj _,rfl,hR⟩)
 clear hR
 rintro⟨n,j⟩ ⟨h1,h2,hR⟩ IH
 dsimp only at h1 h2 hR
 cases n with
 |zero=>
  have dN:decide (j≥0)=false:=by simp;omega
  simp only[hZ]at hR
  subst hR
  have w1:((0:Int) != 0)=false:=rfl
  repeat' (first
 |simp only[go_sem,hC,hE,hF,hS,dN,w1]
 |(with_reducible first|refine aX fun hc=>?_|refine aY fun hc=>?_|refine aZ (fun hc=>?_) fun hc=>?_)<;>(try simp only[hc,bs,↓reduceIte]at h)<;>try simp only[hc]
 |(with_reducible refine ay hQ ?_;simp only[bp,bq,bS,bT,go_sem,hC,hE,hF,hS,dN,w1];try exact cp))
 | succ n=>
  have hj:j=(n:Int):=by omega
  subst hj
  have dN:decide ((n:Int)≥0)=true:=by simp
  obtain⟨x,hx⟩ : ∃ x,l[n]? = some x:=⟨_,zap (by omega)⟩
  have wn:IntKind.wrap .i64 ((n:Int) - 1)=(n:Int) - 1:=by rw[cL]<;>omega
  simp only[hZ,hx]at hR
  have b0:(x.s.id != id) = !(x.s.id==id):=rfl
  rcases zad (x.s.id==id)with c1|c1
  case inr=>
   rw[c1]at b0
   simp only[b0,zao,if_true]at hR
   repeat' (first
 |simp only[go_sem,hC,hE,hF,hS,decide_true,dN,hx,b0,wn,zao]
 | (with_reducible refine ay hQ ?_;exact aK))
   refine b8 0 0 (IH (n,(n:Int) - 1) ⟨by dsimp only;omega,rfl,hR⟩ (zac _))
  rw[c1]at b0
  simp only[b0,zan,zaa,if_false]at hR
  obtain⟨U,hU⟩ : ∃ U,q5 l n x.bF=U:=⟨_,rfl⟩
  rw[hU]at hR
  repeat' (first
 |simp only[go_sem,hC,hE,hF,hS,decide_true,dN,hx,b0,wn,zan]
 | (with_reducible refine ay hQ ?_;exact aK))
  refine b8 0 0 (aV.ind (ι:=Nat×Int×Int) (fun i=>i.1≤n∧i.2.1=(i.1:Int) - 1∧q5 l i.1 i.2.2=U) (fun i=>i.1)
   (fun i=> [(0, .slice .shared 16 (l.map dX)),(1, .int .i64 id),(6, .int .i64 (n:Int)),(7, .int .i64 i.2.2),(8, .int .i64 i.2.1)]) (fun i=>⟨[],[]⟩) ?_ (n,(n:Int) - 1,x.bF) ⟨zaj _,rfl,hU⟩)
  clear hU
  rintro⟨m,k,bF⟩ ⟨j1,j2,hU⟩ sK
  dsimp only at j1 j2 hU
  have B6:U=0→hZ l n id=R:=fun e=>by rw[e]at hR;simpa using hR
  cases m with
  |zero=>
   have AB:decide (k≥0)=false:=by simp;omega
   have LK:=B6 (by simpa[q5]using hU.symm)
   repeat' (first
 |simp only[go_sem,hC,hE,hF,hS,AB,wn]
 | (with_reducible refine ay hQ ?_;exact aK))
   refine b8 0 0 (IH (n,(n:Int) - 1) ⟨by dsimp only;omega,rfl,LK⟩ (zac _))
  | succ m=>
   have hk:k=(m:Int):=by omega
   subst hk
   have AB:decide ((m:Int)≥0)=true:=by simp
   obtain⟨y,hy⟩ : ∃ y,l[m]? = some y:=⟨_,zap (by omega)⟩
   have wm:IntKind.wrap .i64 ((m:Int) - 1)=(m:Int) - 1:=by rw[cL]<;>omega
   simp only[q5,hy]at hU
   have d0:(bF != 0) = !(bF==0):=rfl
   rcases zad (bF==0)with e1|e1
   ·rw [e1]at d0
    simp only[e1,if_true]at hU
    have LK:=B6 hU.symm
    repeat' (first
 |simp only[go_sem,hC,hE,hF,hS,decide_true,AB,d0,zan,wn]
 | (with_reducible refine ay hQ ?_;exact aK))
    refine b8 0 0 (IH (n,(n:Int) - 1) ⟨by dsimp only;omega,rfl,LK⟩ (zac _))
   rw[e1]at d0
   simp only[e1,zaa,if_false]at hU
   have d1:(y.s.id != bF) = !(y.s.id==bF):=rfl
   rcases zad (y.s.id==bF)with e2|e2
   case inr=>
    rw[e2]at d1
    simp only[d1,zao,if_true]at hU
    repeat' (first
 |simp only[go_sem,hC,hE,hF,hS,decide_true,AB,d0,hy,d1,wm,zao]
 |(with_reducible first|refine aX fun hc=>?_|refine aY fun hc=>?_|refine aZ (fun hc=>?_) fun hc=>?_)<;>(try simp only[hc,bs,↓reduceIte]at h)<;>try simp only[hc]
 | (with_reducible refine ay hQ ?_;simp only [bp,bq,bS,bT,go_sem,hC,hE,hF,hS,decide_true,AB,d0,hy,d1,wm,zao];try exact cp))
    refine b8 0 0 (sK (m,(m:Int) - 1,bF) ⟨by dsimp only;omega,rfl,hU⟩ (zac _))
   rw[e2]at d1
   simp only[d1,zan,zaa,if_false]at hU
   rcases zad (y.s.kind==6)with e3|e3
   ·simp only [e3,if_true]at hU
    subst hU
    simp only[d0,zao,if_true]at hR
    subst hR
    repeat' (first
 |simp only[go_sem,hC,hE,hF,hS,decide_true,AB,d0,hy,d1,e3,zao,zan]
 |(with_reducible first|refine aX fun hc=>?_|refine aY fun hc=>?_|refine aZ (fun hc=>?_) fun hc=>?_)<;>(try simp only[hc,bs,↓reduceIte]at h)<;>try simp only[hc]
 | (with_reducible refine ay hQ ?_;simp only [bp,bq,bS,bT,go_sem,hC,hE,hF,hS,decide_true,AB,d0,hy,d1,e3,zao,zan];try exact cp))
   ·simp only [e3,zaa,if_false]at hU
    repeat' (first
 |simp only[go_sem,hC,hE,hF,hS,decide_true,AB,d0,hy,d1,e3,wm,zao,zan]
 | (with_reducible refine ay hQ ?_;exact aK))
    refine b8 0 0 (sK (m,(m:Int) - 1,y.bF) ⟨by dsimp only;omega,rfl,hU⟩ (zac _))
theorem SF {f:Pc} (hs:Sm.aQ f.body<4611686018427387000) (hl:(eT (f.flat.map It.s)).length+f.fin.length≤10000000) (s:St) :
 aC Tryz.prog 105 [.agg (cf f)] s (.slice .shared 1 ((eT (f.flat.map It.s)++f.fin).map encStr)) s:=by
 refine aC.pure ?_ (by simp[D.bP,D.ok,qL]) (by simp only[D.ok,Tag.ok,da];rfl) s
 have iy:=fun s=>xJ (f:=f) hs s
 have ah6:=Pc.qd f
 obtain⟨R,hR⟩ : ∃ R,eT (f.flat.map It.s)=R:=⟨_,rfl⟩
 rw[hR]at hl ⊢
 unfold S0
 refine aC.go Dr.h rfl fun B Q hB hQ=>?_
 have⟨hC,hE,hF,hS⟩:=bt
 repeat' (first
 |simp only[go_sem,hC,hE,hF,hS]
 |(with_reducible refine CU (iy _) ?_)
 |(with_reducible refine ay hQ ?_;exact aK))
 refine aV.gY 3 1 rfl ?_
 simp only[go_sem,hC,hE,hF,hS]
 refine b8 1 1 (aV.ind (ι:=List It×Nat×List aB×Nat) (fun i=>f.flat.drop i.2.1=i.1∧i.2.2.1++eT (i.1.map It.s)=R∧i.2.2.2=i.2.2.1.length) (fun i=>i.1.length)
  (fun i=> [(1, .ptr 0 0),(3, .slice (.tok 0) 1 (i.2.2.1.map encStr)),(7, .slice .shared 16 (f.flat.map dX)),(8, .int .i64 (f.flat.length:Int)),(9, .int .i64 (i.2.1:Int))]) (fun i=>⟨[cf f],[some i.2.2.2]⟩) ?_ (f.flat,0,[],0) ⟨rfl,hR,rfl⟩)
 clear hR
 rintro⟨rest,k,out,n⟩ ⟨h1,h2,h3⟩ IH
 dsimp only at h1 h2 h3
 subst h3
 have hlen:=congrArg List.length h2
 rw[zak]at hlen
 cases rest with
 |nil=>
  have hC:=drop_nil h1
  simp only[zah,eT,zaJ]at h2
  subst h2
  have cY:=eE (l:=out) (nx:=f.fin) rfl (by omega) (g:= .shared)
  repeat' (first
 |simp only[go_sem,hC,hE,hF,hS,cY]
 |(with_reducible refine ay hQ ?_;exact aK))
 |cons a rest=>
  obtain⟨hE,g2,hC,g4⟩:=drop_cons h1
  have bm:k<4611686018427387904:=by omega
  simp only[zaf,eT]at h2
  simp only[zaf,eT,zak]at hlen
  have cY:=eE (l:=out) (nx:=a.s.labels) rfl (by omega) (g:= .shared)
  repeat' (first
 |simp only[go_sem,hC,hE,hF,hS,cY]
 |(with_reducible refine ay hQ ?_;exact aK))
  refine b9 1 1 ?_ ?_ (IH (rest,k+1,out++a.s.labels,out.length+a.s.labels.length) ⟨g2,by rw[← h2];simp,by simp⟩ (zac _))
  ·(simp only[go_sem,hC,hE,hF,hS,az bm];try exact aT)
  ·(simp only[go_sem,hC,hE,hF,hS,az bm];try exact aT)
end Go.Abs
namespace Go.Abs
set_option maxRecDepth 8000
open Go.Proofs
theorem Py {p:Pg} (hb:p.may=true) {f:Pc} (hf:f∈p.procs):f.sd=f.flat.map fun x=>(x.s,hZ f.flat f.flat.length x.s.id):=by
 obtain⟨h1,h2⟩:=K8 hb hf
 apply List.ext_getElem?
 intro i
 rw[zat]
 cases e:f.flat[i]? with
 |some a=>rw[h2 i a e];rfl
 |none=>
  have:=zbF.1 e
  rw[zbF.2 (by omega)];rfl
set_option maxHeartbeats 4000000 in
theorem WI {p : Pg} (h : p.iK) (hb : p.may = true) (s : St) : aC Tryz.prog 51 [.agg (bQ p)] s (.agg [.int .i64 (ln 7 (pZ p.procs)).1, .int .i64 (ln 7 (pZ p.procs)).2]) s := by
 refine aC.pure ?_ (by simp[D.bP, D.ok, fH]) rfl s
 obtain ⟨n7, nh, pz⟩ := h.procs
 obtain ⟨R, hR⟩ : ∃ R, ln 7 (pZ p.procs) = R := ⟨_, rfl⟩
 rw[hR]
 unfold S0
 refine aC.go EH.h rfl fun B Q hB hQ =>?_
 have ⟨hC, hE, hF, hS⟩ := bt
 repeat' (first
 |simp only[go_sem, hC, hE, hF, hS]
 |(with_reducible refine ay hQ ?_; exact aK))
 refine b8 2 0 (aV.ind (ι := List Pc × Nat) (fun i => p.procs.drop i.2 = i.1 ∧ ln 7 (pZ i.1) = R) (fun i => i.1.length)
   (fun i => [(1, .ptr 0 0), (2, .ptr 1 0), (13, .slice .shared 5 (p.procs.map cf)), (14, .int .i64 (p.procs.length : Int)), (15, .int .i64 (i.2 : Int))]) (fun i => ⟨[bQ p, [.int .i64 0, .int .i64 0]], []⟩) ?_ (p.procs, 0) ⟨rfl, hR⟩)
 clear hR
 rintro ⟨rest, k⟩ ⟨h1, hR⟩ IH
 dsimp only at h1 hR
 cases rest with
 | nil =>
   have hC := drop_nil h1
   simp only[pZ, ln]at hR
   subst hR
   repeat' (first
 |simp only[go_sem, hC, hE, hF, hS]
 |(with_reducible refine ay hQ ?_; exact aK))
 | cons f rest =>
   obtain ⟨hE, g2, hC, g4⟩ := drop_cons h1
   have bm : k < 4611686018427387904 := by omega
   have mS := zae hE
   have dz : Sm.aQ f.body ≤ 900000 := by have := Pc.bX mS; simp only[Pc.size]at this; omega
   have iy := fun s => xJ (f := f) (by omega) s
   have ah6 := Pc.qd f
   have acY := AA h mS
   have rN := (oR hb).1 f mS
   have Pw : (eT (f.flat.map It.s)).length ≤ 900000 := by rw[rN]; have := oS f.body; omega
   have SG := fun s => SF (f := f) (by omega) (by omega) s
   have ac2 : eT (f.flat.map It.s) ++ f.fin = f.labels := by rw[rN]; rfl
   have ah7 : f.labels.length < 4611686018427387904 := by rw[← ac2, zak]; omega
   rw[ac2]at SG
   have har := fun id s => WH (l := f.flat) (by omega) id s
   have jS := fun x s => wF (l := f.labels) ah7 x .shared s
   have hpp := Py hb mS
   simp only[pZ, hpp]at hR
   generalize hFL : f.flat = FL at *
   obtain ⟨J, hJ⟩ : ∃ J, q6 f.labels f.fin [] (FL.map fun x => (x.s, hZ FL FL.length x.s.id)) = J := ⟨_, rfl⟩
   rw[hJ]at hR
   repeat' (first
 |simp only[go_sem, hC, hE, hF, hS]
 |(with_reducible refine CU (iy _) ?_)
 | (with_reducible refine ay hQ ?_; exact aK))
   refine aV.gY 5 1 rfl ?_
   simp only[go_sem, hC, hE, hF, hS]
   refine b8 3 1 (aV.ind (ι := List It × Nat × List aB × Nat) (fun i => FL.drop i.2.1 = i.1 ∧ q6 f.labels f.fin i.2.2.1 (i.1.map fun x => (x.s, hZ FL FL.length x.s.id)) = J ∧ i.2.2.2 = i.2.2.1.length ∧ i.2.2.1.length + (eT (i.1.map It.s)).length ≤ 900000 ∧ eo i.2.2.1 = false) (fun i => i.1.length)
     (fun i => [(1, .ptr 0 0), (2, .ptr 1 0), (4, .ptr 2 0), (5, .slice (.tok 0) 1 (i.2.2.1.map encStr)), (6, .slice .shared 16 (FL.map dX)), (13, .slice .shared 5 (p.procs.map cf)), (14, .int .i64 (p.procs.length : Int)), (15, .int .i64 (k : Int)),
       (21, .slice .shared 16 (FL.map dX)), (22, .int .i64 (FL.length : Int)), (23, .int .i64 (i.2.1 : Int))]) (fun i => ⟨[bQ p, [.int .i64 0, .int .i64 0], cf f], [some i.2.2.2]⟩) ?_ (FL, 0, [], 0) ⟨rfl, hJ, rfl, by simpa using Pw, rfl⟩)
   clear hJ
   rintro ⟨jC, k2, seen, n2⟩ ⟨j1, j2, j3, j4, j5⟩ sK
   dsimp only at j1 j2 j3 j4 j5
   subst j3
   cases jC with
   | nil =>
     have tg := drop_nil j1
     simp only[zah, q6]at j2
     simp only[zah, eT, zax, zaP]at j4
     have cY := eE (l := seen) (nx := f.fin) rfl (by omega) (g := .shared)
     have oe := fun g s => uI (l := seen ++ f.fin) (by simp; omega) g s
     simp only[zag]at oe
     rw[BR j5]at j2
     rcases zad (eo (seen ++ f.fin)) with c1|c1
     · simp only [c1, zaa, if_false, if_true] at j2
       subst j2
       simp only[ln]at hR
       subst hR
       repeat' (first
 |simp only[go_sem, hC, hE, hF, hS, tg, cY, c1]
 |(with_reducible refine CU (oe _ _) ?_)
 |(with_reducible refine CU (fp _ _ _) ?_)
 |(with_reducible refine ay hQ ?_; exact aK))
     · simp only [c1, zaa, if_false, if_true] at j2
       subst j2
       simp only at hR
       repeat' (first
 |simp only[go_sem, hC, hE, hF, hS, tg, cY, c1]
 |(with_reducible refine CU (oe _ _) ?_)
 | (with_reducible refine ay hQ ?_; exact aK))
       refine b9 2 0 ?_ ?_ (IH (rest, k + 1) ⟨g2, hR⟩ (zac _))
       · (simp only[go_sem, hC, hE, hF, hS, az bm]; try exact aT)
       · (simp only[go_sem, hC, hE, hF, hS, az bm]; try exact aT)
   | cons m jC =>
     obtain ⟨ez, j6, gX, j7⟩ := drop_cons j1
     have eS : k2 < 4611686018427387904 := by omega
     simp only[zaf, q6]at j2
     simp only[zaf, eT, zak]at j4
     have cY := eE (l := seen) (nx := m.s.labels) rfl (by omega) (g := .shared)
     have oe := fun g s => uI (l := seen ++ m.s.labels) (by simp; omega) g s
     simp only[zag]at oe
     rw[BR j5]at j2
     have Fh := fun s => har m.s.id s
     generalize hZ FL FL.length m.s.id = lp at *
     have b0 : (lp != 0) = !(lp == 0) := rfl
     rcases zad (eo (seen ++ m.s.labels)) with c1|c1
     · simp only [c1, zaa, if_false, if_true] at j2
       subst j2
       simp only[ln]at hR
       subst hR
       rcases zad (m.s.kind == 7) with c2|c2
       · have c4 : (m.s.kind == 10) = false := by simp at c2 ⊢; omega
         repeat' (first
 |simp only[go_sem, hC, hE, hF, hS, ez, gX, cY, c1, c2, c4]
 |(with_reducible refine CU (oe _ _) ?_)
 |(with_reducible refine CU (Fh _) ?_)
 |(with_reducible refine CU (fp _ _ _) ?_)
 |(with_reducible refine ay hQ ?_; exact aK))
       rcases zad (m.s.kind == 8) with c3|c3
       · have c4 : (m.s.kind == 10) = false := by simp at c3 ⊢; omega
         repeat' (first
 |simp only[go_sem, hC, hE, hF, hS, ez, gX, cY, c1, c2, c3, c4]
 |(with_reducible refine CU (oe _ _) ?_)
 |(with_reducible refine CU (Fh _) ?_)
 |(with_reducible refine CU (fp _ _ _) ?_)
 |(with_reducible refine ay hQ ?_; exact aK))
       rcases zad (m.s.kind == 10) with c4|c4
       · rcases zad (dq f.labels m.s.name) with c5 | c5
         · repeat' (first
 |simp only[go_sem, hC, hE, hF, hS, ez, gX, cY, c1, c2, c3, c4, c5, zan, zao]
 |(with_reducible refine CU (oe _ _) ?_)
 |(with_reducible refine CU (SG _) ?_)
 |(with_reducible refine CU (jS _ _) ?_)
 |(with_reducible refine CU (fp _ _ _) ?_)
 |(with_reducible refine ay hQ ?_; exact aK))
         · repeat' (first
 |simp only[go_sem, hC, hE, hF, hS, ez, gX, cY, c1, c2, c3, c4, c5, zan, zao]
 |(with_reducible refine CU (oe _ _) ?_)
 |(with_reducible refine CU (SG _) ?_)
 |(with_reducible refine CU (jS _ _) ?_)
 |(with_reducible refine CU (fp _ _ _) ?_)
 |(with_reducible refine ay hQ ?_; exact aK))
       · repeat' (first
 |simp only[go_sem, hC, hE, hF, hS, ez, gX, cY, c1, c2, c3, c4]
 |(with_reducible refine CU (oe _ _) ?_)
 |(with_reducible refine CU (fp _ _ _) ?_)
 |(with_reducible refine ay hQ ?_; exact aK))
     simp only[c1, zaa, if_false, if_true]at j2
     have F9 : tU f.labels m.s lp = true → q6 f.labels f.fin (seen ++ m.s.labels) (jC.map fun x => (x.s, hZ FL FL.length x.s.id)) = J := fun e => by simpa only[e, if_true] using j2
     have tD : tU f.labels m.s lp = false → R = (7, m.s.id) := fun e => by
       simp only[e, zaa, if_false]at j2
       subst j2
       simpa only[ln] using hR.symm
     have kP : ∀ e : tU f.labels m.s lp = true, _ := fun e => sK (jC, k2 + 1, seen ++ m.s.labels, seen.length + m.s.labels.length) ⟨j6, F9 e, by simp, by simp; omega, c1⟩ (zac _)
     clear sK j2 F9
     unfold tU at tD kP
     rcases zad (m.s.kind == 7) with c2|c2
     · have c4 : (m.s.kind == 10) = false := by simp at c2 ⊢; omega
       simp only[c2, za6, if_true]at tD kP
       rcases zad (lp == 0) with c6|c6
       · rw [c6] at b0
         have := tD b0
         subst this
         repeat' (first
 |simp only[go_sem, hC, hE, hF, hS, ez, gX, cY, c1, c2, c4, b0, zan, zao]
 |(with_reducible refine CU (oe _ _) ?_)
 |(with_reducible refine CU (Fh _) ?_)
 |(with_reducible refine CU (fp _ _ _) ?_)
 |(with_reducible refine ay hQ ?_; exact aK))
       · rw [c6] at b0
         have xO := kP b0
         repeat' (first
 |simp only[go_sem, hC, hE, hF, hS, ez, gX, cY, c1, c2, c4, b0, zan, zao]
 |(with_reducible refine CU (oe _ _) ?_)
 |(with_reducible refine CU (Fh _) ?_)
 |(with_reducible refine ay hQ ?_; exact aK))
         refine b9 3 1 ?_ ?_ (xO)
         · (simp only[go_sem, hC, hE, hF, hS, az eS]; try exact aT)
         · (simp only[go_sem, hC, hE, hF, hS, az eS]; try exact aT)
     rcases zad (m.s.kind == 8) with c3|c3
     · have c4 : (m.s.kind == 10) = false := by simp at c3 ⊢; omega
       simp only[c2, c3, zbt, if_true]at tD kP
       rcases zad (lp == 0) with c6|c6
       · rw [c6] at b0
         have := tD b0
         subst this
         repeat' (first
 |simp only[go_sem, hC, hE, hF, hS, ez, gX, cY, c1, c2, c3, c4, b0, zan, zao]
 |(with_reducible refine CU (oe _ _) ?_)
 |(with_reducible refine CU (Fh _) ?_)
 |(with_reducible refine CU (fp _ _ _) ?_)
 |(with_reducible refine ay hQ ?_; exact aK))
       · rw [c6] at b0
         have xO := kP b0
         repeat' (first
 |simp only[go_sem, hC, hE, hF, hS, ez, gX, cY, c1, c2, c3, c4, b0, zan, zao]
 |(with_reducible refine CU (oe _ _) ?_)
 |(with_reducible refine CU (Fh _) ?_)
 |(with_reducible refine ay hQ ?_; exact aK))
         refine b9 3 1 ?_ ?_ (xO)
         · (simp only[go_sem, hC, hE, hF, hS, az eS]; try exact aT)
         · (simp only[go_sem, hC, hE, hF, hS, az eS]; try exact aT)
     simp only[c2, c3, zbI, zaa, if_false]at tD kP
     rcases zad (m.s.kind == 10) with c4|c4
     · simp only [c4, if_true] at tD kP
       rcases zad (dq f.labels m.s.name) with c5|c5
       · have xO := kP c5
         repeat' (first
 |simp only[go_sem, hC, hE, hF, hS, ez, gX, cY, c1, c2, c3, c4, c5, zan, zao]
 |(with_reducible refine CU (oe _ _) ?_)
 |(with_reducible refine CU (SG _) ?_)
 |(with_reducible refine CU (jS _ _) ?_)
 |(with_reducible refine ay hQ ?_; exact aK))
         refine b9 3 1 ?_ ?_ (xO)
         · (simp only[go_sem, hC, hE, hF, hS, az eS]; try exact aT)
         · (simp only[go_sem, hC, hE, hF, hS, az eS]; try exact aT)
       · have := tD c5
         subst this
         repeat' (first
 |simp only[go_sem, hC, hE, hF, hS, ez, gX, cY, c1, c2, c3, c4, c5, zan, zao]
 |(with_reducible refine CU (oe _ _) ?_)
 |(with_reducible refine CU (SG _) ?_)
 |(with_reducible refine CU (jS _ _) ?_)
 |(with_reducible refine CU (fp _ _ _) ?_)
 |(with_reducible refine ay hQ ?_; exact aK))
     · simp only [c4, zaa, if_false] at tD kP
       have xO := kP trivial
       repeat' (first
 |simp only[go_sem, hC, hE, hF, hS, ez, gX, cY, c1, c2, c3, c4]
 |(with_reducible refine CU (oe _ _) ?_)
 |(with_reducible refine ay hQ ?_; exact aK))
       refine b9 3 1 ?_ ?_ (xO)
       · (simp only[go_sem, hC, hE, hF, hS, az eS]; try exact aT)
       · (simp only[go_sem, hC, hE, hF, hS, az eS]; try exact aT)
def BS (a b t:aB):aB:=if t==a then b else if t==b then a else t
mutual
def Ex.swap (a b:aB):Ex→Ex
 |⟨op,n,name,kids⟩=>⟨op,n,BS a b name,Ex.vS a b kids⟩
def Ex.vS (a b:aB):List Ex→List Ex
 | []=> []
 |x::l=>x.swap a b::Ex.vS a b l
end
def Ar.swap (a b:aB) (x:Ar):Ar:=⟨x.ref,BS a b x.name,x.x.swap a b⟩
mutual
def Sm.swap (a b:aB):Sm→Sm
 |⟨id,kind,labels,name,proc,x,has,args,bb,aR⟩=>⟨id,kind,labels.map (BS a b),BS a b name,BS a b proc,x.swap a b,has,args.map (Ar.swap a b),Sm.vS a b bb,Sm.vS a b aR⟩
def Sm.vS (a b:aB):List Sm→List Sm
 | []=> []
 |s::l=>s.swap a b::Sm.vS a b l
end
def Pm.swap (a b:aB) (x:Pm):Pm:=⟨BS a b x.name,x.ref⟩
def Pc.swap (a b:aB) (f:Pc):Pc:=⟨BS a b f.name,f.params.map (Pm.swap a b),f.vars.map (BS a b),Sm.vS a b f.body,f.fin.map (BS a b)⟩
def Pg.swap (a b:aB) (p:Pg):Pg:=⟨p.globals.map (BS a b),p.procs.map (Pc.swap a b)⟩
def It.swap (a b:aB) (i:It):It:=⟨i.s.swap a b,i.deep,i.bF,i.aR⟩
def Yn:List Sm→List aB
 | []=> []
 |v::l=>v.said++Yn l
def afu (p:Pg):List aB→List aB
 | []=> []
 |n::l=>Yn (pR p n)++afu p l
def mW (nm:aB) (T:List aB) (seen:List aB):List Ar→Bool
 | []=>true
 |a::l=>if a.ref then(if dq seen a.name ||(a.name==nm ||dq T a.name)then false else mW nm T (seen++ [a.name]) l)else mW nm T seen l
def Gv (T:List aB) (seen:List aB):List Ar→Bool
 | []=>true
 |a::l=>if a.ref then(if dq seen a.name ||dq T a.name then false else Gv T (seen++ [a.name]) l)else Gv T seen l
def Sm.ac3 (v:Sm):List aB:=if v.name != []then [v.name]else []
theorem Gw {nm:aB} {T:List aB} : ∀ (l:List Ar) (seen:List aB),(∀ a∈l,a.ref=true→a.name≠ [])→
 mW nm T seen l=Gv T ((if nm != []then [nm]else [])++seen) l
 | [],seen,_=>rfl
 | a::l,seen,h=>by
  have ih:=fun seen=>Gw (nm:=nm) (T:=T) l seen fun b m=>h b (zaA _ m)
  simp only[mW,Gv,ih]
  cases hr:a.ref with
  |false=>rfl
  | true=>
   have hn:=h a (zaE ..) hr
   have:dq ((if nm != []then [nm]else [])++seen) a.name=(dq seen a.name ||a.name==nm):=by
    rw[Bool.eq_iff_iff,fS,zay,fS,zaB,beq_iff_eq]
    cases hb:(nm != [])
    ·have:nm = []:=by simpa using hb
     subst this
     simp[hn]
    ·simp only [if_true,zbK]
     exact Or.comm
   simp only[if_true,this,Bool.or_assoc,zaD]
theorem WK {v:Sm} (rr:v.args.length<1000000000) {T:List aB} (hT:T.length<4611686018427387904) (s:St) :
 aC Tryz.prog 72 [.agg (bn v), .slice .shared 1 (T.map encStr)] s (.bool (mW v.name T [] v.args)) s:=by
 refine aC.pure ?_ (by simp[D.bP,D.ok,ke,Tag.ok,da]) rfl s
 generalize hR:mW v.name T [] v.args=R
 have Yo:=fun x s=>qT hT x s
 unfold S0
 refine aC.go Cj.h rfl fun B Q hB hQ=>?_
 have⟨hC,hE,hF,hS⟩:=bt
 repeat' (first
 |simp only[go_sem,hC,hE,hF,hS]
 |(with_reducible refine ay hQ ?_;exact aK))
 refine aV.gY 5 1 rfl ?_
 simp only[go_sem,hC,hE,hF,hS]
 refine b8 1 1 (aV.ind (ι:=List Ar×Nat×List aB×Nat) (fun i=>v.args.drop i.2.1=i.1∧mW v.name T i.2.2.1 i.1=R∧i.2.2.1.length≤i.2.1∧i.2.2.2=i.2.2.1.length) (fun i=>i.1.length)
  (fun i=> [(1, .slice .shared 1 (T.map encStr)),(2, .ptr 0 0),(5, .slice (.tok 0) 1 (i.2.2.1.map encStr)),(9, .slice .shared 6 (v.args.map dM)),(10, .int .i64 (v.args.length:Int)),(11, .int .i64 (i.2.1:Int))]) (fun i=>⟨[bn v],[some i.2.2.2]⟩) ?_ (v.args,0,[],0) ⟨rfl,hR,zaj _,rfl⟩)
 clear hR
 rintro⟨rest,k,seen,n'⟩ ⟨h1,h2,h3,h4⟩ IH
 dsimp only at h1 h2 h3 h4
 subst h4
 cases rest with
 |nil=>
  have hC:=drop_nil h1
  simp only[mW]at h2
  subst h2
  repeat' (first
 |simp only[go_sem,hC,hE,hF,hS]
 |(with_reducible refine ay hQ ?_;exact aK))
 | cons a rest=>
  obtain⟨hE,g2,hC,g4⟩:=drop_cons h1
  have bm:k<4611686018427387904:=by omega
  have hF:(seen.length+1)*17≤bh:=by unfold bh;omega
  have oC:=fun g s=>jl (l:=seen) (by omega) a.name g s
  simp only[mW]at h2
  rcases zad a.ref with c1|c1
  case inr=>
   simp only[c1,zaa,if_false]at h2
   repeat' (first
 |simp only[go_sem,hC,hE,hF,hS,c1,zao]
 | (with_reducible refine ay hQ ?_;exact aK))
   refine b9 1 1 ?_ ?_ (IH (rest,k+1,seen,_) ⟨g2,h2,by dsimp only;omega,rfl⟩ (zac _))
   ·(simp only[go_sem,hC,hE,hF,hS,az bm];try exact aT)
   ·(simp only[go_sem,hC,hE,hF,hS,az bm];try exact aT)
  simp only[c1,if_true]at h2
  rcases zad (dq seen a.name)with c2|c2
  ·simp only [c2,za6,if_true]at h2
   subst h2
   repeat' (first
 |simp only[go_sem,hC,hE,hF,hS,c1,c2,zan]
 |(with_reducible refine CU (oC _ _) ?_)
 |(with_reducible refine CU (Yo _ _) ?_)
 | (with_reducible refine ay hQ ?_;exact aK))
  rcases zad (a.name==v.name)with c3|c3
  ·simp only [c2,c3,zbd,za6,if_true]at h2
   subst h2
   repeat' (first
 |simp only[go_sem,hC,hE,hF,hS,c1,c2,c3,zan]
 |(with_reducible refine CU (oC _ _) ?_)
 |(with_reducible refine CU (Yo _ _) ?_)
 | (with_reducible refine ay hQ ?_;exact aK))
  rcases zad (dq T a.name)with c4|c4
  ·simp only [c2,c3,c4,zbd,if_true]at h2
   subst h2
   repeat' (first
 |simp only[go_sem,hC,hE,hF,hS,c1,c2,c3,c4,zan]
 |(with_reducible refine CU (oC _ _) ?_)
 |(with_reducible refine CU (Yo _ _) ?_)
 | (with_reducible refine ay hQ ?_;exact aK))
  ·simp only [c2,c3,c4,zbd,zaa,if_false]at h2
   repeat' (first
 |simp only[go_sem,hC,hE,hF,hS,c1,c2,c3,c4,zan]
 |(with_reducible refine CU (oC _ _) ?_)
 |(with_reducible refine CU (Yo _ _) ?_)
 | (with_reducible refine ay hQ ?_;exact aK))
   refine b9 1 1 ?_ ?_ (IH (rest,k+1,seen++ [a.name],seen.length+1) ⟨g2,h2,by simp;omega,by simp⟩ (zac _))
   ·(simp only[go_sem,hC,hE,hF,hS,az bm,zag,zaf,zah,encStr];try exact aT)
   ·(simp only[go_sem,hC,hE,hF,hS,az bm,zag,zaf,zah,encStr];try exact aT)
def mX (p:Pg):List Pc→List D
 | []=> []
 |f::l=> .str f.name:: .slice .shared 1 ((p.nP f.name).map encStr)::mX p l
theorem SH (p:Pg) : ∀ l,D.bP 0 0 (mX p l)=true
 | []=>rfl
 |f::l=>by simp only[mX,D.bP,D.ok,Tag.ok,da,SH p l];rfl
theorem ZU (n m:Nat) (p:Pg) (l:List Pc):D.ic n m (mX p l)=mX p l:=iF n m _ (SH p l)
attribute [go_sem] ZU
theorem JA (p:Pg) : ∀ l m,mX p (l++m)=mX p l++mX p m
 | [],m=>rfl
 |f::l,m=>by simp only[zaH,mX,JA p l m]
theorem JB {p:Pg} {nm:aB} {d:D} : ∀ {l:List Pc},nm∉l.map (·.name)→we nm d (mX p l)=some (mX p l++ [.str nm,d])
 | [],_=>rfl
 |f::l,h=>by
  simp only[zaf,zaw,not_or]at h
  have:(f.name==nm)=false:=by simpa using fun e=>h.1 e.symm
  simp only[mX,we,this,zaa,if_false,JB h.2,zaH]
theorem JC {p:Pg} {nm:aB} {z:D} : ∀ {l:List Pc} {f:Pc},jm nm l=some f→x5 nm z (mX p l)=some (.slice .shared 1 ((p.nP nm).map encStr))
 | g::l,f,h=>by
  simp only[jm]at h
  simp only[mX,x5]
  split at h
  ·rename_i e
   rw[if_pos e,eq_of_beq e]
  ·rename_i e
   rw[if_neg e]
   exact JC h
theorem ZV (l:List aB) : ∀ (s:List aB),pA s l=false→∀ a x b,l=a++x::b→x∉s++a:=by
 induction l with
 |nil=>intro s _ a x b e;cases a<;>cases e
 | cons y l ih=>
  intro s h a x b e
  simp only[pA]at h
  split at h
  ·cases h
  ·rename_i hy
   cases a with
   |nil=>cases e;simpa[← fS]using hy
   |cons z a=>
    cases e
    have:=ih (s++ [y]) h a x b rfl
    simpa using this
end Go.Abs
namespace Go.Abs
set_option maxRecDepth 8000
open Go.Proofs
theorem JD {p:Pg} (h:(p.arity.1==0)=true):(p.scope.1==0)=true∧∀ v∈p.pre,(v.kind==4)=true→v.l7 p=true:=by
 unfold Pg.arity at h
 split at h
 ·rename_i e
  refine⟨e,fun v hv hk=>?_⟩
  have : ∀ l:List Sm,((fO 6 (vN p l)).1==0)=true→∀ v∈l,(v.kind==4)=true→v.l7 p=true:=by
   intro l
   induction l with
   |nil=>intro _ v m;cases m
   | cons a l ih=>
    intro h v m hk
    simp only[vN]at h
    split at h
    ·cases h
    ·rename_i c
     rcases zaw.1 m with rfl|m
     ·simpa[hk]using c
     ·exact ih h v m hk
  exact this _ h v hv hk
 ·cases h
theorem Gx {p:Pg} {v:Sm} (h:v.l7 p=true) : ∃ f,p.find v.proc=some f:=by
 unfold Sm.l7 at h
 cases e:p.find v.proc with
 |some f=>exact⟨f,rfl⟩
 |none=>rw[e]at h;simp at h
theorem JE : ∀ {l:List It} {n:Nat} {i:It},It.cJ n l=true→i∈l→i.s.one=true
 | j::l,n,i,h,m=>by
  simp only[It.cJ]at h
  split at h
  ·cases h
  ·rename_i c
   simp only[zay,not_or,zaG,za4]at c
   rcases zaw.1 m with rfl|m
   ·exact c.2
   ·exact JE h m
theorem ZW {p:Pg} (h:p.may=true) : ∀ v∈p.pre,v.one=true:=fun v m=>by
 rw[← (oR h).2,zbh]at m
 obtain⟨i,hi,rfl⟩:=m
 exact JE (tZ h).2 hi
theorem WL {v:Sm} (h:v.one=true):Ar.cJ v.args=true:=by
 unfold Sm.one at h
 repeat' (split at h)
 all_goals first|(cases h;done)|(rename_i c;simpa using c)|skip
theorem JF : ∀ {l:List Ar},Ar.cJ l=true→∀ a∈l,a.may=true
 | b::l,h,a,m=>by
  simp only[Ar.cJ]at h
  split at h
  ·cases h
  ·rename_i c
   rcases zaw.1 m with rfl|m
   ·simpa using c
   ·exact JF h a m
theorem WM {v:Sm} (h:v.one=true) : ∀ a∈v.args,a.ref=true→a.name≠ []:=fun a m hr=>by
 have:=JF (WL h) a m
 unfold Ar.may at this
 rw[if_pos hr]at this
 intro e
 rw[e]at this
 simp[isName]at this
def Sm.Bj (p:Pg) (v:Sm):Bool:=mW v.name (p.nP v.proc) [] v.args
def JG (p:Pg):List Sm→Option Sm
 | []=>none
 |v::l=>if v.kind==4 && !(v.Bj p)then some v else JG p l
def Pg.alias (p:Pg):Int×Int:=if p.arity.1==0 then fO 8 (JG p p.pre)else(1,0)
theorem AE {p:Pg} (h:p.iK) (nm:aB):(p.nP nm).length<4611686018427387904:=by
 unfold Pg.nP
 cases hs:p.wL nm with
 |none=>dsimp only;decide
 |some f=>
  obtain⟨jd,hf⟩:=Gp hs
  have h1:=(Cw jd hf).len
  have h2:=h.procs
  have h3:=(rQ h (gG (p.work nm)) []).2
  have h4:(gG (p.work nm)).length*1800000≤900000*1800000:=zaU _ (by omega)
  have h5:(gG (p.mn nm)).length≤(p.mn nm).length:=vO _ _ (qX (kV _).1) fun x m=>((kV _).2 x).1 m
  dsimp only
  unfold Pg.mn at *
  simp only[zax]at h3
  omega
theorem D7 {v:Sm} (hv:v.mV):v.args.length<1000000000:=by have:=Ar.cG v.args;have:=hv.2.2;omega
theorem SI {p:Pg} (h:p.iK) (s:St):aC Tryz.prog 26 [.agg (bQ p)] s (.agg [.int .i64 p.alias.1, .int .i64 p.alias.2]) s:=by
 refine aC.pure ?_ (by simp[D.bP,D.ok,fH]) rfl s
 obtain⟨n7,nh,pz⟩:=h.procs
 have gS:=fun s=>Jk h s
 have dK:=fun s=>DL (p:=p) (by omega) s
 have hL:=(qn p).1
 have hll:=qo p
 generalize hR:p.alias=R
 simp only[Pg.alias]at hR
 unfold S0
 have b0:(p.arity.1 != 0) = !(p.arity.1==0):=rfl
 rcases zad (p.arity.1==0)with b1|b1
 case inr=>
  rw[b1]at b0
  simp only[b1,zaa,if_false]at hR
  subst hR
  refine aC.go vw.h rfl fun B Q hB hQ=>?_
  have⟨hC,hE,hF,hS⟩:=bt
  repeat' (first
 |simp only[go_sem,hC,hE,hF,hS,b0,zao]
 |(with_reducible refine CU (gS _) ?_)
 |(with_reducible refine ay hQ ?_;exact aK))
 rw[b1]at b0
 obtain⟨jd,iU⟩:=JD b1
 have oe:=(Jq jd).2.1
 simp only[b1,if_true, ← hL]at hR
 refine aC.go vw.h rfl fun B Q hB hQ=>?_
 have⟨hC,hE,hF,hS⟩:=bt
 repeat' (first
 |simp only[go_sem,hC,hE,hF,hS,b0,zan]
 |(with_reducible refine CU (gS _) ?_)
 |(with_reducible refine ay hQ ?_;exact aK))
 refine b9 3 0 ?_ ?_ (aV.ind (ι:=List Pc×Nat×List Pc) (fun i=>p.procs.drop i.2.1=i.1∧p.procs=i.2.2++i.1) (fun i=>i.1.length)
  (fun i=> [(1, .ptr 0 0),(2, .ptr 1 0),(3, .gH 2),(15, .slice .shared 5 (p.procs.map cf)),(16, .int .i64 (p.procs.length:Int)),(17, .int .i64 (i.2.1:Int))]) (fun i=>⟨[bQ p,[.int .i64 0, .int .i64 0],mX p i.2.2],[]⟩) ?_ (p.procs,0,[]) ⟨rfl,rfl⟩)
 ·(simp only[go_sem,hC,hE,hF,hS,mX];try exact aT)
 ·(simp only[go_sem,hC,hE,hF,hS,mX];try exact aT)
 rintro⟨rest,k,done⟩ ⟨h1,h2⟩ IH
 dsimp only at h1 h2
 cases rest with
 | cons a rest=>
  obtain⟨hE,g2,hC,g4⟩:=drop_cons h1
  have bm:k<4611686018427387904:=by omega
  have rp:=fun s=>Sy h a.name s
  have qU:a.name∉done.map (·.name):=by
   have:=ZV _ [] oe (done.map (·.name)) a.name (rest.map (·.name)) (by simp[Pg.pn,h2])
   simpa using this
  have hmp:we a.name (.slice .shared 1 ((p.nP a.name).map encStr)) (mX p done)=some (mX p (done++ [a])):=by
   rw[JB qU,JA];rfl
  repeat' (first
 |simp only[go_sem,hC,hE,hF,hS,hmp]
 |(with_reducible refine CU (rp _) ?_)
 |(with_reducible refine ay hQ ?_;exact aK))
  refine b9 3 0 ?_ ?_ (IH (rest,k+1,done++ [a]) ⟨g2,by rw[h2];simp⟩ (zac _))
  ·(simp only[go_sem,hC,hE,hF,hS,az bm];try exact aT)
  ·(simp only[go_sem,hC,hE,hF,hS,az bm];try exact aT)
 |nil=>
  have hC:=drop_nil h1
  rw[zaJ]at h2
  subst h2
  repeat' (first
 |simp only[go_sem,hC,hE,hF,hS,rM]
 |(with_reducible refine CU (dK _) ?_)
 | (with_reducible refine ay hQ ?_;exact aK))
  refine b8 3 0 (aV.ind (ι:=List Im×Nat) (fun i=>p.eY.L.drop i.2=i.1∧fO 8 (JG p (i.1.map Im.s))=R) (fun i=>i.1.length)
   (fun i=> [(1, .ptr 0 0),(2, .ptr 1 0),(3, .gH 2),(33, .slice .shared 17 (p.eY.L.map eO)),(34, .int .i64 (p.eY.L.length:Int)),(35, .int .i64 (i.2:Int))]) (fun i=>⟨[bQ p,[.int .i64 0, .int .i64 0],mX p p.procs],[]⟩) ?_ (p.eY.L,0) ⟨rfl,hR⟩)
  clear hR
  rintro⟨rest,k⟩ ⟨h1,hR⟩ IH
  dsimp only at h1 hR
  cases rest with
  |nil=>
   have hC:=drop_nil h1
   simp only[zah,JG,fO]at hR
   subst hR
   repeat' (first
 |simp only[go_sem,hC,hE,hF,hS]
 | (with_reducible refine ay hQ ?_;exact aK))
  | cons a rest=>
   obtain⟨hE,g2,hC,g4⟩:=drop_cons h1
   have bm:k<4611686018427387904:=by omega
   have vK:a.s∈p.pre:=by rw[← hL];exact zaT (zae hE)
   have CZ:=fun s=>WK (D7 (h.pre _ vK)) (AE h a.s.proc) s
   simp only[zaf,JG,Sm.Bj]at hR
   rcases zad (a.s.kind==4)with c1|c1
   ·obtain⟨f,hf⟩:=Gx (iU _ vK c1)
    have hmg:=fun z=>JC (p:=p) (z:=z) hf
    rcases zad (mW a.s.name (p.nP a.s.proc) [] a.s.args)with c2|c2
    ·simp only [c1,c2,zan,zbf,zaa,if_false]at hR
     repeat' (first
 |simp only[go_sem,hC,hE,hF,hS,c1,c2,hmg]
 |(with_reducible refine CU (CZ _) ?_)
 | (with_reducible refine ay hQ ?_;exact aK))
     refine b9 3 0 ?_ ?_ (IH (rest,k+1) ⟨g2,hR⟩ (zac _))
     ·(simp only[go_sem,hC,hE,hF,hS,az bm];try exact aT)
     ·(simp only[go_sem,hC,hE,hF,hS,az bm];try exact aT)
    ·simp only [c1,c2,zao,zbn,if_true,fO]at hR
     subst hR
     repeat' (first
 |simp only[go_sem,hC,hE,hF,hS,c1,c2,hmg]
 |(with_reducible refine CU (CZ _) ?_)
 | (with_reducible refine ay hQ ?_;exact aK))
   ·simp only [c1,zaO,zaa,if_false]at hR
    repeat' (first
 |simp only[go_sem,hC,hE,hF,hS,c1]
 |(with_reducible refine CU (CZ _) ?_)
 | (with_reducible refine ay hQ ?_;exact aK))
    refine b9 3 0 ?_ ?_ (IH (rest,k+1) ⟨g2,hR⟩ (zac _))
    ·(simp only[go_sem,hC,hE,hF,hS,az bm];try exact aT)
    ·(simp only[go_sem,hC,hE,hF,hS,az bm];try exact aT)
def Sm.uM (p:Pg) (v:Sm):Bool:=v.l7 p && Gv (p.nP v.proc) v.ac3 v.args
theorem JH {p:Pg} {v:Sm} (h:v.one=true):v.uM p=(v.l7 p && v.Bj p):=by
 unfold Sm.uM Sm.Bj
 rw[Gw v.args [] (WM h),zaJ]
 rfl
theorem WN {p:Pg} {v:Sm} (h:p.iK) (jd:(p.scope.1==0)=true) (hv:v.mV) (s:St):aC Tryz.prog 106 [.agg (bQ p), .agg (bn v)] s (.bool (v.uM p)) s:=by
 refine aC.pure ?_ (by simp[D.bP,D.ok,fH,ke]) rfl s
 have tF:=fun s=>DZ h hv s
 have rr:=D7 hv
 generalize hR:v.uM p=R
 unfold Sm.uM at hR
 unfold S0
 rcases zad (v.l7 p)with b1|b1
 case inr=>
  simp only[b1,zaO]at hR
  subst hR
  refine aC.go o7.h rfl fun B Q hB hQ=>?_
  have⟨hC,hE,hF,hS⟩:=bt
  repeat' (first
 |simp only[go_sem,hC,hE,hF,hS,b1,zao]
 |(with_reducible refine CU (tF _) ?_)
 |(with_reducible refine ay hQ ?_;exact aK))
 simp only[b1,zbc]at hR
 obtain⟨f,hf⟩:=Gx b1
 have xK:=fun s=>Ps h jd hf s
 obtain⟨T,hT⟩ : ∃ T,T=p.nP v.proc:=⟨_,rfl⟩
 have hTl:T.length<4611686018427387904:=hT ▸ AE h v.proc
 have hTe:gG (p.mn v.proc)=T:=by
  rw[hT];unfold Pg.nP Pg.wL;rw[if_pos jd];simp only[hf]
 rw[hTe]at xK
 rw[← hT]at hR
 have WO:=fun x g s=>wF hTl x g s
 refine aC.go o7.h rfl fun B Q hB hQ=>?_
 have⟨hC,hE,hF,hS⟩:=bt
 have ac4:=@aV.ind Tryz.prog B 52 (List Ar×Nat×List aB×Nat) Q08 (ij 0 (kn (fZ Tryz.prog B 52 Q09 Q) Q)) (fun i=>v.args.drop i.2.1=i.1∧Gv T i.2.2.1 i.1=R∧i.2.2.1.length≤i.2.1+1∧i.2.2.2=i.2.2.1.length) (fun i=>i.1.length)
  (fun i=> [(2, .ptr 0 0),(3, .ptr 1 0),(5, .slice (.tok 0) 1 (i.2.2.1.map encStr)),(21, .slice .shared 6 (v.args.map dM)),(22, .int .i64 (v.args.length:Int)),(23, .int .i64 (i.2.1:Int))]) (fun i=>⟨[bQ p,bn v],[some i.2.2.2]⟩) (by
   clear hR
   rintro⟨rest,k,seen,n'⟩ ⟨h1,h2,h3,h4⟩ IH
   dsimp only at h1 h2 h3 h4
   subst h4
   cases rest with
   |nil=>
    have hC:=drop_nil h1
    simp only[Gv]at h2
    subst h2
    repeat' (first
 |simp only[go_sem,hC,hE,hF,hS]
 | (with_reducible refine ay hQ ?_;exact aK))
   | cons a rest=>
    obtain⟨hE,g2,hC,g4⟩:=drop_cons h1
    have bm:k<4611686018427387904:=by omega
    have hF:(seen.length+1)*17≤bh:=by unfold bh;omega
    have oC:=fun g s=>wF (l:=seen) (by omega) a.name g s
    simp only[Gv]at h2
    rcases zad a.ref with c1|c1
    case inr=>
     simp only[c1,zaa,if_false]at h2
     repeat' (first
 |simp only[go_sem,hC,hE,hF,hS,c1]
 | (with_reducible refine ay hQ ?_;exact aK))
     refine b9 2 1 ?_ ?_ (IH (rest,k+1,seen,_) ⟨g2,h2,by dsimp only;omega,rfl⟩ (zac _))
     ·(simp only[go_sem,hC,hE,hF,hS,az bm];try exact aT)
     ·(simp only[go_sem,hC,hE,hF,hS,az bm];try exact aT)
    simp only[c1,if_true]at h2
    rcases zad (dq seen a.name)with c2|c2
    ·simp only [c2,za6,if_true]at h2
     subst h2
     repeat' (first
 |simp only[go_sem,hC,hE,hF,hS,c1,c2]
 |(with_reducible refine CU (oC _ _) ?_)
 |(with_reducible refine CU (xK _) ?_)
 |(with_reducible refine CU (WO _ _ _) ?_)
 | (with_reducible refine ay hQ ?_;exact aK))
    rcases zad (dq T a.name)with c4|c4
    ·simp only [c2,c4,zbd,if_true]at h2
     subst h2
     repeat' (first
 |simp only[go_sem,hC,hE,hF,hS,c1,c2,c4]
 |(with_reducible refine CU (oC _ _) ?_)
 |(with_reducible refine CU (xK _) ?_)
 |(with_reducible refine CU (WO _ _ _) ?_)
 | (with_reducible refine ay hQ ?_;exact aK))
    ·simp only [c2,c4,zbd,zaa,if_false]at h2
     repeat' (first
 |simp only[go_sem,hC,hE,hF,hS,c1,c2,c4]
 |(with_reducible refine CU (oC _ _) ?_)
 |(with_reducible refine CU (xK _) ?_)
 |(with_reducible refine CU (WO _ _ _) ?_)
 |(with_reducible refine ay hQ ?_;exact aK))
     refine b9 2 1 ?_ ?_ (IH (rest,k+1,seen++ [a.name],seen.length+1) ⟨g2,h2,by simp;omega,by simp⟩ (zac _))
     ·(simp only[go_sem,hC,hE,hF,hS,az bm,zag,zaf,zah,encStr];try exact aT)
     ·(simp only[go_sem,hC,hE,hF,hS,az bm,zag,zaf,zah,encStr];repeat' (first|exact Ok.out|with_reducible refine eJ ?_ ?_)))
 unfold Sm.ac3 at hR
 rcases zad (v.name != [])with b2|b2
 ·simp only [b2,if_true]at hR
  have b3:(v.name == [])=false:=by simpa using b2
  have hF:17≤bh:=by unfold bh;omega
  repeat' (first
 |simp only[go_sem,hC,hE,hF,hS,b1,b2,b3,zan]
 |(with_reducible refine CU (tF _) ?_)
 |(with_reducible refine ay hQ ?_;exact aK))
  refine b8 2 1 (ac4 (v.args,0,[v.name],1) ⟨rfl,hR,zaj _,rfl⟩)
 ·simp only [b2,zaa,if_false]at hR
  have b3:(v.name == [])=true:=by simpa using b2
  repeat' (first
 |simp only[go_sem,hC,hE,hF,hS,b1,b2,b3,zan]
 |(with_reducible refine CU (tF _) ?_)
 |(with_reducible refine ay hQ ?_;exact aK))
  refine aV.gY 5 1 rfl ?_
  simp only[go_sem,hC,hE,hF,hS]
  refine b8 2 1 (ac4 (v.args,0,[],0) ⟨rfl,hR,zau _,rfl⟩)
def BT (p:Pg):List Sm→Option Sm
 | []=>none
 |v::l=>if v.kind==4 && !(v.uM p)then some v else BT p l
theorem ac5 {p:Pg} (h:p.iK) (jd:(p.scope.1==0)=true) (s:St):aC Tryz.prog 52 [.agg (bQ p)] s (.agg [.int .i64 (fO 8 (BT p p.pre)).1, .int .i64 (fO 8 (BT p p.pre)).2]) s:=by
 refine aC.pure ?_ (by simp[D.bP,D.ok,fH]) rfl s
 obtain⟨n7,nh,pz⟩:=h.procs
 have rr:=fun s=>Pa (p:=p) (by omega) s
 have hL:=(oR (ni jd)).2
 have hll:=(tZ (ni jd)).1
 generalize hR:fO 8 (BT p p.pre)=R
 rw[← hL]at hR
 unfold S0
 refine aC.go Bt.h rfl fun B Q hB hQ=>?_
 have⟨hC,hE,hF,hS⟩:=bt
 repeat' (first
 |simp only[go_sem,hC,hE,hF,hS]
 |(with_reducible refine CU (rr _) ?_)
 |(with_reducible refine ay hQ ?_;exact aK))
 refine b8 2 0 (aV.ind (ι:=List It×Nat) (fun i=>p.all.drop i.2=i.1∧fO 8 (BT p (i.1.map It.s))=R) (fun i=>i.1.length)
  (fun i=> [(1, .ptr 0 0),(2, .ptr 1 0),(6, .slice .shared 16 (p.all.map dX)),(7, .int .i64 (p.all.length:Int)),(8, .int .i64 (i.2:Int))]) (fun i=>⟨[bQ p,[.int .i64 0, .int .i64 0]],[]⟩) ?_ (p.all,0) ⟨rfl,hR⟩)
 clear hR
 rintro⟨rest,k⟩ ⟨h1,hR⟩ IH
 dsimp only at h1 hR
 cases rest with
 |nil=>
  have hC:=drop_nil h1
  simp only[zah,BT,fO]at hR
  subst hR
  repeat' (first
 |simp only[go_sem,hC,hE,hF,hS]
 |(with_reducible refine ay hQ ?_;exact aK))
 | cons a rest=>
  obtain⟨hE,g2,hC,g4⟩:=drop_cons h1
  have bm:k<4611686018427387904:=by omega
  have vK:a.s∈p.pre:=by rw[← hL];exact zaT (zae hE)
  have Aq:=fun s=>WN h jd (h.pre _ vK) s
  simp only[zaf,BT]at hR
  rcases zad (a.s.kind==4)with c1|c1
  ·rcases zad (a.s.uM p)with c2 | c2
   ·simp only [c1,c2,zan,zbf,zaa,if_false]at hR
    repeat' (first
 |simp only[go_sem,hC,hE,hF,hS,c1,c2]
 |(with_reducible refine CU (Aq _) ?_)
 | (with_reducible refine ay hQ ?_;exact aK))
    refine b9 2 0 ?_ ?_ (IH (rest,k+1) ⟨g2,hR⟩ (zac _))
    ·(simp only[go_sem,hC,hE,hF,hS,az bm];try exact aT)
    ·(simp only[go_sem,hC,hE,hF,hS,az bm];try exact aT)
   ·simp only [c1,c2,zao,zbn,if_true,fO]at hR
    subst hR
    repeat' (first
 |simp only[go_sem,hC,hE,hF,hS,c1,c2]
 |(with_reducible refine CU (Aq _) ?_)
 |(with_reducible refine CU (fp _ _ _) ?_)
 | (with_reducible refine ay hQ ?_;exact aK))
  ·simp only [c1,zaO,zaa,if_false]at hR
   repeat' (first
 |simp only[go_sem,hC,hE,hF,hS,c1]
 |(with_reducible refine CU (Aq _) ?_)
 | (with_reducible refine ay hQ ?_;exact aK))
   refine b9 2 0 ?_ ?_ (IH (rest,k+1) ⟨g2,hR⟩ (zac _))
   ·(simp only[go_sem,hC,hE,hF,hS,az bm];try exact aT)
   ·(simp only[go_sem,hC,hE,hF,hS,az bm];try exact aT)
theorem ZX {p:Pg} (hm:p.may=true) (iU : ∀ v∈p.pre,(v.kind==4)=true→v.l7 p=true):BT p p.pre=JG p p.pre:=by
 have fF:=ZW hm
 generalize p.pre=l at *
 induction l with
 |nil=>rfl
 |cons v l ih=>
  simp only[BT,JG]
  rw[JH (fF v (zaE ..))]
  rw[ih (fun w m=>iU w (zaA _ m)) (fun w m=>fF w (zaA _ m))]
  cases hk:(v.kind==4)
  ·rfl
  ·rw[iU v (zaE ..) hk];rfl
theorem ZY {n:Nat} {l:List aB} {dk:Int} {r:Rd} {p:List aB×Rd} (h:Rd.names n l dk r=some p) :
 aC Tryz.prog 132 [.ptr 0 0, .slice (.tok 0) 1 (l.map encStr), .int .i64 dk] ⟨[cw r],[some l.length]⟩ (.slice (.tok 0) 1 (p.1.map encStr)) ⟨[cw p.2],[some p.1.length]⟩:=by
 refine aC.go wC.h rfl fun B Q hB hQ=>?_
 have⟨hC,hE,hF,hS⟩:=bt
 repeat' (first
 |simp only[go_sem,hC,hE,hF,hS]
 |(with_reducible first|refine aX fun hc=>?_|refine aY fun hc=>?_|refine aZ (fun hc=>?_) fun hc=>?_)<;>(try simp only[hc,bs,↓reduceIte]at h)<;>try simp only[hc]
 |(with_reducible refine ay hQ ?_;exact aK))
 refine b8 1 1 (aV.ind (ι:=Nat×List aB×Rd×Nat) (fun i=>Rd.names i.1 i.2.1 dk i.2.2.1=some p∧i.2.2.2=i.2.1.length) (fun i=>i.1)
  (fun i=> [(0, .ptr 0 0),(1, .slice (.tok 0) 1 (i.2.1.map encStr)),(2, .int .i64 dk)]) (fun i=>⟨[cw i.2.2.1],[some i.2.2.2]⟩) ?_ (n,l,r,l.length) ⟨h,rfl⟩)
 rintro⟨n,l,r,k⟩ ⟨h,hk⟩ IH
 dsimp only at hk;subst hk
 cases n with
 |zero=>simp only[Rd.names]at h;cases h
 |succ n=>
  simp only[Rd.names]at h
  repeat' (first
 |simp only[go_sem,hC,hE,hF,hS]
 |(rw[zab]at h;obtain⟨_,h1,h⟩:=h;first|(with_reducible refine CU (xE h1 (by with_unfolding_all rfl)) ?_)|(obtain⟨hF,kQ⟩:=dH h1;subst kQ;simp only[go_sem,hC,hE,hF,hS])|(with_reducible refine CU (sH h1 (by with_unfolding_all rfl)) ?_)|(with_reducible refine CU (pN h1 (by with_unfolding_all rfl)) ?_))
 |(with_reducible refine CU (kF (by with_unfolding_all rfl)) ?_)
 |(with_reducible first|refine aX fun hc=>?_|refine aY fun hc=>?_|refine aZ (fun hc=>?_) fun hc=>?_)<;>(try simp only[hc,bs,↓reduceIte]at h)<;>try simp only[hc]
 |((with_reducible refine ay hQ ?_);exact cS))
  refine b8 1 1 (IH (n,_,_,l.length+1) ⟨h,by simp⟩ (zac _))
theorem L3 {n:Nat} {l:List aB} {dk:Int} {r:Rd} {p:List aB×Rd} (h:Rd.names n l dk r=some p) {s:St} {o t:Nat} (ho:s.aw[o]? = some (cw r)) (ht:s.aE[t]? = some (some l.length)) :
 aC Tryz.prog 132 [.ptr o 0, .slice (.tok t) 1 (l.map encStr), .int .i64 dk] s (.slice (.tok t) 1 (p.1.map encStr)) ⟨s.aw.set o (cw p.2),s.aE.set t (some p.1.length)⟩:=
 (ZY h).XX rfl (fv r) (fv p.2) (da l) (da p.1) ho ht
theorem JI {n:Nat} {r:Rd} {p:List aB×Rd} (h:Rd.labels n [] r=some p) {s:St} {o:Nat} (ho:s.aw[o]? = some (cw r)) :
 aC Tryz.prog 204 [.ptr o 0] s (.slice .shared 1 (p.1.map encStr)) ⟨s.aw.set o (cw p.2),s.aE⟩:=by
 refine aC.fy ?_ rfl (fv r) (fv p.2) (by simp[D.ok,da,Tag.ok]) ho
 refine aC.go u5.h rfl fun B Q hB hQ=>?_
 have⟨hC,hE,hF,hS⟩:=bt
 repeat' (first
 |simp only[go_sem,hC,hE,hF,hS]
 |(with_reducible first|refine aX fun hc=>?_|refine aY fun hc=>?_|refine aZ (fun hc=>?_) fun hc=>?_)<;>(try simp only[hc,bs,↓reduceIte]at h)<;>try simp only[hc]
 |(with_reducible refine ay hQ ?_;exact aK))
 refine aV.gY 3 1 rfl ?_
 simp only[go_sem,hC,hE,hF,hS]
 refine b8 1 1 (aV.ind (ι:=Nat×List aB×Rd×Nat) (fun i=>Rd.labels i.1 i.2.1 i.2.2.1=some p∧i.2.2.2=i.2.1.length) (fun i=>i.1)
  (fun i=> [(0, .ptr 0 0),(3, .slice (.tok 0) 1 (i.2.1.map encStr))]) (fun i=>⟨[cw i.2.2.1],[some i.2.2.2]⟩) ?_ (n,[],r,0) ⟨h,rfl⟩)
 rintro⟨n,l,r,k⟩ ⟨h,hk⟩ IH
 dsimp only at hk;subst hk
 cases n with
 |zero=>simp only[Rd.labels]at h;cases h
 |succ n=>
  simp only[Rd.labels,Rd.ahead]at h
  repeat' (first
 |simp only[go_sem,hC,hE,hF,hS]
 |(rw[zab]at h;obtain⟨_,h1,h⟩:=h;first|(with_reducible refine CU (oK h1 (by with_unfolding_all rfl)) ?_;have hC:=rK h1)|(obtain⟨hF,kQ⟩:=dH h1;subst kQ;simp only[go_sem,hC,hE,hF,hS])|(obtain⟨tg,hE⟩:=oI h1;simp only[go_sem,hE,hC,hE,hF,hS]))
 |(with_reducible refine CU (kF (by with_unfolding_all rfl)) ?_)
 |(with_reducible first|refine aX fun hc=>?_|refine aY fun hc=>?_|refine aZ (fun hc=>?_) fun hc=>?_)<;>(try simp only[hc,bs,↓reduceIte]at h)<;>try simp only[hc]
 |((with_reducible refine ay hQ ?_);exact cS))
  refine b8 1 1 (IH (n,_,_,l.length+1) ⟨h,by simp⟩ (zac _))
theorem WQ {r:Rd} {b:Bool} (h:r.lU=some b) {s:St} {o:Nat} (ho:s.aw[o]? = some (cw r)) :
 aC Tryz.prog 226 [.ptr o 0] s (.bool b) ⟨s.aw.set o (cw r),s.aE⟩:=by
 refine aC.fy ?_ rfl (fv r) (fv r) rfl ho
 unfold Rd.lU at h
 refine aC.go u6.h rfl fun B Q hB hQ=>?_
 have⟨hC,hE,hF,hS⟩:=bt
 repeat' (first
 |simp only[go_sem,hC,hE,hF,hS]
 |(rw[zab]at h;obtain⟨_,h1,h⟩:=h;first|(with_reducible refine CU (oK h1 (by with_unfolding_all rfl)) ?_))
 |(with_reducible first|refine aX fun hc=>?_|refine aY fun hc=>?_|refine aZ (fun hc=>?_) fun hc=>?_)<;>(try simp only[hc,bs,↓reduceIte]at h)<;>try simp only[hc]
 |((with_reducible refine ay hQ ?_);exact cS))
theorem ac6 {m:Nat} {name proc:aB} {r:Rd} {p:Sm×Rd} (h:Rd.call m name proc r=some p) {s:St} {o:Nat} (ho:s.aw[o]? = some (cw r)) :
 aC Tryz.prog 239 [.ptr o 0, .str name, .str proc] s (.agg (bn p.1)) ⟨s.aw.set o (cw p.2),s.aE⟩:=by
 refine aC.fy ?_ rfl (fv r) (fv p.2) (by simp[D.ok,ke]) ho
 unfold Rd.call Rd.other at h
 refine aC.go xv.h rfl fun B Q hB hQ=>?_
 have⟨hC,hE,hF,hS⟩:=bt
 repeat' (first
 |simp only[go_sem,hC,hE,hF,hS]
 |(rw[zab]at h;obtain⟨_,h1,h⟩:=h;first|(with_reducible refine CU (pN h1 (by with_unfolding_all rfl)) ?_)|(with_reducible refine CU (z7 h1 (by with_unfolding_all rfl)) ?_))
 |(with_reducible refine CU (kF (by with_unfolding_all rfl)) ?_)
 |(with_reducible first|refine aX fun hc=>?_|refine aY fun hc=>?_|refine aZ (fun hc=>?_) fun hc=>?_)<;>(try simp only[hc,bs,↓reduceIte]at h)<;>try simp only[hc]
 |((with_reducible refine ay hQ ?_);exact cS)
 |(cases h;replace h:=hr;clear hr;(try simp only[bs,↓reduceIte]at h))
 |(cases h;done))
 rw[zab]at h
 obtain⟨q,h,hr⟩:=h
 refine aV.qa 2 10 6 rfl rfl ?_
 simp only[go_sem,hC,hE,hF,hS]
 refine b8 3 1 (aV.ind (ι:=Nat×List Ar×Rd×Nat) (fun i=>Rd.jk m i.1 i.2.1 i.2.2.1=some q∧i.2.2.2=i.2.1.length) (fun i=>i.1)
  (fun i=> [(0, .ptr 0 0),(6, .ptr 1 0),(7, .ptr 2 0)]) (fun i=>⟨[cw i.2.2.1,bn FR,[.int .i64 0, .int .i64 4, .slice .shared 1 [], .str name, .str proc, .int .i64 0, .int .i64 0, .str [], .slice .shared 4 [], .bool false, .slice (.tok 0) 6 (i.2.1.map dM), .slice .shared 13 [], .slice .shared 13 []]],[some i.2.2.2]⟩) ?_ (m,[],_,0) ⟨h,rfl⟩)
 rintro⟨n,l,r,k⟩ ⟨h,hk⟩ IH
 dsimp only at hk;subst hk
 cases n with
 |zero=>simp only[Rd.jk]at h;cases h
 |succ n=>
  simp only[Rd.jk]at h
  repeat' (first
 |simp only[go_sem,hC,hE,hF,hS]
 |(rw[zab]at h;obtain⟨_,h1,h⟩:=h;first|(with_reducible refine CU (sH h1 (by with_unfolding_all rfl)) ?_)|(obtain⟨hF,kQ⟩:=dH h1;subst kQ;simp only[go_sem,hC,hE,hF,hS])|(with_reducible refine CU (xE h1 (by with_unfolding_all rfl)) ?_)|(with_reducible refine CU (Bb h1 (by with_unfolding_all rfl)) ?_)|(with_reducible refine CU (pN h1 (by with_unfolding_all rfl)) ?_))
 |(with_reducible refine CU (kF (by with_unfolding_all rfl)) ?_)
 |(with_reducible first|refine aX fun hc=>?_|refine aY fun hc=>?_|refine aZ (fun hc=>?_) fun hc=>?_)<;>(try simp only[hc,bs,↓reduceIte]at h)<;>try simp only[hc]
 |((with_reducible refine ay hQ ?_);exact cS)
 |(cases h;replace h:=hr;clear hr;(try simp only[bs,↓reduceIte]at h))
 |(cases h;done))
  ·refine b8 3 1 (IH (n,_,_,l.length+1) ⟨h,by simp⟩ (zac _))
  ·refine b8 3 1 (IH (n,_,_,l.length+1) ⟨h,by simp⟩ (zac _))
theorem WR {m:Nat} {r:Rd} {p:Sm×Rd} (h:Rd.named m r=some p) {s:St} {o:Nat} (ho:s.aw[o]? = some (cw r)) :
 aC Tryz.prog 227 [.ptr o 0] s (.agg (bn p.1)) ⟨s.aw.set o (cw p.2),s.aE⟩:=by
 refine aC.fy ?_ rfl (fv r) (fv p.2) (by simp[D.ok,ke]) ho
 unfold Rd.named Rd.ahead at h
 refine aC.go wy.h rfl fun B Q hB hQ=>?_
 have⟨hC,hE,hF,hS⟩:=bt
 repeat' (first
 |simp only[go_sem,hC,hE,hF,hS]
 |(rw[zab]at h;obtain⟨_,h1,h⟩:=h;first|(with_reducible refine CU (xE h1 (by with_unfolding_all rfl)) ?_)|(with_reducible refine CU (pN h1 (by with_unfolding_all rfl)) ?_)|(with_reducible refine CU (z7 h1 (by with_unfolding_all rfl)) ?_)|(with_reducible refine CU (oK h1 (by with_unfolding_all rfl)) ?_;have hC:=rK h1)|(obtain⟨tg,hE⟩:=oI h1;simp only[go_sem,hE,hC,hE,hF,hS])|(with_reducible refine CU (Bb h1 (by with_unfolding_all rfl)) ?_))
 |(with_reducible refine CU (kF (by with_unfolding_all rfl)) ?_)
 |(with_reducible refine CU (ac6 h (by with_unfolding_all rfl)) ?_)
 |(with_reducible first|refine aX fun hc=>?_|refine aY fun hc=>?_|refine aZ (fun hc=>?_) fun hc=>?_)<;>(try simp only[hc,bs,↓reduceIte]at h)<;>try simp only[hc]
 |((with_reducible refine ay hQ ?_);exact cS))
theorem ZZ {m:Nat} {word:aB} {r:Rd} {p:Sm×Rd} (h:Rd.plain m word r=some p) {s:St} {o:Nat} (ho:s.aw[o]? = some (cw r)) :
 aC Tryz.prog 231 [.ptr o 0, .str word] s (.agg (bn p.1)) ⟨s.aw.set o (cw p.2),s.aE⟩:=by
 refine aC.fy ?_ rfl (fv r) (fv p.2) (by simp[D.ok,ke]) ho
 unfold Rd.plain at h
 refine aC.go wA.h rfl fun B Q hB hQ=>?_
 have⟨hC,hE,hF,hS⟩:=bt
 repeat' (first
 |simp only[go_sem,hC,hE,hF,hS]
 |(rw[zab]at h;obtain⟨_,h1,h⟩:=h;first|(with_reducible refine CU (xE h1 (by with_unfolding_all rfl)) ?_)|(with_reducible refine CU (z7 h1 (by with_unfolding_all rfl)) ?_)|(with_reducible refine CU (Bb h1 (by with_unfolding_all rfl)) ?_))
 |(with_reducible first|refine aX fun hc=>?_|refine aY fun hc=>?_|refine aZ (fun hc=>?_) fun hc=>?_)<;>(try simp only[hc,bs,↓reduceIte]at h)<;>try simp only[hc]
 |((with_reducible refine ay hQ ?_);exact cS))
theorem SJ {m:Nat} {r:Rd} {p:Ex×Rd} (h:Rd.head m r=some p) {s:St} {o:Nat} (ho:s.aw[o]? = some (cw r)) :
 aC Tryz.prog 229 [.ptr o 0] s (.agg (bI p.1)) ⟨s.aw.set o (cw p.2),s.aE⟩:=by
 refine aC.fy ?_ rfl (fv r) (fv p.2) (by simp[D.ok,fK]) ho
 unfold Rd.head at h
 refine aC.go xu.h rfl fun B Q hB hQ=>?_
 have⟨hC,hE,hF,hS⟩:=bt
 repeat' (first
 |simp only[go_sem,hC,hE,hF,hS]
 |(rw[zab]at h;obtain⟨_,h1,h⟩:=h;first|(with_reducible refine CU (pN h1 (by with_unfolding_all rfl)) ?_)|(with_reducible refine CU (Bb h1 (by with_unfolding_all rfl)) ?_))
 |(with_reducible first|refine aX fun hc=>?_|refine aY fun hc=>?_|refine aZ (fun hc=>?_) fun hc=>?_)<;>(try simp only[hc,bs,↓reduceIte]at h)<;>try simp only[hc]
 |((with_reducible refine ay hQ ?_);exact cS))
abbrev JJ (m n:Nat):Prop:=∀ {nest:Int} {body:Bool} {r:Rd} {p:(List Sm×List aB)×Rd},Rd.rows m n nest body r=some p→∀ {s:St} {o:Nat},s.aw[o]? = some (cw r)→
 aC Tryz.prog 172 [.ptr o 0, .int .i64 nest, .bool body] s (.tuple [.slice .shared 13 (p.1.1.map bn), .slice .shared 1 (p.1.2.map encStr)]) ⟨s.aw.set o (cw p.2),s.aE⟩
abbrev AG (m n:Nat):Prop:=∀ {nest:Int} {r:Rd} {p:Sm×Rd},Rd.stmt m n nest r=some p→∀ {s:St} {o:Nat},s.aw[o]? = some (cw r)→
 aC Tryz.prog 205 [.ptr o 0, .int .i64 nest] s (.agg (bn p.1)) ⟨s.aw.set o (cw p.2),s.aE⟩
abbrev Bk (m n:Nat):Prop:=∀ {nest:Int} {r:Rd} {p:List Sm×Rd},Rd.block m n nest r=some p→∀ {s:St} {o:Nat},s.aw[o]? = some (cw r)→
 aC Tryz.prog 230 [.ptr o 0, .int .i64 nest] s (.slice .shared 13 (p.1.map bn)) ⟨s.aw.set o (cw p.2),s.aE⟩
abbrev Cx (m n:Nat):Prop:=∀ {nest:Int} {r:Rd} {p:Sm×Rd},Rd.choice m n nest r=some p→∀ {s:St} {o:Nat},s.aw[o]? = some (cw r)→
 aC Tryz.prog 228 [.ptr o 0, .int .i64 nest] s (.agg (bn p.1)) ⟨s.aw.set o (cw p.2),s.aE⟩
theorem La {m n:Nat} (Fi:Bk m n):Cx m (n+1):=by
 intro nest r p h s o ho
 refine aC.fy ?_ rfl (fv r) (fv p.2) (by simp[D.ok,ke]) ho
 unfold Rd.choice at h
 refine aC.go u7.h rfl fun B Q hB hQ=>?_
 have⟨hC,hE,hF,hS⟩:=bt
 repeat' (first
 |simp only[go_sem,hC,hE,hF,hS]
 |(rw[zab]at h;obtain⟨_,h1,h⟩:=h;first|(with_reducible refine CU (SJ h1 (by with_unfolding_all rfl)) ?_)|(with_reducible refine CU (Fi h1 (by with_unfolding_all rfl)) ?_)|(with_reducible refine CU (sH h1 (by with_unfolding_all rfl)) ?_))
 |(with_reducible first|refine aX fun hc=>?_|refine aY fun hc=>?_|refine aZ (fun hc=>?_) fun hc=>?_)<;>(try simp only[hc,bs,↓reduceIte]at h)<;>try simp only[hc]
 |((with_reducible refine ay hQ ?_);exact cS))
theorem PA {m n:Nat} (JK:JJ m n):Bk m (n+1):=by
 intro nest r p h s o ho
 refine aC.fy ?_ rfl (fv r) (fv p.2) (by simp[D.ok,lz,Tag.ok]) ho
 unfold Rd.block at h
 refine aC.go wz.h rfl fun B Q hB hQ=>?_
 have⟨hC,hE,hF,hS⟩:=bt
 repeat' (first
 |simp only[go_sem,hC,hE,hF,hS]
 |(rw[zab]at h;obtain⟨_,h1,h⟩:=h;first|(with_reducible refine CU (pN h1 (by with_unfolding_all rfl)) ?_)|(obtain⟨hS,hik⟩:=vt h1;subst hik;simp only[go_sem,hS,hC,hE,hF,hS])|(with_reducible refine CU (JK h1 (by with_unfolding_all rfl)) ?_))
 |(with_reducible first|refine aX fun hc=>?_|refine aY fun hc=>?_|refine aZ (fun hc=>?_) fun hc=>?_)<;>(try simp only[hc,bs,↓reduceIte]at h)<;>try simp only[hc]
 |((with_reducible refine ay hQ ?_);exact cS))
theorem SK {m n:Nat} (Fi:Bk m n) (WS:Cx m n):AG m (n+1):=by
 intro nest r p h s o ho
 refine aC.fy ?_ rfl (fv r) (fv p.2) (by simp[D.ok,ke]) ho
 unfold Rd.stmt at h
 refine aC.go xr.h rfl fun B Q hB hQ=>?_
 have⟨hC,hE,hF,hS⟩:=bt
 repeat' (first
 |simp only[go_sem,hC,hE,hF,hS]
 |(rw[zab]at h;obtain⟨_,h1,h⟩:=h;first|(with_reducible refine CU (WQ h1 (by with_unfolding_all rfl)) ?_)|(obtain⟨hS,hik⟩:=Cf h1;subst hik;simp only[go_sem,hS,hC,hE,hF,hS])|(with_reducible refine CU (oK h1 (by with_unfolding_all rfl)) ?_;have hC:=rK h1)|(with_reducible refine CU (SJ h1 (by with_unfolding_all rfl)) ?_)|(with_reducible refine CU (Fi h1 (by with_unfolding_all rfl)) ?_)|(with_reducible refine CU (ZZ h1 (by with_unfolding_all rfl)) ?_)|(with_reducible refine CU (pN h1 (by with_unfolding_all rfl)) ?_)|(with_reducible refine CU (DG h1 (by with_unfolding_all rfl)) ?_))
 |(with_reducible refine CU (WS h (by with_unfolding_all rfl)) ?_)
 |(with_reducible refine CU (WR h (by with_unfolding_all rfl)) ?_)
 |(with_reducible first|refine aX fun hc=>?_|refine aY fun hc=>?_|refine aZ (fun hc=>?_) fun hc=>?_)<;>(try simp only[hc,bs,↓reduceIte]at h)<;>try simp only[hc]
 |((with_reducible refine ay hQ ?_);exact cS))
theorem SL {m n:Nat} (xR : ∀ j<n,AG m j) {nest:Int} {r:Rd} {p:(List Sm×List aB)×Rd} (h:Rd.rows m (n+1) nest true r=some p) :
 aC Tryz.prog 172 [.ptr 0 0, .int .i64 nest, .bool true] ⟨[cw r],[]⟩ (.tuple [.slice .shared 13 (p.1.1.map bn), .slice .shared 1 (p.1.2.map encStr)]) ⟨[cw p.2],[]⟩:=by
 unfold Rd.rows at h
 refine aC.go ql.h rfl fun B Q hB hQ=>?_
 have⟨hC,hE,hF,hS⟩:=bt
 repeat' (first
 |simp only[go_sem,hC,hE,hF,hS]
 |(with_reducible first|refine aX fun hc=>?_|refine aY fun hc=>?_|refine aZ (fun hc=>?_) fun hc=>?_)<;>(try simp only[hc,bs,↓reduceIte]at h)<;>try simp only[hc]
 |(with_reducible refine ay hQ ?_;exact aK))
 refine aV.gY 8 13 rfl ?_
 simp only[go_sem,hC,hE,hF,hS]
 refine b8 1 1 (aV.ind (ι:=Nat×List Sm×Rd×Nat) (fun i=>Rd.dI m i.1 nest true i.2.1 i.2.2.1=some p∧i.2.2.2=i.2.1.length∧i.1≤n) (fun i=>i.1)
  (fun i=> [(0, .ptr 0 0),(1, .int .i64 nest),(2, .bool true),(8, .slice (.tok 0) 13 (i.2.1.map bn))]) (fun i=>⟨[cw i.2.2.1],[some i.2.2.2]⟩) ?_ (n,[],r,0) ⟨h,rfl,zaj _⟩)
 rintro⟨j,l,r,k⟩ ⟨h,hk,hj⟩ IH
 dsimp only at hk hj;subst hk
 cases j with
 |zero=>simp only[Rd.dI]at h;cases h
 |succ j=>
  have JL:=@xR j (by omega)
  simp only[Rd.dI]at h
  repeat' (first
 |simp only[go_sem,hC,hE,hF,hS,cD]
 |(rw[zab]at h;obtain⟨_,h1,h⟩:=h;first|(with_reducible refine CU (JI h1 (by with_unfolding_all rfl)) ?_)|(with_reducible refine CU (z7 h1 (by with_unfolding_all rfl)) ?_;have hC:=is_lt h1)|(obtain⟨hF,kQ⟩:=dH h1;subst kQ;simp only[go_sem,hC,hE,hF,hS])|(with_reducible refine CU (JL h1 (by with_unfolding_all rfl)) ?_))
 |(with_reducible refine CU (kF (by with_unfolding_all rfl)) ?_)
 |(with_reducible first|refine aX fun hc=>?_|refine aY fun hc=>?_|refine aZ (fun hc=>?_) fun hc=>?_)<;>(try simp only[hc,bs,↓reduceIte]at h)<;>try simp only[hc]
 | ((with_reducible refine ay hQ ?_);(try cases h);simp only [bp,bq,bS,bT,go_sem,hC,hE,hF,hS,cD];try exact cp))
  ·refine b9 1 1 ?_ ?_ (IH (j,_,_,l.length+1) ⟨h,by simp,by dsimp only;omega⟩ (zac _))
   ·(simp only[go_sem,hC,hE,hF,hS,cD];try exact aT)
   ·(simp only[go_sem,hC,hE,hF,hS,cD];try exact aT)
theorem PB {m n:Nat} (xR : ∀ j<n,AG m j) {nest:Int} {r:Rd} {p:(List Sm×List aB)×Rd} (h:Rd.rows m (n+1) nest false r=some p) :
 aC Tryz.prog 172 [.ptr 0 0, .int .i64 nest, .bool false] ⟨[cw r],[]⟩ (.tuple [.slice .shared 13 (p.1.1.map bn), .slice .shared 1 (p.1.2.map encStr)]) ⟨[cw p.2],[]⟩:=by
 unfold Rd.rows at h
 refine aC.go ql.h rfl fun B Q hB hQ=>?_
 have⟨hC,hE,hF,hS⟩:=bt
 repeat' (first
 |simp only[go_sem,hC,hE,hF,hS]
 |(with_reducible first|refine aX fun hc=>?_|refine aY fun hc=>?_|refine aZ (fun hc=>?_) fun hc=>?_)<;>(try simp only[hc,bs,↓reduceIte]at h)<;>try simp only[hc]
 |(with_reducible refine ay hQ ?_;exact aK))
 refine aV.gY 8 13 rfl ?_
 simp only[go_sem,hC,hE,hF,hS]
 refine b8 1 1 (aV.ind (ι:=Nat×List Sm×Rd×Nat) (fun i=>Rd.dI m i.1 nest false i.2.1 i.2.2.1=some p∧i.2.2.2=i.2.1.length∧i.1≤n) (fun i=>i.1)
  (fun i=> [(0, .ptr 0 0),(1, .int .i64 nest),(2, .bool false),(8, .slice (.tok 0) 13 (i.2.1.map bn))]) (fun i=>⟨[cw i.2.2.1],[some i.2.2.2]⟩) ?_ (n,[],r,0) ⟨h,rfl,zaj _⟩)
 rintro⟨j,l,r,k⟩ ⟨h,hk,hj⟩ IH
 dsimp only at hk hj;subst hk
 cases j with
 |zero=>simp only[Rd.dI]at h;cases h
 |succ j=>
  have JL:=@xR j (by omega)
  simp only[Rd.dI]at h
  repeat' (first
 |simp only[go_sem,hC,hE,hF,hS,cD]
 |(rw[zab]at h;obtain⟨_,h1,h⟩:=h;first|(with_reducible refine CU (JI h1 (by with_unfolding_all rfl)) ?_)|(with_reducible refine CU (z7 h1 (by with_unfolding_all rfl)) ?_;have hC:=is_lt h1)|(obtain⟨hF,kQ⟩:=dH h1;subst kQ;simp only[go_sem,hC,hE,hF,hS])|(with_reducible refine CU (JL h1 (by with_unfolding_all rfl)) ?_))
 |(with_reducible refine CU (kF (by with_unfolding_all rfl)) ?_)
 |(with_reducible first|refine aX fun hc=>?_|refine aY fun hc=>?_|refine aZ (fun hc=>?_) fun hc=>?_)<;>(try simp only[hc,bs,↓reduceIte]at h)<;>try simp only[hc]
 | ((with_reducible refine ay hQ ?_);(try cases h);simp only [bp,bq,bS,bT,go_sem,hC,hE,hF,hS,cD];try exact cp))
  ·refine b9 1 1 ?_ ?_ (IH (j,_,_,l.length+1) ⟨h,by simp,by dsimp only;omega⟩ (zac _))
   ·(simp only[go_sem,hC,hE,hF,hS,cD];try exact aT)
   ·(simp only[go_sem,hC,hE,hF,hS,cD];try exact aT)
  ·refine b9 1 1 ?_ ?_ (IH (j,_,_,l.length+1) ⟨h,by simp,by dsimp only;omega⟩ (zac _))
   ·(simp only[go_sem,hC,hE,hF,hS,cD];try exact aT)
   ·(simp only[go_sem,hC,hE,hF,hS,cD];try exact aT)
theorem SM {m n:Nat} (xR : ∀ j<n,AG m j):JJ m (n+1):=by
 intro nest body r p h s o ho
 refine aC.fy ?_ rfl (fv r) (fv p.2) (by simp[D.ok,D.bP,lz,da,Tag.ok]) ho
 cases body
 ·exact PB xR h
 ·exact SL xR h
theorem ac8 (m:Nat) : ∀ n,∀ k<n,JJ m k∧AG m k∧Bk m k∧Cx m k:=by
 intro n
 induction n with
 |zero=>intro k h;exact absurd h (zaM _)
 | succ n ih=>
  intro k hk
  cases k with
  |zero=>
   refine⟨?_, ?_, ?_, ?_⟩
   ·intro nest body r p h;simp only[Rd.rows]at h;cases h
   ·intro nest r p h;simp only[Rd.stmt]at h;cases h
   ·intro nest r p h;simp only[Rd.block]at h;cases h
   ·intro nest r p h;simp only[Rd.choice]at h;cases h
  |succ k=>
   obtain⟨h1,h2,h3,h4⟩:=ih k (by omega)
   exact⟨SM fun j hj=>(ih j (by omega)).2.1,SK h3 h4,PA h1,La h3⟩
theorem JK {m n:Nat} {nest:Int} {body:Bool} {r:Rd} {p:(List Sm×List aB)×Rd} (h:Rd.rows m n nest body r=some p) {s:St} {o:Nat} (ho:s.aw[o]? = some (cw r)) :
 aC Tryz.prog 172 [.ptr o 0, .int .i64 nest, .bool body] s (.tuple [.slice .shared 13 (p.1.1.map bn), .slice .shared 1 (p.1.2.map encStr)]) ⟨s.aw.set o (cw p.2),s.aE⟩:=
 (ac8 m (n+1) n (zac _)).1 h ho
theorem vT {m:Nat} {B:eQ} {Q:Exit→Tm→St→Prop} {row:List D} {name:aB} {p:Pc×Rd} (hB:B.s = ⟨[row],[]⟩) (hQ:gZ 1 0 [(2,some (true,5))] (.agg (cf p.1)) ⟨[cw p.2],[]⟩=Q)
 (ps:List Pm) (r:Rd) (h:Rd.jB m name ps r=some p) :
 aV Tryz.prog B 56 Q0I (ij 2 (kn (fZ Tryz.prog B 56 Q0J Q) Q)) [(0, .ptr 0 0),(2, .ptr 1 0),(3, .ptr 2 0)]
  ⟨[cw r,[.str [], .slice .full 0 [], .slice .full 0 [], .slice .full 0 [], .slice .full 0 []],[.str name, .slice .shared 2 (ps.map eH), .slice .full 0 [], .slice .full 0 [], .slice .full 0 []]],[]⟩:=by
 have⟨hC,hE,hF,hS⟩:=bt
 unfold Rd.jB at h
 rw[zab]at h
 obtain⟨q,h,hr⟩:=h
 refine aV.qa 2 2 1 rfl rfl ?_
 simp only[go_sem,hC,hE,hF,hS]
 refine b8 3 1 (aV.ind (ι:=Nat×List aB×Rd×Nat) (fun i=>Rd.vars m i.1 i.2.1 i.2.2.1=some q∧i.2.2.2=i.2.1.length) (fun i=>i.1)
  (fun i=> [(0, .ptr 0 0),(2, .ptr 1 0),(3, .ptr 2 0)]) (fun i=>⟨[cw i.2.2.1,[.str [], .slice .full 0 [], .slice .full 0 [], .slice .full 0 [], .slice .full 0 []],[.str name, .slice .shared 2 (ps.map eH), .slice (.tok 0) 1 (i.2.1.map encStr), .slice .full 0 [], .slice .full 0 []]],[some i.2.2.2]⟩) ?_ (m,[],r,0) ⟨h,rfl⟩)
 rintro⟨n,l,r,k⟩ ⟨h,hk⟩ IH
 dsimp only at hk;subst hk
 cases n with
 |zero=>simp only[Rd.vars]at h;cases h
 |succ n=>
  simp only[Rd.vars]at h
  repeat' (first
 |simp only[go_sem,hC,hE,hF,hS]
 |(rw[zab]at h;obtain⟨_,h1,h⟩:=h;first|(with_reducible refine CU (sH h1 (by with_unfolding_all rfl)) ?_)|(with_reducible refine CU (L3 h1 (by with_unfolding_all rfl) (by with_unfolding_all rfl)) ?_)|(with_reducible refine CU (JK h1 (by with_unfolding_all rfl)) ?_))
 |(with_reducible first|refine aX fun hc=>?_|refine aY fun hc=>?_|refine aZ (fun hc=>?_) fun hc=>?_)<;>(try simp only[hc,bs,↓reduceIte]at h)<;>try simp only[hc]
 |((with_reducible refine ay hQ ?_);exact cS)
 |(cases h;replace h:=hr;clear hr;(try simp only[bs,↓reduceIte]at h))
 |(cases h;done))
  refine b8 3 1 (IH (n,_,_,_) ⟨h,rfl⟩ (zac _))
theorem ac9 {m:Nat} {r:Rd} {p:Pc×Rd} (h:Rd.proc m r=some p) {s:St} {o:Nat} (ho:s.aw[o]? = some (cw r)) :
 aC Tryz.prog 136 [.ptr o 0] s (.agg (cf p.1)) ⟨s.aw.set o (cw p.2),s.aE⟩:=by
 refine aC.fy ?_ rfl (fv r) (fv p.2) (by simp[D.ok,qL]) ho
 unfold Rd.proc Rd.other at h
 refine aC.go mR.h rfl fun B Q hB hQ=>?_
 have⟨hC,hE,hF,hS⟩:=bt
 repeat' (first
 |simp only[go_sem,hC,hE,hF,hS]
 |(rw[zab]at h;obtain⟨_,h1,h⟩:=h;first|(with_reducible refine CU (pN h1 (by with_unfolding_all rfl)) ?_)|(with_reducible refine CU (z7 h1 (by with_unfolding_all rfl)) ?_)|(with_reducible refine CU (xE h1 (by with_unfolding_all rfl)) ?_))
 |(with_reducible refine CU (kF (by with_unfolding_all rfl)) ?_)
 |(with_reducible first|refine aX fun hc=>?_|refine aY fun hc=>?_|refine aZ (fun hc=>?_) fun hc=>?_)<;>(try simp only[hc,bs,↓reduceIte]at h)<;>try simp only[hc]
 |(with_reducible refine ay hQ ?_;exact aK))
 ·refine b8 3 0 (vT hB hQ [] _ h)
 ·rename_i nm _ _ _ _ _
  rw[zab]at h
  obtain⟨q,h,hr⟩:=h
  refine aV.qa 2 1 2 rfl rfl ?_
  simp only[go_sem,hC,hE,hF,hS]
  refine b8 3 1 (aV.ind (ι:=Nat×List Pm×Rd×Nat) (fun i=>Rd.params i.1 i.2.1 i.2.2.1=some q∧i.2.2.2=i.2.1.length) (fun i=>i.1)
   (fun i=> [(0, .ptr 0 0),(2, .ptr 1 0),(3, .ptr 2 0)]) (fun i=>⟨[cw i.2.2.1,[.str [], .slice .full 0 [], .slice .full 0 [], .slice .full 0 [], .slice .full 0 []],[.str nm.1, .slice (.tok 0) 2 (i.2.1.map eH), .slice .full 0 [], .slice .full 0 [], .slice .full 0 []]],[some i.2.2.2]⟩) ?_ (m,[],_,0) ⟨h,rfl⟩)
  rintro⟨n,l,r,k⟩ ⟨h,hk⟩ IH
  dsimp only at hk;subst hk
  cases n with
  |zero=>simp only[Rd.params]at h;cases h
  |succ n=>
   simp only[Rd.params]at h
   repeat' (first
 |simp only[go_sem,hC,hE,hF,hS]
 |(rw[zab]at h;obtain⟨_,h1,h⟩:=h;first|(with_reducible refine CU (sH h1 (by with_unfolding_all rfl)) ?_)|(with_reducible refine CU (xE h1 (by with_unfolding_all rfl)) ?_)|(obtain⟨hF,kQ⟩:=dH h1;subst kQ;simp only[go_sem,hC,hE,hF,hS])|(with_reducible refine CU (pN h1 (by with_unfolding_all rfl)) ?_))
 |(with_reducible refine CU (kF (by with_unfolding_all rfl)) ?_)
 |(with_reducible first|refine aX fun hc=>?_|refine aY fun hc=>?_|refine aZ (fun hc=>?_) fun hc=>?_)<;>(try simp only[hc,bs,↓reduceIte]at h)<;>try simp only[hc]
 |((with_reducible refine ay hQ ?_);exact cS)
 |(cases h;replace h:=hr;clear hr;(try simp only[bs,↓reduceIte]at h))
 | (cases h;done))
   ·refine b8 3 1 (IH (n,_,_,l.length+1) ⟨h,by simp⟩ (zac _))
   ·refine b8 3 0 (vT hB hQ _ _ h)
   ·refine b8 3 0 (vT hB hQ _ _ h)
 ·refine b8 3 0 (vT hB hQ [] _ h)
theorem JM {m:Nat} {B:eQ} {Q:Exit→Tm→St→Prop} {row:List D} {g:List aB} {p:Pg×Rd} (hB:B.s = ⟨[row],[]⟩) (hQ:gZ 1 0 [(2,some (true,2))] (.agg (bQ p.1)) ⟨[cw p.2],[]⟩=Q)
 (r:Rd) {k:Nat} (h:((Rd.procs m k [] r).bind fun q=>some (⟨g,q.1⟩,q.2))=some p) :
 aV Tryz.prog B 49 Q06 (ij 2 (kn (fZ Tryz.prog B 49 Q07 Q) Q)) [(0, .ptr 0 0),(2, .ptr 1 0),(3, .ptr 2 0)]
  ⟨[cw r,[.slice .full 0 [], .slice .full 0 []],[.slice .shared 1 (g.map encStr), .slice .full 0 []]],[]⟩:=by
 have⟨hC,hE,hF,hS⟩:=bt
 rw[zab]at h
 obtain⟨q,h,hr⟩:=h
 cases hr
 refine aV.qa 2 1 5 rfl rfl ?_
 simp only[go_sem,hC,hE,hF,hS]
 refine b8 3 1 (aV.ind (ι:=Nat×List Pc×Rd×Nat) (fun i=>Rd.procs m i.1 i.2.1 i.2.2.1=some q∧i.2.2.2=i.2.1.length) (fun i=>i.1)
  (fun i=> [(0, .ptr 0 0),(2, .ptr 1 0),(3, .ptr 2 0)]) (fun i=>⟨[cw i.2.2.1,[.slice .full 0 [], .slice .full 0 []],[.slice .shared 1 (g.map encStr), .slice (.tok 0) 5 (i.2.1.map cf)]],[some i.2.2.2]⟩) ?_ (k,[],r,0) ⟨h,rfl⟩)
 rintro⟨n,l,r,k⟩ ⟨h,hk⟩ IH
 dsimp only at hk;subst hk
 cases n with
 |zero=>simp only[Rd.procs]at h;cases h
 |succ n=>
  simp only[Rd.procs,Rd.oJ,Rd.mP]at h
  repeat' (first
 |simp only[go_sem,hC,hE,hF,hS]
 |(rw[zab]at h;obtain⟨_,h1,h⟩:=h;first|(with_reducible refine CU (z7 h1 (by with_unfolding_all rfl)) ?_;have hC:=is_lt h1)|(with_reducible refine CU (DG h1 (by with_unfolding_all rfl)) ?_)|(with_reducible refine CU (ac9 h1 (by with_unfolding_all rfl)) ?_)|(obtain⟨hF,kQ⟩:=dH h1;subst kQ;simp only[go_sem,hC,hE,hF,hS])|(with_reducible refine CU (oK h1 (by with_unfolding_all rfl)) ?_))
 |(with_reducible refine CU (kF (by with_unfolding_all rfl)) ?_)
 |(with_reducible first|refine aX fun hc=>?_|refine aY fun hc=>?_|refine aZ (fun hc=>?_) fun hc=>?_)<;>(try simp only[hc,bs,↓reduceIte]at h)<;>try simp only[hc]
 |((with_reducible refine ay hQ ?_);exact cS))
  ·refine b8 3 1 (IH (n,_,_,l.length+1) ⟨h,by simp⟩ (zac _))
theorem WT {c:UInt8} {r:aB} (h:iH c=true):0<iY (c::r):=by simp[iY,h]
theorem PC {text:aB} (hl:text.length≤100000) {B:eQ} {Q:Exit→Tm→St→Prop} {p:List bN×Int×Int} (hB:B.s=S0)
 (hQ:gZ 0 0 [(2,none),(3,some (true,2))] (.tuple [.slice .shared 4 (p.1.map dt), .agg (iJ p.2)]) ⟨[],[]⟩=Q)
 {n pos:Nat} {out:List bN} (ho:out.length≤2000) (hp:pos≤text.length) (IH:sa text B Q p (n+1))
 {c:UInt8} {r:aB} (h1:text.drop pos=c::r) (hb:qm c=false) (hc:((c.toNat:Int)==35)=false) (hL:lG c=false) (hD:iH c=true) (hn:(c::r).length<n+1) (h:fR (n+1) pos (c::r) out=p) :
 fZ Tryz.prog B 152 BL (jV Tryz.prog B 152 vx Q) (od text out pos) (o8 out):=by
 have hF:0<1:=zas
 have hS:0<1:=zas
 have hE:=(drop_cons h1).1
 have g4:=(drop_cons h1).2.2.2
 have hC:pos<4611686018427387904:=by omega
 have dN:decide ((pos:Int)≥(text.length:Int))=false:=by simp;omega
 have eN:(out.length+1)*41≤bh:=by simp only[bh];omega
 have bm:=yp (c::r)
 have fj:=WT (r:=r) hD
 have eS:(c::r).length=text.length - pos:=by rw[← h1,zaI]
 have rI:=Co (c::r)
 simp only[fR,hb,zaa,↓reduceIte,hc,fV,hL,hD]at h
 simp only[qm,zby]at hb
 generalize hK:iY (c::r)=k at h bm fj rI
 have hlen:((c::r).take k).length=k:=by rw[zaL];omega
 have eU:=fun s=>VA rI (by rw[hlen];omega) s
 simp only[hlen]at h
 have dR:((c::r).take k)[0]? = some c:=by rw[za5 fj];rfl
 have e2:(0:Int)≤(pos:Int)∧(pos:Int)≤((pos+k:Nat):Int)∧((pos+k:Nat):Int)≤(text.length:Int):=by omega
 have e3:(text.take (pos+k)).drop pos=(c::r).take k:=by rw[ym,h1]
 have fin:text.drop (pos+k)=(c::r).drop k:=by rw[← h1,zbG]
 have qS:((c::r).drop k).length<n:=by rw[zaI];omega
 have bJ:pos+k≤text.length:=by omega
 repeat' (first
 |simp only[go_sem,hC,hE,hF,hS,dN,hb.1.1.1,hb.1.1.2,hb.1.2,hb.2,hc,hL,hD]
 |(with_reducible refine CU (il _ _) ?_)
 |(with_reducible refine CU (jN _ _) ?_)
 |(with_reducible refine ct (l:=3) (by with_unfolding_all rfl) ?_)
 |(with_reducible refine ay hQ ?_;exact aK))
 refine b8 2 1 (aV.ind (ι:=aB×Nat) (fun i=>text.drop i.2=i.1∧i.2+iY i.1=pos+k) (fun i=>i.1.length)
  (fun i=>od text out i.2) (fun i=>⟨[[.int .i64 0, .int .i64 0],[.int .i64 0, .str [], .int .i64 0, .int .i64 (pos:Int)]],[some out.length]⟩) ?_ (c::r,pos) ⟨h1,by dsimp only;omega⟩)
 rintro⟨rest,j⟩ ⟨j1,j2⟩ DH
 dsimp only at j1 j2
 have step : ∀ d jW,rest=d::jW→iH d=true→fZ Tryz.prog B 152 Q04 (kn (aV Tryz.prog B 152 Q04
  (ij 3 (kn (fZ Tryz.prog B 152 Q05 (jV Tryz.prog B 152 vx Q)) (jV Tryz.prog B 152 vx Q))))
  (ij 3 (kn (fZ Tryz.prog B 152 Q05 (jV Tryz.prog B 152 vx Q)) (jV Tryz.prog B 152 vx Q))))
  (od text out j) ⟨[[.int .i64 0, .int .i64 0],[.int .i64 0, .str [], .int .i64 0, .int .i64 (pos:Int)]],[some out.length]⟩:=by
  rintro d jW rfl hd
  obtain⟨hE,g2,dN,g5⟩:=drop_cons j1
  have hC:j<4611686018427387904:=by omega
  simp only[iY,hd,↓reduceIte]at j2
  repeat' (first
 |simp only[go_sem,hC,hE,hF,hS,dN,hd]
 |(with_reducible refine CU (jN _ _) ?_)
 |(with_reducible first|refine aX fun hc=>?_|refine aY fun hc=>?_|refine aZ (fun hc=>?_) fun hc=>?_)<;>(try simp only[hc,bs,↓reduceIte]at h)<;>try simp only[hc]
 |((with_reducible refine ay hQ ?_);(try cases h);simp only[bp,bq,bS,bT,go_sem,hC,hE,hF,hS,dN,hd];try exact cp))
  refine b8 2 1 (DH (jW,j+1) ⟨g2,by dsimp only;omega⟩ (zac _))
 cases rest with
 | nil=>
  have dN:=drop_nil j1
  simp only[iY,zaP]at j2
  subst j2
  by_cases hz:k > 1∧(c.toNat:Int)=48
  ·have z1:decide ((k:Int) > 1)=true:=by simp;omega
   have z2:((c.toNat:Int)==48)=true:=by simp[hz.2]
   rw[if_pos hz]at h
   dsimp only at h
   repeat' (first
 |simp only[go_sem,hC,hE,hF,hS,dN,e2,e3,hlen,dR,z1,z2]
 |(with_reducible refine ct (l:=4) (by with_unfolding_all rfl) ?_)
 |(with_reducible refine ct (l:=5) (by with_unfolding_all rfl) ?_)
 |(with_reducible first|refine aX fun hc=>?_|refine aY fun hc=>?_|refine aZ (fun hc=>?_) fun hc=>?_)<;>(try simp only[hc,bs,↓reduceIte]at h)<;>try simp only[hc]
 | ((with_reducible refine ay hQ ?_);(try cases h);simp only [bp,bq,bS,bT,go_sem,hC,hE,hF,hS,dN,e2,e3,hlen,dR,z1,z2];try exact cp))
  ·have sP:decide ((k:Int) > 1)=false∨(decide ((k:Int) > 1)=true∧((c.toNat:Int)==48)=false):=by
    by_cases h1:k > 1
    ·right;exact⟨by simp;omega,by simp;intro h2;exact hz ⟨h1,h2⟩⟩
    ·left;simp;omega
   rw[if_neg hz]at h
   cases hw:oc 0 ((c::r).take k)with
   |none=>
    have tH:oM ((c::r).take k)=(0,false):=by simp only[oM,hw]
    simp only[tH]at eU
    simp only[hw]at h
    rcases sP with z1|⟨z1,z2⟩
    ·repeat' (first
 |simp only[go_sem,hC,hE,hF,hS,dN,e2,e3,hlen,dR,z1]
 |(with_reducible refine CU (eU _) ?_)
 |(with_reducible refine ct (l:=4) (by with_unfolding_all rfl) ?_)
 |(with_reducible refine ct (l:=5) (by with_unfolding_all rfl) ?_)
 |(with_reducible first|refine aX fun hc=>?_|refine aY fun hc=>?_|refine aZ (fun hc=>?_) fun hc=>?_)<;>(try simp only[hc,bs,↓reduceIte]at h)<;>try simp only[hc]
 | ((with_reducible refine ay hQ ?_);(try cases h);simp only [bp,bq,bS,bT,go_sem,hC,hE,hF,hS,dN,e2,e3,hlen,dR,z1];try exact cp))
    ·repeat' (first
 |simp only[go_sem,hC,hE,hF,hS,dN,e2,e3,hlen,dR,z1,z2]
 |(with_reducible refine CU (eU _) ?_)
 |(with_reducible refine ct (l:=4) (by with_unfolding_all rfl) ?_)
 |(with_reducible refine ct (l:=5) (by with_unfolding_all rfl) ?_)
 |(with_reducible first|refine aX fun hc=>?_|refine aY fun hc=>?_|refine aZ (fun hc=>?_) fun hc=>?_)<;>(try simp only[hc,bs,↓reduceIte]at h)<;>try simp only[hc]
 | ((with_reducible refine ay hQ ?_);(try cases h);simp only [bp,bq,bS,bT,go_sem,hC,hE,hF,hS,dN,e2,e3,hlen,dR,z1,z2];try exact cp))
   | some v=>
    have tH:oM ((c::r).take k)=(v,true):=by simp only[oM,hw]
    simp only[tH]at eU
    simp only[hw,hlen]at h
    by_cases po:out.length=2000
    ·have jj:((out.length:Int)==2000)=true:=by simp [po]
     simp only[po,↓reduceIte]at h
     rcases sP with z1|⟨z1,z2⟩
     ·repeat' (first
 |simp only[go_sem,hC,hE,hF,hS,dN,e2,e3,hlen,dR,z1,jj]
 |(with_reducible refine CU (eU _) ?_)
 |(with_reducible refine ct (l:=4) (by with_unfolding_all rfl) ?_)
 |(with_reducible refine ct (l:=5) (by with_unfolding_all rfl) ?_)
 |(with_reducible first|refine aX fun hc=>?_|refine aY fun hc=>?_|refine aZ (fun hc=>?_) fun hc=>?_)<;>(try simp only[hc,bs,↓reduceIte]at h)<;>try simp only[hc]
 |((with_reducible refine ay hQ ?_);(try cases h);simp only[bp,bq,bS,bT,go_sem,hC,hE,hF,hS,dN,e2,e3,hlen,dR,z1,jj];try exact cp))
     ·repeat' (first
 |simp only[go_sem,hC,hE,hF,hS,dN,e2,e3,hlen,dR,z1,z2,jj]
 |(with_reducible refine CU (eU _) ?_)
 |(with_reducible refine ct (l:=4) (by with_unfolding_all rfl) ?_)
 |(with_reducible refine ct (l:=5) (by with_unfolding_all rfl) ?_)
 |(with_reducible first|refine aX fun hc=>?_|refine aY fun hc=>?_|refine aZ (fun hc=>?_) fun hc=>?_)<;>(try simp only[hc,bs,↓reduceIte]at h)<;>try simp only[hc]
 | ((with_reducible refine ay hQ ?_);(try cases h);simp only [bp,bq,bS,bT,go_sem,hC,hE,hF,hS,dN,e2,e3,hlen,dR,z1,z2,jj];try exact cp))
    ·have jj:((out.length:Int)==2000)=false:=by simp;omega
     have y6 : ∀ t:bN,(out++ [t]).length≤2000:=by intro t;simp;omega
     simp only[po,↓reduceIte]at h
     rcases sP with z1|⟨z1,z2⟩
     ·repeat' (first
 |simp only[go_sem,hC,hE,hF,hS,dN,e2,e3,hlen,dR,z1,jj,eN]
 |(with_reducible refine CU (eU _) ?_)
 |(with_reducible refine ct (l:=4) (by with_unfolding_all rfl) ?_)
 |(with_reducible refine ct (l:=5) (by with_unfolding_all rfl) ?_)
 |(refine IH.to hB fin h qS (y6 _) bJ (zac _) ?_ ?_ ?_<;>((try simp only[go_sem,hC,hE,hF,hS]);repeat' (first|exact Ok.out|with_reducible refine eJ ?_ ?_|omega|(simp;done)));done)
 |(with_reducible first|refine aX fun hc=>?_|refine aY fun hc=>?_|refine aZ (fun hc=>?_) fun hc=>?_)<;>(try simp only[hc,bs,↓reduceIte]at h)<;>try simp only[hc]
 |((with_reducible refine ay hQ ?_);(try cases h);simp only[bp,bq,bS,bT,go_sem,hC,hE,hF,hS,dN,e2,e3,hlen,dR,z1,jj,eN];try exact cp))
     ·repeat' (first
 |simp only[go_sem,hC,hE,hF,hS,dN,e2,e3,hlen,dR,z1,z2,jj,eN]
 |(with_reducible refine CU (eU _) ?_)
 |(with_reducible refine ct (l:=4) (by with_unfolding_all rfl) ?_)
 |(with_reducible refine ct (l:=5) (by with_unfolding_all rfl) ?_)
 |(refine IH.to hB fin h qS (y6 _) bJ (zac _) ?_ ?_ ?_<;>((try simp only[go_sem,hC,hE,hF,hS]);repeat' (first|exact Ok.out|with_reducible refine eJ ?_ ?_|omega|(simp;done)));done)
 |(with_reducible first|refine aX fun hc=>?_|refine aY fun hc=>?_|refine aZ (fun hc=>?_) fun hc=>?_)<;>(try simp only[hc,bs,↓reduceIte]at h)<;>try simp only[hc]
 |((with_reducible refine ay hQ ?_);(try cases h);simp only[bp,bq,bS,bT,go_sem,hC,hE,hF,hS,dN,e2,e3,hlen,dR,z1,z2,jj,eN];try exact cp))
 | cons d rest=>
  obtain⟨hE,g2,dN,g5⟩:=drop_cons j1
  have hC:j<4611686018427387904:=by omega
  cases hd:iH d
  ·simp only [iY,hd,zaa, ↓reduceIte,zaP]at j2
   subst j2
   by_cases hz:k > 1∧(c.toNat:Int)=48
   ·have z1:decide ((k:Int) > 1)=true:=by simp;omega
    have z2:((c.toNat:Int)==48)=true:=by simp[hz.2]
    rw[if_pos hz]at h
    dsimp only at h
    repeat' (first
 |simp only[go_sem,hC,hE,hF,hS,dN,hd,e2,e3,hlen,dR,z1,z2]
 |(with_reducible refine CU (jN _ _) ?_)
 |(with_reducible refine ct (l:=4) (by with_unfolding_all rfl) ?_)
 |(with_reducible refine ct (l:=5) (by with_unfolding_all rfl) ?_)
 |(with_reducible first|refine aX fun hc=>?_|refine aY fun hc=>?_|refine aZ (fun hc=>?_) fun hc=>?_)<;>(try simp only[hc,bs,↓reduceIte]at h)<;>try simp only[hc]
 | ((with_reducible refine ay hQ ?_);(try cases h);simp only [bp,bq,bS,bT,go_sem,hC,hE,hF,hS,dN,hd,e2,e3,hlen,dR,z1,z2];try exact cp))
   ·have sP:decide ((k:Int) > 1)=false∨(decide ((k:Int) > 1)=true∧((c.toNat:Int)==48)=false):=by
     by_cases h1:k > 1
     ·right;exact⟨by simp;omega,by simp;intro h2;exact hz ⟨h1,h2⟩⟩
     ·left;simp;omega
    rw[if_neg hz]at h
    cases hw:oc 0 ((c::r).take k)with
    |none=>
     have tH:oM ((c::r).take k)=(0,false):=by simp only[oM,hw]
     simp only[tH]at eU
     simp only[hw]at h
     rcases sP with z1|⟨z1,z2⟩
     ·repeat' (first
 |simp only[go_sem,hC,hE,hF,hS,dN,hd,e2,e3,hlen,dR,z1]
 |(with_reducible refine CU (jN _ _) ?_)
 |(with_reducible refine CU (eU _) ?_)
 |(with_reducible refine ct (l:=4) (by with_unfolding_all rfl) ?_)
 |(with_reducible refine ct (l:=5) (by with_unfolding_all rfl) ?_)
 |(with_reducible first|refine aX fun hc=>?_|refine aY fun hc=>?_|refine aZ (fun hc=>?_) fun hc=>?_)<;>(try simp only[hc,bs,↓reduceIte]at h)<;>try simp only[hc]
 |((with_reducible refine ay hQ ?_);(try cases h);simp only[bp,bq,bS,bT,go_sem,hC,hE,hF,hS,dN,hd,e2,e3,hlen,dR,z1];try exact cp))
     ·repeat' (first
 |simp only[go_sem,hC,hE,hF,hS,dN,hd,e2,e3,hlen,dR,z1,z2]
 |(with_reducible refine CU (jN _ _) ?_)
 |(with_reducible refine CU (eU _) ?_)
 |(with_reducible refine ct (l:=4) (by with_unfolding_all rfl) ?_)
 |(with_reducible refine ct (l:=5) (by with_unfolding_all rfl) ?_)
 |(with_reducible first|refine aX fun hc=>?_|refine aY fun hc=>?_|refine aZ (fun hc=>?_) fun hc=>?_)<;>(try simp only[hc,bs,↓reduceIte]at h)<;>try simp only[hc]
 | ((with_reducible refine ay hQ ?_);(try cases h);simp only [bp,bq,bS,bT,go_sem,hC,hE,hF,hS,dN,hd,e2,e3,hlen,dR,z1,z2];try exact cp))
    | some v=>
     have tH:oM ((c::r).take k)=(v,true):=by simp only[oM,hw]
     simp only[tH]at eU
     simp only[hw,hlen]at h
     by_cases po:out.length=2000
     ·have jj:((out.length:Int)==2000)=true:=by simp [po]
      simp only[po,↓reduceIte]at h
      rcases sP with z1|⟨z1,z2⟩
      ·repeat' (first
 |simp only[go_sem,hC,hE,hF,hS,dN,hd,e2,e3,hlen,dR,z1,jj]
 |(with_reducible refine CU (jN _ _) ?_)
 |(with_reducible refine CU (eU _) ?_)
 |(with_reducible refine ct (l:=4) (by with_unfolding_all rfl) ?_)
 |(with_reducible refine ct (l:=5) (by with_unfolding_all rfl) ?_)
 |(with_reducible first|refine aX fun hc=>?_|refine aY fun hc=>?_|refine aZ (fun hc=>?_) fun hc=>?_)<;>(try simp only[hc,bs,↓reduceIte]at h)<;>try simp only[hc]
 |((with_reducible refine ay hQ ?_);(try cases h);simp only[bp,bq,bS,bT,go_sem,hC,hE,hF,hS,dN,hd,e2,e3,hlen,dR,z1,jj];try exact cp))
      ·repeat' (first
 |simp only[go_sem,hC,hE,hF,hS,dN,hd,e2,e3,hlen,dR,z1,z2,jj]
 |(with_reducible refine CU (jN _ _) ?_)
 |(with_reducible refine CU (eU _) ?_)
 |(with_reducible refine ct (l:=4) (by with_unfolding_all rfl) ?_)
 |(with_reducible refine ct (l:=5) (by with_unfolding_all rfl) ?_)
 |(with_reducible first|refine aX fun hc=>?_|refine aY fun hc=>?_|refine aZ (fun hc=>?_) fun hc=>?_)<;>(try simp only[hc,bs,↓reduceIte]at h)<;>try simp only[hc]
 |((with_reducible refine ay hQ ?_);(try cases h);simp only[bp,bq,bS,bT,go_sem,hC,hE,hF,hS,dN,hd,e2,e3,hlen,dR,z1,z2,jj];try exact cp))
     ·have jj:((out.length:Int)==2000)=false:=by simp;omega
      have y6 : ∀ t:bN,(out++ [t]).length≤2000:=by intro t;simp;omega
      simp only[po,↓reduceIte]at h
      rcases sP with z1|⟨z1,z2⟩
      ·repeat' (first
 |simp only[go_sem,hC,hE,hF,hS,dN,hd,e2,e3,hlen,dR,z1,jj,eN]
 |(with_reducible refine CU (jN _ _) ?_)
 |(with_reducible refine CU (eU _) ?_)
 |(with_reducible refine ct (l:=4) (by with_unfolding_all rfl) ?_)
 |(with_reducible refine ct (l:=5) (by with_unfolding_all rfl) ?_)
 |(refine IH.to hB fin h qS (y6 _) bJ (zac _) ?_ ?_ ?_<;>((try simp only[go_sem,hC,hE,hF,hS]);repeat' (first|exact Ok.out|with_reducible refine eJ ?_ ?_|omega|(simp;done)));done)
 |(with_reducible first|refine aX fun hc=>?_|refine aY fun hc=>?_|refine aZ (fun hc=>?_) fun hc=>?_)<;>(try simp only[hc,bs,↓reduceIte]at h)<;>try simp only[hc]
 |((with_reducible refine ay hQ ?_);(try cases h);simp only[bp,bq,bS,bT,go_sem,hC,hE,hF,hS,dN,hd,e2,e3,hlen,dR,z1,jj,eN];try exact cp))
      ·repeat' (first
 |simp only[go_sem,hC,hE,hF,hS,dN,hd,e2,e3,hlen,dR,z1,z2,jj,eN]
 |(with_reducible refine CU (jN _ _) ?_)
 |(with_reducible refine CU (eU _) ?_)
 |(with_reducible refine ct (l:=4) (by with_unfolding_all rfl) ?_)
 |(with_reducible refine ct (l:=5) (by with_unfolding_all rfl) ?_)
 |(refine IH.to hB fin h qS (y6 _) bJ (zac _) ?_ ?_ ?_<;>((try simp only[go_sem,hC,hE,hF,hS]);repeat' (first|exact Ok.out|with_reducible refine eJ ?_ ?_|omega|(simp;done)));done)
 |(with_reducible refine ay hQ ?_;exact aK))
  ·exact step d rest rfl hd
theorem L4 {text:aB} (hl:text.length≤100000) {B:eQ} {Q:Exit→Tm→St→Prop} {p:List bN×Int×Int} (hB:B.s=S0)
 (hQ:gZ 0 0 [(2,none),(3,some (true,2))] (.tuple [.slice .shared 4 (p.1.map dt), .agg (iJ p.2)]) ⟨[],[]⟩=Q)
 {n pos:Nat} {out:List bN} (ho:out.length≤2000) (hp:pos≤text.length) (IH:sa text B Q p (n+1)) {rest:aB} (h1:text.drop pos=rest) (h:fR (n+1) pos rest out=p) (hn:rest.length<n+1) :
 fZ Tryz.prog B 152 BL (jV Tryz.prog B 152 vx Q) (od text out pos) (o8 out):=by
 cases rest with
 |nil=>exact lex_nil hl hB hQ ho hp IH h1 h
 | cons c r=>
  cases hb:qm c
  ·cases hc:((c.toNat:Int)==35)
   ·cases hL:lG c
    ·cases hD:iH c
     ·exact VC hl hB hQ ho hp IH h1 hb hc hL hD hn h
     ·exact PC hl hB hQ ho hp IH h1 hb hc hL hD hn h
    ·exact VD hl hB hQ ho hp IH h1 hb hc hL hn h
   ·exact O2 hl hB hQ ho hp IH h1 hb hc hn h
  ·exact RH hl hB hQ ho hp IH h1 hb hn h
theorem ada {text:aB} (hl:text.length≤100000) {B:eQ} {Q:Exit→Tm→St→Prop} {p:List bN×Int×Int} (hB:B.s=S0)
 (hQ:gZ 0 0 [(2,none),(3,some (true,2))] (.tuple [.slice .shared 4 (p.1.map dt), .agg (iJ p.2)]) ⟨[],[]⟩=Q) : ∀ N,sa text B Q p N:=by
 intro N
 induction N with
 |zero=>intro n pos rest out _ _ _ _ _ h;exact absurd h (zaM _)
 | succ N ih=>
  intro n pos rest out h1 h h2 h3 h4 h5
  cases n with
  |zero=>omega
  |succ n=>
   refine n4.gO ?_
   show fZ Tryz.prog B 152 BL (jV Tryz.prog B 152 vx Q) (od text out pos) (o8 out)
   exact L4 hl hB hQ h3 h4 (fun n' pos' jW bK a b c d e f=>ih n' pos' jW bK a b c d e (by omega)) h1 h h2
theorem afv (text:aB) (hl:text.length<4611686018427387904) (s:St) :
 aC Tryz.prog 73 [.str text] s (.tuple [.slice .shared 4 ((eX text).1.map dt), .agg (iJ (eX text).2)]) s:=by
 refine aC.pure ?_ rfl (by simp[D.ok,D.bP,xh,Tag.ok,iJ]) s
 generalize h:eX text=p
 unfold eX at h
 unfold S0
 refine aC.go pM.h rfl fun B Q hB hQ=>?_
 have⟨hC,hE,hF,hS⟩:=bt
 repeat' (first
 |simp only[go_sem,hC,hE,hF,hS]
 |(with_reducible first|refine aX fun hc=>?_|refine aY fun hc=>?_|refine aZ (fun hc=>?_) fun hc=>?_)<;>(try simp only[hc,bs,↓reduceIte]at h)<;>try simp only[hc]
 |((with_reducible refine ay hQ ?_);exact cS))
 refine n4.once (Sem.kM ?_)
 simp only[go_sem,hC,hE,hF,hS]
 refine Sem.kM ?_
 simp only[go_sem,hC,hE,hF,hS]
 refine Sem.kM ?_
 simp only[go_sem,hC,hE,hF,hS]
 refine Sem.kM ?_
 by_cases hz:text.length > 100000
 ·have kh:decide ((text.length:Int) > 100000)=true:=by simp;omega
  rw[if_pos hz]at h
  repeat' (first
 |simp only[go_sem,hC,hE,hF,hS,kh]
 |(with_reducible first|refine aX fun hc=>?_|refine aY fun hc=>?_|refine aZ (fun hc=>?_) fun hc=>?_)<;>(try simp only[hc,bs,↓reduceIte]at h)<;>try simp only[hc]
 |((with_reducible refine ay hQ ?_);(try cases h);simp only[bp,bq,bS,bT,go_sem,hC,hE,hF,hS,kh];try exact cp))
 ·have kh:decide ((text.length:Int) > 100000)=false:=by simp;omega
  rw[if_neg hz]at h
  have jP:text.length≤100000:=by omega
  have hQ':gZ 0 0 [(2,none),(3,some (true,2))] (.tuple [.slice .shared 4 (p.1.map dt), .agg (iJ p.2)]) ⟨[],[]⟩=Q:=hQ
  repeat' (first
 |simp only[go_sem,hC,hE,hF,hS,kh]
 |(with_reducible refine ay hQ ?_;exact aK))
  refine Sem.kM ?_
  simp only[go_sem,hC,hE,hF,hS]
  refine Sem.gY 4 4 rfl ?_
  simp only[go_sem,hC,hE,hF,hS]
  refine Sem.re _ _ 2 1 (by rw[hB];exact mD rfl) (by rw[hB];exact mD rfl) ?_ ?_ (iz (L4 jP hB hQ' (out:= []) (pos:=0) (by simp) (zau _) (ada jP hB hQ' _) rfl h (by simp)))
  ·(simp only[go_sem,hC,hE,hF,hS];repeat' (first|exact Ok.out|with_reducible refine eJ ?_ ?_))
  ·(simp only[go_sem,hC,hE,hF,hS];repeat' (first|exact Ok.out|with_reducible refine eJ ?_ ?_))
def q8 (l:List bN):Rd:=⟨l,0,0,0,0⟩
def l9 (m:Nat) (text:aB):Option (Pg×Int×Int):=
 if(eX text).2.1 != 0 then some (tz,(eX text).2)
 else(Rd.program m (q8 (eX text).1)).bind fun p=>if p.2.code != 0 then some (tz,p.2.code,p.2.gE)else(p.1.qk).bind fun q=>some (q,0,0)
def akZ (m:Nat) (text:aB):Option (Ex×Int×Int):=
 if(eX text).2.1 != 0 then some (iG,(eX text).2)
 else(Rd.whole m (q8 (eX text).1)).bind fun x=>x.2.mP.bind fun b=>
  if b then(x.2.bad 3).bind fun r=>if !r.good then some (iG,r.code,r.gE)else some (x.1,0,0)
  else if !x.2.good then some (iG,x.2.code,x.2.gE)else some (x.1,0,0)
theorem SN {m:Nat} {r:Rd} {p:Pg×Rd} (h:Rd.program m r=some p) {s:St} {o:Nat} (ho:s.aw[o]? = some (cw r)) :
 aC Tryz.prog 74 [.ptr o 0] s (.agg (bQ p.1)) ⟨s.aw.set o (cw p.2),s.aE⟩:=by
 refine aC.fy ?_ rfl (fv r) (fv p.2) (by simp[D.ok,fH]) ho
 unfold Rd.program at h
 refine aC.go lh.h rfl fun B Q hB hQ=>?_
 have⟨hC,hE,hF,hS⟩:=bt
 repeat' (first
 |simp only[go_sem,hC,hE,hF,hS]
 |(with_reducible refine ay hQ ?_;exact aK))
 rw[zab]at h
 obtain⟨q,h,hr⟩:=h
 refine aV.qa 2 0 1 rfl rfl ?_
 simp only[go_sem,hC,hE,hF,hS]
 refine b8 3 1 (aV.ind (ι:=Nat×List aB×Rd×Nat) (fun i=>Rd.globals m i.1 i.2.1 i.2.2.1=some q∧i.2.2.2=i.2.1.length) (fun i=>i.1)
  (fun i=> [(0, .ptr 0 0),(2, .ptr 1 0),(3, .ptr 2 0)]) (fun i=>⟨[cw i.2.2.1,[.slice .full 0 [], .slice .full 0 []],[.slice (.tok 0) 1 (i.2.1.map encStr), .slice .full 0 []]],[some i.2.2.2]⟩) ?_ (m,[],r,0) ⟨h,rfl⟩)
 rintro⟨n,l,r,k⟩ ⟨h,hk⟩ IH
 dsimp only at hk;subst hk
 cases n with
 |zero=>simp only[Rd.globals]at h;cases h
 |succ n=>
  simp only[Rd.globals]at h
  repeat' (first
 |simp only[go_sem,hC,hE,hF,hS]
 |(rw[zab]at h;obtain⟨_,h1,h⟩:=h;first|(with_reducible refine CU (sH h1 (by with_unfolding_all rfl)) ?_)|(with_reducible refine CU (L3 h1 (by with_unfolding_all rfl) (by with_unfolding_all rfl)) ?_))
 |(with_reducible first|refine aX fun hc=>?_|refine aY fun hc=>?_|refine aZ (fun hc=>?_) fun hc=>?_)<;>(try simp only[hc,bs,↓reduceIte]at h)<;>try simp only[hc]
 |((with_reducible refine ay hQ ?_);exact cS)
 |(cases h;replace h:=hr;clear hr;(try simp only[bs,↓reduceIte]at h))
 |(cases h;done))
  ·refine b8 3 1 (IH (n,_,_,_) ⟨h,rfl⟩ (zac _))
  ·refine b8 3 0 (JM hB hQ _ h)
theorem Z0 {m:Nat} {text:aB} {p:Pg×Int×Int} (h:l9 m text=some p) (hl:text.length<4611686018427387904) (s:St) :
 aC Tryz.prog 27 [.str text] s (.tuple [.agg (bQ p.1), .agg (iJ p.2)]) s:=by
 refine aC.pure ?_ rfl (by simp[D.ok,D.bP,fH,iJ]) s
 unfold l9 at h
 have Fj:=afv text hl
 generalize eX text=t at h Fj
 unfold S0
 refine aC.go Dj.h rfl fun B Q hB hQ=>?_
 have⟨hC,hE,hF,hS⟩:=bt
 repeat' (first
 |simp only[go_sem,hC,hE,hF,hS,q8]
 |(rw[zab]at h;obtain⟨_,h1,h⟩:=h;first|(with_reducible refine CU (SN h1 (by with_unfolding_all rfl)) ?_)|(with_reducible refine CU (Wf h1 _) ?_))
 |(with_reducible refine CU (Fj _) ?_)
 |(with_reducible first|refine aX fun hc=>?_|refine aY fun hc=>?_|refine aZ (fun hc=>?_) fun hc=>?_)<;>(try simp only[hc,bs,↓reduceIte]at h)<;>try simp only[hc]
 |((with_reducible refine ay hQ ?_);(try cases h);simp only[bp,bq,bS,bT,go_sem,hC,hE,hF,hS,q8];try exact cp))
def adb (n k:Int):Int:=if Int.tmod n k<0 then Int.tmod n k+k else Int.tmod n k
def afw (t:aB):Nat→aB
 | 0=> []
 |n+1=>afw t n++t
def two (i:Nat):aB:= [UInt8.ofNat (48+i / 10),UInt8.ofNat (48+i % 10)]
def ade (ahead:aB):Nat→aB
 | 0=> []
 |n+1=>(if n=0 then ade ahead n else ade ahead n++ [44])++(ahead++ [97]++two n)
def adf:Nat→aB
 | 0=> []
 |n+1=>adf n++([112,114,111,99,32,112]++two n++ [40,41,123,125])
def adg (k:Int):List It→List Int
 | []=> []
 |i::l=>if k==0 ||i.s.kind==k then i.s.id::adg k l else adg k l
def ak0 (l:List Int) (n:Int):Int:=match l[(adb n l.length).toNat]? with|some x=>x|none=>0
def Yp (id:Int):List It→Option It
 | []=>none
 |i::l=>if i.s.id==id then some i else Yp id l
def Yq (id:Int):List Pc→Option (It×aB)
 | []=>none
 |f::l=>match Yp id f.flat with|some i=>some (i,f.name)|none=>Yq id l
def it0:It:=⟨FR,0,0,false⟩
def ah8 (r:Option (It×aB)):D:=match r with
 |some (i,nm)=> .tuple [.agg (dX i), .str nm, .bool true]
 |none=> .tuple [.agg (dX it0), .str [], .bool false]
def Pg.ak1 (p:Pg) (id:Int):Sm:=match Yq id p.procs with|some (i,_)=>i.s|none=>FR
def uN (t:aB) (n:Int):Int:=if n > 20000 then 20001 else if(t.length:Int)≥20000 - n then 20001 else n+1+t.length
mutual
def JN:Ex→Int→Int
 |⟨_,_,name,kids⟩,n=>L5 kids (uN name n)
def L5:List Ex→Int→Int
 | [],n=>n
 |x::l,n=>if n≤20000 then L5 l (JN x n)else n
end
def xS:List aB→Int→Int
 | [],n=>n
 |t::l,n=>if n≤20000 then xS l (uN t n)else n
def L6:List Ar→Int→Int
 | [],n=>n
 |a::l,n=>if n≤20000 then L6 l (uN a.name (JN a.x n))else n
def L7:List Pm→Int→Int
 | [],n=>n
 |a::l,n=>if n≤20000 then L7 l (uN a.name n)else n
mutual
def adh:Sm→Int→Int
 |⟨_,_,labels,name,proc,x,_,args,bb,aR⟩,n=>Bl aR (Bl bb (L6 args (uN proc (uN name (xS labels (JN x n))))))
def Bl:List Sm→Int→Int
 | [],n=>n
 |s::l,n=>if n≤20000 then Bl l (adh s n)else n
end
def adi (f:Pc) (n:Int):Int:=Bl f.body (L7 f.params (xS f.fin (xS f.vars (uN f.name n))))
def L8:List Pc→Int→Int
 | [],n=>n
 |f::l,n=>if n≤20000 then L8 l (adi f n)else n
def Pg.ak2 (p:Pg):Int:=L8 p.procs (xS p.globals 0)
def Cy:List aB→List aB→Bool
 | [],_=>true
 |_::_,[]=>true
 |x::l,y::l'=>if !(x==y)then false else Cy l l'
def BU (l l':List aB):Bool:=if(l.length:Int) != (l'.length:Int)then false else Cy l l'
def Ar.fB:List Ar→List Ar→Bool
 | [],_=>true
 |_::_,[]=>true
 |a::l,b::l'=>if !(a.ref==b.ref) || !(a.name==b.name) || !(Ex.beq a.x b.x)then false else Ar.fB l l'
mutual
def Sm.beq:Sm→Sm→Bool
 |⟨id,kind,labels,name,proc,x,has,args,bb,aR⟩,⟨SO,D8,ub,pW,pe,x',JO,lT,AH,AJ⟩=>
  if id != SO ||kind != D8 || !(name==pW) || !(proc==pe) || !(has==JO) || !(BU labels ub) || !(Ex.beq x x') ||(args.length:Int) != (lT.length:Int)then false
  else if !(Ar.fB args lT)then false
  else if(if(bb.length:Int) != (AH.length:Int)then false else Sm.fB bb AH)then(if(aR.length:Int) != (AJ.length:Int)then false else Sm.fB aR AJ)else false
def Sm.fB:List Sm→List Sm→Bool
 | [],_=>true
 |_::_,[]=>true
 |s::l,t::l'=>if !(Sm.beq s t)then false else Sm.fB l l'
end
def Sm.uO (l l':List Sm):Bool:=if(l.length:Int) != (l'.length:Int)then false else Sm.fB l l'
def Pm.fB:List Pm→List Pm→Bool
 | [],_=>true
 |_::_,[]=>true
 |a::l,b::l'=>if !((a.name==b.name) && (a.ref==b.ref))then false else Pm.fB l l'
def Pc.fB:List Pc→List Pc→Bool
 | [],_=>true
 |_::_,[]=>true
 |f::l,g::l'=>
  if !(f.name==g.name) ||(f.params.length:Int) != (g.params.length:Int) || !(BU f.vars g.vars) || !(BU f.fin g.fin) || !(Sm.uO f.body g.body)then false
  else if !(Pm.fB f.params g.params)then false else Pc.fB l l'
def Pg.beq (p q:Pg):Bool:=if !(BU p.globals q.globals) ||(p.procs.length:Int) != (q.procs.length:Int)then false else Pc.fB p.procs q.procs
theorem Gy : ∀ l,Cy l l=true
 | []=>rfl
 |x::l=>by simp[Cy,Gy l]
theorem Cz (l:List aB):BU l l=true:=by simp[BU,Gy]
theorem Ar.ga : ∀ l,Ar.fB l l=true
 | []=>rfl
 |x::l=>by simp[Ar.fB,Ar.ga l,Ex.beq_refl]
mutual
theorem Sm.beq_refl : ∀ s,Sm.beq s s=true
 |⟨id,kind,labels,name,proc,x,has,args,bb,aR⟩=>by simp[Sm.beq,Cz,Ex.beq_refl,Ar.ga,Sm.ga bb,Sm.ga aR]
theorem Sm.ga : ∀ l,Sm.fB l l=true
 | []=>rfl
 |x::l=>by simp[Sm.fB,Sm.beq_refl x,Sm.ga l]
end
theorem Sm.SP (l:List Sm):Sm.uO l l=true:=by simp[Sm.uO,Sm.ga]
theorem Pm.ga : ∀ l,Pm.fB l l=true
 | []=>rfl
 |x::l=>by simp[Pm.fB,Pm.ga l]
theorem Pc.ga : ∀ l,Pc.fB l l=true
 | []=>rfl
 |x::l=>by simp[Pc.fB,Pc.ga l,Cz,Sm.SP,Pm.ga]
theorem Pg.beq_refl (p:Pg):Pg.beq p p=true:=by simp[Pg.beq,Cz,Pc.ga]
theorem vU {l l':List aB} (hl:l.length<4611686018427387904) (s:St):aC Tryz.prog 54 [.slice .shared 1 (l.map encStr), .slice .shared 1 (l'.map encStr)] s (.bool (BU l l')) s:=by
 refine aC.pure ?_ (by simp[D.bP,D.ok,Tag.ok,da]) rfl s
 generalize h:BU l l'=p
 simp only[BU]at h
 unfold S0
 refine aC.go Ch.h rfl fun B Q hB hQ=>?_
 have⟨hC,hE,hF,hS⟩:=bt
 repeat' (first
 |simp only[go_sem,hC,hE,hF,hS]
 |(with_reducible first|refine aX fun hc=>?_|refine aY fun hc=>?_|refine aZ (fun hc=>?_) fun hc=>?_)<;>(try simp only[hc,bs,↓reduceIte]at h)<;>try simp only[hc]
 |((with_reducible refine ay hQ ?_);exact cS))
 have Yb:l.length=l'.length:=by
  have:((l.length:Int) != (l'.length:Int))=false:=by assumption
  simp only[bne_eq_false_iff_eq]at this
  omega
 refine b8 0 0 (aV.ind (ι:=List aB×List aB×Nat) (fun i=>l.drop i.2.2=i.1∧l'.drop i.2.2=i.2.1∧Cy i.1 i.2.1=p) (fun i=>i.1.length)
  (fun i=> [(0, .slice .shared 1 (l.map encStr)),(1, .slice .shared 1 (l'.map encStr)),(12, .int .i64 (l.length:Int)),(13, .int .i64 (i.2.2:Int))]) (fun i=>⟨[],[]⟩) ?_ (l,l',0) ⟨rfl,rfl,h⟩)
 rintro⟨r1,r2,k⟩ ⟨h1,h2,h⟩ IH
 dsimp only at h1 h2 h
 cases r1 with
 |nil=>
  have hC:=drop_nil h1
  simp only[Cy]at h
  repeat' (first
 |simp only[go_sem,hC,hE,hF,hS]
 |(with_reducible first|refine aX fun hc=>?_|refine aY fun hc=>?_|refine aZ (fun hc=>?_) fun hc=>?_)<;>(try simp only[hc,bs,↓reduceIte]at h)<;>try simp only[hc]
 |((with_reducible refine ay hQ ?_);exact cS)
 |(cases h;done))
 | cons a r1=>
  obtain⟨hE,g2,hC,g4⟩:=drop_cons h1
  cases r2 with
  |nil=>have:=zaX.1 h2;omega
  |cons b r2=>
   obtain⟨lj,b2,_,_⟩:=drop_cons h2
   have bm:k<4611686018427387904:=by omega
   simp only[Cy]at h
   repeat' (first
 |simp only[go_sem,hC,hE,hF,hS,lj]
 |(with_reducible first|refine aX fun hc=>?_|refine aY fun hc=>?_|refine aZ (fun hc=>?_) fun hc=>?_)<;>(try simp only[hc,bs,↓reduceIte]at h)<;>try simp only[hc]
 |((with_reducible refine ay hQ ?_);(try cases h);simp only[bp,bq,bS,bT,go_sem,hC,hE,hF,hS,lj];try exact cp)
 | (cases h;done))
   refine b9 0 0 ?_ ?_ (IH (r1,r2,k+1) ⟨g2,b2,h⟩ (zac _))
   ·(simp only[go_sem,hC,hE,hF,hS,az bm];try exact aT)
   ·(simp only[go_sem,hC,hE,hF,hS,az bm];try exact aT)
abbrev Fk (N:Nat):Prop:=∀ s t:Sm,s.size<N→∀ st:St,aC Tryz.prog 115 [.agg (bn s), .agg (bn t)] st (.bool (Sm.beq s t)) st
abbrev PD (N:Nat):Prop:=∀ l l':List Sm,Sm.aQ l<N→∀ st:St,aC Tryz.prog 55 [.slice .shared 13 (l.map bn), .slice .shared 13 (l'.map bn)] st (.bool (Sm.uO l l')) st
theorem WU {N:Nat} (hN:N<4611686018427387904) (one:Fk N):PD (N+1):=by
 intro l l' hs st
 have hl:l.length<4611686018427387904:=by have:=Sm.cG l;omega
 have hk : ∀ a∈l,∀ b s,aC Tryz.prog 115 [.agg (bn a), .agg (bn b)] s (.bool (Sm.beq a b)) s:=fun a ha b s=>
  one a b (by have:=Sm.bX ha;omega) s
 refine aC.pure ?_ (by simp[D.bP,D.ok,Tag.ok,lz]) rfl st
 generalize h:Sm.uO l l'=p
 simp only[Sm.uO]at h
 unfold S0
 refine aC.go Ci.h rfl fun B Q hB hQ=>?_
 have⟨hC,hE,hF,hS⟩:=bt
 repeat' (first
 |simp only[go_sem,hC,hE,hF,hS]
 |(with_reducible first|refine aX fun hc=>?_|refine aY fun hc=>?_|refine aZ (fun hc=>?_) fun hc=>?_)<;>(try simp only[hc,bs,↓reduceIte]at h)<;>try simp only[hc]
 |((with_reducible refine ay hQ ?_);exact cS)
 |(cases h;done))
 have Yb:l.length=l'.length:=by
  have:((l.length:Int) != (l'.length:Int))=false:=by assumption
  simp only[bne_eq_false_iff_eq]at this
  omega
 refine b8 0 0 (aV.ind (ι:=List Sm×List Sm×Nat) (fun i=>l.drop i.2.2=i.1∧l'.drop i.2.2=i.2.1∧Sm.fB i.1 i.2.1=p) (fun i=>i.1.length)
  (fun i=> [(0, .slice .shared 13 (l.map bn)),(1, .slice .shared 13 (l'.map bn)),(12, .int .i64 (l.length:Int)),(13, .int .i64 (i.2.2:Int))]) (fun i=>⟨[],[]⟩) ?_ (l,l',0) ⟨rfl,rfl,h⟩)
 rintro⟨r1,r2,k⟩ ⟨h1,h2,h⟩ IH
 dsimp only at h1 h2 h
 cases r1 with
 |nil=>
  have hC:=drop_nil h1
  simp only[Sm.fB]at h
  repeat' (first
 |simp only[go_sem,hC,hE,hF,hS]
 |(with_reducible first|refine aX fun hc=>?_|refine aY fun hc=>?_|refine aZ (fun hc=>?_) fun hc=>?_)<;>(try simp only[hc,bs,↓reduceIte]at h)<;>try simp only[hc]
 |((with_reducible refine ay hQ ?_);exact cS)
 |(cases h;done))
 | cons a r1=>
  obtain⟨hE,g2,hC,g4⟩:=drop_cons h1
  cases r2 with
  |nil=>have:=zaX.1 h2;omega
  |cons b r2=>
   obtain⟨lj,b2,_,_⟩:=drop_cons h2
   have bm:k<4611686018427387904:=by omega
   have sJ:=hk a (zae hE)
   simp only[Sm.fB]at h
   repeat' (first
 |simp only[go_sem,hC,hE,hF,hS,lj]
 |(with_reducible refine CU (sJ _ _) ?_)
 |(with_reducible first|refine aX fun hc=>?_|refine aY fun hc=>?_|refine aZ (fun hc=>?_) fun hc=>?_)<;>(try simp only[hc,bs,↓reduceIte]at h)<;>try simp only[hc]
 |((with_reducible refine ay hQ ?_);(try cases h);simp only[bp,bq,bS,bT,go_sem,hC,hE,hF,hS,lj];try exact cp)
 | (cases h;done))
   refine b9 0 0 ?_ ?_ (IH (r1,r2,k+1) ⟨g2,b2,h⟩ (zac _))
   ·(simp only[go_sem,hC,hE,hF,hS,az bm];try exact aT)
   ·(simp only[go_sem,hC,hE,hF,hS,az bm];try exact aT)
theorem PE {N:Nat} (hN:N<4611686018427387904) (eql:PD N):Fk (N+1):=by
 rintro⟨id,kind,labels,name,proc,x,has,args,bb,aR⟩ ⟨SO,D8,ub,pW,pe,x',JO,lT,AH,AJ⟩ hs st
 simp only[Sm.size]at hs
 refine aC.pure ?_ (by simp[D.bP,D.ok,ke]) rfl st
 have rr:=Ar.cG args
 have hT:=fun s=>vU (l:=labels) (l':=ub) (by omega) s
 have hX:=fun s=>I3 (x:=x) (y:=x') (by omega) s
 simp only[iW]at hX
 have h1:=eql bb AH (by omega)
 have h2:=eql aR AJ (by omega)
 generalize h:Sm.beq ⟨id,kind,labels,name,proc,x,has,args,bb,aR⟩ ⟨SO,D8,ub,pW,pe,x',JO,lT,AH,AJ⟩=p
 simp only[Sm.beq]at h
 change (if id != SO ||kind != D8 || !(name==pW) || !(proc==pe) || !(has==JO) || !(BU labels ub) || !(Ex.beq x x') ||(args.length:Int) != (lT.length:Int)then false
  else if !(Ar.fB args lT)then false else if Sm.uO bb AH then Sm.uO aR AJ else false)=p at h
 unfold S0
 refine aC.go EO.h rfl fun B Q hB hQ=>?_
 have⟨hC,hE,hF,hS⟩:=bt
 repeat' (first
 |simp only[go_sem,hC,hE,hF,hS]
 |(with_reducible refine CU (hT _) ?_)
 |(with_reducible refine CU (hX _) ?_)
 |(with_reducible first|refine aX fun hc=>?_|refine aY fun hc=>?_|refine aZ (fun hc=>?_) fun hc=>?_)<;>(try simp only[hc,bs,↓reduceIte]at h)<;>try simp only[hc]
 |((with_reducible refine ay hQ ?_);exact cS)
 |(cases h;done))
 have Yb:args.length=lT.length:=by
  have:((args.length:Int) != (lT.length:Int))=false:=by assumption
  simp only[bne_eq_false_iff_eq]at this
  omega
 refine b8 2 0 (aV.ind (ι:=List Ar×List Ar×Nat) (fun i=>args.drop i.2.2=i.1∧lT.drop i.2.2=i.2.1∧(if !(Ar.fB i.1 i.2.1)then false else if Sm.uO bb AH then Sm.uO aR AJ else false)=p) (fun i=>i.1.length)
  (fun i=> [(2, .ptr 0 0),(3, .ptr 1 0),(66, .int .i64 (args.length:Int)),(67, .int .i64 (i.2.2:Int))]) (fun i=>⟨[bn ⟨id,kind,labels,name,proc,x,has,args,bb,aR⟩,bn ⟨SO,D8,ub,pW,pe,x',JO,lT,AH,AJ⟩],[]⟩) ?_ (args,lT,0) ⟨rfl,rfl,h⟩)
 rintro⟨r1,r2,k⟩ ⟨j1,j2,h⟩ IH
 dsimp only at j1 j2 h
 cases r1 with
 |nil=>
  have hC:=drop_nil j1
  simp only[Ar.fB,zan,zaa,↓reduceIte]at h
  repeat' (first
 |simp only[go_sem,hC,hE,hF,hS]
 |(with_reducible refine CU (h1 _) ?_)
 |(with_reducible refine CU (h2 _) ?_)
 |(with_reducible first|refine aX fun hc=>?_|refine aY fun hc=>?_|refine aZ (fun hc=>?_) fun hc=>?_)<;>(try simp only[hc,bs,↓reduceIte]at h)<;>try simp only[hc]
 |((with_reducible refine ay hQ ?_);exact cS)
 |(cases h;done))
 | cons a r1=>
  obtain⟨hE,g2,hC,g4⟩:=drop_cons j1
  cases r2 with
  |nil=>have:=zaX.1 j2;omega
  |cons b r2=>
   obtain⟨lj,b2,_,_⟩:=drop_cons j2
   have bm:k<4611686018427387904:=by omega
   have hax:a.x.size<4611686018427387904:=by have:=Ar.bX (zae hE);omega
   have sJ:=fun s=>I3 (x:=a.x) (y:=b.x) hax s
   simp only[Ar.fB]at h
   repeat' (first
 |simp only[go_sem,hC,hE,hF,hS,lj]
 |(with_reducible refine CU (sJ _) ?_)
 |(with_reducible first|refine aX fun hc=>?_|refine aY fun hc=>?_|refine aZ (fun hc=>?_) fun hc=>?_)<;>(try simp only[hc,bs,↓reduceIte]at h)<;>try simp only[hc]
 |((with_reducible refine ay hQ ?_);(try cases h);simp only[bp,bq,bS,bT,go_sem,hC,hE,hF,hS,lj];try exact cp)
 | (cases h;done))
   refine b9 2 0 ?_ ?_ (IH (r1,r2,k+1) ⟨g2,b2,h⟩ (zac _))
   ·(simp only[go_sem,hC,hE,hF,hS,az bm];try exact aT)
   ·(simp only[go_sem,hC,hE,hF,hS,az bm];try exact aT)
theorem adj : ∀ N,N<4611686018427387904→Fk N∧PD N:=by
 intro N
 induction N with
 |zero=>exact fun _=>⟨fun s t h=>absurd h (zaM _),fun l l' h=>absurd h (zaM _)⟩
 |succ N ih=>
  intro h
  have:=ih (by omega)
  exact⟨PE (by omega) this.2,WU (by omega) this.1⟩
theorem SQ {l l':List Sm} (h:Sm.aQ l<4611686018427387000) (st:St):aC Tryz.prog 55 [.slice .shared 13 (l.map bn), .slice .shared 13 (l'.map bn)] st (.bool (Sm.uO l l')) st:=
 (adj (Sm.aQ l+1) (by omega)).2 l l' (zac _) st
theorem ah9 {a b:Pg} (hs:a.size<1073741824) (st:St):aC Tryz.prog 21 [.agg (bQ a), .agg (bQ b)] st (.bool (Pg.beq a b)) st:=by
 obtain⟨g,ps⟩:=a
 obtain⟨g',JP⟩:=b
 simp only[Pg.size]at hs
 have n7:=Pc.cG ps
 refine aC.pure ?_ (by simp[D.bP,D.ok,fH]) rfl st
 have hT:=fun s=>vU (l:=g) (l':=g') (by omega) s
 generalize h:Pg.beq ⟨g,ps⟩ ⟨g',JP⟩=p
 simp only[Pg.beq]at h
 unfold S0
 refine aC.go KW.h rfl fun B Q hB hQ=>?_
 have⟨hC,hE,hF,hS⟩:=bt
 repeat' (first
 |simp only[go_sem,hC,hE,hF,hS]
 |(with_reducible refine CU (hT _) ?_)
 |(with_reducible first|refine aX fun hc=>?_|refine aY fun hc=>?_|refine aZ (fun hc=>?_) fun hc=>?_)<;>(try simp only[hc,bs,↓reduceIte]at h)<;>try simp only[hc]
 |((with_reducible refine ay hQ ?_);exact cS)
 |(cases h;done))
 have Yb:ps.length=JP.length:=by
  have:((ps.length:Int) != (JP.length:Int))=false:=by assumption
  simp only[bne_eq_false_iff_eq]at this
  omega
 refine b8 2 0 (aV.ind (ι:=List Pc×List Pc×Nat) (fun i=>ps.drop i.2.2=i.1∧JP.drop i.2.2=i.2.1∧Pc.fB i.1 i.2.1=p) (fun i=>i.1.length)
  (fun i=> [(2, .ptr 0 0),(3, .ptr 1 0),(26, .int .i64 (ps.length:Int)),(27, .int .i64 (i.2.2:Int))]) (fun i=>⟨[bQ ⟨g,ps⟩,bQ ⟨g',JP⟩],[]⟩) ?_ (ps,JP,0) ⟨rfl,rfl,h⟩)
 rintro⟨r1,r2,k⟩ ⟨j1,j2,h⟩ IH
 dsimp only at j1 j2 h
 cases r1 with
 |nil=>
  have hC:=drop_nil j1
  simp only[Pc.fB]at h
  repeat' (first
 |simp only[go_sem,hC,hE,hF,hS]
 |(with_reducible first|refine aX fun hc=>?_|refine aY fun hc=>?_|refine aZ (fun hc=>?_) fun hc=>?_)<;>(try simp only[hc,bs,↓reduceIte]at h)<;>try simp only[hc]
 |((with_reducible refine ay hQ ?_);exact cS)
 |(cases h;done))
 | cons x r1=>
  obtain⟨hE,g2,hC,g4⟩:=drop_cons j1
  cases r2 with
  |nil=>have:=zaX.1 j2;omega
  |cons y r2=>
   obtain⟨lj,b2,_,_⟩:=drop_cons j2
   have bm:k<4611686018427387904:=by omega
   have dz:=Pc.bX (zae hE)
   obtain⟨name,params,vars,body,fin⟩:=x
   obtain⟨pW,xT,vars',Yr,adk⟩:=y
   simp only[Pc.size]at dz
   have h1:=fun s=>vU (l:=vars) (l':=vars') (by omega) s
   have h2:=fun s=>vU (l:=fin) (l':=adk) (by omega) s
   have h3:=fun s=>SQ (l:=body) (l':=Yr) (by omega) s
   simp only[Pc.fB]at h
   repeat' (first
 |simp only[go_sem,hC,hE,hF,hS,lj]
 |(with_reducible refine CU (h1 _) ?_)
 |(with_reducible refine CU (h2 _) ?_)
 |(with_reducible refine CU (h3 _) ?_)
 |(with_reducible first|refine aX fun hc=>?_|refine aY fun hc=>?_|refine aZ (fun hc=>?_) fun hc=>?_)<;>(try simp only[hc,bs,↓reduceIte]at h)<;>try simp only[hc]
 |((with_reducible refine ay hQ ?_);(try cases h);simp only[bp,bq,bS,bT,go_sem,hC,hE,hF,hS,lj];try exact cp)
 | (cases h;done))
   have hm5:params.length=xT.length:=by
    have:((params.length:Int) != (xT.length:Int))=false:=by assumption
    simp only[bne_eq_false_iff_eq]at this
    omega
   refine b8 4 0 (aV.ind (ι:=List Pm×List Pm×Nat) (fun i=>params.drop i.2.2=i.1∧xT.drop i.2.2=i.2.1∧(if !(Pm.fB i.1 i.2.1)then false else Pc.fB r1 r2)=p) (fun i=>i.1.length)
    (fun i=> [(2, .ptr 0 0),(3, .ptr 1 0),(6, .ptr 2 0),(7, .ptr 3 0),(26, .int .i64 (ps.length:Int)),(27, .int .i64 (k:Int)),(80, .int .i64 (params.length:Int)),(81, .int .i64 (i.2.2:Int))])
    (fun i=>⟨[bQ ⟨g,ps⟩,bQ ⟨g',JP⟩,cf ⟨name,params,vars,body,fin⟩,cf ⟨pW,xT,vars',Yr,adk⟩],[]⟩) ?_ (params,xT,0) ⟨rfl,rfl,h⟩)
   rintro⟨s1,s2,q⟩ ⟨i1,i2,h⟩ IHm
   dsimp only at i1 i2 h
   cases s1 with
   |nil=>
    have hC:=drop_nil i1
    simp only[Pm.fB,zan,zaa,↓reduceIte]at h
    repeat' (first
 |simp only[go_sem,hC,hE,hF,hS]
 |(with_reducible first|refine aX fun hc=>?_|refine aY fun hc=>?_|refine aZ (fun hc=>?_) fun hc=>?_)<;>(try simp only[hc,bs,↓reduceIte]at h)<;>try simp only[hc]
 |((with_reducible refine ay hQ ?_);exact cS)
 | (cases h;done))
    refine b9 2 0 ?_ ?_ (IH (r1,r2,k+1) ⟨g2,b2,h⟩ (zac _))
    ·(simp only[go_sem,hC,hE,hF,hS,az bm];try exact aT)
    ·(simp only[go_sem,hC,hE,hF,hS,az bm];try exact aT)
   | cons u s1=>
    obtain⟨hE,u2,hC,u4⟩:=drop_cons i1
    cases s2 with
    |nil=>have:=zaX.1 i2;omega
    | cons v s2=>
     obtain⟨lj,v2,_,_⟩:=drop_cons i2
     have Da:q<4611686018427387904:=by omega
     simp only[Pm.fB]at h
     cases e1:(u.name==v.name)
     ·simp only [e1,zaO,zao, ↓reduceIte]at h
      repeat' (first
 |simp only[go_sem,hC,hE,hF,hS,lj,eH,e1]
 |(with_reducible first|refine aX fun hc=>?_|refine aY fun hc=>?_|refine aZ (fun hc=>?_) fun hc=>?_)<;>(try simp only[hc,bs,↓reduceIte]at h)<;>try simp only[hc]
 |((with_reducible refine ay hQ ?_);(try cases h);simp only[bp,bq,bS,bT,go_sem,hC,hE,hF,hS,lj,eH,e1];try exact cp)
 |(cases h;done))
     ·cases e2:(u.ref==v.ref)
      ·simp only [e1,e2,zbf,zao, ↓reduceIte]at h
       repeat' (first
 |simp only[go_sem,hC,hE,hF,hS,lj,eH,e1,e2]
 |(with_reducible first|refine aX fun hc=>?_|refine aY fun hc=>?_|refine aZ (fun hc=>?_) fun hc=>?_)<;>(try simp only[hc,bs,↓reduceIte]at h)<;>try simp only[hc]
 |((with_reducible refine ay hQ ?_);(try cases h);simp only[bp,bq,bS,bT,go_sem,hC,hE,hF,hS,lj,eH,e1,e2];try exact cp)
 |(cases h;done))
      ·simp only [e1,e2,zbn,zan,zaa, ↓reduceIte]at h
       repeat' (first
 |simp only[go_sem,hC,hE,hF,hS,lj,eH,e1,e2]
 |(with_reducible first|refine aX fun hc=>?_|refine aY fun hc=>?_|refine aZ (fun hc=>?_) fun hc=>?_)<;>(try simp only[hc,bs,↓reduceIte]at h)<;>try simp only[hc]
 |((with_reducible refine ay hQ ?_);(try cases h);simp only[bp,bq,bS,bT,go_sem,hC,hE,hF,hS,lj,eH,e1,e2];try exact cp)
 |(cases h;done))
       refine b9 4 0 ?_ ?_ (IHm (s1,s2,q+1) ⟨u2,v2,h⟩ (zac _))
       ·(simp only[go_sem,hC,hE,hF,hS,az Da];try exact aT)
       ·(simp only[go_sem,hC,hE,hF,hS,az Da];try exact aT)
def vV (n:Int):Ex:=⟨1,n,[],[]⟩
def kj (s:aB):Ex:=⟨2,0,s,[]⟩
def se (op:Int) (a b:Ex):Ex:=⟨op,0,[],[a,b]⟩
theorem afx (n:Int) (s:St):aC Tryz.prog 95 [.int .i64 n] s (.agg (bI (vV n))) s:=by
 refine aC.pure ?_ rfl (by simp[D.ok,fK]) s
 unfold S0
 refine aC.go IW.h rfl fun B Q hB hQ=>?_
 have⟨hC,hE,hF,hS⟩:=bt
 repeat' (first
 |simp only[go_sem,hC,hE,hF,hS,vV]
 |(with_reducible first|refine aX fun hc=>?_|refine aY fun hc=>?_|refine aZ (fun hc=>?_) fun hc=>?_)<;>(try simp only[hc,bs,↓reduceIte]at h)<;>try simp only[hc]
 |(with_reducible refine ay hQ ?_;simp only[bp,bq,bS,bT,go_sem,hC,hE,hF,hS,vV];try exact cp))
theorem PF (t:aB) (s:St):aC Tryz.prog 96 [.str t] s (.agg (bI (kj t))) s:=by
 refine aC.pure ?_ rfl (by simp[D.ok,fK]) s
 unfold S0
 refine aC.go G8.h rfl fun B Q hB hQ=>?_
 have⟨hC,hE,hF,hS⟩:=bt
 repeat' (first
 |simp only[go_sem,hC,hE,hF,hS,kj]
 |(with_reducible first|refine aX fun hc=>?_|refine aY fun hc=>?_|refine aZ (fun hc=>?_) fun hc=>?_)<;>(try simp only[hc,bs,↓reduceIte]at h)<;>try simp only[hc]
 |(with_reducible refine ay hQ ?_;simp only[bp,bq,bS,bT,go_sem,hC,hE,hF,hS,kj];try exact cp))
theorem SS (op:Int) (a b:Ex) (s:St):aC Tryz.prog 97 [.int .i64 op, .agg (bI a), .agg (bI b)] s (.agg (bI (se op a b))) s:=by
 refine aC.pure ?_ (by simp[D.bP,D.ok,fK]) (by simp[D.ok,fK]) s
 unfold S0
 refine aC.go IX.h rfl fun B Q hB hQ=>?_
 have⟨hC,hE,hF,hS⟩:=bt
 repeat' (first
 |simp only[go_sem,hC,hE,hF,hS,se]
 |(with_reducible first|refine aX fun hc=>?_|refine aY fun hc=>?_|refine aZ (fun hc=>?_) fun hc=>?_)<;>(try simp only[hc,bs,↓reduceIte]at h)<;>try simp only[hc]
 |(with_reducible refine ay hQ ?_;simp only[bp,bq,bS,bT,go_sem,hC,hE,hF,hS,se];try exact cp))
def source:aB:= [103,108,111,98,97,108,32,103,59,10,112,114,111,99,32,109,97,105,110,40,41,32,123,10,32,118,97,114,32,118,59,10,32,118,32,61,32,50,59,10,32,103,32,61,32,112,40,51,44,32,114,101,102,32,118,41,59,10,32,112,114,105,110,116,32,118,59,10,32,112,114,105,110,116,32,103,59,10,125,10,112,114,111,99,32,112,40,120,44,32,114,101,102,32,121,41,32,123,10,32,121,32,61,32,121,32,43,32,120,59,10,32,105,102,32,40,121,32,62,32,57,41,32,123,10,32,32,103,111,116,111,32,101,59,10,32,125,10,32,114,101,116,117,114,110,32,121,59,10,101,58,32,125,10]
theorem WV (s:St):aC Tryz.prog 44 [] s (.str source) s:=by
 refine aC.pure ?_ rfl rfl s
 unfold S0
 refine aC.go Dk.h rfl fun B Q hB hQ=>?_
 have⟨hC,hE,hF,hS⟩:=bt
 repeat' (first
 |simp only[go_sem,hC,hE,hF,hS,source]
 |(with_reducible first|refine aX fun hc=>?_|refine aY fun hc=>?_|refine aZ (fun hc=>?_) fun hc=>?_)<;>(try simp only[hc,bs,↓reduceIte]at h)<;>try simp only[hc]
 |((with_reducible refine ay hQ ?_);(try cases h);simp only[bp,bq,bS,bT,go_sem,hC,hE,hF,hS,source];try exact cp)
 |(cases h;done))
def pg:Pg:=⟨[[103]],[
 ⟨[109,97,105,110],[],[[118]],[
  ⟨1,1,[],[118],[],vV 2,false,[],[],[]⟩,
  ⟨2,4,[],[103],[112],iG,false,[⟨false,[],vV 3⟩,⟨true,[118],iG⟩],[],[]⟩,
  ⟨3,3,[],[],[],kj [118],false,[],[],[]⟩,
  ⟨4,3,[],[],[],kj [103],false,[],[],[]⟩],[]⟩,
 ⟨[112],[⟨[120],false⟩,⟨[121],true⟩],[],[
  ⟨5,1,[],[121],[],se 8 (kj [121]) (kj [120]),false,[],[],[]⟩,
  ⟨6,5,[],[],[],se 12 (kj [121]) (vV 9),false,[],[⟨7,10,[],[101],[],iG,false,[],[],[]⟩],[]⟩,
  ⟨8,9,[],[],[],kj [121],true,[],[],[]⟩],[[101]]⟩]⟩
theorem adl (s:St):aC Tryz.prog 45 [] s (.agg (bQ pg)) s:=by
 refine aC.pure ?_ rfl (by simp[D.ok,fH]) s
 unfold S0
 refine aC.go G3.h rfl fun B Q hB hQ=>?_
 have⟨hC,hE,hF,hS⟩:=bt
 repeat' (first
 |simp only[go_sem,hC,hE,hF,hS,pg]
 |(with_reducible refine CU (afx _ _) ?_)
 |(with_reducible refine CU (PF _ _) ?_)
 |(with_reducible refine CU (SS _ _ _ _) ?_)
 |(with_reducible refine ay hQ ?_;simp only[bp,bq,bS,bT,go_sem,hC,hE,hF,hS];repeat' (first|exact Ok.out|with_reducible refine eJ ?_ ?_|(simp;done))))
 repeat' (first|exact Ok.out|with_reducible refine Wk.agg ?_|with_reducible refine Wk.rows ?_|with_reducible refine Wk.slice ?_|with_reducible refine iE.cons ?_ ?_|with_reducible refine mC.cons ?_ ?_)
def Pg.aj6 (p:Pg) (n:Int):aB:=match p.procs[(adb n p.procs.length).toNat]? with|some f=>f.name|none=> []
theorem adn:tz.iK:=⟨vL (by decide +kernel) (by decide +kernel),by decide +kernel⟩
section
variable {a b:aB}
end
section
variable {a b:aB} (ha:isName a=true) (hb:isName b=true)
include ha hb
end
def Pg.check (p:Pg):Int×Int:=if p.scope.1==0 then(if p.arity.1==0 then(if p.jump.1==0 then p.alias else p.jump)else p.arity)else p.scope
end Go.Abs
namespace Go.Abs
set_option maxRecDepth 8000
open Go.Proofs
theorem Z1 : ∀ n,n<1000000000→∀ l:List Sm,Sm.aQ l<n→aC Tryz.prog 86 [.slice .shared 13 (l.map bn)] S0 (.int .i64 (Sm.dE l:Int)) S0:=by
 intro n
 induction n with
 |zero=>intro _ l h;omega
 |succ n ih=>
 intro hn l hv
 have hl:=Sm.cG l
 have hk : ∀ y∈l,(∀ s,aC Tryz.prog 86 [.slice .shared 13 (y.bb.map bn)] s (.int .i64 (Sm.dE y.bb:Int)) s)∧(∀ s,aC Tryz.prog 86 [.slice .shared 13 (y.aR.map bn)] s (.int .i64 (Sm.dE y.aR:Int)) s)∧
  y.fk=1+Sm.dE y.bb+Sm.dE y.aR:=fun y hy=>by
  have h1:=Sm.bX hy
  have dz:Sm.aQ y.bb<y.size∧Sm.aQ y.aR<y.size∧y.fk=1+Sm.dE y.bb+Sm.dE y.aR:=by
   obtain⟨_,_,_,_,_,_,_,_,_,_⟩:=y
   simp only[Sm.size];exact⟨by omega,by omega,rfl⟩
  exact⟨fun s=>(ih (by omega) y.bb (by omega)).pure (by simp only[D.bP,D.ok,Tag.ok,lz];rfl) rfl s,fun s=>(ih (by omega) y.aR (by omega)).pure (by simp only[D.bP,D.ok,Tag.ok,lz];rfl) rfl s,dz.2.2⟩
 have oC:=kT l
 unfold S0
 refine aC.go EK.h rfl fun B Q hB hQ=>?_
 have⟨hC,hE,hF,hS⟩:=bt
 repeat' (first
 |simp only[go_sem,hC,hE,hF,hS]
 |(with_reducible refine ay hQ ?_;exact aK))
 refine b8 0 0 (aV.ind (ι:=List Sm×Nat×Nat) (fun i=>l.drop i.2.1=i.1∧i.2.2+Sm.dE i.1=Sm.dE l+i.1.length) (fun i=>i.1.length)
  (fun i=> [(0, .slice .shared 13 (l.map bn)),(3, .int .i64 (i.2.2:Int)),(7, .slice .shared 13 (l.map bn)),(8, .int .i64 (l.length:Int)),(9, .int .i64 (i.2.1:Int))]) (fun i=>⟨[],[]⟩) ?_ (l,0,l.length) ⟨rfl,Nat.add_comm _ _⟩)
 rintro⟨rest,k,c⟩ ⟨g1,g2⟩ IH
 dsimp only at g1 g2
 cases rest with
 |nil=>
  have hC:=drop_nil g1
  simp only[Sm.dE,zaP,zax]at g2
  subst g2
  repeat' (first
 |simp only[go_sem,hC,hE,hF,hS]
 |(with_reducible refine ay hQ ?_;exact aK))
 |cons y rest=>
  obtain⟨hE,g3,hC,g4⟩:=drop_cons g1
  obtain⟨hy1,hy2,hy3⟩:=hk y (zae hE)
  simp only[Sm.dE,zal]at g2
  have C0:=Sm.bX (zae hE)
  have HW:rest.length≤l.length:=by have:=congrArg List.length g1;simp only[zaI,zal]at this;omega
  have w1:IntKind.wrap .i64 ((k:Int)+1)=((k+1:Nat):Int):=by rw[cL]<;>omega
  have w2:IntKind.wrap .i64 ((Sm.dE y.bb:Int)+(Sm.dE y.aR:Int))=((Sm.dE y.bb+Sm.dE y.aR:Nat):Int):=by rw[cL]<;>omega
  have w3:IntKind.wrap .i64 ((c:Int)+((Sm.dE y.bb+Sm.dE y.aR:Nat):Int))=((c+(Sm.dE y.bb+Sm.dE y.aR):Nat):Int):=by rw[cL]<;>omega
  repeat' (first
 |simp only[go_sem,hC,hE,hF,hS,w1,w2,w3]
 |(with_reducible refine CU (hy1 _) ?_)
 |(with_reducible refine CU (hy2 _) ?_)
 |(with_reducible refine ay hQ ?_;exact aK))
  refine b8 0 0 (IH (rest,k+1,c+(Sm.dE y.bb+Sm.dE y.aR)) ⟨g3,by dsimp only;omega⟩ (zac _))
theorem Z2 {l:List Sm} (h:Sm.aQ l+1<1000000000) (s:St):aC Tryz.prog 86 [.slice .shared 13 (l.map bn)] s (.int .i64 (Sm.dE l:Int)) s:=
 (Z1 _ h l (zac _)).pure (by simp only[D.bP,D.ok,Tag.ok,lz];rfl) rfl s
def Pc.yH:List Pc→Nat
 | []=>0
 |f::l=>Sm.dE f.body+Pc.yH l
theorem L9 : ∀ l:List Pc,Pc.yH l≤Pc.aQ l
 | []=>zaj _
 |f::l=>by
  have:=L9 l;have:=kT f.body
  simp only[Pc.yH,Pc.aQ,Pc.size];omega
theorem Z3 {p:Pg} (h:p.size+1<1000000000) (s:St):aC Tryz.prog 33 [.agg (bQ p)] s (.int .i64 (Pc.yH p.procs:Int)) s:=by
 refine aC.pure ?_ (by simp[D.bP,D.ok,fH]) rfl s
 have hs:Pc.aQ p.procs+1<1000000000:=by simp only[Pg.size]at h;omega
 have hl:=Pc.cG p.procs
 have hcp:=L9 p.procs
 unfold S0
 refine aC.go EF.h rfl fun B Q hB hQ=>?_
 have⟨hC,hE,hF,hS⟩:=bt
 repeat' (first
 |simp only[go_sem,hC,hE,hF,hS]
 |(with_reducible refine ay hQ ?_;exact aK))
 refine b8 1 0 (aV.ind (ι:=List Pc×Nat×Nat) (fun i=>p.procs.drop i.2.1=i.1∧i.2.2+Pc.yH i.1=Pc.yH p.procs) (fun i=>i.1.length)
  (fun i=> [(1, .ptr 0 0),(3, .int .i64 (i.2.2:Int)),(7, .slice .shared 5 (p.procs.map cf)),(8, .int .i64 (p.procs.length:Int)),(9, .int .i64 (i.2.1:Int))]) (fun i=>⟨[bQ p],[]⟩) ?_ (p.procs,0,0) ⟨rfl,za3 _⟩)
 rintro⟨rest,k,c⟩ ⟨g1,g2⟩ IH
 dsimp only at g1 g2
 cases rest with
 |nil=>
  have hC:=drop_nil g1
  simp only[Pc.yH,zaP]at g2
  subst g2
  repeat' (first
 |simp only[go_sem,hC,hE,hF,hS]
 |(with_reducible refine ay hQ ?_;exact aK))
 |cons f rest=>
  obtain⟨hE,g3,hC,g4⟩:=drop_cons g1
  have hsf:=Pc.bX (zae hE)
  simp only[Pc.size]at hsf
  have hc:=fun s=>Z2 (l:=f.body) (by omega) s
  simp only[Pc.yH]at g2
  have w1:IntKind.wrap .i64 ((k:Int)+1)=((k+1:Nat):Int):=by rw[cL]<;>omega
  have w2:IntKind.wrap .i64 ((c:Int)+(Sm.dE f.body:Int))=((c+Sm.dE f.body:Nat):Int):=by rw[cL]<;>omega
  repeat' (first
 |simp only[go_sem,hC,hE,hF,hS,w1,w2]
 |(with_reducible refine CU (hc _) ?_)
 |(with_reducible refine ay hQ ?_;exact aK))
  refine b8 1 0 (IH (rest,k+1,c+Sm.dE f.body) ⟨g3,by dsimp only;omega⟩ (zac _))
theorem WW {p:Pg} (h:p.may=false):p.scope=(1,0):=by unfold Pg.scope;rw[h];rfl
theorem WX {c:Int} {o:Option Sm} : (fO c o).1=0→c≠0→(fO c o).2=0:=by
 cases o with
 |none=>simp[fO]
 |some v=>intro h1 h2;exact absurd h1 h2
theorem PG {p:Pg} (h:(p.check.1==0)=true):p.check.2=0:=by
 unfold Pg.check at h ⊢
 split at h
 ·rename_i c1
  split at h
  ·rename_i c2
   split at h
   ·rename_i c3
    rw[if_pos c1,if_pos c2,if_pos c3]
    unfold Pg.alias at h ⊢
    rw[if_pos c2]at h ⊢
    exact WX (by simpa using h) (by decide)
   ·rename_i c3;exact absurd h c3
  ·rename_i c2;exact absurd h c2
 ·rename_i c1;exact absurd h c1
theorem JQ {p:Pg} (h:p.iK) (s:St):aC Tryz.prog 14 [.agg (bQ p)] s (.agg [.int .i64 p.check.1, .int .i64 p.check.2]) s:=by
 refine aC.pure ?_ (by simp[D.bP,D.ok,fH]) rfl s
 have h1:=fun s=>R1 h.Ph s
 rw[Fa]at h1
 have h2:=fun s=>uJ h s
 have h3:=fun s=>Jk h s
 have h4:=fun s=>WD h s
 have h5:=fun s=>SI h s
 obtain⟨R,hR⟩ : ∃ R,p.check=R:=⟨_,rfl⟩
 rw[hR]
 unfold Pg.check at hR
 unfold S0
 rcases zad p.may with b0|b0
 case inr=>
  have e:((1:Int)==0)=false:=rfl
  rw[WW b0]at hR
  simp only[e,zaa,if_false]at hR
  subst hR
  refine aC.go nO.h rfl fun B Q hB hQ=>?_
  have⟨hC,hE,hF,hS⟩:=bt
  repeat' (first
 |simp only[go_sem,hC,hE,hF,hS,b0,zao]
 |(with_reducible refine CU (h1 _) ?_)
 |(with_reducible refine ay hQ ?_;exact aK))
 rcases zad (p.scope.1==0)with b1|b1
 case inr=>
  simp only[b1,zaa,if_false]at hR
  subst hR
  refine aC.go nO.h rfl fun B Q hB hQ=>?_
  have⟨hC,hE,hF,hS⟩:=bt
  repeat' (first
 |simp only[go_sem,hC,hE,hF,hS,b0,b1,zan]
 |(with_reducible refine CU (h1 _) ?_)
 |(with_reducible refine CU (h2 _) ?_)
 |(with_reducible refine ay hQ ?_;exact aK))
 simp only[b1,if_true]at hR
 rcases zad (p.arity.1==0)with b2|b2
 case inr=>
  simp only[b2,zaa,if_false]at hR
  subst hR
  refine aC.go nO.h rfl fun B Q hB hQ=>?_
  have⟨hC,hE,hF,hS⟩:=bt
  repeat' (first
 |simp only[go_sem,hC,hE,hF,hS,b0,b1,b2,zan]
 |(with_reducible refine CU (h1 _) ?_)
 |(with_reducible refine CU (h2 _) ?_)
 |(with_reducible refine CU (h3 _) ?_)
 |(with_reducible refine ay hQ ?_;exact aK))
 simp only[b2,if_true]at hR
 rcases zad (p.jump.1==0)with b3|b3
 case inr=>
  simp only[b3,zaa,if_false]at hR
  subst hR
  refine aC.go nO.h rfl fun B Q hB hQ=>?_
  have⟨hC,hE,hF,hS⟩:=bt
  repeat' (first
 |simp only[go_sem,hC,hE,hF,hS,b0,b1,b2,b3,zan]
 |(with_reducible refine CU (h1 _) ?_)
 |(with_reducible refine CU (h2 _) ?_)
 |(with_reducible refine CU (h3 _) ?_)
 |(with_reducible refine CU (h4 _) ?_)
 |(with_reducible refine ay hQ ?_;exact aK))
 simp only[b3,if_true]at hR
 subst hR
 refine aC.go nO.h rfl fun B Q hB hQ=>?_
 have⟨hC,hE,hF,hS⟩:=bt
 repeat' (first
 |simp only[go_sem,hC,hE,hF,hS,b0,b1,b2,b3,zan]
 |(with_reducible refine CU (h1 _) ?_)
 |(with_reducible refine CU (h2 _) ?_)
 |(with_reducible refine CU (h3 _) ?_)
 |(with_reducible refine CU (h4 _) ?_)
 |(with_reducible refine CU (h5 _) ?_)
 |(with_reducible refine ay hQ ?_;exact aK))
theorem ado {p:Pg} (h:p.iK) (s:St):aC Tryz.prog 16 [.agg (bQ p)] s (.bool (p.check.1==0)) s:=by
 refine aC.pure ?_ (by simp[D.bP,D.ok,fH]) rfl s
 have h1:=fun s=>JQ h s
 unfold S0
 refine aC.go G2.h rfl fun B Q hB hQ=>?_
 have⟨hC,hE,hF,hS⟩:=bt
 repeat' (first
 |simp only[go_sem,hC,hE,hF,hS]
 |(with_reducible refine CU (h1 _) ?_)
 |(with_reducible refine ay hQ ?_;exact aK))
theorem adp {p:Pg} (h:p.iK) (s:St):aC Tryz.prog 15 [.agg (bQ p)] s (.agg [.int .i64 p.check.1, .int .i64 p.check.2]) s:=by
 refine aC.pure ?_ (by simp[D.bP,D.ok,fH]) rfl s
 have h2:=fun s=>Wp h s
 obtain⟨R,hR⟩ : ∃ R,p.check=R:=⟨_,rfl⟩
 rw[hR]
 unfold Pg.check at hR
 unfold S0
 rcases zad (p.scope.1==0)with b1|b1
 case inr=>
  simp only[b1,zaa,if_false]at hR
  subst hR
  refine aC.go qM.h rfl fun B Q hB hQ=>?_
  have⟨hC,hE,hF,hS⟩:=bt
  repeat' (first
 |simp only[go_sem,hC,hE,hF,hS,b1]
 |(with_reducible refine CU (h2 _) ?_)
 |(with_reducible refine ay hQ ?_;exact aK))
 have hb:=ni b1
 have h3:=fun s=>Wq h hb s
 have e3:p.arity=fO 6 (vN p p.pre):=by unfold Pg.arity;rw[if_pos b1]
 rw[← e3]at h3
 have h4:=fun s=>WI h hb s
 have e4:p.jump=ln 7 (pZ p.procs):=by unfold Pg.jump;rw[if_pos b1]
 rw[← e4]at h4
 simp only[b1,if_true]at hR
 rcases zad (p.arity.1==0)with b2|b2
 case inr=>
  simp only[b2,zaa,if_false]at hR
  subst hR
  refine aC.go qM.h rfl fun B Q hB hQ=>?_
  have⟨hC,hE,hF,hS⟩:=bt
  repeat' (first
 |simp only[go_sem,hC,hE,hF,hS,b1,b2]
 |(with_reducible refine CU (h2 _) ?_)
 |(with_reducible refine CU (h3 _) ?_)
 |(with_reducible refine ay hQ ?_;exact aK))
 simp only[b2,if_true]at hR
 have h5:=fun s=>ac5 h b1 s
 have e5:p.alias=fO 8 (BT p p.pre):=by unfold Pg.alias;rw[if_pos b2,ZX hb (JD b2).2]
 rw[← e5]at h5
 rcases zad (p.jump.1==0)with b3|b3
 case inr=>
  simp only[b3,zaa,if_false]at hR
  subst hR
  refine aC.go qM.h rfl fun B Q hB hQ=>?_
  have⟨hC,hE,hF,hS⟩:=bt
  repeat' (first
 |simp only[go_sem,hC,hE,hF,hS,b1,b2,b3]
 |(with_reducible refine CU (h2 _) ?_)
 |(with_reducible refine CU (h3 _) ?_)
 |(with_reducible refine CU (h4 _) ?_)
 |(with_reducible refine ay hQ ?_;exact aK))
 simp only[b3,if_true]at hR
 subst hR
 refine aC.go qM.h rfl fun B Q hB hQ=>?_
 have⟨hC,hE,hF,hS⟩:=bt
 repeat' (first
 |simp only[go_sem,hC,hE,hF,hS,b1,b2,b3]
 |(with_reducible refine CU (h2 _) ?_)
 |(with_reducible refine CU (h3 _) ?_)
 |(with_reducible refine CU (h4 _) ?_)
 |(with_reducible refine CU (h5 _) ?_)
 |(with_reducible refine ay hQ ?_;exact aK))
def Tt {α:Type} (o:Option α) (Q:α→Prop):Prop:=∃ a,o=some a∧Q a
theorem Tt.bind {α β:Type} {o:Option α} {f:α→Option β} {Q:α→Prop} {R:β→Prop} (h:Tt o Q) (k : ∀ a,Q a→Tt (f a) R):Tt (o.bind f) R:=by
 obtain⟨a,rfl,hq⟩:=h
 exact k a hq
theorem Tt.mono {α:Type} {o:Option α} {Q R:α→Prop} (h:Tt o Q) (k : ∀ a,Q a→R a):Tt o R:=by
 obtain⟨a,e,hq⟩:=h
 exact⟨a,e,k a hq⟩
theorem Tt.some {α:Type} {a:α} {Q:α→Prop} (h:Q a):Tt (some a) Q:=⟨a,rfl,h⟩
theorem Tt.ite {α:Type} {c:Prop} [Decidable c] {a b:Option α} {Q:α→Prop} (h1:c→Tt a Q) (h2 : ¬ c→Tt b Q):Tt (if c then a else b) Q:=by
 by_cases h:c
 ·rw[if_pos h];exact h1 h
 ·rw[if_neg h];exact h2 h
structure Rd.Ok (r:Rd):Prop where
 k : ∀ t∈r.l,0≤t.kind∧t.kind≤4
 lt:r.i<r.l.length
 len:r.l.length≤2001
 last : ∀ t,r.l[r.l.length - 1]? = some t→t.kind=0
 n1:r.n≤201
structure Rd.To (r r':Rd):Prop where
 ok:r'.Ok
 l:r'.l=r.l
 i:r.i≤r'.i
 g:r'.good=true→r.good=true
 s:r.good=false→r'=r
structure Rd.kW (r r':Rd):Prop where
 to:r.To r'
 n:r'.n=r.n
theorem Rd.To.refl {r:Rd} (h:r.Ok):r.To r:=⟨h,rfl,zaj _,id,fun _=>rfl⟩
theorem Rd.To.trans {a b c:Rd} (h:a.To b) (k:b.To c):a.To c:=
 ⟨k.ok,k.l.trans h.l,zaN h.i k.i,fun g=>h.g (k.g g),fun g=>by have:=h.s g;subst this;exact k.s g⟩
theorem Rd.kW.refl {r:Rd} (h:r.Ok):r.kW r:=⟨.refl h,rfl⟩
theorem Rd.kW.trans {a b c:Rd} (h:a.kW b) (k:b.kW c):a.kW c:=⟨h.to.trans k.to,k.n.trans h.n⟩
theorem oT {r:Rd} (h:r.Ok):Tt r.fA fun t=>r.l[r.i]? = some t∧0≤t.kind∧t.kind≤4∧(t.kind≠0→r.i+1<r.l.length):=by
 have hC:=h.lt
 have hE:r.l[r.i]? = some r.l[r.i]:=zap hC
 have hk:=h.k _ (List.getElem_mem hC)
 refine⟨r.l[r.i], ?_,hE,hk.1,hk.2,fun hz=>?_⟩
 ·have:r.i<4611686018427387904:=by have:=h.len;omega
  simp only[Rd.fA,wx,this,↓reduceIte,hE,zam,hk.1,hk.2,decide_true,zbJ]
 ·rcases zaF (r.i+1) r.l.length with h1 | h1
  ·exact h1
  ·have:r.i=r.l.length - 1:=by omega
   have:=h.last r.l[r.i] (by rw[← this];exact hE)
   exact absurd this hz
theorem Rd.Ok.on {r:Rd} (h:r.Ok) (hi:r.i+1<r.l.length):({r with i:=r.i+1} : Rd).Ok:=⟨h.k,hi,h.len,h.last,h.n1⟩
theorem Rd.kW.on {r:Rd} (h:r.Ok) (hg:r.good=true) (hi:r.i+1<r.l.length):r.kW {r with i:=r.i+1}:=
 ⟨⟨h.on hi,rfl,zbo _,fun _=>hg,fun h'=>by rw[hg]at h';cases h'⟩,rfl⟩
theorem Rd.Ok.fault {r:Rd} (h:r.Ok) (c f:Int):({r with code:=c,gE:=f} : Rd).Ok∨c=0:=by
 by_cases hc:c=0
 ·exact .inr hc
 ·exact .inl ⟨h.k,h.lt,h.len,h.last,h.n1⟩
theorem vW {r:Rd} (h:r.Ok) {c:Int} (hc:c≠0):Tt (r.bad c) fun r'=>r.kW r'∧r'.good=false∧r'.i=r.i:=by
 unfold Rd.bad
 refine Tt.ite (fun hg=>?_) (fun hg=>?_)
 ·refine(oT h).bind fun t ht=>Tt.some ?_
  have hf:({r with code:=c,gE:=t.pos} : Rd).good=false:=by simp[Rd.good,hc]
  refine⟨⟨⟨?_,rfl,zaj _,fun h'=>(by rw[hf]at h';cases h'),fun h'=>(by rw[hg]at h';cases h')⟩,rfl⟩,hf,rfl⟩
  rcases h.fault c t.pos with h1|h1
  ·exact h1
  ·exact absurd h1 hc
 ·have:r.good=false:=by simpa using hg
  exact Tt.some ⟨.refl h,this,rfl⟩
theorem Fl {r:Rd} (h:r.Ok) (s:aB):Tt (r.is s) fun b=>b=true→r.i+1<r.l.length:=by
 unfold Rd.is
 refine(oT h).bind fun t ht=>Tt.some fun hb=>ht.2.2.2 ?_
 simp only[zaq,zay,beq_iff_eq]at hb
 omega
theorem nQ {r:Rd} (h:r.Ok) (s:aB):Tt (r.take s) fun p=>r.kW p.2∧(p.1=true→p.2.i=r.i+1∧r.good=true∧p.2.good=true)∧(p.1=false→p.2=r):=by
 unfold Rd.take
 refine Tt.ite (fun hg=>?_) (fun hg=>?_)
 ·exact Tt.some ⟨.refl h,by simp,by simp⟩
 ·have lQ:r.good=true:=by simpa using hg
  refine(Fl h s).bind fun b hb=>Tt.ite (fun hc=>Tt.some ⟨.refl h,by simp,by simp⟩) (fun hc=>Tt.some ?_)
  have zc:b=true:=by simpa using hc
  exact⟨.on h lQ (hb zc),fun _=>⟨rfl,lQ,lQ⟩,by simp⟩
theorem jJ {r:Rd} (h:r.Ok) (s:aB):Tt (r.want s) fun r'=>r.kW r'∧(r'.good=true→r'.i=r.i+1):=by
 unfold Rd.want
 refine(nQ h s).bind fun p hp=>Tt.ite (fun hc=>?_) (fun hc=>?_)
 ·have:p.1=false:=by simpa using hc
  have e:=hp.2.2 this
  rw[e]
  exact(vW h (by decide)).mono fun r' hr=>⟨hr.1,fun hg=>by rw[hr.2.1]at hg;cases hg⟩
 ·have:p.1=true:=by simpa using hc
  exact Tt.some ⟨hp.1,fun _=>(hp.2.1 this).1⟩
theorem sQ {r:Rd} (h:r.Ok) (room:Bool):Tt (r.name room) fun p=>r.kW p.2∧(p.2.good=true→p.2.i=r.i+1):=by
 unfold Rd.name
 refine(oT h).bind fun t ht=>Tt.ite (fun hc=>?_) (fun hc=>Tt.ite (fun uk=>?_) (fun uk=>?_))
 ·exact(vW h (by decide)).bind fun r' hr=>Tt.some ⟨hr.1,fun hg=>by rw[hr.2.1]at hg;cases hg⟩
 ·exact(vW h (by decide)).bind fun r' hr=>Tt.some ⟨hr.1,fun hg=>by rw[hr.2.1]at hg;cases hg⟩
 ·simp only [zay,zaG,bne_iff_ne,ne_eq,not_or,Decidable.not_not]at hc
  have hg:r.good=true:=by simpa using hc.1
  exact Tt.some ⟨.on h hg (ht.2.2.2 (by omega)),fun _=>rfl⟩
def ExT (r:Rd) (p:Ex×Rd):Prop:=r.kW p.2∧(p.2.good=true→p.1.size+3+4*r.i≤4*p.2.i)
theorem uP:iG.size=1:=rfl
theorem adr : ∀ n:Nat,
 (∀ r:Rd,r.Ok→3*(r.l.length - r.i)+1≤n→Tt (Rd.one n r) (ExT r))∧
 (∀ (r:Rd) (k:Int),r.Ok→3*(r.l.length - r.i)+2≤n→Tt (Rd.two n k r) (ExT r))∧
 (∀ (r:Rd) (k:Int) (x:Ex),r.Ok→3*(r.l.length - r.i)+1≤n→Tt (Rd.jf n k x r) fun p=>r.kW p.2∧(p.2.good=true→p.1.size+4*r.i≤x.size+4*p.2.i)):=by
 intro n
 induction n with
 |zero=>exact⟨fun r _ h=>by omega,fun r k _ h=>by omega,fun r k x _ h=>by omega⟩
 |succ n ih=>
 obtain⟨qH,tq,xU⟩:=ih
 refine⟨fun r h hn=>?_,fun r k h hn=>?_,fun r k x h hn=>?_⟩
 ·have hC:=h.lt
  simp only[Rd.one]
  refine(oT h).bind fun t ht=>Tt.ite (fun hg=>?_) (fun hg=>?_)
  ·have hg:r.good=false:=by simpa using hg
   exact Tt.some ⟨.refl h,fun h'=>by simp only[hg]at h';cases h'⟩
  have hg:r.good=true:=by simpa using hg
  refine Tt.ite (fun hk=>?_) (fun hk=>Tt.ite (fun bm=>?_) (fun bm=>?_))
  ·simp only [beq_iff_eq]at hk
   refine Tt.some ⟨.on h hg (ht.2.2.2 (by omega)),fun _=>?_⟩
   simp only[Ex.size,Ex.aQ];omega
  ·simp only [beq_iff_eq]at bm
   refine Tt.some ⟨.on h hg (ht.2.2.2 (by omega)),fun _=>?_⟩
   simp only[Ex.size,Ex.aQ];omega
  refine(nQ h _).bind fun p hp=>Tt.ite (fun hc=>?_) (fun hc=>?_)
  ·obtain⟨e1,e2,e3⟩:=hp.2.1 hc
   have hl:=hp.1.to.l
   have hi:=hp.1.to.ok.lt
   refine(tq p.2 1 hp.1.to.ok (by rw[hl,e1];rw[hl,e1]at hi;omega)).bind fun x hx=>?_
   refine(jJ hx.1.to.ok _).bind fun r2 Ma=>Tt.some ⟨hp.1.trans (hx.1.trans Ma.1),fun bJ=>?_⟩
   have:=hx.2 (Ma.1.to.g bJ)
   have:=Ma.2 bJ
   dsimp only
   omega
  ·have JR:p.1=false:=by simpa using hc
   rw[hp.2.2 JR]
   refine(nQ h _).bind fun p hp=>Tt.ite (fun hc=>?_) (fun hc=>?_)
   ·obtain⟨e1,e2,e3⟩:=hp.2.1 hc
    have hl:=hp.1.to.l
    have hi:=hp.1.to.ok.lt
    refine(qH p.2 hp.1.to.ok (by rw[hl,e1];rw[hl,e1]at hi;omega)).bind fun x hx=>Tt.some ⟨hp.1.trans hx.1,fun bJ=>?_⟩
    have:=hx.2 bJ
    simp only[Ex.size,Ex.aQ]
    omega
   ·have JR:p.1=false:=by simpa using hc
    rw[hp.2.2 JR]
    refine(nQ h _).bind fun p hp=>Tt.ite (fun hc=>?_) (fun hc=>?_)
    ·obtain⟨e1,e2,e3⟩:=hp.2.1 hc
     have hl:=hp.1.to.l
     have hi:=hp.1.to.ok.lt
     refine(qH p.2 hp.1.to.ok (by rw[hl,e1];rw[hl,e1]at hi;omega)).bind fun x hx=>Tt.some ⟨hp.1.trans hx.1,fun bJ=>?_⟩
     have:=hx.2 bJ
     simp only[Ex.size,Ex.aQ]
     omega
    ·have JR:p.1=false:=by simpa using hc
     rw[hp.2.2 JR]
     exact(vW h (by decide)).bind fun r' hr=>Tt.some ⟨hr.1,fun hg=>by simp only[hr.2.1]at hg;cases hg⟩
 ·simp only [Rd.two]
  refine(qH r h (by omega)).bind fun x hx=>?_
  have hl:=hx.1.to.l
  have hi:=hx.1.to.i
  refine(xU x.2 k x.1 hx.1.to.ok (by rw[hl];omega)).mono fun p hp=>⟨hx.1.trans hp.1,fun hg=>?_⟩
  have h1:=hp.2 hg
  have h2:=hx.2 (hp.1.to.g hg)
  omega
 ·have hC:=h.lt
  simp only[Rd.jf]
  refine Tt.ite (fun hg=>?_) (fun hg=>Tt.some ⟨.refl h,fun _=>zaj _⟩)
  refine(oT h).bind fun t ht=>Tt.ite (fun hc=>Tt.some ⟨.refl h,fun _=>zaj _⟩) (fun hc=>?_)
  have hk:t.kind≠0:=fun e=>hc (by
   have:fz t=(0,0):=by simp[fz,e]
   simp[this])
  have D9:=Rd.kW.on h hg (ht.2.2.2 hk)
  have hi:=D9.to.ok.lt
  refine(tq _ _ D9.to.ok (by dsimp only at hi ⊢;omega)).bind fun y hy=>?_
  have ew:=hy.1.to.l
  have lR:=hy.1.to.i
  have hi3:=hy.1.to.ok.lt
  dsimp only at ew lR
  refine(xU y.2 k _ hy.1.to.ok (by rw[ew]at hi3 ⊢;omega)).mono fun p hp=>⟨D9.trans (hy.1.trans hp.1),fun bJ=>?_⟩
  have h1:=hp.2 bJ
  have h2:=hy.2 (hp.1.to.g bJ)
  simp only[Ex.size,Ex.aQ]at h1
  dsimp only at h2
  omega
theorem xV {n:Nat} {r:Rd} (h:r.Ok) (hn:6006≤n):Tt (Rd.whole n r) (ExT r):=by
 have hlen:=h.len
 unfold Rd.whole
 refine(oT h).bind fun t ht=>((adr n).2.1 r 1 h (by omega)).bind fun x hx=>Tt.ite (fun hg=>?_) (fun hg=>Tt.some ?_)
 ·have hs:=hx.2 hg
  have hi:=hx.1.to.ok.lt
  have hl:=hx.1.to.ok.len
  have dz:x.1.size<4611686018427387904:=by omega
  simp only[xi,dz,↓reduceIte,zam]
  refine Tt.ite (fun hd=>Tt.some ?_) (fun hd=>Tt.some hx)
  have hf:({x.2 with code:=4,gE:=t.pos} : Rd).good=false:=rfl
  refine⟨⟨⟨?_,hx.1.to.l,hx.1.to.i,fun h'=>(by rw[hf]at h';cases h'),fun h'=>?_⟩,hx.1.n⟩,fun h'=>by rw[hf]at h';cases h'⟩
  ·rcases hx.1.to.ok.fault 4 t.pos with h1 | h1
   ·exact h1
   ·cases h1
  ·have:=hx.1.to.s h'
   rw[this]at hg
   rw[hg]at h'
   cases h'
 ·exact hx
theorem xW {α:Type} {k:Nat} {l:List α} {x:α} (h:l.length≤5000) (hk:k≤1000):Tt (push k l x) fun l'=>l'=l++ [x]:=by
 have:(l.length+1)*k≤bh:=by
  have h1:(l.length+1)*k≤5001*1000:=Nat.mul_le_mul (by omega) hk
  simp only[bh];omega
 simp only[push,this,↓reduceIte]
 exact Tt.some rfl
theorem Mb : ∀ (n:Nat) (l:List aB) (dk:Int) (r:Rd),r.Ok→l.length≤r.i→r.l.length - r.i≤n+1→0<n→
 Tt (Rd.names n l dk r) fun p=>r.kW p.2∧p.1.length≤p.2.i+1∧(p.2.good=true→p.1.length+r.i≤l.length+p.2.i)∧(p.2.good=true→p.1.length≤p.2.i):=by
 intro n
 induction n with
 |zero=>intro l dk r _ _ _ h;omega
 | succ n ih=>
  intro l dk r h hl hn _
  have hC:=h.lt
  have hlen:=h.len
  simp only[Rd.names]
  refine Tt.ite (fun hg=>?_) (fun hg=>Tt.some ⟨.refl h,Nat.le_succ_of_le hl,fun _=>zaj _,fun _=>hl⟩)
  refine(sQ h _).bind fun p hp=>(xW (by omega) (by decide)).bind fun l' jP=>?_
  subst jP
  refine(nQ hp.1.to.ok _).bind fun q hq=>Tt.ite (fun hc=>?_) (fun hc=>?_)
  ·have Ea:q.1=false:=by simpa using hc
   rw[hq.2.2 Ea]
   refine(jJ hp.1.to.ok _).bind fun r' vj=>Tt.some ⟨hp.1.trans vj.1, ?_,fun bJ=>?_,fun bJ=>?_⟩
   ·have:=hp.1.to.i;have:=vj.1.to.i;simp;omega
   ·have:=hp.2 (vj.1.to.g bJ);have:=vj.2 bJ;simp;omega
   ·have:=hp.2 (vj.1.to.g bJ);have:=vj.2 bJ;simp;omega
  ·have hqt:q.1=true:=by simpa using hc
   obtain⟨e1,e2,e3⟩:=hq.2.1 hqt
   have hp2:=hp.2 e2
   have tC:=hp.1.to.l
   have ew:=hq.1.to.l
   have hi:=hq.1.to.ok.lt
   rw[ew,tC]at hi
   refine(ih (l++ [p.1]) dk q.2 hq.1.to.ok (by simp;omega) (by rw[ew,tC];omega) (by omega)).mono fun x hx=>⟨hp.1.trans (hq.1.trans hx.1),hx.2.1,fun bJ=>?_,hx.2.2.2⟩
   have:=hx.2.2.1 bJ
   simp at this
   omega
theorem Mc {r:Rd} (h:r.Ok) (s:aB):Tt (r.ahead s) fun b=>b=true→r.i+2<r.l.length∧r.good=true:=by
 have hlen:=h.len
 unfold Rd.ahead
 refine Tt.ite (fun hg=>?_) (fun hg=>Tt.some (by simp))
 refine(oT h).bind fun t ht=>Tt.ite (fun hk=>?_) (fun hk=>Tt.some (by simp))
 have h1:=ht.2.2.2 (by simp only[beq_iff_eq]at hk;omega)
 have hE:r.l[r.i+1]? = some r.l[r.i+1]:=zap h1
 have hi:r.i+1<4611686018427387904:=by omega
 simp only[wx,hi,↓reduceIte,hE,zam]
 refine Tt.some fun hb=>⟨?_,hg⟩
 rcases zaF (r.i+2) r.l.length with h2|h2
 ·exact h2
 ·have:r.i+1=r.l.length - 1:=by omega
  have:=h.last r.l[r.i+1] (by rw[← this];exact hE)
  simp[this]at hb
theorem WY : ∀ (n:Nat) (l:List aB) (r:Rd),r.Ok→l.length≤r.i→r.l.length - r.i≤n+1→0<n→
 Tt (Rd.labels n l r) fun p=>r.kW p.2∧p.2.good=r.good∧p.1.length*2+r.i≤l.length*2+p.2.i:=by
 intro n
 induction n with
 |zero=>intro l r _ _ _ h;omega
 |succ n ih=>
  intro l r h hl hn _
  have hC:=h.lt
  have hlen:=h.len
  simp only[Rd.labels]
  refine(Mc h _).bind fun b hb=>Tt.ite (fun hc=>?_) (fun hc=>Tt.some ⟨.refl h,rfl,zaj _⟩)
  obtain⟨h2,hg⟩:=hb hc
  refine(oT h).bind fun t ht=>(xW (by omega) (by decide)).bind fun l' jP=>?_
  subst jP
  have oE:({r with i:=r.i+2} : Rd).Ok:=⟨h.k,h2,h.len,h.last,h.n1⟩
  have xK:r.kW {r with i:=r.i+2}:=⟨⟨oE,rfl,by dsimp only;omega,fun _=>hg,fun h'=>by rw[hg]at h';cases h'⟩,rfl⟩
  refine(ih (l++ [t.text]) {r with i:=r.i+2} oE (by simp;omega) (by dsimp only;omega) (by omega)).mono fun p hp=>⟨xK.trans hp.1,hp.2.1, ?_⟩
  have:=hp.2.2
  simp at this ⊢
  omega
theorem WZ {r:Rd} (h:r.Ok):Tt r.lU fun b=>b=true→r.i+1<r.l.length:=by
 unfold Rd.lU
 refine(oT h).bind fun t ht=>Tt.some fun hb=>ht.2.2.2 fun hk=>?_
 simp[hk]at hb
theorem Md {r:Rd} (h:r.Ok) (s:aB):Tt (r.other s) fun b=>b=true→r.good=true:=by
 unfold Rd.other
 exact Tt.ite (fun hg=>(Fl h s).bind fun b hb=>Tt.some fun _=>hg) (fun hg=>Tt.some (by simp))
theorem Ar.qq (l:List Ar) (a:Ar):Ar.aQ (l++ [a])=Ar.aQ l+(1+a.x.size):=by
 induction l with
 |nil=>simp[Ar.aQ]
 |cons b l ih=>simp only[zaH,Ar.aQ,ih];omega
theorem Sm.qq (l:List Sm) (a:Sm):Sm.aQ (l++ [a])=Sm.aQ l+(1+a.size):=by
 induction l with
 |nil=>simp[Sm.aQ]
 |cons b l ih=>simp only[zaH,Sm.aQ,ih];omega
theorem Pc.qq (l:List Pc) (a:Pc):Pc.aQ (l++ [a])=Pc.aQ l+(1+a.size):=by
 induction l with
 |nil=>simp[Pc.aQ]
 |cons b l ih=>simp only[zaH,Pc.aQ,ih];omega
theorem Z4 {m:Nat} (hm:6006≤m) : ∀ (n:Nat) (l:List Ar) (r:Rd),r.Ok→l.length≤r.i→r.l.length - r.i≤n+1→0<n→
 Tt (Rd.jk m n l r) fun p=>r.kW p.2∧(p.2.good=true→Ar.aQ p.1+8*r.i≤Ar.aQ l+8*p.2.i):=by
 intro n
 induction n with
 |zero=>intro l r _ _ _ h;omega
 | succ n ih=>
  intro l r h hl hn _
  have hC:=h.lt
  have hlen:=h.len
  simp only[Rd.jk]
  refine Tt.ite (fun hg=>?_) (fun hg=>Tt.some ⟨.refl h,fun _=>zaj _⟩)
  have rest : ∀ (a:Ar) (r1:Rd),r.kW r1→(r1.good=true→a.x.size+1+8*r.i≤8*r1.i∧r.i<r1.i)→
   Tt ((push 81 l a).bind fun l=>(r1.take [44]).bind fun c=>if !c.1 then some (l,c.2)else Rd.jk m n l c.2) fun p=>r.kW p.2∧(p.2.good=true→Ar.aQ p.1+8*r.i≤Ar.aQ l+8*p.2.i):=by
   intro a r1 h1 hs
   refine(xW (by omega) (by decide)).bind fun l' jP=>?_
   subst jP
   refine(nQ h1.to.ok _).bind fun q hq=>Tt.ite (fun hc=>?_) (fun hc=>?_)
   ·have Ea:q.1=false:=by simpa using hc
    rw[hq.2.2 Ea]
    refine Tt.some ⟨h1,fun bJ=>?_⟩
    have:=hs bJ
    rw[Ar.qq]
    dsimp only
    omega
   ·have hqt:q.1=true:=by simpa using hc
    obtain⟨e1,e2,e3⟩:=hq.2.1 hqt
    have h2:=hs e2
    have tC:=h1.to.l
    have ew:=hq.1.to.l
    have hi:=hq.1.to.ok.lt
    rw[ew,tC]at hi
    refine(ih (l++ [a]) q.2 hq.1.to.ok (by simp;omega) (by rw[ew,tC];omega) (by omega)).mono fun x hx=>⟨h1.trans (hq.1.trans hx.1),fun bJ=>?_⟩
    have:=hx.2 bJ
    rw[Ar.qq]at this
    omega
  refine(nQ h _).bind fun p hp=>Tt.ite (fun hc=>?_) (fun hc=>?_)
  ·obtain⟨e1,e2,e3⟩:=hp.2.1 hc
   refine(sQ hp.1.to.ok _).bind fun x hx=>rest _ _ (hp.1.trans hx.1) fun bJ=>?_
   have:=hx.2 bJ
   simp only[uP]
   omega
  ·have JR:p.1=false:=by simpa using hc
   rw[hp.2.2 JR]
   refine(xV h hm).bind fun x hx=>rest _ _ hx.1 fun bJ=>?_
   have:=hx.2 bJ
   dsimp only
   omega
def StT (r:Rd) (p:Sm×Rd):Prop:=r.kW p.2∧(p.2.good=true→p.1.size+1+8*r.i≤8*p.2.i)
theorem mr (id kind:Int) (labels:List aB) (name proc:aB) (x:Ex) (has:Bool) (args:List Ar) (bb aR:List Sm) :
 Sm.size ⟨id,kind,labels,name,proc,x,has,args,bb,aR⟩=1+labels.length+x.size+Ar.aQ args+Sm.aQ bb+Sm.aQ aR:=by simp only[Sm.size]
theorem SU {m:Nat} (hm:6006≤m) {name proc:aB} {r:Rd} (h:r.Ok):Tt (Rd.call m name proc r) (StT r):=by
 unfold Rd.call
 refine(jJ h _).bind fun r1 h1=>(Md h1.1.to.ok _).bind fun b hb=>Tt.ite (fun hc=>?_) (fun hc=>?_)
 ·have hlen:=h1.1.to.ok.len
  refine(Z4 hm m [] r1 h1.1.to.ok (zau _) (by omega) (by omega)).bind fun q hq=>(jJ hq.1.to.ok _).bind fun r2 h2=>(jJ h2.1.to.ok _).bind fun r3 h3=>Tt.some ⟨h1.1.trans (hq.1.trans (h2.1.trans h3.1)),fun bJ=>?_⟩
  have g2:=h3.1.to.g bJ
  have gq:=h2.1.to.g g2
  have g1:=hq.1.to.g gq
  have a1:=h1.2 g1
  have a2:=h2.2 g2
  have a3:=h3.2 bJ
  have a4:=hq.2 gq
  simp only[mr,uP,Ar.aQ,Sm.aQ,zax]at a4 ⊢
  omega
 ·refine(jJ h1.1.to.ok _).bind fun r2 h2=>(jJ h2.1.to.ok _).bind fun r3 h3=>Tt.some ⟨h1.1.trans (h2.1.trans h3.1),fun bJ=> ?_⟩
  have g2:=h3.1.to.g bJ
  have a1:=h1.2 (h2.1.to.g g2)
  have a2:=h2.2 g2
  have a3:=h3.2 bJ
  simp only[mr,uP,Ar.aQ,Sm.aQ,zax]
  omega
theorem Z5 {m:Nat} (hm:6006≤m) {r:Rd} (h:r.Ok):Tt (Rd.named m r) (StT r):=by
 unfold Rd.named
 refine(sQ h _).bind fun x hx=>(Fl hx.1.to.ok _).bind fun b hb=>Tt.ite (fun hc=>?_) (fun hc=>?_)
 ·refine(SU hm hx.1.to.ok).mono fun p hp=>⟨hx.1.trans hp.1,fun bJ=> ?_⟩
  have:=hp.2 bJ
  have:=hx.1.to.i
  omega
 ·refine(jJ hx.1.to.ok _).bind fun r1 h1=>(Mc h1.1.to.ok _).bind fun b2 tu=>Tt.ite (fun hc=> ?_) (fun hc=> ?_)
  ·refine(sQ h1.1.to.ok _).bind fun y hy=>(SU hm hy.1.to.ok).mono fun p hp=>⟨hx.1.trans (h1.1.trans (hy.1.trans hp.1)),fun bJ=> ?_⟩
   have:=hp.2 bJ
   have:=hx.1.to.i
   have:=h1.1.to.i
   have:=hy.1.to.i
   omega
  ·refine(xV h1.1.to.ok hm).bind fun y hy=>(jJ hy.1.to.ok _).bind fun r2 h2=>Tt.some ⟨hx.1.trans (h1.1.trans (hy.1.trans h2.1)),fun bJ=> ?_⟩
   have gy:=h2.1.to.g bJ
   have a1:=h2.2 bJ
   have a2:=hy.2 gy
   have a3:=h1.1.to.i
   have a4:=hx.1.to.i
   simp only[mr,Ar.aQ,Sm.aQ,zax]
   omega
theorem Z6 {m:Nat} (hm:6006≤m) (word:aB) {r:Rd} (h:r.Ok):Tt (Rd.plain m word r) fun p=>r.kW p.2∧(p.2.good=true→p.1.size+8*r.i≤2+8*p.2.i):=by
 unfold Rd.plain
 have z : ∀ (k:Int) (nm:aB) (b:Bool),Sm.size ⟨0,k,[],nm,[],iG,b,[],[],[]⟩=2:=fun k nm b=>by simp only[mr,uP,Ar.aQ,Sm.aQ,zax]
 refine Tt.ite (fun _=>Tt.some ⟨.refl h,fun _=>by rw[z];dsimp only;omega⟩) (fun _=>Tt.ite (fun _=>Tt.some ⟨.refl h,fun _=>by rw[z];dsimp only;omega⟩) (fun _=>Tt.ite (fun _=>?_) (fun _=>Tt.ite (fun _=>?_) (fun _=>Tt.ite (fun _=>?_) (fun _=>Tt.ite (fun _=>?_) (fun _=>?_))))))
 ·refine(Fl h _).bind fun b hb=>Tt.ite (fun hc=> ?_) (fun hc=>Tt.some ⟨.refl h,fun _=>by rw [z];dsimp only;omega⟩)
  refine(xV h hm).bind fun x hx=>Tt.some ⟨hx.1,fun bJ=>?_⟩
  have:=hx.2 bJ
  simp only[mr,Ar.aQ,Sm.aQ,zax]
  omega
 ·refine(sQ h _).bind fun x hx=>Tt.some ⟨hx.1,fun bJ=> ?_⟩
  have:=hx.1.to.i
  rw[z];dsimp only;omega
 ·refine(sQ h _).bind fun x hx=>Tt.some ⟨hx.1,fun bJ=> ?_⟩
  have:=hx.1.to.i
  rw[z];dsimp only;omega
 ·refine(xV h hm).bind fun x hx=>Tt.some ⟨hx.1,fun bJ=> ?_⟩
  have:=hx.2 bJ
  simp only[mr,Ar.aQ,Sm.aQ,zax]
  omega
 ·exact Tt.some ⟨.refl h,fun _=>by simp only[FR,mr,uP,Ar.aQ,Sm.aQ,zax];omega⟩
theorem SV {m:Nat} (hm:6006≤m) {r:Rd} (h:r.Ok):Tt (Rd.head m r) fun p=>r.kW p.2∧(p.2.good=true→p.1.size+4*r.i≤4*p.2.i):=by
 unfold Rd.head
 refine(jJ h _).bind fun r1 h1=>(xV h1.1.to.ok hm).bind fun x hx=>(jJ hx.1.to.ok _).bind fun r2 h2=>Tt.some ⟨h1.1.trans (hx.1.trans h2.1),fun bJ=>?_⟩
 have gx:=h2.1.to.g bJ
 have:=hx.2 gx
 have:=h2.2 bJ
 have:=h1.1.to.i
 dsimp only
 omega
theorem adt {n:Int} (h1 : -1000000<n) (h2:n<1000000):IN n=some (n+1):=by
 simp only[IN];rw[if_pos (by omega)]
theorem afy {n:Nat} (h:n≤201):inc n=some (n+1):=by
 simp only[inc];rw[if_pos (by omega)]
structure ry (r r':Rd):Prop where
 to:r.To r'
 n:r'.good=true→r'.n≤200
theorem Rd.kW.q {r r':Rd} (h:r.kW r') (hn:r.good=true→r.n≤200):ry r r':=⟨h.to,fun g=>by rw[h.n];exact hn (h.to.g g)⟩
theorem ry.trans {a b c:Rd} (h:ry a b) (k:ry b c):ry a c:=⟨h.to.trans k.to,k.n⟩
def Ys (r:Rd) (p:(List Sm×List aB)×Rd):Prop:=ry r p.2∧(p.2.good=true→Sm.aQ p.1.1+p.1.2.length+8*r.i≤8*p.2.i)
theorem Z7 {m:Nat} (hm:6006≤m) : ∀ n:Nat,
 (∀ (r:Rd) (nest:Int),r.Ok→r.n≤200→r.good=true→ -100000<nest→nest<100000 - n→5*(r.l.length - r.i)+1≤n→Tt (Rd.stmt m n nest r) fun p=>ry r p.2∧(p.2.good=true→p.1.size+1+8*r.i≤8*p.2.i))∧
 (∀ (r:Rd) (nest:Int) (body:Bool) (out:List Sm),r.Ok→(r.good=true→r.n≤200)→out.length≤r.i→ -100000<nest→nest<100000 - n→5*(r.l.length - r.i)+2≤n→
  Tt (Rd.dI m n nest body out r) fun p=>ry r p.2∧(p.2.good=true→Sm.aQ p.1.1+p.1.2.length+8*r.i≤Sm.aQ out+8*p.2.i))∧
 (∀ (r:Rd) (nest:Int) (body:Bool),r.Ok→(r.good=true→r.n≤200)→ -100000<nest→nest<100000 - n→5*(r.l.length - r.i)+3≤n→Tt (Rd.rows m n nest body r) (Ys r))∧
 (∀ (r:Rd) (nest:Int),r.Ok→(r.good=true→r.n≤200)→ -100000<nest→nest<100000 - n→5*(r.l.length - r.i)+4≤n→Tt (Rd.block m n nest r) fun p=>ry r p.2∧(p.2.good=true→Sm.aQ p.1+8*r.i≤8*p.2.i))∧
 (∀ (r:Rd) (nest:Int),r.Ok→(r.good=true→r.n≤200)→ -100000<nest→nest<100000 - n→5*(r.l.length - r.i)+5≤n→Tt (Rd.choice m n nest r) fun p=>ry r p.2∧(p.2.good=true→p.1.size+8*r.i≤2+8*p.2.i)):=by
 intro n
 induction n with
 |zero=>exact⟨fun r k _ _ _ _ _ h=>by omega,fun r k b o _ _ _ _ _ h=>by omega,fun r k b _ _ _ _ h=>by omega,fun r k _ _ _ _ h=>by omega,fun r k _ _ _ _ h=>by omega⟩
 |succ n ih=>
 obtain⟨qH,tq,xU,ih4,ih5⟩:=ih
 refine⟨fun r nest h fL hg fj bm hn=>?_,fun r nest body out h fL B6 fj bm hn=>?_,fun r nest body h fL fj bm hn=>?_,fun r nest h fL fj bm hn=>?_,fun r nest h fL fj bm hn=>?_⟩
 ·have hC:=h.lt
  simp only[Rd.stmt]
  refine(WZ h).bind fun b hb=>Tt.ite (fun hc=>?_) (fun hc=>?_)
  ·exact(vW h (by decide)).bind fun r' hr=>Tt.some ⟨hr.1.q fun _=>fL,fun hg=>by rw[hr.2.1]at hg;cases hg⟩
  have hi1:=hb (by simpa using hc)
  rw[afy h.n1,zam]
  have oE:({r with n:=r.n+1} : Rd).Ok:=⟨h.k,h.lt,h.len,h.last,by dsimp only;omega⟩
  have xK:r.To {r with n:=r.n+1}:=⟨oE,rfl,zaj _,fun h'=>h',fun h'=>by rw[hg]at h';cases h'⟩
  refine Tt.ite (fun uk=>?_) (fun uk=>?_)
  ·exact(vW oE (by decide)).bind fun r' hr=>Tt.some ⟨⟨xK.trans hr.1.to,fun hg=>by rw[hr.2.1]at hg;cases hg⟩,fun hg=>by rw[hr.2.1]at hg;cases hg⟩
  have hk:r.n+1≤200:=by
   simp only[zay,decide_eq_true_eq,not_or]at uk
   omega
  refine(oT oE).bind fun t ht=>Tt.ite (fun tn=>?_) (fun tn=>?_)
  ·refine(Z5 hm oE).mono fun p hp=>⟨⟨xK.trans hp.1.to,fun _=>by rw [hp.1.n];exact hk⟩,fun bJ=> ?_⟩
   have:=hp.2 bJ
   dsimp only at this
   omega
  have PI:({r with n:=r.n+1,i:=r.i+1} : Rd).Ok:=⟨h.k,hi1,h.len,h.last,by dsimp only;omega⟩
  have W0:r.To {r with n:=r.n+1,i:=r.i+1}:=⟨PI,rfl,zbo _,fun h'=>h',fun h'=>by rw[hg]at h';cases h'⟩
  refine Tt.ite (fun hc4=>?_) (fun hc4=>Tt.ite (fun hc5=>?_) (fun hc5=>?_))
  ·refine(ih5 _ nest PI (fun _=>hk) fj (by omega) (by dsimp only;omega)).mono fun p hp=>⟨⟨W0.trans hp.1.to,hp.1.n⟩,fun bJ=> ?_⟩
   have:=hp.2 bJ
   dsimp only at this
   omega
  ·refine(SV hm PI).bind fun x hx=> ?_
   have hl:=hx.1.to.l
   have hi:=hx.1.to.i
   have hl3:=hx.1.to.ok.lt
   dsimp only at hl hi
   refine(ih4 x.2 nest hx.1.to.ok (fun _=>by rw[hx.1.n];exact hk) fj (by omega) (by rw[hl]at hl3 ⊢;omega)).bind fun b hb=>Tt.some ⟨⟨W0.trans (hx.1.to.trans hb.1.to),hb.1.n⟩,fun bJ=>?_⟩
   have a1:=hb.2 bJ
   have a2:=hx.2 (hb.1.to.g bJ)
   simp only[mr,Ar.aQ,Sm.aQ,zax]
   dsimp only at a2
   omega
  ·refine(Z6 hm _ PI).bind fun s hs=>(jJ hs.1.to.ok _).bind fun r2 h2=>Tt.some ⟨⟨W0.trans (hs.1.to.trans h2.1.to),fun _=>by rw [h2.1.n,hs.1.n];exact hk⟩,fun bJ=> ?_⟩
   have a1:=h2.2 bJ
   have a2:=hs.2 (h2.1.to.g bJ)
   dsimp only at a2 ⊢
   omega
 ·have hC:=h.lt
  have hlen:=h.len
  simp only[Rd.dI]
  refine Tt.ite (fun hg=>?_) (fun hg=>Tt.some ⟨⟨.refl h,fL⟩,fun lQ=>absurd lQ hg⟩)
  refine(WY m [] r h (zau _) (by omega) (by omega)).bind fun l hl=>?_
  have tC:=hl.1.to.l
  have ew:=hl.1.to.i
  have hl3:=hl.2.2
  have hl4:=hl.1.to.ok.lt
  have hlg:l.2.good=true:=by rw[hl.2.1];exact hg
  have hln:l.2.n≤200:=by rw[hl.1.n];exact fL hg
  simp only[zax,Nat.zero_mul,za3]at hl3
  rw[tC]at hl4
  refine(Fl hl.1.to.ok _).bind fun b hb=>Tt.ite (fun hc=>?_) (fun hc=>?_)
  ·have zc:b=true:=by simp only [zaq]at hc;exact hc.1
   have D9:=Rd.kW.on hl.1.to.ok hlg (hb zc)
   refine Tt.some ⟨(hl.1.trans D9).q fL,fun bJ=>?_⟩
   dsimp only
   omega
  ·refine(qH l.2 nest hl.1.to.ok hln hlg fj (by omega) (by rw [tC];omega)).bind fun s hs=>(xW (by omega) (by decide)).bind fun bK my=> ?_
   subst my
   have hq:ry r s.2:=(hl.1.q fL).trans hs.1
   cases hgs:s.2.good with
   | false=>
    cases n with
    |zero=>omega
    | succ n=>
     have e:Rd.dI m (n+1) nest body (out++ [{s.1 with labels:=l.1}]) s.2=some (([],[]),s.2):=by
      simp only[Rd.dI,hgs,zaa,↓reduceIte]
     rw[e]
     exact Tt.some ⟨hq,fun lQ=>by rw[hgs]at lQ;cases lQ⟩
   | true=>
    have a1:=hs.2 hgs
    have CZ:=hs.1.to.l
    have FB:=hs.1.to.ok.lt
    rw[CZ,tC]at FB
    refine(tq s.2 nest body _ hs.1.to.ok hs.1.n (by simp;omega) fj (by omega) (by rw[CZ,tC];omega)).mono fun p hp=>⟨hq.trans hp.1,fun bJ=>?_⟩
    have a2:=hp.2 bJ
    rw[Sm.qq]at a2
    have a3:Sm.size ⟨s.1.id,s.1.kind,l.1,s.1.name,s.1.proc,s.1.x,s.1.has,s.1.args,s.1.bb,s.1.aR⟩≤s.1.size+l.1.length:=by
     obtain⟨s1,s2⟩:=s
     cases s1
     simp only[Sm.size]
     omega
    omega
 ·simp only [Rd.rows]
  refine(tq r nest body [] h fL (zau _) fj (by omega) (by omega)).mono fun p hp=>⟨hp.1,fun bJ=>?_⟩
  have:=hp.2 bJ
  simp only[Sm.aQ]at this
  omega
 ·have hC:=h.lt
  simp only[Rd.block]
  refine(jJ h _).bind fun r1 h1=>?_
  have hl:=h1.1.to.l
  have hi:=h1.1.to.i
  have ew:=h1.1.to.ok.lt
  rw[hl]at ew
  rw[adt (by omega) (by omega),zam]
  refine(xU r1 (nest+1) false h1.1.to.ok (h1.1.q fL).n (by omega) (by omega) (by rw[hl];omega)).bind fun p hp=>Tt.some ⟨(h1.1.q fL).trans hp.1,fun bJ=>?_⟩
  have:=hp.2 bJ
  dsimp only
  omega
 ·have hC:=h.lt
  simp only[Rd.choice]
  refine(SV hm h).bind fun x hx=>?_
  have hl:=hx.1.to.l
  have hi:=hx.1.to.i
  have ew:=hx.1.to.ok.lt
  rw[hl]at ew
  refine(ih4 x.2 nest hx.1.to.ok (hx.1.q fL).n fj (by omega) (by rw[hl];omega)).bind fun t ht=>(nQ ht.1.to.ok _).bind fun q hq=>Tt.ite (fun hc=>?_) (fun hc=>?_)
  ·have ady:=ht.1.to.l
   have alA:=ht.1.to.i
   have qs:=hq.1.to.l
   have Da:=hq.1.to.i
   have hq3:=hq.1.to.ok.lt
   rw[qs,ady,hl]at hq3
   refine(ih4 q.2 nest hq.1.to.ok (hq.1.q ht.1.n).n fj (by omega) (by rw[qs,ady,hl];omega)).bind fun e he=>Tt.some ⟨(hx.1.q fL).trans (ht.1.trans ((hq.1.q ht.1.n).trans he.1)),fun bJ=>?_⟩
   have g1:=he.1.to.g bJ
   have g2:=hq.1.to.g g1
   have g3:=ht.1.to.g g2
   have a1:=he.2 bJ
   have a2:=ht.2 g2
   have a3:=hx.2 g3
   simp only[mr,Ar.aQ,zax]
   omega
  ·have Ea:q.1=false:=by simpa using hc
   rw[hq.2.2 Ea]
   refine Tt.some ⟨(hx.1.q fL).trans ht.1,fun bJ=>?_⟩
   have a2:=ht.2 bJ
   have a3:=hx.2 (ht.1.to.g bJ)
   simp only[mr,Ar.aQ,Sm.aQ,zax]
   omega
theorem adz {m n:Nat} (hm:6006≤m) {r:Rd} {body:Bool} (h:r.Ok) (fL:r.good=true→r.n≤200) (hn:10010≤n) (jI:n≤90000):Tt (Rd.rows m n 1 body r) (Ys r):=by
 have:=h.len
 exact(Z7 hm n).2.2.1 r 1 body h fL (by omega) (by omega) (by omega)
theorem W1 : ∀ (n:Nat) (l:List Pm) (r:Rd),r.Ok→l.length≤r.i→r.l.length - r.i≤n+1→0<n→
 Tt (Rd.params n l r) fun p=>r.kW p.2∧(p.2.good=true→p.1.length+r.i≤l.length+p.2.i):=by
 intro n
 induction n with
 |zero=>intro l r _ _ _ h;omega
 | succ n ih=>
  intro l r h hl hn _
  have hC:=h.lt
  have hlen:=h.len
  simp only[Rd.params]
  refine Tt.ite (fun hg=>?_) (fun hg=>Tt.some ⟨.refl h,fun _=>zaj _⟩)
  refine(nQ h _).bind fun q hq=>(sQ hq.1.to.ok _).bind fun x hx=>(xW (by omega) (by decide)).bind fun l' jP=>?_
  subst jP
  have hqi:=hq.1.to.i
  refine(nQ hx.1.to.ok _).bind fun c hc=>Tt.ite (fun C6=>?_) (fun C6=>?_)
  ·have tF:c.1=false:=by simpa using C6
   rw[hc.2.2 tF]
   refine Tt.some ⟨hq.1.trans hx.1,fun bJ=>?_⟩
   have:=hx.2 bJ
   simp;omega
  ·have hct:c.1=true:=by simpa using C6
   obtain⟨e1,e2,e3⟩:=hc.2.1 hct
   have h2:=hx.2 e2
   have l1:=hq.1.to.l
   have l2:=hx.1.to.l
   have l3:=hc.1.to.l
   have hi:=hc.1.to.ok.lt
   rw[l3,l2,l1]at hi
   refine(ih _ c.2 hc.1.to.ok (by simp;omega) (by rw[l3,l2,l1];omega) (by omega)).mono fun p hp=>⟨hq.1.trans (hx.1.trans (hc.1.trans hp.1)),fun bJ=>?_⟩
   have:=hp.2 bJ
   simp at this
   omega
theorem adA {m:Nat} (hm:6006≤m) : ∀ (n:Nat) (l:List aB) (r:Rd),r.Ok→l.length≤r.i→r.l.length - r.i+1≤n→
 Tt (Rd.vars m n l r) fun p=>r.kW p.2∧(p.2.good=true→p.1.length+r.i≤l.length+p.2.i):=by
 intro n
 induction n with
 |zero=>intro l r _ _ h;omega
 | succ n ih=>
  intro l r h hl hn
  have hC:=h.lt
  have hlen:=h.len
  simp only[Rd.vars]
  refine(nQ h _).bind fun q hq=>Tt.ite (fun hc=>?_) (fun hc=>?_)
  ·obtain⟨e1,e2,e3⟩:=hq.2.1 hc
   have l1:=hq.1.to.l
   have hi:=hq.1.to.ok.lt
   rw[l1]at hi
   refine(Mb m l 16 q.2 hq.1.to.ok (by omega) (by rw[l1];omega) (by omega)).bind fun x hx=>?_
   have l2:=hx.1.to.l
   have i2:=hx.1.to.i
   have lR:=hx.1.to.ok.lt
   rw[l2,l1]at lR
   cases jR:x.2.good with
   | false=>
    cases n with
    |zero=>omega
    | succ n=>
     have e:Rd.vars m (n+1) x.1 x.2=some (x.1,x.2):=by
      simp only[Rd.vars,Rd.take,jR,zao,↓reduceIte,zam,zaa]
     rw[e]
     exact Tt.some ⟨hq.1.trans hx.1,fun lQ=>by rw[jR]at lQ;cases lQ⟩
   |true=>
    refine(ih x.1 x.2 hx.1.to.ok (hx.2.2.2 jR) (by rw[l2,l1];omega)).mono fun p hp=>⟨hq.1.trans (hx.1.trans hp.1),fun bJ=>?_⟩
    have a1:=hp.2 bJ
    have a2:=hx.2.2.1 jR
    omega
  ·have Ea:q.1=false:=by simpa using hc
   rw[hq.2.2 Ea]
   exact Tt.some ⟨.refl h,fun _=>zaj _⟩
theorem Me {m:Nat} (hm:10010≤m) (BP:m≤90000) {name:aB} {ps:List Pm} {r:Rd} (h:r.Ok) (fL:r.good=true→r.n≤200) :
 Tt (Rd.jB m name ps r) fun p=>ry r p.2∧(p.2.good=true→p.1.size+8*r.i≤1+ps.length+8*p.2.i):=by
 have hlen:=h.len
 unfold Rd.jB
 refine(adA (by omega) m [] r h (zau _) (by omega)).bind fun v hv=>(adz (by omega) hv.1.to.ok (hv.1.q fL).n hm BP).bind fun b hb=>Tt.some ⟨(hv.1.q fL).trans hb.1,fun bJ=>?_⟩
 have a1:=hb.2 bJ
 have a2:=hv.2 (hb.1.to.g bJ)
 have a3:=hv.1.to.i
 simp only[Pc.size,zax]at a2 ⊢
 omega
theorem adB {m:Nat} (hm:10010≤m) (BP:m≤90000) {r:Rd} (h:r.Ok) (fL:r.good=true→r.n≤200) :
 Tt (Rd.proc m r) fun p=>ry r p.2∧(p.2.good=true→p.1.size+1+8*r.i≤8*p.2.i):=by
 have hlen:=h.len
 unfold Rd.proc
 refine(sQ h _).bind fun x hx=>(jJ hx.1.to.ok _).bind fun r1 h1=>(Md h1.1.to.ok _).bind fun b hb=>Tt.ite (fun hc=>?_) (fun hc=>?_)
 ·have l1:=h1.1.to.ok.len
  refine(W1 m [] r1 h1.1.to.ok (zau _) (by omega) (by omega)).bind fun q hq=>(jJ hq.1.to.ok _).bind fun r2 h2=>(jJ h2.1.to.ok _).bind fun r3 h3=>?_
  have q3:ry r r3:=(hx.1.q fL).trans ((h1.1.q (hx.1.q fL).n).trans ((hq.1.q (h1.1.q (hx.1.q fL).n).n).trans ((h2.1.q (hq.1.q (h1.1.q (hx.1.q fL).n).n).n).trans (h3.1.q (h2.1.q (hq.1.q (h1.1.q (hx.1.q fL).n).n).n).n))))
  refine(Me hm BP h3.1.to.ok q3.n).mono fun p hp=>⟨q3.trans hp.1,fun bJ=>?_⟩
  have g3:=hp.1.to.g bJ
  have g2:=h3.1.to.g g3
  have gq:=h2.1.to.g g2
  have g1:=hq.1.to.g gq
  have gx:=h1.1.to.g g1
  have a0:=hx.2 gx
  have a1:=h1.2 g1
  have a2:=hq.2 gq
  have a3:=h2.2 g2
  have a4:=h3.2 g3
  have a5:=hp.2 bJ
  simp only[zax]at a2
  omega
 ·refine(jJ h1.1.to.ok _).bind fun r2 h2=>(jJ h2.1.to.ok _).bind fun r3 h3=> ?_
  have q3:ry r r3:=(hx.1.q fL).trans ((h1.1.q (hx.1.q fL).n).trans ((h2.1.q (h1.1.q (hx.1.q fL).n).n).trans (h3.1.q (h2.1.q (h1.1.q (hx.1.q fL).n).n).n)))
  refine(Me hm BP h3.1.to.ok q3.n).mono fun p hp=>⟨q3.trans hp.1,fun bJ=>?_⟩
  have g3:=hp.1.to.g bJ
  have g2:=h3.1.to.g g3
  have g1:=h2.1.to.g g2
  have gx:=h1.1.to.g g1
  have a0:=hx.2 gx
  have a1:=h1.2 g1
  have a3:=h2.2 g2
  have a4:=h3.2 g3
  have a5:=hp.2 bJ
  simp only[zax]at a5
  omega
theorem SW {m:Nat} (hm:6006≤m) : ∀ (n:Nat) (l:List aB) (r:Rd),r.Ok→l.length≤r.i→r.l.length - r.i+1≤n→
 Tt (Rd.globals m n l r) fun p=>r.kW p.2∧(p.2.good=true→p.1.length+r.i≤l.length+p.2.i):=by
 intro n
 induction n with
 |zero=>intro l r _ _ h;omega
 | succ n ih=>
  intro l r h hl hn
  have hC:=h.lt
  have hlen:=h.len
  simp only[Rd.globals]
  refine(nQ h _).bind fun q hq=>Tt.ite (fun hc=>?_) (fun hc=>?_)
  ·obtain⟨e1,e2,e3⟩:=hq.2.1 hc
   have l1:=hq.1.to.l
   have hi:=hq.1.to.ok.lt
   rw[l1]at hi
   refine(Mb m l 16 q.2 hq.1.to.ok (by omega) (by rw[l1];omega) (by omega)).bind fun x hx=>?_
   have l2:=hx.1.to.l
   have i2:=hx.1.to.i
   have lR:=hx.1.to.ok.lt
   rw[l2,l1]at lR
   cases jR:x.2.good with
   | false=>
    cases n with
    |zero=>omega
    | succ n=>
     have e:Rd.globals m (n+1) x.1 x.2=some (x.1,x.2):=by
      simp only[Rd.globals,Rd.take,jR,zao,↓reduceIte,zam,zaa]
     rw[e]
     exact Tt.some ⟨hq.1.trans hx.1,fun lQ=>by rw[jR]at lQ;cases lQ⟩
   |true=>
    refine(ih x.1 x.2 hx.1.to.ok (hx.2.2.2 jR) (by rw[l2,l1];omega)).mono fun p hp=>⟨hq.1.trans (hx.1.trans hp.1),fun bJ=>?_⟩
    have a1:=hp.2 bJ
    have a2:=hx.2.2.1 jR
    omega
  ·have Ea:q.1=false:=by simpa using hc
   rw[hq.2.2 Ea]
   exact Tt.some ⟨.refl h,fun _=>zaj _⟩
theorem W2 {r:Rd} (h:r.Ok):Tt r.oJ fun b=>b=true→r.good=true∧r.i+1<r.l.length:=by
 unfold Rd.oJ
 exact Tt.ite (fun hg=>(Fl h _).mono fun b hb zc=>⟨hg,hb zc⟩) (fun hg=>Tt.some (by simp))
theorem W3 {r:Rd} (h:r.Ok):Tt r.mP fun b=>b=true→r.good=true:=by
 unfold Rd.mP
 exact Tt.ite (fun hg=>(oT h).bind fun t _=>Tt.some fun _=>hg) (fun hg=>Tt.some (by simp))
theorem Z8 {m:Nat} (hm:10010≤m) (BP:m≤90000) : ∀ (n:Nat) (l:List Pc) (r:Rd),r.Ok→(r.good=true→r.n≤200)→l.length≤r.i→r.l.length - r.i+1≤n→
 Tt (Rd.procs m n l r) fun p=>ry r p.2∧(p.2.good=true→Pc.aQ p.1+8*r.i≤Pc.aQ l+8*p.2.i):=by
 intro n
 induction n with
 |zero=>intro l r _ _ _ h;omega
 | succ n ih=>
  intro l r h fL hl hn
  have hC:=h.lt
  have hlen:=h.len
  simp only[Rd.procs]
  have tail : ∀ r1:Rd,r1.Ok→(r1.good=true→r1.n≤200)→∀ l1:List Pc,Tt (r1.mP.bind fun b=>if b then(r1.bad 3).bind fun r=>some (l1,r)else some (l1,r1)) fun p=>ry r1 p.2∧(p.2.good=true→Pc.aQ p.1+8*r1.i≤Pc.aQ l1+8*p.2.i):=by
   intro r1 pO Ma l1
   refine(W3 pO).bind fun b hb=>Tt.ite (fun hc=>?_) (fun hc=>Tt.some ⟨(Rd.kW.refl pO).q Ma,fun _=>zaj _⟩)
   exact(vW pO (by decide)).bind fun r' hr=>Tt.some ⟨hr.1.q Ma,fun hg=>by rw[hr.2.1]at hg;cases hg⟩
  refine(W2 h).bind fun b hb=>Tt.ite (fun hc=>?_) (fun hc=>tail r h fL l)
  obtain⟨hg,hi1⟩:=hb hc
  refine Tt.ite (fun uk=>?_) (fun uk=>?_)
  ·exact(vW h (by decide)).bind fun r' hr=>Tt.some ⟨hr.1.q fL,fun hg=>by rw[hr.2.1]at hg;cases hg⟩
  have D9:=Rd.kW.on h hg hi1
  refine(adB hm BP D9.to.ok (D9.q fL).n).bind fun x hx=>(xW (by omega) (by decide)).bind fun l' jP=>?_
  subst jP
  have hq:=(D9.q fL).trans hx.1
  have l2:=hx.1.to.l
  have i2:=hx.1.to.i
  have lR:=hx.1.to.ok.lt
  dsimp only at l2 i2
  rw[l2]at lR
  cases jR:x.2.good with
  | false=>
   cases n with
   |zero=>omega
   | succ n=>
    have e:Rd.procs m (n+1) (l++ [x.1]) x.2=some (l++ [x.1],x.2):=by
     simp only[Rd.procs,Rd.oJ,Rd.mP,jR,↓reduceIte,zam,zaa]
    rw[e]
    exact Tt.some ⟨hq,fun lQ=>by rw[jR]at lQ;cases lQ⟩
  |true=>
   have a0:=hx.2 jR
   dsimp only at a0
   refine(ih (l++ [x.1]) x.2 hx.1.to.ok hx.1.n (by simp;omega) (by rw[l2];omega)).mono fun p hp=>⟨hq.trans hp.1,fun bJ=>?_⟩
   have a1:=hp.2 bJ
   rw[Pc.qq]at a1
   omega
theorem SX {m:Nat} (hm:10010≤m) (BP:m≤90000) {r:Rd} (h:r.Ok) (h0:r.i=0) (hn:r.n=0):Tt (Rd.program m r) fun p=>ry r p.2∧(p.2.good=true→p.1.size≤1+9*p.2.i):=by
 have hlen:=h.len
 unfold Rd.program
 have fL:r.good=true→r.n≤200:=fun _=>by omega
 refine(SW (by omega) m [] r h (zau _) (by omega)).bind fun g hg=>?_
 have l1:=hg.1.to.l
 refine(Z8 hm BP m [] g.2 hg.1.to.ok (hg.1.q fL).n (zau _) (by rw[l1];omega)).bind fun q hq=>Tt.some ⟨(hg.1.q fL).trans hq.1,fun bJ=>?_⟩
 have a1:=hq.2 bJ
 have a2:=hg.2 (hq.1.to.g bJ)
 have a3:=hq.1.to.i
 simp only[Pg.size,Pc.aQ,zax]at a1 a2 ⊢
 omega
def yI (t:bN):Prop:=1≤t.kind∧t.kind≤4
theorem Z9 {pos:Nat} {s:aB} {t:bN} (h:fV pos s = .inl t):yI t:=by
 cases s with
 |nil=>simp only[fV]at h;cases h
 | cons c r=>
  simp only[fV]at h
  split at h
  ·split at h
   ·cases h
   ·cases h;simp only[yI];split<;>omega
  ·split at h
   ·split at h
    ·cases h
    ·split at h
     ·cases h;simp[yI]
     ·cases h
   ·split at h
    ·cases h
    ·cases h;simp[yI]
theorem aac : ∀ (n pos:Nat) (s:aB) (out:List bN),s.length<n→out.length≤2000→(∀ t∈out,yI t)→
 (fR n pos s out).2.1=0→∃ l e,(fR n pos s out).1=l++ [e]∧e.kind=0∧l.length≤2000∧∀ t∈l,yI t:=by
 intro n
 induction n with
 |zero=>intro pos s out h;omega
 | succ n ih=>
  intro pos s out hn ho oE h
  cases s with
  |nil=>exact⟨out,⟨0,[],0,pos⟩,by simp[fR],rfl,ho,oE⟩
  | cons c r=>
   simp only[zal]at hn
   simp only[fR]at h ⊢
   split
   ·rename_i hb
    rw[if_pos hb]at h
    exact ih _ _ _ (by omega) ho oE h
   ·rename_i hb
    rw[if_neg hb]at h
    split
    ·rename_i hc
     rw[if_pos hc]at h
     have p8:0<gF (c::r):=by
      have:((c.toNat:Int) != 10)=true:=by simp only[beq_iff_eq]at hc;simp[hc]
      simp[gF,this]
     exact ih _ _ _ (by rw[zaI,zal];omega) ho oE h
    ·rename_i hc
     rw[if_neg hc]at h
     cases ht:fV pos (c::r)with
     | inr e=>
      simp only[ht]at h
      exfalso
      have:e=2∨e=4:=by
       simp only[fV]at ht
       repeat' split at ht
       all_goals first|(cases ht;simp;done)|cases ht
      omega
     | inl t=>
      simp only[ht]at h ⊢
      split
      ·rename_i h2
       rw[if_pos h2]at h
       cases h
      ·rename_i h2
       rw[if_neg h2]at h
       have p8:0<t.text.length:=by
        have : ∀ s:aB,t.text=s→0<s.length→0<t.text.length:=fun s e h=>by rw[e];exact h
        simp only[fV]at ht
        cases hL:lG c
        ·simp only [hL,zaa, ↓reduceIte]at ht
         cases hD:iH c
         ·simp only [hD,zaa, ↓reduceIte]at ht
          split at ht
          ·cases ht
          ·cases ht;simp only[zaL,zal];omega
         ·have k0:0<iY (c::r):=by simp [iY,hD]
          simp only[hD,↓reduceIte]at ht
          split at ht
          ·cases ht
          ·split at ht
           ·cases ht;simp only[zaL,zal];omega
           ·cases ht
        ·have k0:0<fu (c::r):=by simp [fu,hL]
         simp only[hL,↓reduceIte]at ht
         split at ht
         ·cases ht
         ·cases ht;simp only[zaL,zal];omega
       refine ih _ _ _ (by rw[zaI,zal];omega) (by simp;omega) ?_ h
       intro t' mB
       rcases zaB.1 mB with h3|h3
       ·exact oE t' h3
       ·simp at h3;subst h3;exact Z9 ht
theorem SY {text:aB} (h:(eX text).2.1=0):(q8 (eX text).1).Ok:=by
 unfold eX at h ⊢
 split at h
 ·cases h
 ·rename_i hl
  rw[if_neg hl]
  obtain⟨l,e,h1,h2,h3,h4⟩:=aac _ 0 text [] (zac _) (zau _) (by simp) h
  rw[h1]
  refine⟨fun t ht=>?_,by simp[q8],by simp[q8];omega,fun t ht=>?_,by simp[q8]⟩
  ·simp only [q8]at ht
   rcases zaB.1 ht with h5|h5
   ·have:=h4 t h5;simp only[yI]at this;omega
   ·simp at h5;subst h5;omega
  ·simp only [q8,zak,List.length_singleton,Nat.add_sub_cancel]at ht
   rw[zav (zaj _)]at ht
   simp at ht
   subst ht
   exact h2
def Bm:Nat:=20000
mutual
theorem Sm.W4 (b:Bool) (n:Nat) : ∀ s:Sm,(Sm.num b n s).1.size=s.size
 |⟨id,kind,labels,name,proc,x,has,args,bb,aR⟩=>by
  simp only[Sm.num,Sm.size,Sm.oU b _ bb,Sm.oU b _ aR]
theorem Sm.oU (b:Bool) (n:Nat) : ∀ l:List Sm,Sm.aQ (Sm.b7 b n l).1=Sm.aQ l
 | []=>rfl
 |s::l=>by simp only[Sm.b7,Sm.aQ,Sm.W4 b _ s,Sm.oU b _ l]
end
theorem Pc.oU : ∀ (n:Nat) (l:List Pc),Pc.aQ (Pc.b7 n l)=Pc.aQ l
 |n,[]=>rfl
 |n,f::l=>by simp only[Pc.b7,Pc.aQ,Pc.size,Sm.oU,Pc.oU _ l]
theorem Pg.Lc (p:Pg):p.number.size=p.size:=by simp only[Pg.number,Pg.size,Pc.oU]
theorem W5 (text:aB):Tt (l9 Bm text) fun p=>p.1.size<100000:=by
 unfold l9
 refine Tt.ite (fun hz=>Tt.some (by simp[tz,Pg.size,Pc.aQ])) (fun hz=>?_)
 have h0:(eX text).2.1=0:=by simpa using hz
 have oE:=SY h0
 refine(SX (by decide) (by decide) oE rfl rfl).bind fun p hp=>Tt.ite (fun _=>Tt.some (by simp[tz,Pg.size,Pc.aQ])) (fun hc=>?_)
 have hg:p.2.good=true:=by simpa[Rd.good]using hc
 have hs:=hp.2 hg
 have hi:=hp.1.to.ok.lt
 have hl:=hp.1.to.ok.len
 have:p.1.size<1073741824:=by omega
 simp only[Pg.qk,this,↓reduceIte,zam]
 refine Tt.some ?_
 rw[Pg.Lc]
 omega
theorem JS:l9 Bm source=some (pg,0,0):=by kernel_rfl
theorem PJ:source.length<4611686018427387904:=by simp[source]
theorem Gz:Nat.ble (pg.size+1) 1000=true:=by kernel_rfl
theorem PK:pg.size<1073741824:=Nat.lt_of_lt_of_le (za8 Gz) (za8 rfl)
def gU:Int→aB→Int
 |n,[]=>n
 |n,c::r=>gU (n*10+((c.toNat:Int) - 48)) r
theorem Mf : ∀ (s:aB) (n:Int),0≤n→(∀ c∈s,iH c=true)→n*10 ^ s.length≤gU n s
 | [],n,h,_=>by simp[gU]
 |c::r,n,h,hd=>by
  have hc:=oL (hd c (zaE ..))
  have ih:=Mf r (n*10+((c.toNat:Int) - 48)) (by omega) (fun d hm=>hd d (zaA _ hm))
  simp only[gU,zal]
  refine Int.le_trans ?_ ih
  rw[Int.pow_succ, ← Int.mul_assoc,Int.mul_assoc n,Int.mul_comm (10 ^ r.length) 10, ← Int.mul_assoc]
  exact Int.mul_le_mul_of_nonneg_right (by omega) (Int.pow_nonneg (by decide))
theorem vX : ∀ (s:aB) (n:Int),0≤n→(∀ c∈s,iH c=true)→n≤gU n s
 | [],n,h,_=>by simp[gU]
 |c::r,n,h,hd=>by
  have hc:=oL (hd c (zaE ..))
  have ih:=vX r (n*10+((c.toNat:Int) - 48)) (by omega) (fun d hm=>hd d (zaA _ hm))
  simp only[gU]
  omega
theorem Mg : ∀ (s:aB) (n:Int),0≤n→(∀ c∈s,iH c=true)→gU n s<(n+1)*10 ^ s.length
 | [],n,h,_=>by simp[gU];omega
 |c::r,n,h,hd=>by
  have hc:=oL (hd c (zaE ..))
  have ih:=Mg r (n*10+((c.toNat:Int) - 48)) (by omega) (fun d hm=>hd d (zaA _ hm))
  simp only[gU,zal]
  refine Int.lt_of_lt_of_le ih ?_
  rw[Int.pow_succ, ← Int.mul_assoc,Int.mul_assoc (n+1),Int.mul_comm (10 ^ r.length) 10, ← Int.mul_assoc]
  exact Int.mul_le_mul_of_nonneg_right (by omega) (Int.pow_nonneg (by decide))
theorem GC : ∀ (s:aB) (n:Int),0≤n→n≤9223372036854775807→(∀ c∈s,iH c=true)→oc n s=if gU n s≤9223372036854775807 then some (gU n s)else none
 | [],n,h,h2,_=>by simp[oc,gU,h2]
 | c::r,n,h,h2,hd=>by
  have hc:=oL (hd c (zaE ..))
  have hr : ∀ d∈r,iH d=true:=fun d hm=>hd d (zaA _ hm)
  have e:gU n (c::r)=gU (n*10+((c.toNat:Int) - 48)) r:=rfl
  rw[e]
  simp only[oc]
  by_cases hn:n > (9223372036854775807 - ((c.toNat:Int) - 48)) / 10
  ·rw [if_pos hn]
   have:=vX r (n*10+((c.toNat:Int) - 48)) (by omega) hr
   rw[if_neg (by omega)]
  ·rw [if_neg hn]
   exact GC r _ (by omega) (by omega) hr
theorem AL {x:Int} (h1:0≤x) (h2:x<18446744073709551616):IntKind.wrap .u64 x=x:=by
 simp[IntKind.wrap,IntKind.bits,IntKind.signed];omega
theorem aad {text:aB} (hd : ∀ c∈text,iH c=true) (hl:text.length≤19) (s:St) :
 aC Tryz.prog 187 [.str text] s (.tuple [.int .i64 (IntKind.wrap .i64 (gU 0 text)), .bool (decide (gU 0 text≤9223372036854775807))]) s:=by
 refine aC.pure ?_ rfl rfl s
 have kh:decide ((text.length:Int) > 19)=false:=by simp;omega
 have alB:gU 0 text<10000000000000000000:=by
  have h1:=Mg text 0 (za9 0) hd
  have h2:(10:Int) ^ text.length≤10 ^ 19:=by
   have:(10:Nat) ^ text.length≤10 ^ 19:=Nat.pow_le_pow_right (by decide) hl
   have e1:((10 ^ text.length:Nat):Int)=(10:Int) ^ text.length:=by simp
   have e2:((10 ^ 19:Nat):Int)=(10:Int) ^ 19:=by simp
   rw[← e1, ← e2];exact_mod_cast this
  have h3:(10:Int) ^ 19=10000000000000000000:=by decide
  omega
 unfold S0
 refine aC.go xq.h rfl fun B Q hB hQ=>?_
 have⟨hC,hE,hF,hS⟩:=bt
 repeat' (first
 |simp only[go_sem,hC,hE,hF,hS,kh]
 |(with_reducible refine ay hQ ?_;exact aK))
 refine b8 0 0 (aV.ind (ι:=aB×Nat×Int) (fun i=>text.drop i.2.1=i.1∧0≤i.2.2∧gU i.2.2 i.1=gU 0 text) (fun i=>i.1.length)
  (fun i=> [(0, .str text),(4, .int .u64 i.2.2),(5, .int .i64 (i.2.1:Int))]) (fun i=>⟨[],[]⟩) ?_ (text,0,0) ⟨rfl,za9 0,rfl⟩)
 rintro⟨rest,k,n⟩ ⟨h1,h2,h3⟩ IH
 dsimp only at h1 h2 h3
 cases rest with
 |nil=>
  have hC:=drop_nil h1
  simp only[gU]at h3
  rw[← h3]at hQ
  repeat' (first
 |simp only[go_sem,hC,hE,hF,hS]
 |(with_reducible refine ay hQ ?_;exact aK))
 | cons c rest=>
  obtain⟨hE,g2,hC,g4⟩:=drop_cons h1
  have hF:k<4611686018427387904:=by omega
  have hc:=oL (hd c (zae hE))
  simp only[gU]at h3
  have ak3:=vX rest (n*10+((c.toNat:Int) - 48)) (by omega) (fun d hm=>hd d (by
   have:d∈text.drop k:=by rw[h1];exact zaA _ hm
   exact zbm this))
  have w1:IntKind.wrap .u8 ((c.toNat:Int) - 48)=(c.toNat:Int) - 48:=by rw[IntKind.wrap_u8];omega
  have w2:IntKind.wrap .u64 ((c.toNat:Int) - 48)=(c.toNat:Int) - 48:=by exact AL (by omega) (by omega)
  have w3:IntKind.wrap .u64 (n*10)=n*10:=by exact AL (by omega) (by omega)
  have w4:IntKind.wrap .u64 (n*10+((c.toNat:Int) - 48))=n*10+((c.toNat:Int) - 48):=by exact AL (by omega) (by omega)
  repeat' (first
 |simp only[go_sem,hC,hE,hF,hS,w1,w2,w3,w4]
 |(with_reducible refine ay hQ ?_;exact aK))
  refine b8 0 0 (IH (rest,k+1,n*10+((c.toNat:Int) - 48)) ⟨g2,by dsimp only;omega,h3⟩ (zac _))
theorem SZ {text:aB} (hl:text.length > 19) (s:St):aC Tryz.prog 187 [.str text] s (.tuple [.int .i64 0, .bool false]) s:=by
 refine aC.pure ?_ rfl rfl s
 have kh:decide ((text.length:Int) > 19)=true:=by simp;omega
 unfold S0
 refine aC.go xq.h rfl fun B Q hB hQ=>?_
 have⟨hC,hE,hF,hS⟩:=bt
 repeat' (first
 |simp only[go_sem,hC,hE,hF,hS,kh]
 |(with_reducible refine ay hQ ?_;exact aK))
theorem PN {s:aB} (h:isWord s=true):s.length≤8:=by
 simp only[isWord,zay,beq_iff_eq]at h
 rcases h with ((((((((((((h|h)|h)|h)|h)|h)|h)|h)|h)|h)|h)|h)|h)<;>subst h<;>decide
def CA:bN:=⟨0,[],0,0⟩
def q9 (x:bN ⊕ Int):bN×Int:=
 match x with
 | .inl t=>(t,0)
 | .inr e=>(CA,e)
theorem aae {c:UInt8} {r:aB} {pos:Nat} (hl:(c::r).length<4611686018427387904) (s:St) :
 aC Tryz.prog 154 [.str (c::r), .int .i64 (pos:Int)] s (.tuple [.agg (dt (q9 (fV pos (c::r))).1), .int .i64 (q9 (fV pos (c::r))).2]) s:=by
 refine aC.pure ?_ rfl (by simp[D.ok,D.bP,Dh]) s
 generalize h:q9 (fV pos (c::r))=p
 simp only[fV]at h
 have tD:=fun s=>RI hl s
 have za:=fun s=>O4 hl s
 have fj:=yo (c::r)
 have bm:=yp (c::r)
 have eS:=Ab (c::r)
 have hs:=fun s=>Zm (c:=c) (r:=r) s
 have rI:=Co (c::r)
 generalize hK1:fu (c::r)=k1 at h tD fj
 generalize QU:iY (c::r)=k2 at h za bm rI
 generalize hK3:kv (c::r)=k3 at h hs eS
 have l1:((c::r).take k1).length=k1:=by rw[zaL];omega
 have l2:((c::r).take k2).length=k2:=by rw[zaL];omega
 unfold S0
 cases hL:lG c
 ·simp only [hL,zaa, ↓reduceIte]at h
  cases hD:iH c
  ·simp only [hD,zaa, ↓reduceIte]at h
   have e1:(0:Int)≤(k3:Int)∧(k3:Int)≤((c::r).length:Int):=by omega
   simp only[zal]at e1
   by_cases hz:k3=0
   ·have sP:((k3:Int)==0)=true:=by simp [hz]
    simp only[hz,↓reduceIte,q9,CA]at h
    refine aC.go hO.h rfl fun B Q hB hQ=>?_
    have⟨hC,hE,hF,hS⟩:=bt
    repeat' (first
 |simp only[go_sem,hC,hE,hF,hS,hL,hD,sP]
 |(with_reducible refine CU (gT _ _) ?_)
 |(with_reducible refine CU (iZ _ _) ?_)
 |(with_reducible refine CU (hs _) ?_)
 |(with_reducible first|refine aX fun hc=>?_|refine aY fun hc=>?_|refine aZ (fun hc=>?_) fun hc=>?_)<;>(try simp only[hc,bs,↓reduceIte]at h)<;>try simp only[hc]
 | ((with_reducible refine ay hQ ?_);(try cases h);simp only [bp,bq,bS,bT,go_sem,hC,hE,hF,hS,hL,hD,sP];try exact cp))
   ·have sP:((k3:Int)==0)=false:=by simp;omega
    simp only[hz,↓reduceIte,q9]at h
    refine aC.go hO.h rfl fun B Q hB hQ=>?_
    have⟨hC,hE,hF,hS⟩:=bt
    repeat' (first
 |simp only[go_sem,hC,hE,hF,hS,hL,hD,sP,e1]
 |(with_reducible refine CU (gT _ _) ?_)
 |(with_reducible refine CU (iZ _ _) ?_)
 |(with_reducible refine CU (hs _) ?_)
 |(with_reducible first|refine aX fun hc=>?_|refine aY fun hc=>?_|refine aZ (fun hc=>?_) fun hc=>?_)<;>(try simp only[hc,bs,↓reduceIte]at h)<;>try simp only[hc]
 | ((with_reducible refine ay hQ ?_);(try cases h);simp only [bp,bq,bS,bT,go_sem,hC,hE,hF,hS,hL,hD,sP,e1];try exact cp))
  ·simp only [hD, ↓reduceIte,l2]at h
   have sL:0<k2:=by rw[← QU];simp[iY,hD]
   have e1:(0:Int)≤(k2:Int)∧(k2:Int)≤((c::r).length:Int):=by omega
   simp only[zal]at e1
   have dR:((c::r).take k2)[0]? = some c:=by rw[za5 sL];rfl
   by_cases hz:k2 > 1∧(c.toNat:Int)=48
   ·have z1:decide ((k2:Int) > 1)=true:=by simp;omega
    have z2:((c.toNat:Int)==48)=true:=by simp[hz.2]
    rw[if_pos hz]at h
    simp only[q9,CA]at h
    refine aC.go hO.h rfl fun B Q hB hQ=>?_
    have⟨hC,hE,hF,hS⟩:=bt
    repeat' (first
 |simp only[go_sem,hC,hE,hF,hS,hL,hD,z1,z2,e1,l2,dR]
 |(with_reducible refine CU (gT _ _) ?_)
 |(with_reducible refine CU (iZ _ _) ?_)
 |(with_reducible refine CU (za _) ?_)
 |(with_reducible first|refine aX fun hc=>?_|refine aY fun hc=>?_|refine aZ (fun hc=>?_) fun hc=>?_)<;>(try simp only[hc,bs,↓reduceIte]at h)<;>try simp only[hc]
 | ((with_reducible refine ay hQ ?_);(try cases h);simp only [bp,bq,bS,bT,go_sem,hC,hE,hF,hS,hL,hD,z1,z2,e1,l2,dR];try exact cp))
   ·have sP:decide ((k2:Int) > 1)=false∨(decide ((k2:Int) > 1)=true∧((c.toNat:Int)==48)=false):=by
     by_cases h1:k2 > 1
     ·right;exact⟨by simp;omega,by simp;intro h2;exact hz ⟨h1,h2⟩⟩
     ·left;simp;omega
    rw[if_neg hz]at h
    rw[GC _ _ (za9 0) (by decide) rI]at h
    have hw:aC Tryz.prog 187 [.str ((c::r).take k2)] S0 (.tuple [.int .i64 (if gU 0 ((c::r).take k2)≤9223372036854775807 then gU 0 ((c::r).take k2)else 0), .bool (decide (gU 0 ((c::r).take k2)≤9223372036854775807))]) S0∨
     (¬ gU 0 ((c::r).take k2)≤9223372036854775807∧∃ v:Int,aC Tryz.prog 187 [.str ((c::r).take k2)] S0 (.tuple [.int .i64 v, .bool false]) S0):=by
     by_cases Um:k2 > 19
     ·right
      refine⟨?_,0,SZ (by rw[l2];omega) S0⟩
      have h48 : ¬ (c.toNat:Int)=48:=fun e=>hz ⟨by omega,e⟩
      have hc:=oL hD
      have adC:(c::r).take k2=c::r.take (k2 - 1):=by
       cases k2 with
       |zero=>omega
       |succ k=>rfl
      rw[adC]
      have dN:=Mf (r.take (k2 - 1)) ((c.toNat:Int) - 48) (by omega) (fun d hm=>rI d (by rw[adC];exact zaA _ hm))
      have hlen:(r.take (k2 - 1)).length=k2 - 1:=by rw[zaL];simp only[zal]at bm;omega
      rw[hlen]at dN
      have hp:(10:Int) ^ 19≤10 ^ (k2 - 1):=by
       have:(10:Nat) ^ 19≤10 ^ (k2 - 1):=Nat.pow_le_pow_right (by decide) (by omega)
       have e1:((10 ^ (k2 - 1):Nat):Int)=(10:Int) ^ (k2 - 1):=by simp
       have e2:((10 ^ 19:Nat):Int)=(10:Int) ^ 19:=by simp
       rw[← e1, ← e2];exact_mod_cast this
      have h19:(10:Int) ^ 19=10000000000000000000:=by decide
      have hm:(1:Int)*10 ^ (k2 - 1)≤((c.toNat:Int) - 48)*10 ^ (k2 - 1):=Int.mul_le_mul_of_nonneg_right (by omega) (Int.pow_nonneg (by decide))
      have:gU 0 (c::r.take (k2 - 1))=gU ((c.toNat:Int) - 48) (r.take (k2 - 1)):=by simp[gU]
      omega
     ·have hW:=aad rI (by rw [l2];omega) S0
      by_cases hv:gU 0 ((c::r).take k2)≤9223372036854775807
      ·left
       have h0:=vX _ 0 (za9 0) rI
       rw[cL (by omega) (by omega)]at hW
       simpa[hv]using hW
      ·right
       refine⟨hv,IntKind.wrap .i64 (gU 0 ((c::r).take k2)), ?_⟩
       have:decide (gU 0 ((c::r).take k2)≤9223372036854775807)=false:=by simpa using hv
       rw[this]at hW
       exact hW
    rcases hw with hw|⟨hv,v,hw⟩
    ·by_cases hv:gU 0 ((c::r).take k2)≤9223372036854775807
     ·have hv':decide (gU 0 ((c::r).take k2)≤9223372036854775807)=true:=by simpa using hv
      rw[if_pos hv]at h hw
      rw[hv']at hw
      simp only[q9]at h
      have tH:=fun s=>hw.pure rfl rfl s
      refine aC.go hO.h rfl fun B Q hB hQ=>?_
      have⟨hC,hE,hF,hS⟩:=bt
      rcases sP with z1|⟨z1,z2⟩
      ·repeat' (first
 |simp only[go_sem,hC,hE,hF,hS,hL,hD,z1,e1,l2,dR]
 |(with_reducible refine CU (gT _ _) ?_)
 |(with_reducible refine CU (iZ _ _) ?_)
 |(with_reducible refine CU (za _) ?_)
 |(with_reducible refine CU (tH _) ?_)
 |(with_reducible first|refine aX fun hc=>?_|refine aY fun hc=>?_|refine aZ (fun hc=>?_) fun hc=>?_)<;>(try simp only[hc,bs,↓reduceIte]at h)<;>try simp only[hc]
 |((with_reducible refine ay hQ ?_);(try cases h);simp only[bp,bq,bS,bT,go_sem,hC,hE,hF,hS,hL,hD,z1,e1,l2,dR];try exact cp))
      ·repeat' (first
 |simp only[go_sem,hC,hE,hF,hS,hL,hD,z1,z2,e1,l2,dR]
 |(with_reducible refine CU (gT _ _) ?_)
 |(with_reducible refine CU (iZ _ _) ?_)
 |(with_reducible refine CU (za _) ?_)
 |(with_reducible refine CU (tH _) ?_)
 |(with_reducible first|refine aX fun hc=>?_|refine aY fun hc=>?_|refine aZ (fun hc=>?_) fun hc=>?_)<;>(try simp only[hc,bs,↓reduceIte]at h)<;>try simp only[hc]
 |((with_reducible refine ay hQ ?_);(try cases h);simp only[bp,bq,bS,bT,go_sem,hC,hE,hF,hS,hL,hD,z1,z2,e1,l2,dR];try exact cp))
     ·have hv':decide (gU 0 ((c::r).take k2)≤9223372036854775807)=false:=by simpa using hv
      rw[if_neg hv]at h hw
      rw[hv']at hw
      simp only[q9,CA]at h
      have tH:=fun s=>hw.pure rfl rfl s
      refine aC.go hO.h rfl fun B Q hB hQ=>?_
      have⟨hC,hE,hF,hS⟩:=bt
      rcases sP with z1|⟨z1,z2⟩
      ·repeat' (first
 |simp only[go_sem,hC,hE,hF,hS,hL,hD,z1,e1,l2,dR]
 |(with_reducible refine CU (gT _ _) ?_)
 |(with_reducible refine CU (iZ _ _) ?_)
 |(with_reducible refine CU (za _) ?_)
 |(with_reducible refine CU (tH _) ?_)
 |(with_reducible first|refine aX fun hc=>?_|refine aY fun hc=>?_|refine aZ (fun hc=>?_) fun hc=>?_)<;>(try simp only[hc,bs,↓reduceIte]at h)<;>try simp only[hc]
 |((with_reducible refine ay hQ ?_);(try cases h);simp only[bp,bq,bS,bT,go_sem,hC,hE,hF,hS,hL,hD,z1,e1,l2,dR];try exact cp))
      ·repeat' (first
 |simp only[go_sem,hC,hE,hF,hS,hL,hD,z1,z2,e1,l2,dR]
 |(with_reducible refine CU (gT _ _) ?_)
 |(with_reducible refine CU (iZ _ _) ?_)
 |(with_reducible refine CU (za _) ?_)
 |(with_reducible refine CU (tH _) ?_)
 |(with_reducible first|refine aX fun hc=>?_|refine aY fun hc=>?_|refine aZ (fun hc=>?_) fun hc=>?_)<;>(try simp only[hc,bs,↓reduceIte]at h)<;>try simp only[hc]
 | ((with_reducible refine ay hQ ?_);(try cases h);simp only [bp,bq,bS,bT,go_sem,hC,hE,hF,hS,hL,hD,z1,z2,e1,l2,dR];try exact cp))
    ·rw [if_neg hv]at h
     simp only[q9,CA]at h
     have tH:=fun s=>hw.pure rfl rfl s
     refine aC.go hO.h rfl fun B Q hB hQ=>?_
     have⟨hC,hE,hF,hS⟩:=bt
     rcases sP with z1|⟨z1,z2⟩
     ·repeat' (first
 |simp only[go_sem,hC,hE,hF,hS,hL,hD,z1,e1,l2,dR]
 |(with_reducible refine CU (gT _ _) ?_)
 |(with_reducible refine CU (iZ _ _) ?_)
 |(with_reducible refine CU (za _) ?_)
 |(with_reducible refine CU (tH _) ?_)
 |(with_reducible first|refine aX fun hc=>?_|refine aY fun hc=>?_|refine aZ (fun hc=>?_) fun hc=>?_)<;>(try simp only[hc,bs,↓reduceIte]at h)<;>try simp only[hc]
 |((with_reducible refine ay hQ ?_);(try cases h);simp only[bp,bq,bS,bT,go_sem,hC,hE,hF,hS,hL,hD,z1,e1,l2,dR];try exact cp))
     ·repeat' (first
 |simp only[go_sem,hC,hE,hF,hS,hL,hD,z1,z2,e1,l2,dR]
 |(with_reducible refine CU (gT _ _) ?_)
 |(with_reducible refine CU (iZ _ _) ?_)
 |(with_reducible refine CU (za _) ?_)
 |(with_reducible refine CU (tH _) ?_)
 |(with_reducible first|refine aX fun hc=>?_|refine aY fun hc=>?_|refine aZ (fun hc=>?_) fun hc=>?_)<;>(try simp only[hc,bs,↓reduceIte]at h)<;>try simp only[hc]
 |((with_reducible refine ay hQ ?_);(try cases h);simp only[bp,bq,bS,bT,go_sem,hC,hE,hF,hS,hL,hD,z1,z2,e1,l2,dR];try exact cp))
 ·simp only [hL, ↓reduceIte,l1]at h
  have e1:(0:Int)≤(k1:Int)∧(k1:Int)≤((c::r).length:Int):=by omega
  simp only[zal]at e1
  cases hw:isWord ((c::r).take k1)
  ·by_cases hz:k1 > 8
   ·have z1:decide ((k1:Int) > 8)=true:=by simp;omega
    simp only[hz,↓reduceIte,q9,CA]at h
    refine aC.go hO.h rfl fun B Q hB hQ=>?_
    have⟨hC,hE,hF,hS⟩:=bt
    repeat' (first
 |simp only[go_sem,hC,hE,hF,hS,hL,hw,e1,l1,z1]
 |(with_reducible refine CU (gT _ _) ?_)
 |(with_reducible refine CU (tD _) ?_)
 |(with_reducible refine CU (Ba _ _) ?_)
 |(with_reducible first|refine aX fun hc=>?_|refine aY fun hc=>?_|refine aZ (fun hc=>?_) fun hc=>?_)<;>(try simp only[hc,bs,↓reduceIte]at h)<;>try simp only[hc]
 | ((with_reducible refine ay hQ ?_);(try cases h);simp only [bp,bq,bS,bT,go_sem,hC,hE,hF,hS,hL,hw,e1,l1,z1];try exact cp))
   ·have z1:decide ((k1:Int) > 8)=false:=by simp;omega
    simp only[hz,↓reduceIte,q9,hw,zaa]at h
    refine aC.go hO.h rfl fun B Q hB hQ=>?_
    have⟨hC,hE,hF,hS⟩:=bt
    repeat' (first
 |simp only[go_sem,hC,hE,hF,hS,hL,hw,e1,l1,z1]
 |(with_reducible refine CU (gT _ _) ?_)
 |(with_reducible refine CU (tD _) ?_)
 |(with_reducible refine CU (Ba _ _) ?_)
 |(with_reducible first|refine aX fun hc=>?_|refine aY fun hc=>?_|refine aZ (fun hc=>?_) fun hc=>?_)<;>(try simp only[hc,bs,↓reduceIte]at h)<;>try simp only[hc]
 | ((with_reducible refine ay hQ ?_);(try cases h);simp only [bp,bq,bS,bT,go_sem,hC,hE,hF,hS,hL,hw,e1,l1,z1];try exact cp))
  ·have hz : ¬ k1 > 8:=by have:=PN hw;omega
   simp only[hz,↓reduceIte,q9,hw]at h
   refine aC.go hO.h rfl fun B Q hB hQ=>?_
   have⟨hC,hE,hF,hS⟩:=bt
   repeat' (first
 |simp only[go_sem,hC,hE,hF,hS,hL,hw,e1,l1]
 |(with_reducible refine CU (gT _ _) ?_)
 |(with_reducible refine CU (tD _) ?_)
 |(with_reducible refine CU (Ba _ _) ?_)
 |(with_reducible first|refine aX fun hc=>?_|refine aY fun hc=>?_|refine aZ (fun hc=>?_) fun hc=>?_)<;>(try simp only[hc,bs,↓reduceIte]at h)<;>try simp only[hc]
 |((with_reducible refine ay hQ ?_);(try cases h);simp only[bp,bq,bS,bT,go_sem,hC,hE,hF,hS,hL,hw,e1,l1];try exact cp))
theorem W6 {pos:Nat} {s:aB} {e:Int} (h:fV pos s = .inr e):e=2∨e=4:=by
 cases s with
 |nil=>simp only[fV]at h;cases h;exact .inl rfl
 |cons c r=>
  simp only[fV]at h
  repeat' split at h
  all_goals first|(cases h;simp;done)|cases h
theorem W7 {pos:Nat} {s:aB} {t:bN} (h:fV pos s = .inl t):0<t.text.length∧t.text.length≤s.length:=by
 cases s with
 |nil=>simp only[fV]at h;cases h
 | cons c r=>
  have k1:=yo (c::r)
  have k2:=yp (c::r)
  have k3:=Ab (c::r)
  simp only[fV]at h
  cases hL:lG c
  ·simp only [hL,zaa, ↓reduceIte]at h
   cases hD:iH c
   ·simp only [hD,zaa, ↓reduceIte]at h
    by_cases hz:kv (c::r)=0
    ·rw[if_pos hz]at h;cases h
    ·rw [if_neg hz]at h;cases h
     simp only[zaL];omega
   ·have k0:0<iY (c::r):=by simp [iY,hD]
    simp only[hD,↓reduceIte]at h
    split at h
    ·cases h
    ·split at h
     ·cases h;simp only[zaL];omega
     ·cases h
  ·have k0:0<fu (c::r):=by simp [fu,hL]
   simp only[hL,↓reduceIte]at h
   split at h
   ·cases h
   ·cases h;simp only[zaL];omega
theorem afz (text:aB) (hl:text.length<4611686018427387904) (s:St) :
 aC Tryz.prog 107 [.str text] s (.tuple [.slice .shared 4 ((eX text).1.map dt), .agg (iJ (eX text).2)]) s:=by
 refine aC.pure ?_ rfl (by simp[D.ok,D.bP,xh,Tag.ok,iJ]) s
 generalize h:eX text=p
 unfold eX at h
 unfold S0
 refine aC.go IY.h rfl fun B Q hB hQ=>?_
 have⟨hC,hE,hF,hS⟩:=bt
 by_cases hz:text.length > 100000
 ·have kh:decide ((text.length:Int) > 100000)=true:=by simp;omega
  rw[if_pos hz]at h
  repeat' (first
 |simp only[go_sem,hC,hE,hF,hS,kh]
 |(with_reducible first|refine aX fun hc=>?_|refine aY fun hc=>?_|refine aZ (fun hc=>?_) fun hc=>?_)<;>(try simp only[hc,bs,↓reduceIte]at h)<;>try simp only[hc]
 |((with_reducible refine ay hQ ?_);(try cases h);simp only[bp,bq,bS,bT,go_sem,hC,hE,hF,hS,kh];try exact cp))
 ·have kh:decide ((text.length:Int) > 100000)=false:=by simp;omega
  rw[if_neg hz]at h
  have jP:text.length≤100000:=by omega
  repeat' (first
 |simp only[go_sem,hC,hE,hF,hS,kh]
 |(with_reducible first|refine aX fun hc=>?_|refine aY fun hc=>?_|refine aZ (fun hc=>?_) fun hc=>?_)<;>(try simp only[hc,bs,↓reduceIte]at h)<;>try simp only[hc]
 | ((with_reducible refine ay hQ ?_);(try cases h);simp only [bp,bq,bS,bT,go_sem,hC,hE,hF,hS,kh];try exact cp))
  refine aV.gY 4 4 rfl ?_
  simp only[go_sem,hC,hE,hF,hS]
  refine b8 1 1 (aV.ind (ι:=Nat×Nat×aB×List bN) (fun i=>fR i.1 i.2.1 i.2.2.1 i.2.2.2=p∧text.drop i.2.1=i.2.2.1∧i.2.2.1.length<i.1∧i.2.2.2.length≤2000∧i.2.1≤text.length) (fun i=>i.1)
   (fun i=> [(0, .str text),(3, .ptr 0 0),(4, .slice (.tok 0) 4 (i.2.2.2.map dt)),(5, .int .i64 (i.2.1:Int))]) (fun i=>⟨[[.int .i64 0, .int .i64 0]],[some i.2.2.2.length]⟩) ?_ (text.length+1,0,text,[]) ⟨h,rfl,zac _,zau _,zau _⟩)
  rintro⟨n,pos,rest,out⟩ ⟨h,h1,hn,ho,hp⟩ IH
  dsimp only at h h1 hn ho hp
  have eN:(out.length+1)*41≤bh:=by simp only[bh];omega
  cases n with
  |zero=>omega
  |succ n=>
  cases rest with
  |nil=>
   have hC:=drop_nil h1
   have hpe:pos=text.length:=by have:=zaX.1 h1;omega
   subst hpe
   simp only[fR]at h
   repeat' (first
 |simp only[go_sem,hC,hE,hF,hS,eN]
 |(with_reducible first|refine aX fun hc=>?_|refine aY fun hc=>?_|refine aZ (fun hc=>?_) fun hc=>?_)<;>(try simp only[hc,bs,↓reduceIte]at h)<;>try simp only[hc]
 | ((with_reducible refine ay hQ ?_);(try cases h);simp only [bp,bq,bS,bT,go_sem,hC,hE,hF,hS,eN];try exact cp))
  | cons c r=>
   obtain⟨hE,g2,hC,g4⟩:=drop_cons h1
   have hF:pos<4611686018427387904:=by omega
   have oz:r.length<n:=by simp only[zal]at hn;omega
   cases hb:qm c
   ·cases hc:((c.toNat:Int)==35)
    ·simp only [fR,hb,zaa, ↓reduceIte,hc]at h
     have HW:(c::r).length=text.length - pos:=by rw[← h1,zaI]
     have e1:(0:Int)≤(pos:Int)∧(pos:Int)≤(text.length:Int)∧(text.length:Int)≤(text.length:Int):=by omega
     have e2:(text.take text.length).drop pos=c::r:=by rw[List.take_length,h1]
     have nY:=fun s=>aae (c:=c) (r:=r) (pos:=pos) (by omega) s
     cases ht:fV pos (c::r)with
     |inr e=>
      simp only[ht]at h
      simp only[ht,q9,CA]at nY
      have he:(e==0)=false∧(e != 0)=true:=by rcases W6 ht with rfl|rfl<;>exact⟨rfl,rfl⟩
      repeat' (first
 |simp only[go_sem,hC,hE,hF,hS,hb,hc,e1,e2,he.1,he.2,za9]
 |(with_reducible refine CU (uD _ _) ?_)
 |(with_reducible refine CU (nY _) ?_)
 |(with_reducible first|refine aX fun hc=>?_|refine aY fun hc=>?_|refine aZ (fun hc=>?_) fun hc=>?_)<;>(try simp only[hc,bs,↓reduceIte]at h)<;>try simp only[hc]
 |((with_reducible refine ay hQ ?_);(try cases h);simp only[bp,bq,bS,bT,go_sem,hC,hE,hF,hS,hb,hc,e1,e2,he.1,he.2,za9];try exact cp))
     | inl t=>
      simp only[ht]at h
      simp only[ht,q9]at nY
      obtain⟨t1,t2⟩:=W7 ht
      have z0:((0:Int)==0)=true:=rfl
      have z0':((0:Int) != 0)=false:=rfl
      have z4:((4:Int) != 0)=true:=rfl
      have e3:IntKind.wrap .i64 ((pos:Int)+(t.text.length:Int))=((pos+t.text.length:Nat):Int):=by rw[cL]<;>omega
      by_cases po:out.length=2000
      ·have jj:((out.length:Int)==2000)=true:=by simp [po]
       simp only[po,↓reduceIte]at h
       repeat' (first
 |simp only[go_sem,hC,hE,hF,hS,hb,hc,e1,e2,z0,z0',z4,jj,za9]
 |(with_reducible refine CU (uD _ _) ?_)
 |(with_reducible refine CU (nY _) ?_)
 |(with_reducible first|refine aX fun hc=>?_|refine aY fun hc=>?_|refine aZ (fun hc=>?_) fun hc=>?_)<;>(try simp only[hc,bs,↓reduceIte]at h)<;>try simp only[hc]
 |((with_reducible refine ay hQ ?_);(try cases h);simp only[bp,bq,bS,bT,go_sem,hC,hE,hF,hS,hb,hc,e1,e2,z0,z0',z4,jj,za9];try exact cp))
      ·have jj:((out.length:Int)==2000)=false:=by simp;omega
       have y6:(out++ [t]).length≤2000:=by simp;omega
       simp only[po,↓reduceIte]at h
       have fin:text.drop (pos+t.text.length)=(c::r).drop t.text.length:=by rw[← h1,zbG]
       have qS:((c::r).drop t.text.length).length<n:=by rw[zaI];omega
       repeat' (first
 |simp only[go_sem,hC,hE,hF,hS,hb,hc,e1,e2,z0,z0',jj,eN,e3,za9]
 |(with_reducible refine CU (uD _ _) ?_)
 |(with_reducible refine CU (nY _) ?_)
 | (with_reducible refine ay hQ ?_;exact aK))
       rw[show out.length+1=(out++ [t]).length from by simp]
       refine b8 1 1 (IH (n,pos+t.text.length,(c::r).drop t.text.length,out++ [t]) ⟨h,fin,qS,y6,by dsimp only;omega⟩ (zac _))
    ·have hk:=FW (r:=r) hc
     have bm:=Aa (c::r)
     have eS:(c::r).length=text.length - pos:=by rw[← h1,zaI]
     simp only[fR,hb,zaa,↓reduceIte,hc]at h
     generalize hL:gF (c::r)=L at h hk bm
     have fin:text.drop (pos+L)=(c::r).drop L:=by rw[← h1,zbG]
     have hlen:((c::r).drop L).length<n:=by rw[zaI];omega
     repeat' (first
 |simp only[go_sem,hC,hE,hF,hS,hb,hc]
 |(with_reducible refine CU (uD _ _) ?_)
 |(with_reducible refine ay hQ ?_;exact aK))
     refine b8 1 1 (aV.ind (ι:=aB×Nat) (fun i=>text.drop i.2=i.1∧i.2+gF i.1=pos+L) (fun i=>i.1.length)
      (fun i=> [(0, .str text),(3, .ptr 0 0),(4, .slice (.tok 0) 4 (out.map dt)),(5, .int .i64 (i.2:Int))]) (fun i=>⟨[[.int .i64 0, .int .i64 0]],[some out.length]⟩) ?_ (c::r,pos) ⟨h1,by dsimp only;omega⟩)
     rintro⟨rest,k⟩ ⟨j1,j2⟩ DH
     dsimp only at j1 j2
     cases rest with
     |nil=>
      have dN:=drop_nil j1
      simp only[gF,zaP]at j2
      subst j2
      repeat' (first
 |simp only[go_sem,hC,hE,hF,hS,dN]
 |(with_reducible refine ay hQ ?_;exact aK))
      refine b8 1 1 (IH (n,pos+L,(c::r).drop L,out) ⟨h,fin,hlen,ho,by dsimp only;omega⟩ (zac _))
     | cons d rest=>
      obtain⟨hE,g2,dN,g5⟩:=drop_cons j1
      have hC:k<4611686018427387904:=by omega
      cases hd:((d.toNat:Int) != 10)
      ·simp only [gF,hd,zaa, ↓reduceIte,zaP]at j2
       subst j2
       repeat' (first
 |simp only[go_sem,hC,hE,hF,hS,dN,hd]
 |(with_reducible refine ay hQ ?_;exact aK))
       refine b8 1 1 (IH (n,pos+L,(c::r).drop L,out) ⟨h,fin,hlen,ho,by dsimp only;omega⟩ (zac _))
      ·simp only [gF,hd, ↓reduceIte]at j2
       repeat' (first
 |simp only[go_sem,hC,hE,hF,hS,dN,hd]
 | (with_reducible refine ay hQ ?_;exact aK))
       refine b8 1 1 (DH (rest,k+1) ⟨g2,by dsimp only;omega⟩ (zac _))
   ·simp only [fR,hb, ↓reduceIte]at h
    repeat' (first
 |simp only[go_sem,hC,hE,hF,hS,hb]
 |(with_reducible refine CU (uD _ _) ?_)
 | (with_reducible refine ay hQ ?_;exact aK))
    refine b8 1 1 (IH (n,pos+1,r,out) ⟨h,g2,oz,ho,g4⟩ (zac _))
def Fm (s:aB):aB:=s.take (min s.length 100100)
theorem afA (text:aB) (s:St):aC Tryz.prog 18 [.str text] s (.str (Fm text)) s:=by
 refine aC.pure ?_ rfl rfl s
 have e:(if(100100:Int)<(text.length:Int)then(100100:Int)else(text.length:Int))=((min text.length 100100:Nat):Int):=by split<;>omega
 have e1:(0:Int)≤((min text.length 100100:Nat):Int)∧((min text.length 100100:Nat):Int)≤(text.length:Int):=by omega
 unfold S0
 refine aC.go IP.h rfl fun B Q hB hQ=>?_
 have⟨hC,hE,hF,hS⟩:=bt
 repeat' (first
 |simp only[go_sem,hC,hE,hF,hS,e,e1,Fm,zaa]
 |(with_reducible first|refine aX fun hc=>?_|refine aY fun hc=>?_|refine aZ (fun hc=>?_) fun hc=>?_)<;>(try simp only[hc,bs,↓reduceIte]at h)<;>try simp only[hc]
 |(with_reducible refine ay hQ ?_;simp only[bp,bq,bS,bT,go_sem,hC,hE,hF,hS,e,e1,Fm,zaa];try exact cp))
theorem JT (text:aB):(Fm text).length<4611686018427387904:=by
 simp only[Fm,zaL];omega
theorem S1 (a b:Int):decide (a≥b) = !decide (a<b):=by
 by_cases h:a<b
 ·simp[h]
 ·simp[h];omega
theorem jr {z:D} [Cell z] {room full:Bool} {r:Rd} {p:aB×Rd} (h:r.name room=some p) (hf:full = !room) {s:St} {o:Nat} (ho:s.aw[o]? = some (bC z r)) :
 aC Tryz.prog 155 [.ptr o 0, .bool full] s (.str p.1) ⟨s.aw.set o (bC z p.2),s.aE⟩:=by
 refine aC.fy ?_ rfl (gI z r) (gI z p.2) rfl ho
 subst hf
 unfold Rd.name at h
 rw[zab]at h
 obtain⟨t,h1,h⟩:=h
 obtain⟨hC,hE,y7,y8⟩:=fh h1
 cases hg:r.good
 ·have hb:r.bad 3=some r:=by simp [Rd.bad,hg]
  simp only[hg,zao,za6,↓reduceIte,hb,zam]at h
  cases h
  refine aC.go oa.h rfl fun B Q hB hQ=>?_
  have⟨hC,hE,hF,hS⟩:=bt
  repeat' (first
 |simp only[go_sem,hC,hE,hF,hS]
 |(with_reducible refine CU (dm (by with_unfolding_all rfl)) ?_)
 |(with_reducible first|refine aX fun hc=>?_|refine aY fun hc=>?_|refine aZ (fun hc=>?_) fun hc=>?_)<;>(try simp only[hc,bs,↓reduceIte]at h)<;>try simp only[hc]
 |((with_reducible refine ay hQ ?_);exact cS))
 ·simp only [hg,zan,zbd]at h
  cases hk:(t.kind != 1)
  ·have mw:(t.kind==1)=true:=by simpa using hk
   simp only[hk,zaa,↓reduceIte]at h
   cases room
   ·simp only [zao, ↓reduceIte]at h
    refine aC.go oa.h rfl fun B Q hB hQ=>?_
    have hF:0<1:=zas
    have hS:0<1:=zas
    repeat' (first
 |simp only[go_sem,hC,hE,hF,hS,mw]
 |(rw[zab]at h;obtain⟨_,h1,h⟩:=h;first|(with_reducible refine CU (nU h1 (by with_unfolding_all rfl)) ?_))
 |(with_reducible refine CU (dm (by with_unfolding_all rfl)) ?_)
 |(with_reducible first|refine aX fun hc=>?_|refine aY fun hc=>?_|refine aZ (fun hc=>?_) fun hc=>?_)<;>(try simp only[hc,bs,↓reduceIte]at h)<;>try simp only[hc]
 | ((with_reducible refine ay hQ ?_);(try cases h);simp only [bp,bq,bS,bT,go_sem,hC,hE,hF,hS,mw];try exact cp))
   ·simp only [zan,zaa, ↓reduceIte]at h
    refine aC.go oa.h rfl fun B Q hB hQ=>?_
    have hF:0<1:=zas
    have hS:0<1:=zas
    repeat' (first
 |simp only[go_sem,hC,hE,hF,hS,mw]
 |(rw[zab]at h;obtain⟨_,h1,h⟩:=h;first|(with_reducible refine CU (nU h1 (by with_unfolding_all rfl)) ?_))
 |(with_reducible refine CU (dm (by with_unfolding_all rfl)) ?_)
 |(with_reducible first|refine aX fun hc=>?_|refine aY fun hc=>?_|refine aZ (fun hc=>?_) fun hc=>?_)<;>(try simp only[hc,bs,↓reduceIte]at h)<;>try simp only[hc]
 | ((with_reducible refine ay hQ ?_);(try cases h);simp only [bp,bq,bS,bT,go_sem,hC,hE,hF,hS,mw];try exact cp))
  ·have mw:(t.kind==1)=false:=by simpa using hk
   simp only[hk,↓reduceIte]at h
   refine aC.go oa.h rfl fun B Q hB hQ=>?_
   have hF:0<1:=zas
   have hS:0<1:=zas
   repeat' (first
 |simp only[go_sem,hC,hE,hF,hS,mw]
 |(rw[zab]at h;obtain⟨_,h1,h⟩:=h;first|(with_reducible refine CU (nU h1 (by with_unfolding_all rfl)) ?_))
 |(with_reducible refine CU (dm (by with_unfolding_all rfl)) ?_)
 |(with_reducible first|refine aX fun hc=>?_|refine aY fun hc=>?_|refine aZ (fun hc=>?_) fun hc=>?_)<;>(try simp only[hc,bs,↓reduceIte]at h)<;>try simp only[hc]
 |((with_reducible refine ay hQ ?_);(try cases h);simp only[bp,bq,bS,bT,go_sem,hC,hE,hF,hS,mw];try exact cp))
theorem qt {r:Rd} {s:aB} {q:Bool×Rd} (h:r.take s=some q) (hq:q.1=true):q.2.good=true∧r.good=true:=by
 unfold Rd.take at h
 cases hg:r.good
 ·simp only [hg,zao, ↓reduceIte,Option.some.injEq]at h
  rw[← h]at hq;cases hq
 ·simp only [hg,zan,zaa, ↓reduceIte]at h
  rw[zab]at h
  obtain⟨b,h1,h⟩:=h
  cases b
  ·simp at h;rw[← h]at hq;cases hq
  ·simp at h;rw[← h];exact⟨hg,rfl⟩
def Rd.JU (n:Nat) (l:List aB) (dk:Int) (r:Rd):Option (List aB×Rd):=
 (r.take [44]).bind fun q=>if !q.1 then(q.2.want [59]).bind fun r=>some (l,r)else Rd.names n l dk q.2
theorem Eb {n:Nat} {l:List aB} {dk:Int} {r:Rd} {p:List aB×Rd} (h:Rd.names n l dk r=some p) (hg:r.good=true) :
 ∃ k,n=k+1∧((r.name (decide ((l.length:Int)<dk))).bind fun p=>(push 17 l p.1).bind fun l=>Rd.JU k l dk p.2)=some p:=by
 cases n with
 |zero=>simp only[Rd.names]at h;cases h
 |succ n=>
  simp only[Rd.names,hg,↓reduceIte]at h
  exact⟨n,rfl,h⟩
theorem aaf {z:D} [Cell z] {n:Nat} {l:List aB} {dk:Int} {r:Rd} {p:List aB×Rd} (h:Rd.names n l dk r=some p) (hg:r.good=true) :
 aC Tryz.prog 109 [.ptr 0 0, .slice (.tok 0) 1 (l.map encStr), .int .i64 dk] ⟨[bC z r],[some l.length]⟩ (.slice (.tok 0) 1 (p.1.map encStr)) ⟨[bC z p.2],[some p.1.length]⟩:=by
 replace h:=Eb h hg
 obtain⟨n,rfl,h⟩:=h
 refine aC.go Dt.h rfl fun B Q hB hQ=>?_
 have⟨hC,hE,hF,hS⟩:=bt
 repeat' (first
 |simp only[go_sem,hC,hE,hF,hS]
 |(rw[zab]at h;obtain⟨_,h1,h⟩:=h;first|(with_reducible refine CU (jr h1 (S1 _ _) (by with_unfolding_all rfl)) ?_)|(obtain⟨hF,kQ⟩:=dH h1;subst kQ;simp only[go_sem,hC,hE,hF,hS]))
 |(with_reducible first|refine aX fun hc=>?_|refine aY fun hc=>?_|refine aZ (fun hc=>?_) fun hc=>?_)<;>(try simp only[hc,bs,↓reduceIte]at h)<;>try simp only[hc]
 |((with_reducible refine ay hQ ?_);exact cS))
 refine b8 1 1 (aV.ind (ι:=Nat×List aB×Rd×Nat) (fun i=>Rd.JU i.1 i.2.1 dk i.2.2.1=some p∧i.2.2.2=i.2.1.length) (fun i=>i.1)
  (fun i=> [(0, .ptr 0 0),(1, .slice (.tok 0) 1 (i.2.1.map encStr)),(2, .int .i64 dk)]) (fun i=>⟨[bC z i.2.2.1],[some i.2.2.2]⟩) ?_ (n,_,_,l.length+1) ⟨h,by simp⟩)
 rintro⟨n,l,r,k⟩ ⟨h,hk⟩ IH
 dsimp only at hk;subst hk
 simp only[Rd.JU]at h
 rw[zab]at h
 obtain⟨q,h1,h⟩:=h
 have tk:=fun {s:St} {o:Nat} (ho:s.aw[o]? = some (bC z r))=>gN h1 ho
 cases hq:q.1
 ·simp only [hq,zao, ↓reduceIte]at h
  repeat' (first
 |simp only[go_sem,hC,hE,hF,hS,hq]
 |(rw[zab]at h;obtain⟨_,h1,h⟩:=h;first|(with_reducible refine CU (fY h1 (by with_unfolding_all rfl)) ?_))
 |(with_reducible refine CU (tk (by with_unfolding_all rfl)) ?_)
 |(with_reducible first|refine aX fun hc=>?_|refine aY fun hc=>?_|refine aZ (fun hc=>?_) fun hc=>?_)<;>(try simp only[hc,bs,↓reduceIte]at h)<;>try simp only[hc]
 |((with_reducible refine ay hQ ?_);(try cases h);simp only[bp,bq,bS,bT,go_sem,hC,hE,hF,hS,hq];try exact cp))
 ·simp only [hq,zan,zaa, ↓reduceIte]at h
  replace h:=Eb h (qt h1 hq).1
  obtain⟨n,rfl,h⟩:=h
  repeat' (first
 |simp only[go_sem,hC,hE,hF,hS,hq]
 |(rw[zab]at h;obtain⟨_,h1,h⟩:=h;first|(with_reducible refine CU (jr h1 (S1 _ _) (by with_unfolding_all rfl)) ?_)|(obtain⟨hF,kQ⟩:=dH h1;subst kQ;simp only[go_sem,hC,hE,hF,hS]))
 |(with_reducible refine CU (tk (by with_unfolding_all rfl)) ?_)
 |(with_reducible refine ay hQ ?_;exact aK))
  refine b8 1 1 (IH (n,_,_,l.length+1) ⟨h,by simp⟩ (zac _))
def wN (s:aB):Bool:=s == [105,102] ||s == [119,104,105,108,101] ||s == [98,114,101,97,107] ||s == [99,111,110,116,105,110,117,101] ||s == [114,101,116,117,114,110] ||s == [103,111,116,111] ||s == [114,101,97,100] ||s == [112,114,105,110,116]
theorem S2 {z:D} [Cell z] {r:Rd} {b:Bool} (h:r.lU=some b) (hg:r.good=true) (ht : ∀ t,r.l[r.i]? = some t→t.kind=4→wN t.text=false) {s:St} {o:Nat} (ho:s.aw[o]? = some (bC z r)) :
 aC Tryz.prog 216 [.ptr o 0] s (.bool b) ⟨s.aw.set o (bC z r),s.aE⟩:=by
 refine aC.fy ?_ rfl (gI z r) (gI z r) rfl ho
 unfold Rd.lU at h
 rw[zab]at h
 obtain⟨t,h1,h⟩:=h
 obtain⟨hC,hE,y7,y8⟩:=fh h1
 have ht:=ht t hE
 have y9 : ∀ w:aB,∀ {s:St} {o:Nat},s.aw[o]? = some (bC z r)→aC Tryz.prog 111 [.ptr o 0, .str w] s (.bool ((t.kind==3 ||t.kind==4) && t.text==w)) ⟨s.aw.set o (bC z r),s.aE⟩:=
  fun w s o ho=>kN (by simp only[Rd.uE,hg,↓reduceIte,Rd.is,h1,zam]) ho
 have hF:0<1:=zas
 have hS:0<1:=zas
 by_cases k1:t.kind=1
 ·have e:(t.kind==1)=true:=by simpa using k1
  simp only[e,↓reduceIte]at h
  refine aC.go pF.h rfl fun B Q hB hQ=>?_
  repeat' (first
 |simp only[go_sem,hC,hE,hF,hS,e]
 |(with_reducible refine CU (dm (by with_unfolding_all rfl)) ?_)
 |(with_reducible first|refine aX fun hc=>?_|refine aY fun hc=>?_|refine aZ (fun hc=>?_) fun hc=>?_)<;>(try simp only[hc,bs,↓reduceIte]at h)<;>try simp only[hc]
 |((with_reducible refine ay hQ ?_);(try cases h);simp only[bp,bq,bS,bT,go_sem,hC,hE,hF,hS,e];try exact cp))
 ·have e:(t.kind==1)=false:=by simpa using k1
  by_cases k3:t.kind=3
  ·have e3:(t.kind==3 || t.kind==4)=true:=by simp [k3]
   have e4:(t.kind != 3)=false:=by simp[k3]
   simp only[e,e4,zaa,↓reduceIte]at h
   refine aC.go pF.h rfl fun B Q hB hQ=>?_
   repeat' (first
 |simp only[go_sem,hC,hE,hF,hS,e,e3,bs,za7,cL,Int.reduceAdd,Int.reduceLT,Int.reduceNeg,decide_true,decide_false,Int.reduceToNat]
 |(with_reducible refine CU (dm (by with_unfolding_all rfl)) ?_)
 |(with_reducible refine CU (y9 _ (by with_unfolding_all rfl)) ?_)
 |(with_reducible refine aV.gO ?_)
 |(with_reducible first|refine aX fun hc=>?_|refine aY fun hc=>?_|refine aZ (fun hc=>?_) fun hc=>?_)<;>(try simp only[hc,bs,↓reduceIte]at h)<;>try simp only[hc]
 | ((with_reducible refine ay hQ ?_);(try cases h);simp only [bp,bq,bS,bT,go_sem,hC,hE,hF,hS,e,e3,bs,za7,cL,Int.reduceAdd,Int.reduceLT,Int.reduceNeg,decide_true,decide_false,Int.reduceToNat];try exact cp))
  ·have e4:(t.kind != 3)=true:=by simp [k3]
   have e3 : ∀ w,wN w=true→((t.kind==3 ||t.kind==4) && t.text==w)=false:=by
    intro w hw
    by_cases k4:t.kind=4
    ·by_cases hx:t.text=w
     ·rw[hx]at ht;rw[ht k4]at hw;cases hw
     ·simp[hx]
    ·simp[k3,k4]
   have w1:=e3 [105,102] rfl
   have w2:=e3 [119,104,105,108,101] rfl
   have w3:=e3 [98,114,101,97,107] rfl
   have w4:=e3 [99,111,110,116,105,110,117,101] rfl
   have w5:=e3 [114,101,116,117,114,110] rfl
   have w6:=e3 [103,111,116,111] rfl
   have w7:=e3 [114,101,97,100] rfl
   have w8:=e3 [112,114,105,110,116] rfl
   simp only[e,e4,zaa,↓reduceIte]at h
   refine aC.go pF.h rfl fun B Q hB hQ=>?_
   repeat' (first
 |simp only[go_sem,hC,hE,hF,hS,e,w1,w2,w3,w4,w5,w6,w7,w8,za7,cL,Int.reduceAdd,Int.reduceLT,Int.reduceNeg,decide_true,decide_false,Int.reduceToNat]
 |(with_reducible refine CU (dm (by with_unfolding_all rfl)) ?_)
 |(with_reducible refine CU (y9 _ (by with_unfolding_all rfl)) ?_)
 |(with_reducible refine aV.gO ?_)
 |(with_reducible first|refine aX fun hc=>?_|refine aY fun hc=>?_|refine aZ (fun hc=>?_) fun hc=>?_)<;>(try simp only[hc,bs,↓reduceIte]at h)<;>try simp only[hc]
 |((with_reducible refine ay hQ ?_);(try cases h);simp only[bp,bq,bS,bT,go_sem,hC,hE,hF,hS,e,w1,w2,w3,w4,w5,w6,w7,w8,za7,cL,Int.reduceAdd,Int.reduceLT,Int.reduceNeg,decide_true,decide_false,Int.reduceToNat];try exact cp))
theorem xX {r:Rd} (hg:r.good=false) (s:aB):r.take s=some (false,r):=by simp[Rd.take,hg]
theorem Yt {r:Rd} (hg:r.good=false) (c:Int):r.bad c=some r:=by simp only[Rd.bad,hg,zaa,↓reduceIte]
theorem uQ {r:Rd} (hg:r.good=false) (s:aB):r.want s=some r:=by simp only[Rd.want,xX hg,zam,zao,↓reduceIte,Yt hg]
def Rd.Bn (m:Nat) (r:Rd):Option (List Ar×Rd):=
 (r.want [40]).bind fun r=>(r.take [41]).bind fun q=>
  if q.1 then some ([],q.2)
  else if q.2.good then(Rd.jk m m [] q.2).bind fun x=>(x.2.want [41]).bind fun r=>some (x.1,r)
  else some ([],q.2)
theorem Ec {m:Nat} {name proc:aB} {r:Rd} {p:Sm×Rd} (h:Rd.call m name proc r=some p) :
 ((Rd.Bn m r).bind fun q=>(q.2.want [59]).bind fun r=>some ((⟨0,4,[],name,proc,iG,false,q.1,[],[]⟩:Sm),r))=some p:=by
 unfold Rd.call Rd.other at h
 unfold Rd.Bn
 rw[zab]at h
 obtain⟨r1,h1,h⟩:=h
 rw[h1,zam]
 cases hg:r1.good
 ·simp only [hg,zaa, ↓reduceIte,zam,uQ hg]at h
  simp only[xX hg,zam,hg,zaa,↓reduceIte,uQ hg]
  exact h
 ·simp only [hg, ↓reduceIte]at h
  rw[zaY,zab]at h
  obtain⟨c,h2,h⟩:=h
  cases c
  ·have ht:r1.take [41] = some (false,r1):=by simp [Rd.take,hg,h2]
   simp only[zao,zam,↓reduceIte]at h
   simp only[ht,zam,zaa,↓reduceIte,hg,zaY]
   exact h
  ·have ht:r1.take [41] = some (true,{r1 with i:=r1.i+1}):=by simp [Rd.take,hg,h2]
   simp only[zan,zam,zaa,↓reduceIte,Rd.want,ht]at h
   simp only[ht,zam,↓reduceIte]
   exact h
theorem aag {z:D} [Cell z] {m:Nat} {r:Rd} {p:List Ar×Rd} (h:Rd.Bn m r=some p) {s:St} {o:Nat} (ho:s.aw[o]? = some (bC z r)) :
 aC Tryz.prog 241 [.ptr o 0] s (.slice .shared 6 (p.1.map dM)) ⟨s.aw.set o (bC z p.2),s.aE⟩:=by
 refine aC.fy ?_ rfl (gI z r) (gI z p.2) (by simp[D.ok,Di,Tag.ok]) ho
 unfold Rd.Bn at h
 rw[zab]at h
 obtain⟨r1,h1,h⟩:=h
 rw[zab]at h
 obtain⟨q,h2,h⟩:=h
 have wa:=fun {s:St} {o:Nat} (ho:s.aw[o]? = some (bC z r))=>fY h1 ho
 have tk:=fun {s:St} {o:Nat} (ho:s.aw[o]? = some (bC z r1))=>gN h2 ho
 cases hq:q.1
 ·simp only [hq,zaa, ↓reduceIte]at h
  cases hg:q.2.good
  ·simp only [hg,zaa, ↓reduceIte]at h
   have wf:=fun {s:St} {o:Nat} (ho:s.aw[o]? = some (bC z q.2))=>fY (uQ hg [41]) ho
   refine aC.go qQ.h rfl fun B Q hB hQ=>?_
   have⟨hC,hE,hF,hS⟩:=bt
   repeat' (first
 |simp only[go_sem,hC,hE,hF,hS,hq]
 |(with_reducible refine CU (wa (by with_unfolding_all rfl)) ?_)
 |(with_reducible refine CU (tk (by with_unfolding_all rfl)) ?_)
 |(with_reducible refine CU (dm (by with_unfolding_all rfl)) ?_)
 |(with_reducible refine CU (wf (by with_unfolding_all rfl)) ?_)
 |(with_reducible refine aV.gO ?_)
 |(with_reducible first|refine aX fun hc=>?_|refine aY fun hc=>?_|refine aZ (fun hc=>?_) fun hc=>?_)<;>(try simp only[hc,bs,↓reduceIte]at h)<;>try simp only[hc]
 | ((with_reducible refine ay hQ ?_);(try cases h);simp only [bp,bq,bS,bT,go_sem,hC,hE,hF,hS,hq];try exact cp))
  ·simp only [hg, ↓reduceIte]at h
   rw[zab]at h
   obtain⟨y,h,hr⟩:=h
   refine aC.go qQ.h rfl fun B Q hB hQ=>?_
   have⟨hC,hE,hF,hS⟩:=bt
   repeat' (first
 |simp only[go_sem,hC,hE,hF,hS,hq]
 |(with_reducible refine CU (wa (by with_unfolding_all rfl)) ?_)
 |(with_reducible refine CU (tk (by with_unfolding_all rfl)) ?_)
 |(with_reducible first|refine aX fun hc=>?_|refine aY fun hc=>?_|refine aZ (fun hc=>?_) fun hc=>?_)<;>(try simp only[hc,bs,↓reduceIte]at h)<;>try simp only[hc]
 |((with_reducible refine ay hQ ?_);(try cases h);simp only[bp,bq,bS,bT,go_sem,hC,hE,hF,hS,hq];try exact cp)
 |(cases h;replace h:=hr;clear hr;(try simp only[bs,↓reduceIte]at h))
 | (cases h;done))
   refine aV.gY 3 6 rfl ?_
   simp only[go_sem,hC,hE,hF,hS]
   refine b8 1 1 (aV.ind (ι:=Nat×List Ar×Rd×Nat) (fun i=>Rd.jk m i.1 i.2.1 i.2.2.1=some y∧i.2.2.2=i.2.1.length) (fun i=>i.1)
    (fun i=> [(0, .ptr 0 0),(3, .slice (.tok 0) 6 (i.2.1.map dM))]) (fun i=>⟨[bC z i.2.2.1],[some i.2.2.2]⟩) ?_ (m,[],q.2,0) ⟨h,rfl⟩)
   rintro⟨n,l,r,k⟩ ⟨h,hk⟩ IH
   dsimp only at hk;subst hk
   cases n with
   |zero=>simp only[Rd.jk]at h;cases h
   |succ n=>
    simp only[Rd.jk]at h
    repeat' (first
 |simp only[go_sem,hC,hE,hF,hS]
 |(rw[zab]at h;obtain⟨_,h1,h⟩:=h;first|(with_reducible refine CU (gN h1 (by with_unfolding_all rfl)) ?_)|(obtain⟨hF,kQ⟩:=dH h1;subst kQ;simp only[go_sem,hC,hE,hF,hS])|(with_reducible refine CU (jr h1 rfl (by with_unfolding_all rfl)) ?_)|(with_reducible refine CU (nV h1 (by with_unfolding_all rfl)) ?_)|(with_reducible refine CU (fY h1 (by with_unfolding_all rfl)) ?_))
 |(with_reducible refine CU (dm (by with_unfolding_all rfl)) ?_)
 |(with_reducible first|refine aX fun hc=>?_|refine aY fun hc=>?_|refine aZ (fun hc=>?_) fun hc=>?_)<;>(try simp only[hc,bs,↓reduceIte]at h)<;>try simp only[hc]
 |((with_reducible refine ay hQ ?_);exact cS)
 |(cases h;replace h:=hr;clear hr;(try simp only[bs,↓reduceIte]at h))
 | (cases h;done))
    ·refine b8 1 1 (IH (n,_,_,l.length+1) ⟨h,by simp⟩ (zac _))
    ·refine b8 1 1 (IH (n,_,_,l.length+1) ⟨h,by simp⟩ (zac _))
 ·simp only [hq, ↓reduceIte]at h
  refine aC.go qQ.h rfl fun B Q hB hQ=>?_
  have⟨hC,hE,hF,hS⟩:=bt
  repeat' (first
 |simp only[go_sem,hC,hE,hF,hS,hq]
 |(with_reducible refine CU (wa (by with_unfolding_all rfl)) ?_)
 |(with_reducible refine CU (tk (by with_unfolding_all rfl)) ?_)
 |(with_reducible first|refine aX fun hc=>?_|refine aY fun hc=>?_|refine aZ (fun hc=>?_) fun hc=>?_)<;>(try simp only[hc,bs,↓reduceIte]at h)<;>try simp only[hc]
 |((with_reducible refine ay hQ ?_);(try cases h);simp only[bp,bq,bS,bT,go_sem,hC,hE,hF,hS,hq];try exact cp)
 |(cases h;replace h:=hr;clear hr;(try simp only[bs,↓reduceIte]at h))
 |(cases h;done))
def Rd.lZ (m:Nat) (name:aB) (r:Rd):Option (Sm×Rd):=
 (r.uE [40]).bind fun b=>
  if b then(Rd.Bn m r).bind fun q=>some (⟨0,4,[],[],name,iG,false,q.1,[],[]⟩,q.2)
  else(r.want [61]).bind fun r=>(r.ahead [40]).bind fun b=>
   if b then(r.name true).bind fun y=>(Rd.Bn m y.2).bind fun q=>some (⟨0,4,[],name,y.1,iG,false,q.1,[],[]⟩,q.2)
   else(Rd.whole m r).bind fun y=>some (⟨0,1,[],name,[],y.1,false,[],[],[]⟩,y.2)
def JV (p:Sm×Rd):Option (Sm×Rd):=(p.2.want [59]).bind fun r=>some (p.1,r)
theorem aah {m:Nat} {r:Rd} {t:bN} {p:Sm×Rd} (h:Rd.named m r=some p) (hg:r.good=true) (h1:r.fA=some t) (hk:t.kind=1) :
 (Rd.lZ m t.text {r with i:=r.i+1}).bind JV=some p:=by
 have hn:r.name true=some (t.text,{r with i:=r.i+1}):=by simp[Rd.name,h1,hg,hk]
 have lQ:({r with i:=r.i+1} : Rd).good=true:=hg
 unfold Rd.named at h
 rw[hn,zam]at h
 unfold Rd.lZ
 simp only[Rd.uE,lQ,↓reduceIte]
 rw[zab]at h
 obtain⟨b,h2,h⟩:=h
 rw[h2,zam]
 cases b
 ·simp only [zaa, ↓reduceIte,zaY]at h ⊢
  rw[zab]at h
  obtain⟨r1,h3,h⟩:=h
  rw[h3,zam]
  rw[zab]at h
  obtain⟨c,h4,h⟩:=h
  rw[h4,zam]
  cases c
  ·simp only [zaa, ↓reduceIte,zaY,zam,JV]at h ⊢
   exact h
  ·simp only [↓reduceIte,zaY,zam,JV]at h ⊢
   rw[zab]at h
   obtain⟨y,h5,h⟩:=h
   rw[h5,zam]
   exact Ec h
 ·simp only [↓reduceIte,zaY,zam,JV]at h ⊢
  exact Ec h
theorem W8 {z:D} [Cell z] {m:Nat} {name:aB} {r:Rd} {p:Sm×Rd} (h:Rd.lZ m name r=some p) {s:St} {o:Nat} (ho:s.aw[o]? = some (bC z r)) :
 aC Tryz.prog 236 [.ptr o 0, .str name] s (.agg (bn p.1)) ⟨s.aw.set o (bC z p.2),s.aE⟩:=by
 refine aC.fy ?_ rfl (gI z r) (gI z p.2) (by simp[D.ok,ke]) ho
 unfold Rd.lZ Rd.ahead at h
 refine aC.go Cm.h rfl fun B Q hB hQ=>?_
 have⟨hC,hE,hF,hS⟩:=bt
 repeat' (first
 |simp only[go_sem,hC,hE,hF,hS]
 |(rw[zab]at h;obtain⟨_,h1,h⟩:=h;first|(with_reducible refine CU (kN h1 (by with_unfolding_all rfl)) ?_)|(with_reducible refine CU (aag h1 (by with_unfolding_all rfl)) ?_)|(with_reducible refine CU (fY h1 (by with_unfolding_all rfl)) ?_)|(obtain⟨hC,hE,y7,y8⟩:=fh h1;simp only[go_sem,hE,hC,hE,hF,hS])|(obtain⟨tg,hE⟩:=oI h1;simp only[go_sem,hE,hC,hE,hF,hS])|(with_reducible refine CU (jr h1 rfl (by with_unfolding_all rfl)) ?_)|(with_reducible refine CU (nV h1 (by with_unfolding_all rfl)) ?_))
 |(with_reducible refine CU (dm (by with_unfolding_all rfl)) ?_)
 |(with_reducible first|refine aX fun hc=>?_|refine aY fun hc=>?_|refine aZ (fun hc=>?_) fun hc=>?_)<;>(try simp only[hc,bs,↓reduceIte]at h)<;>try simp only[hc]
 |((with_reducible refine ay hQ ?_);exact cS))
theorem yJ {r:Rd} {t:bN} (hg:r.good=true) (h1:r.fA=some t) (w:aB):r.take w=some (if(t.kind==3 ||t.kind==4) && t.text==w then(true,{r with i:=r.i+1})else(false,r)):=by
 simp only[Rd.take,hg,zan,zaa,↓reduceIte,Rd.is,h1,zam]
 cases (t.kind==3 ||t.kind==4) && t.text==w<;>rfl
theorem Ld {z:D} [Cell z] {m:Nat} {r:Rd} {t:bN} {p:Sm×Rd} (hg:r.good=true) (h1:r.fA=some t) (hk:t.kind=1) (h:Rd.lZ m t.text {r with i:=r.i+1} = some p) {s:St} {o:Nat} (ho:s.aw[o]? = some (bC z r)) :
 aC Tryz.prog 218 [.ptr o 0] s (.agg (bn p.1)) ⟨s.aw.set o (bC z p.2),s.aE⟩:=by
 refine aC.fy ?_ rfl (gI z r) (gI z p.2) (by simp[D.ok,ke]) ho
 have tf : ∀ w:aB,∀ {s:St} {o:Nat},s.aw[o]? = some (bC z r)→aC Tryz.prog 108 [.ptr o 0, .str w] s (.bool false) ⟨s.aw.set o (bC z r),s.aE⟩:=fun w s o ho=>by
  have e:=yJ hg h1 w
  have e2:(t.kind==3 ||t.kind==4)=false:=by simp[hk]
  simp only[e2,zaO,zaa,↓reduceIte]at e
  exact gN e ho
 have nm : ∀ {s:St} {o:Nat},s.aw[o]? = some (bC z r)→aC Tryz.prog 155 [.ptr o 0, .bool false] s (.str t.text) ⟨s.aw.set o (bC z {r with i:=r.i+1}),s.aE⟩:=fun {s} {o} ho=>
  jr (room:=true) (by simp[Rd.name,h1,hg,hk] : r.name true=some (t.text,{r with i:=r.i+1})) rfl ho
 refine aC.go iX.h rfl fun B Q hB hQ=>?_
 have⟨hC,hE,hF,hS⟩:=bt
 repeat' (first
 |simp only[go_sem,hC,hE,hF,hS]
 |(with_reducible refine CU (tf _ (by with_unfolding_all rfl)) ?_)
 |(with_reducible refine CU (nm (by with_unfolding_all rfl)) ?_)
 |(with_reducible refine CU (W8 h (by with_unfolding_all rfl)) ?_)
 |(with_reducible refine ay hQ ?_;exact aK))
theorem Lf {z:D} [Cell z] {m:Nat} {r:Rd} {t:bN} {p:Sm×Rd} (hg:r.good=true) (h1:r.fA=some t) (hk:t.kind=3) (hw:wN t.text=true) (hi:(t.text == [105,102])=false) (hh:(t.text == [119,104,105,108,101])=false)
 (h:Rd.plain m t.text {r with i:=r.i+1} = some p) {s:St} {o:Nat} (ho:s.aw[o]? = some (bC z r)) :
 aC Tryz.prog 218 [.ptr o 0] s (.agg (bn p.1)) ⟨s.aw.set o (bC z p.2),s.aE⟩:=by
 refine aC.fy ?_ rfl (gI z r) (gI z p.2) (by simp[D.ok,ke]) ho
 have tf : ∀ w:aB,(t.text==w)=false→∀ {s:St} {o:Nat},s.aw[o]? = some (bC z r)→aC Tryz.prog 108 [.ptr o 0, .str w] s (.bool false) ⟨s.aw.set o (bC z r),s.aE⟩:=fun w hw s o ho=>by
  have e:=yJ hg h1 w
  simp only[hw,zbf,zaa,↓reduceIte]at e
  exact gN e ho
 have tt : ∀ {s:St} {o:Nat},s.aw[o]? = some (bC z r)→aC Tryz.prog 108 [.ptr o 0, .str t.text] s (.bool true) ⟨s.aw.set o (bC z {r with i:=r.i+1}),s.aE⟩:=fun {s} {o} ho=>by
  have e:=yJ hg h1 t.text
  have e2:(t.kind==3 ||t.kind==4)=true:=by simp[hk]
  simp only[e2,beq_self_eq_true,zbJ,↓reduceIte]at e
  exact gN e ho
 have lQ:({r with i:=r.i+1} : Rd).good=true:=hg
 have y9 : ∀ b,({r with i:=r.i+1} : Rd).is [59] = some b→({r with i:=r.i+1} : Rd).uE [59] = some b:=fun b hb=>by simp only[Rd.uE,lQ,↓reduceIte,hb]
 generalize t.text=w at hw hi hh h tf tt
 simp only[wN,hi,hh,zbd,zay,beq_iff_eq]at hw
 rcases hw with ((((hw|hw)|hw)|hw)|hw)|hw<;>subst hw
 ·unfold Rd.plain at h
  rw[if_pos (by decide)]at h
  refine aC.go iX.h rfl fun B Q hB hQ=>?_
  have⟨hC,hE,hF,hS⟩:=bt
  repeat' (first
 |simp only[go_sem,hC,hE,hF,hS]
 |(rw[zab]at h;obtain⟨_,h1,h⟩:=h;first|(with_reducible refine CU (jr h1 rfl (by with_unfolding_all rfl)) ?_)|(with_reducible refine CU (kN (y9 _ h1) (by with_unfolding_all rfl)) ?_)|(with_reducible refine CU (nV h1 (by with_unfolding_all rfl)) ?_))
 |(with_reducible refine CU (tt (by with_unfolding_all rfl)) ?_)
 |(with_reducible refine CU (tf _ (by decide) (by with_unfolding_all rfl)) ?_)
 |(with_reducible first|refine aX fun hc=>?_|refine aY fun hc=>?_|refine aZ (fun hc=>?_) fun hc=>?_)<;>(try simp only[hc,bs,↓reduceIte]at h)<;>try simp only[hc]
 |((with_reducible refine ay hQ ?_);exact cS))
 ·unfold Rd.plain at h
  rw[if_neg (by decide),if_pos (by decide)]at h
  refine aC.go iX.h rfl fun B Q hB hQ=>?_
  have⟨hC,hE,hF,hS⟩:=bt
  repeat' (first
 |simp only[go_sem,hC,hE,hF,hS]
 |(rw[zab]at h;obtain⟨_,h1,h⟩:=h;first|(with_reducible refine CU (jr h1 rfl (by with_unfolding_all rfl)) ?_)|(with_reducible refine CU (kN (y9 _ h1) (by with_unfolding_all rfl)) ?_)|(with_reducible refine CU (nV h1 (by with_unfolding_all rfl)) ?_))
 |(with_reducible refine CU (tt (by with_unfolding_all rfl)) ?_)
 |(with_reducible refine CU (tf _ (by decide) (by with_unfolding_all rfl)) ?_)
 |(with_reducible first|refine aX fun hc=>?_|refine aY fun hc=>?_|refine aZ (fun hc=>?_) fun hc=>?_)<;>(try simp only[hc,bs,↓reduceIte]at h)<;>try simp only[hc]
 |((with_reducible refine ay hQ ?_);exact cS))
 ·unfold Rd.plain at h
  rw[if_neg (by decide),if_neg (by decide),if_pos (by decide)]at h
  refine aC.go iX.h rfl fun B Q hB hQ=>?_
  have⟨hC,hE,hF,hS⟩:=bt
  repeat' (first
 |simp only[go_sem,hC,hE,hF,hS]
 |(rw[zab]at h;obtain⟨_,h1,h⟩:=h;first|(with_reducible refine CU (jr h1 rfl (by with_unfolding_all rfl)) ?_)|(with_reducible refine CU (kN (y9 _ h1) (by with_unfolding_all rfl)) ?_)|(with_reducible refine CU (nV h1 (by with_unfolding_all rfl)) ?_))
 |(with_reducible refine CU (tt (by with_unfolding_all rfl)) ?_)
 |(with_reducible refine CU (tf _ (by decide) (by with_unfolding_all rfl)) ?_)
 |(with_reducible first|refine aX fun hc=>?_|refine aY fun hc=>?_|refine aZ (fun hc=>?_) fun hc=>?_)<;>(try simp only[hc,bs,↓reduceIte]at h)<;>try simp only[hc]
 |((with_reducible refine ay hQ ?_);exact cS))
 ·unfold Rd.plain at h
  rw[if_neg (by decide),if_neg (by decide),if_neg (by decide),if_pos (by decide)]at h
  refine aC.go iX.h rfl fun B Q hB hQ=>?_
  have⟨hC,hE,hF,hS⟩:=bt
  repeat' (first
 |simp only[go_sem,hC,hE,hF,hS]
 |(rw[zab]at h;obtain⟨_,h1,h⟩:=h;first|(with_reducible refine CU (jr h1 rfl (by with_unfolding_all rfl)) ?_)|(with_reducible refine CU (kN (y9 _ h1) (by with_unfolding_all rfl)) ?_)|(with_reducible refine CU (nV h1 (by with_unfolding_all rfl)) ?_))
 |(with_reducible refine CU (tt (by with_unfolding_all rfl)) ?_)
 |(with_reducible refine CU (tf _ (by decide) (by with_unfolding_all rfl)) ?_)
 |(with_reducible first|refine aX fun hc=>?_|refine aY fun hc=>?_|refine aZ (fun hc=>?_) fun hc=>?_)<;>(try simp only[hc,bs,↓reduceIte]at h)<;>try simp only[hc]
 |((with_reducible refine ay hQ ?_);exact cS))
 ·unfold Rd.plain at h
  rw[if_neg (by decide),if_neg (by decide),if_neg (by decide),if_neg (by decide),if_pos (by decide)]at h
  refine aC.go iX.h rfl fun B Q hB hQ=>?_
  have⟨hC,hE,hF,hS⟩:=bt
  repeat' (first
 |simp only[go_sem,hC,hE,hF,hS]
 |(rw[zab]at h;obtain⟨_,h1,h⟩:=h;first|(with_reducible refine CU (jr h1 rfl (by with_unfolding_all rfl)) ?_)|(with_reducible refine CU (kN (y9 _ h1) (by with_unfolding_all rfl)) ?_)|(with_reducible refine CU (nV h1 (by with_unfolding_all rfl)) ?_))
 |(with_reducible refine CU (tt (by with_unfolding_all rfl)) ?_)
 |(with_reducible refine CU (tf _ (by decide) (by with_unfolding_all rfl)) ?_)
 |(with_reducible first|refine aX fun hc=>?_|refine aY fun hc=>?_|refine aZ (fun hc=>?_) fun hc=>?_)<;>(try simp only[hc,bs,↓reduceIte]at h)<;>try simp only[hc]
 |((with_reducible refine ay hQ ?_);exact cS))
 ·unfold Rd.plain at h
  rw[if_neg (by decide),if_neg (by decide),if_neg (by decide),if_neg (by decide),if_neg (by decide),if_pos (by decide)]at h
  refine aC.go iX.h rfl fun B Q hB hQ=>?_
  have⟨hC,hE,hF,hS⟩:=bt
  repeat' (first
 |simp only[go_sem,hC,hE,hF,hS]
 |(rw[zab]at h;obtain⟨_,h1,h⟩:=h;first|(with_reducible refine CU (jr h1 rfl (by with_unfolding_all rfl)) ?_)|(with_reducible refine CU (kN (y9 _ h1) (by with_unfolding_all rfl)) ?_)|(with_reducible refine CU (nV h1 (by with_unfolding_all rfl)) ?_))
 |(with_reducible refine CU (tt (by with_unfolding_all rfl)) ?_)
 |(with_reducible refine CU (tf _ (by decide) (by with_unfolding_all rfl)) ?_)
 |(with_reducible first|refine aX fun hc=>?_|refine aY fun hc=>?_|refine aZ (fun hc=>?_) fun hc=>?_)<;>(try simp only[hc,bs,↓reduceIte]at h)<;>try simp only[hc]
 |((with_reducible refine ay hQ ?_);exact cS))
def Pt {α:Type} (o:Option α) (Q:α→Prop):Prop:=∀ a,o=some a→Q a
theorem Pt.bind {α β:Type} {o:Option α} {f:α→Option β} {Q:α→Prop} {R:β→Prop} (h:Pt o Q) (k : ∀ a,Q a→Pt (f a) R):Pt (o.bind f) R:=by
 intro b hb
 rw[zab]at hb
 obtain⟨a,h1,h2⟩:=hb
 exact k a (h a h1) b h2
theorem Pt.any {α β:Type} {o:Option α} {f:α→Option β} {R:β→Prop} (k : ∀ a,Pt (f a) R):Pt (o.bind f) R:=by
 intro b hb
 rw[zab]at hb
 obtain⟨a,h1,h2⟩:=hb
 exact k a b h2
theorem Pt.some {α:Type} {a:α} {Q:α→Prop} (h:Q a):Pt (some a) Q:=fun b hb=>by cases hb;exact h
theorem Pt.none {α:Type} {Q:α→Prop} : Pt (none:Option α) Q:=fun b hb=>by cases hb
theorem Pt.ite {α:Type} {c:Prop} [Decidable c] {a b:Option α} {Q:α→Prop} (h1:c→Pt a Q) (h2 : ¬ c→Pt b Q):Pt (if c then a else b) Q:=by
 by_cases h:c
 ·rw[if_pos h];exact h1 h
 ·rw[if_neg h];exact h2 h
theorem Pt.mono {α:Type} {o:Option α} {Q R:α→Prop} (h:Pt o Q) (k : ∀ a,Q a→R a):Pt o R:=fun a ha=>k a (h a ha)
structure df (a b:Rd):Prop where
 l:b.l=a.l
 n:b.n=a.n
 g:b.good=true→a.good=true
theorem df.refl (r:Rd):df r r:=⟨rfl,rfl,id⟩
theorem df.i {a b:Rd} (h:df a b) (k:Nat):df a {b with i:=k}:=⟨h.l,h.n,h.g⟩
theorem df.f {a b:Rd} (h:df a b) (hg:b.good=true) (c f:Int):df a {b with code:=c,gE:=f}:=⟨h.l,h.n,fun _=>h.g hg⟩
theorem HD {r0 r:Rd} (h:df r0 r) (c:Int):Pt (r.bad c) (df r0):=by
 unfold Rd.bad
 exact Pt.ite (fun hg=>Pt.any fun t=>Pt.some (h.f hg _ _)) (fun _=>Pt.some h)
theorem ie {r0 r:Rd} (h:df r0 r) (s:aB):Pt (r.take s) (fun p=>df r0 p.2):=by
 unfold Rd.take
 exact Pt.ite (fun hg=>Pt.some h) (fun _=>Pt.any fun b=>Pt.ite (fun _=>Pt.some h) (fun _=>Pt.some (h.i _)))
theorem dS {r0 r:Rd} (h:df r0 r) (s:aB):Pt (r.want s) (df r0):=by
 unfold Rd.want
 exact(ie h s).bind fun p hp=>Pt.ite (fun _=>HD hp _) (fun _=>Pt.some hp)
theorem nR {r0 r:Rd} (h:df r0 r) (room:Bool):Pt (r.name room) (fun p=>df r0 p.2):=by
 unfold Rd.name
 exact Pt.any fun t=>Pt.ite (fun _=>(HD h _).bind fun r hr=>Pt.some hr) (fun _=>Pt.ite (fun _=>(HD h _).bind fun r hr=>Pt.some hr) (fun _=>Pt.some (h.i _)))
theorem adF {r0:Rd} : ∀ n:Nat,(∀ r:Rd,df r0 r→Pt (Rd.one n r) (fun p=>df r0 p.2))∧(∀ (r:Rd) (k:Int),df r0 r→Pt (Rd.two n k r) (fun p=>df r0 p.2))∧
 (∀ (r:Rd) (k:Int) (x:Ex),df r0 r→Pt (Rd.jf n k x r) (fun p=>df r0 p.2)):=by
 intro n
 induction n with
 |zero=>exact⟨fun r _=>by simp only[Rd.one];exact Pt.none,fun r k _=>by simp only[Rd.two];exact Pt.none,fun r k x _=>by simp only[Rd.jf];exact Pt.none⟩
 | succ n ih=>
  obtain⟨qH,tq,xU⟩:=ih
  refine⟨fun r h=>?_,fun r k h=>?_,fun r k x h=>?_⟩
  ·simp only [Rd.one]
   refine Pt.any fun t=>Pt.ite (fun _=>Pt.some h) fun _=>Pt.ite (fun _=>Pt.some (h.i _)) fun _=>Pt.ite (fun _=>Pt.some (h.i _)) fun _=>?_
   refine(ie h _).bind fun p hp=>Pt.ite (fun _=>(tq _ _ hp).bind fun x hx=>(dS hx _).bind fun r hr=>Pt.some hr) fun _=>?_
   refine(ie hp _).bind fun p hp=>Pt.ite (fun _=>(qH _ hp).bind fun x hx=>Pt.some hx) fun _=>?_
   refine(ie hp _).bind fun p hp=>Pt.ite (fun _=>(qH _ hp).bind fun x hx=>Pt.some hx) fun _=>?_
   exact(HD hp _).bind fun r hr=>Pt.some hr
  ·simp only [Rd.two]
   exact(qH _ h).bind fun x hx=>xU _ _ _ hx
  ·simp only [Rd.jf]
   exact Pt.ite (fun _=>Pt.any fun t=>Pt.ite (fun _=>Pt.some h) fun _=>(tq _ _ (h.i _)).bind fun y hy=>xU _ _ _ hy) (fun _=>Pt.some h)
theorem rR {n:Nat} {r0 r:Rd} (h:df r0 r):Pt (Rd.whole n r) (fun p=>df r0 p.2):=by
 unfold Rd.whole
 exact Pt.any fun t=>((adF n).2.1 _ _ h).bind fun x hx=>Pt.ite (fun hg=>Pt.any fun d=>Pt.ite (fun _=>Pt.some (hx.f hg _ _)) fun _=>Pt.some hx) fun _=>Pt.some hx
theorem xY {dk:Int} {r0:Rd} : ∀ (n:Nat) (l:List aB) (r:Rd),df r0 r→Pt (Rd.names n l dk r) (fun p=>df r0 p.2):=by
 intro n
 induction n with
 |zero=>intro l r _;simp only[Rd.names];exact Pt.none
 |succ n ih=>
  intro l r h
  simp only[Rd.names]
  exact Pt.ite (fun _=>(nR h _).bind fun p hp=>Pt.any fun l=>(ie hp _).bind fun q hq=>Pt.ite (fun _=>(dS hq _).bind fun r hr=>Pt.some hr) fun _=>ih _ _ hq) fun _=>Pt.some h
theorem W9 {r0:Rd} : ∀ (n:Nat) (l:List aB) (r:Rd),df r0 r→Pt (Rd.labels n l r) (fun p=>df r0 p.2):=by
 intro n
 induction n with
 |zero=>intro l r _;simp only[Rd.labels];exact Pt.none
 |succ n ih=>
  intro l r h
  simp only[Rd.labels]
  exact Pt.any fun b=>Pt.ite (fun _=>Pt.any fun t=>Pt.any fun l=>ih _ _ (h.i _)) fun _=>Pt.some h
theorem aai {m:Nat} {r0:Rd} : ∀ (n:Nat) (l:List Ar) (r:Rd),df r0 r→Pt (Rd.jk m n l r) (fun p=>df r0 p.2):=by
 intro n
 induction n with
 |zero=>intro l r _;simp only[Rd.jk];exact Pt.none
 |succ n ih=>
  intro l r h
  simp only[Rd.jk]
  refine Pt.ite (fun _=>(ie h _).bind fun p hp=>Pt.ite (fun _=>?_) fun _=>?_) fun _=>Pt.some h
  ·exact(nR hp _).bind fun x hx=>Pt.any fun l=>(ie hx _).bind fun c hc=>Pt.ite (fun _=>Pt.some hc) fun _=>ih _ _ hc
  ·exact(rR hp).bind fun x hx=>Pt.any fun l=>(ie hx _).bind fun c hc=>Pt.ite (fun _=>Pt.some hc) fun _=>ih _ _ hc
def SmK (r0:Rd) (p:Sm×Rd):Prop:=df r0 p.2∧p.1.bb = []∧p.1.aR = []
theorem S3 {m:Nat} {name proc:aB} {r0 r:Rd} (h:df r0 r):Pt (Rd.call m name proc r) (SmK r0):=by
 unfold Rd.call
 refine(dS h _).bind fun r hr=>Pt.any fun b=>Pt.ite (fun _=>?_) fun _=>?_
 ·exact(aai _ _ _ hr).bind fun q hq=>(dS hq _).bind fun r hr=>(dS hr _).bind fun r hr=>Pt.some ⟨hr,rfl,rfl⟩
 ·exact(dS hr _).bind fun r hr=>(dS hr _).bind fun r hr=>Pt.some ⟨hr,rfl,rfl⟩
theorem Mh {m:Nat} {r0 r:Rd} (h:df r0 r):Pt (Rd.named m r) (SmK r0):=by
 unfold Rd.named
 refine(nR h _).bind fun x hx=>Pt.any fun b=>Pt.ite (fun _=>S3 hx) fun _=>(dS hx _).bind fun r hr=>Pt.any fun b=>Pt.ite (fun _=>?_) fun _=>?_
 ·exact(nR hr _).bind fun y hy=>S3 hy
 ·exact(rR hr).bind fun y hy=>(dS hy _).bind fun r hr=>Pt.some ⟨hr,rfl,rfl⟩
theorem Mi {m:Nat} {word:aB} {r0 r:Rd} (h:df r0 r):Pt (Rd.plain m word r) (SmK r0):=by
 unfold Rd.plain
 refine Pt.ite (fun _=>Pt.some ⟨h,rfl,rfl⟩) fun _=>Pt.ite (fun _=>Pt.some ⟨h,rfl,rfl⟩) fun _=>Pt.ite (fun _=>Pt.any fun b=>Pt.ite (fun _=>(rR h).bind fun x hx=>Pt.some ⟨hx,rfl,rfl⟩) fun _=>Pt.some ⟨h,rfl,rfl⟩) fun _=>?_
 refine Pt.ite (fun _=>(nR h _).bind fun x hx=>Pt.some ⟨hx,rfl,rfl⟩) fun _=>Pt.ite (fun _=>(nR h _).bind fun x hx=>Pt.some ⟨hx,rfl,rfl⟩) fun _=>Pt.ite (fun _=>(rR h).bind fun x hx=>Pt.some ⟨hx,rfl,rfl⟩) fun _=>Pt.some ⟨h,rfl,rfl⟩
theorem S4 {m:Nat} {r0 r:Rd} (h:df r0 r):Pt (Rd.head m r) (fun p=>df r0 p.2):=by
 unfold Rd.head
 exact(dS h _).bind fun r hr=>(rR hr).bind fun x hx=>(dS hx _).bind fun r hr=>Pt.some hr
theorem Sm.eV (b:Bool) (s:Sm) : ∀ (l:List Sm) (n:Nat),Sm.b7 b n (l++ [s])=((Sm.b7 b n l).1++ [(Sm.num b (Sm.b7 b n l).2 s).1],(Sm.num b (Sm.b7 b n l).2 s).2)
 | [],n=>by simp only[zaR,Sm.b7]
 |x::l,n=>by simp only[zaH,Sm.b7,Sm.eV b s l]
theorem Sm.nE (b:Bool) (n:Nat) (l:List aB) : ∀ s:Sm,Sm.num b n {s with labels:=l} = ({(Sm.num b n s).1 with labels:=l},(Sm.num b n s).2)
 |⟨_,_,_,_,_,_,_,_,_,_⟩=>by simp only[Sm.num]
theorem Sm.JW (b:Bool) (n:Nat) : ∀ s:Sm,s.bb = []→s.aR = []→(Sm.num b n s).2=n+1
 |⟨_,_,_,_,_,_,_,_,_,_⟩,h1,h2=>by dsimp only at h1 h2;subst h1;subst h2;simp only[Sm.num,Sm.b7]
structure lq (r:Rd) (k:Nat) (r':Rd):Prop where
 l:r'.l=r.l
 g:r'.good=true→r.good=true
 n:r'.good=true→k=r'.n
 le:r'.good=true→r.n≤200→r'.n≤200
theorem vY (r:Rd) {c:Int} (hc:c≠0):Pt (r.bad c) (fun r'=>r'.l=r.l∧r'.good=false):=by
 unfold Rd.bad
 refine Pt.ite (fun hg=>Pt.any fun t=>Pt.some ⟨rfl, ?_⟩) (fun hg=>Pt.some ⟨rfl,by simpa using hg⟩)
 simpa using hc
theorem lq.bad {r r':Rd} {k:Nat} (h:r'.l=r.l∧r'.good=false):lq r k r':=by
 have e : ¬ r'.good=true:=by rw[h.2];decide
 exact⟨h.1,fun g=>(e g).elim,fun g=>(e g).elim,fun g=>(e g).elim⟩
theorem lq.keep {r a b:Rd} {k:Nat} (h:lq r k a) (e:df a b):lq r k b:=
 ⟨e.l.trans h.l,fun g=>h.g (e.g g),fun g=>(h.n (e.g g)).trans e.n.symm,fun g hn=>by rw[e.n];exact h.le (e.g g) hn⟩
theorem lq.trans {r a b:Rd} {k j:Nat} (h:lq r k a) (e:lq a j b):lq r j b:=
 ⟨e.l.trans h.l,fun g=>h.g (e.g g),e.n,fun g hn=>e.le g (h.le (e.g g) hn)⟩
theorem lq.refl (r:Rd):lq r r.n r:=⟨rfl,id,fun _=>rfl,fun _ h=>h⟩
theorem nW {m:Nat} : ∀ n:Nat,
 (∀ (nest:Int) (body:Bool) (r:Rd),Pt (Rd.rows m n nest body r) fun p=>lq r (Sm.b7 true r.n p.1.1).2 p.2)∧
 (∀ (nest:Int) (body:Bool) (out:List Sm) (r0 r:Rd),lq r0 (Sm.b7 true r0.n out).2 r→Pt (Rd.dI m n nest body out r) fun p=>lq r0 (Sm.b7 true r0.n p.1.1).2 p.2)∧
 (∀ (nest:Int) (r:Rd),Pt (Rd.stmt m n nest r) fun p=>lq r (Sm.num true r.n p.1).2 p.2)∧
 (∀ (nest:Int) (r:Rd),Pt (Rd.block m n nest r) fun p=>lq r (Sm.b7 true r.n p.1).2 p.2)∧
 (∀ (nest:Int) (r:Rd),Pt (Rd.choice m n nest r) fun p=>lq r (Sm.b7 true (Sm.b7 true r.n p.1.bb).2 p.1.aR).2 p.2):=by
 intro n
 induction n with
 |zero=>
  refine⟨fun _ _ r=>?_,fun _ _ _ _ r _=>?_,fun _ r=>?_,fun _ r=>?_,fun _ r=>?_⟩
  ·simp only[Rd.rows];exact Pt.none
  ·simp only[Rd.dI];exact Pt.none
  ·simp only[Rd.stmt];exact Pt.none
  ·simp only[Rd.block];exact Pt.none
  ·simp only[Rd.choice];exact Pt.none
 | succ n ih=>
  obtain⟨i1,i2,i3,i4,i5⟩:=ih
  refine⟨fun nest body r=>?_,fun nest body out r0 r h=>?_,fun nest r=>?_,fun nest r=>?_,fun nest r=>?_⟩
  ·simp only [Rd.rows]
   exact i2 _ _ _ _ _ ⟨rfl,id,fun _=>rfl,fun _ h=>h⟩
  ·simp only [Rd.dI]
   refine Pt.ite (fun hg=>?_) (fun hg=>?_)
   ·refine(W9 m [] r (df.refl r)).bind fun l hl=>Pt.any fun b=>Pt.ite (fun _=>Pt.some (h.keep (hl.i _))) fun _=> ?_
    refine(i3 nest l.2).bind fun s hs=>?_
    refine Pt.bind (Q:=fun l'=>l'=out++ [{s.1 with labels:=l.1}]) (fun a ha=>(dH ha).2) fun l' e=>?_
    subst e
    refine i2 _ _ _ _ _ ?_
    rw[Sm.eV,Sm.nE]
    have h2:=h.keep hl
    refine⟨hs.l.trans h2.l,fun g=>h2.g (hs.g g),fun g=>?_,fun g hn=>hs.le g (h2.le (hs.g g) hn)⟩
    rw[h2.n (hs.g g)]
    exact hs.n g
   ·have hg:r.good=false:=by simpa using hg
    exact Pt.some (lq.bad ⟨h.l,hg⟩)
  ·simp only [Rd.stmt]
   refine Pt.any fun b=>Pt.ite (fun _=>(vY r (by decide)).bind fun r' hr=>Pt.some (lq.bad hr)) fun _=>?_
   refine Pt.bind (Q:=fun k=>k=r.n+1) (fun a ha=>(Cf ha).2) fun k e=>?_
   subst e
   refine Pt.ite (fun _=>(vY _ (by decide)).bind fun r' hr=>Pt.some (lq.bad hr)) fun hl=>?_
   have hk:r.n+1≤200:=by
    simp only[zay,decide_eq_true_eq,not_or]at hl
    omega
   have h0 : ∀ j,lq r (r.n+1) {r with i:=j,n:=r.n+1}:=fun j=>⟨rfl,id,fun _=>rfl,fun _ _=>hk⟩
   refine Pt.any fun t=>Pt.ite (fun _=>?_) fun _=>Pt.ite (fun _=>?_) fun _=>Pt.ite (fun _=>?_) fun _=>?_
   ·refine(Mh (df.refl _)).mono fun p hp=> ?_
    rw[Sm.JW true _ _ hp.2.1 hp.2.2]
    exact(h0 r.i).keep hp.1
   ·refine(i5 nest _).mono fun p hp=> ?_
    obtain⟨⟨_,_,_,_,_,_,_,_,_,_⟩,r'⟩:=p
    simp only[Sm.num]
    exact(h0 _).trans hp
   ·refine(S4 (df.refl _)).bind fun x hx=>(i4 nest x.2).bind fun b hb=>Pt.some ?_
    simp only[Sm.num,Sm.b7]
    have e:=hx.n
    dsimp only at e
    rw[← e]
    exact((h0 _).keep hx).trans hb
   ·refine(Mi (df.refl _)).bind fun s hs=>(dS hs.1 _).bind fun r' hr=>Pt.some ?_
    rw[Sm.JW true _ _ hs.2.1 hs.2.2]
    exact(h0 _).keep hr
  ·simp only [Rd.block]
   refine(dS (df.refl r) _).bind fun r1 hr=>Pt.any fun k=>(i1 k false r1).bind fun p hp=>Pt.some ?_
   rw[← hr.n]
   exact((lq.refl r).keep hr).trans hp
  ·simp only [Rd.choice]
   refine(S4 (df.refl r)).bind fun x hx=>(i4 nest x.2).bind fun t ht=>(ie (df.refl t.2) _).bind fun q hq=>Pt.ite (fun _=>?_) fun _=>?_
   ·refine(i4 nest q.2).bind fun e he=>Pt.some ?_
    dsimp only
    have h1:=(((lq.refl r).keep hx).trans ht).keep hq
    have h2:=h1.trans he
    refine⟨h2.l,h2.g,fun g=>?_,h2.le⟩
    have e1:=he.n g
    have e2:=h1.n (he.g g)
    rw[hx.n]at e2
    rw[e2]
    exact e1
   ·refine Pt.some ?_
    dsimp only[Sm.b7]
    rw[← hx.n]
    exact(((lq.refl r).keep hx).trans ht).keep hq
def cN (r:Rd):D:=match r.good with|true=> .int .i64 r.n|false=> .junk
instance (r:Rd):Cell (cN r):=by
 unfold cN
 cases r.good
 ·exact inferInstanceAs (Cell .junk)
 ·exact inferInstanceAs (Cell (.int .i64 _))
def fw (g:Bool) (v:Sm):List D:=match g with|true=>bn v|false=> [.junk, .junk, .junk, .junk, .junk, .junk, .junk, .junk, .junk, .junk, .junk, .junk, .junk]
theorem afB (g:Bool) (v:Sm):D.bP 0 0 (fw g v)=true:=by
 cases g
 ·rfl
 ·exact ke v
def TW (l:List bN):Prop:=∀ t∈l,t.kind=4→wN t.text=false
abbrev S5 (m n:Nat):Prop:=∀ {k:Int} {z:D} [Cell z] {r r1:Rd} {p:(List Sm×List aB)×Rd},r.want [123] = some r1→Rd.rows m n k false r1=some p→TW r.l→(r1.good=true→z = .int .i64 r1.n)→(r1.good=true→r1.n≤200)→
 ∀ {s:St} {o:Nat},s.aw[o]? = some (bC z r)→
 aC Tryz.prog 156 [.ptr o 0, .int .i64 k, .bool false] s (.tuple [.slice .shared 13 ((Sm.b7 true r1.n p.1.1).1.map bn), .slice .shared 1 (p.1.2.map encStr)]) ⟨s.aw.set o (bC (cN p.2) p.2),s.aE⟩
abbrev Bo (m n:Nat):Prop:=∀ {nest:Int} {labels:List aB} {r:Rd} {p:Sm×Rd},Rd.stmt m n nest r=some p→r.good=true→TW r.l→r.n≤200→
 ∀ {s:St} {o:Nat},s.aw[o]? = some (bC (.int .i64 r.n) r)→
 aC Tryz.prog 189 [.ptr o 0, .slice .shared 1 (labels.map encStr), .int .i64 nest] s (.agg (fw p.2.good (Sm.num true r.n {p.1 with labels:=labels}).1)) ⟨s.aw.set o (bC (cN p.2) p.2),s.aE⟩
theorem kR {r:Rd} (h:r.good=false):cN r = .junk:=by simp[cN,h]
theorem pH {r:Rd} (h:r.good=true):cN r = .int .i64 r.n:=by simp[cN,h]
set_option maxHeartbeats 2000000 in
theorem PO {m n : Nat} (uL : ∀ j ≤ n, S5 m j) : Bo m (n + 1) := by
 intro nest labels r p h hg hT hN s o ho
 refine aC.fy ?_ (by simp[D.bP, D.ok, da, Tag.ok]) (gI _ r) (gI _ p.2) (by simp[D.ok, afB]) ho
 simp only[Rd.stmt]at h
 rw[zab]at h
 obtain ⟨b, hb, h⟩ := h
 have bg := fun {z : D} [Cell z] {s : St} {o : Nat} (ho : s.aw[o]? = some (bC z r)) => S2 hb hg (fun t ht => hT t (zae ht)) ho
 have hS : 0 < 1 := zas
 cases b
 · simp only [zao, ↓reduceIte] at h
   rw[zab]at h
   obtain ⟨r1, h1, h⟩ := h
   have e := (vY r (by decide) _ h1).2
   cases h
   have fl := fun {z : D} [Cell z] {s : St} {o : Nat} (ho : s.aw[o]? = some (bC z r)) => nU h1 ho
   dsimp only
   rw[e, kR e]
   refine aC.go eK.h rfl fun B Q hB hQ =>?_
   have ⟨hC, hE, hF, hS⟩ := bt
   repeat' (first
 |simp only[go_sem, hC, hE, hF, hS, fw]
 |(with_reducible refine CU (bg (by with_unfolding_all rfl)) ?_)
 |(with_reducible refine CU (fl (by with_unfolding_all rfl)) ?_)
 |(with_reducible first|refine aX fun hc =>?_|refine aY fun hc =>?_|refine aZ (fun hc =>?_) fun hc =>?_)<;>(try simp only[hc, bs,↓reduceIte]at h)<;>try simp only[hc]
 |(with_reducible refine ay hQ ?_; simp only[bp, bq, bS, bT, go_sem, hC, hE, hF, hS, fw]; try exact cp))
 · simp only [zan, zaa, ↓reduceIte] at h
   rw[zab]at h
   obtain ⟨k, hk, h⟩ := h
   obtain ⟨hS, rfl⟩ := Cf hk
   by_cases alC : r.n = 200 ∨ nest > 12
   · have e1 : (decide (((r.n + 1 : Nat) : Int) > 200) || decide (nest > 12)) = true := by
       simp only[zay, decide_eq_true_eq]; omega
     rw[if_pos e1]at h
     rw[zab]at h
     obtain ⟨r1, h1, h⟩ := h
     have e := (vY _ (by decide) _ h1).2
     cases h
     have fl := fun {z : D} [Cell z] {s : St} {o : Nat} (ho : s.aw[o]? = some (bC z { r with n := r.n + 1 })) => nU h1 ho
     dsimp only
     rw[e, kR e]
     by_cases fL : r.n = 200
     · have q1 : ((r.n : Int) == 200) = true := by simp [fL]
       refine aC.go eK.h rfl fun B Q hB hQ =>?_
       have hC : 0 < 1 := zas
       have hE : 0 < 1 := zas
       have hF : 0 < 1 := zas
       repeat' (first
 |simp only[go_sem, hC, hE, hF, hS, fw, q1]
 |(with_reducible refine CU (bg (by with_unfolding_all rfl)) ?_)
 |(with_reducible refine CU (fl (by with_unfolding_all rfl)) ?_)
 |(with_reducible first|refine aX fun hc =>?_|refine aY fun hc =>?_|refine aZ (fun hc =>?_) fun hc =>?_)<;>(try simp only[hc, bs,↓reduceIte]at h)<;>try simp only[hc]
 |(with_reducible refine ay hQ ?_; simp only[bp, bq, bS, bT, go_sem, hC, hE, hF, hS, fw, q1]; try exact cp))
     · have q1 : ((r.n : Int) == 200) = false := by simp; omega
       have q2 : decide (nest > 12) = true := by simp; omega
       refine aC.go eK.h rfl fun B Q hB hQ =>?_
       have hC : 0 < 1 := zas
       have hE : 0 < 1 := zas
       have hF : 0 < 1 := zas
       repeat' (first
 |simp only[go_sem, hC, hE, hF, hS, fw, q1, q2]
 |(with_reducible refine CU (bg (by with_unfolding_all rfl)) ?_)
 |(with_reducible refine CU (fl (by with_unfolding_all rfl)) ?_)
 |(with_reducible first|refine aX fun hc =>?_|refine aY fun hc =>?_|refine aZ (fun hc =>?_) fun hc =>?_)<;>(try simp only[hc, bs,↓reduceIte]at h)<;>try simp only[hc]
 | (with_reducible refine ay hQ ?_; simp only [bp, bq, bS, bT, go_sem, hC, hE, hF, hS, fw, q1, q2]; try exact cp))
   · have e1 : ¬ (decide (((r.n + 1 : Nat) : Int) > 200) || decide (nest > 12)) = true := by
       simp only[zay, decide_eq_true_eq]; omega
     rw[if_neg e1]at h
     have q1 : ((r.n : Int) == 200) = false := by simp; omega
     have q2 : decide (nest > 12) = false := by simp; omega
     have rp : ({ r with n := r.n + 1 } : Rd).good = true := hg
     rw[zab]at h
     obtain ⟨t, ht, h⟩ := h
     have tk := yJ rp ht
     by_cases k1 : t.kind = 1
     · have hn : Rd.named m { r with n := r.n + 1 } = some p := by
         have e : (t.kind == 1) = true := by simp[k1]
         simpa only[e,↓reduceIte] using h
       have iS := Mh (df.refl _) _ hn
       have hM := aah hn rp ht k1
       rw[zab]at hM
       obtain ⟨q, hq, hs⟩ := hM
       unfold JV at hs
       rw[zab]at hs
       obtain ⟨r2, hw, hs⟩ := hs
       cases hs
       obtain ⟨⟨id, kind, LH, name, proc, x, has, args, bb, aR⟩, r3⟩ := q
       obtain ⟨iS, DT, sM⟩ := iS
       dsimp only at DT sM hw
       subst DT sM
       have jI : r2.n = r.n + 1 := iS.n
       have e2 : (t.kind == 3 ||t.kind == 4) = false := by simp[k1]
       have tf : ∀ w : aB, ∀ {z : D} [Cell z] {s : St} {o : Nat}, s.aw[o]? = some (bC z { r with n := r.n + 1 }) → aC Tryz.prog 108 [.ptr o 0, .str w] s (.bool false) ⟨s.aw.set o (bC z { r with n := r.n + 1 }), s.aE⟩ := fun w z _ s o ho => by
         have e := tk w
         simp only[e2, zaO, zaa,↓reduceIte]at e
         exact gN e ho
       have iw := fun {z : D} [Cell z] {s : St} {o : Nat} (ho : s.aw[o]? = some (bC z { r with n := r.n + 1 })) => kN (text := [119, 104, 105, 108, 101]) (b := false) (by simp only[Rd.uE, rp,↓reduceIte, Rd.is, ht, zam, e2, zaO]) ho
       have S7 := fun {z : D} [Cell z] {s : St} {o : Nat} (ho : s.aw[o]? = some (bC z { r with n := r.n + 1 })) => Ld rp ht k1 hq ho
       have wn := fun {z : D} [Cell z] {s : St} {o : Nat} (ho : s.aw[o]? = some (bC z r3)) => fY hw ho
       dsimp only[Sm.num, Sm.b7,↓reduceIte]
       cases bJ : r2.good
       · rw [kR bJ]
         refine aC.go eK.h rfl fun B Q hB hQ =>?_
         have hC : 0 < 1 := zas
         have hE : 0 < 1 := zas
         have hF : 0 < 1 := zas
         repeat' (first
 |simp only[go_sem, hC, hE, hF, hS, fw, q1, q2]
 |(with_reducible refine CU (bg (by with_unfolding_all rfl)) ?_)
 |(with_reducible refine CU (iw (by with_unfolding_all rfl)) ?_)
 |(with_reducible refine CU (tf _ (by with_unfolding_all rfl)) ?_)
 |(with_reducible refine CU (S7 (by with_unfolding_all rfl)) ?_)
 |(with_reducible refine CU (wn (by with_unfolding_all rfl)) ?_)
 |(with_reducible first|refine aX fun hc =>?_|refine aY fun hc =>?_|refine aZ (fun hc =>?_) fun hc =>?_)<;>(try simp only[hc, bs,↓reduceIte]at h)<;>try simp only[hc]
 |(with_reducible refine ay hQ ?_; simp only[bp, bq, bS, bT, go_sem, hC, hE, hF, hS, fw, q1, q2]; try exact cp))
       · rw [pH bJ, jI]
         refine aC.go eK.h rfl fun B Q hB hQ =>?_
         have hC : 0 < 1 := zas
         have hE : 0 < 1 := zas
         have hF : 0 < 1 := zas
         repeat' (first
 |simp only[go_sem, hC, hE, hF, hS, fw, q1, q2, cD]
 |(with_reducible refine CU (bg (by with_unfolding_all rfl)) ?_)
 |(with_reducible refine CU (iw (by with_unfolding_all rfl)) ?_)
 |(with_reducible refine CU (tf _ (by with_unfolding_all rfl)) ?_)
 |(with_reducible refine CU (S7 (by with_unfolding_all rfl)) ?_)
 |(with_reducible refine CU (wn (by with_unfolding_all rfl)) ?_)
 |(with_reducible first|refine aX fun hc =>?_|refine aY fun hc =>?_|refine aZ (fun hc =>?_) fun hc =>?_)<;>(try simp only[hc, bs,↓reduceIte]at h)<;>try simp only[hc]
 |(with_reducible refine ay hQ ?_; simp only[bp, bq, bS, bT, go_sem, hC, hE, hF, hS, fw, q1, q2, cD]; try exact cp))
     · have tu : t.kind = 3 ∧ wN t.text = true := by
         unfold Rd.lU at hb
         have mB : r.fA = some t := ht
         have e : (t.kind == 1) = false := by simpa using k1
         rw[mB, zam]at hb
         simp only[e, zaa,↓reduceIte, Option.some.injEq]at hb
         by_cases k3 : t.kind = 3
         · have e3 : (t.kind != 3) = false := by simp [k3]
           simp only[e3, zaa,↓reduceIte]at hb
           exact ⟨k3, hb⟩
         · have e3 : (t.kind != 3) = true := by simp [k3]
           simp only[e3,↓reduceIte]at hb
           cases hb
       obtain ⟨k3, LJ⟩ := tu
       have e1 : (t.kind == 1) = false := by simpa using k1
       have e2 : (t.kind == 3 ||t.kind == 4) = true := by simp[k3]
       simp only[e1, zaa,↓reduceIte]at h
       have tf : ∀ w : aB, (t.text == w) = false → ∀ {z : D} [Cell z] {s : St} {o : Nat}, s.aw[o]? = some (bC z { r with n := r.n + 1 }) → aC Tryz.prog 108 [.ptr o 0, .str w] s (.bool false) ⟨s.aw.set o (bC z { r with n := r.n + 1 }), s.aE⟩ := fun w hw z _ s o ho => by
         have e := tk w
         simp only[hw, zbf, zaa,↓reduceIte]at e
         exact gN e ho
       have iw := fun {z : D} [Cell z] {s : St} {o : Nat} (ho : s.aw[o]? = some (bC z { r with n := r.n + 1 })) => kN (text := [119, 104, 105, 108, 101]) (b := t.text == [119, 104, 105, 108, 101]) (by simp only[Rd.uE, rp,↓reduceIte, Rd.is, ht, zam, e2, zbc]) ho
       cases hi : t.text == [105, 102]
       · cases hh : t.text == [119, 104, 105, 108, 101]
         · simp only [hi, hh, zaa, ↓reduceIte] at h
           rw[zab]at h
           obtain ⟨q, hq, hs⟩ := h
           have iS := Mi (df.refl _) _ hq
           rw[zab]at hs
           obtain ⟨r2, hw, hs⟩ := hs
           have hkw := dS iS.1 _ _ hw
           cases hs
           obtain ⟨⟨id, kind, LH, name, proc, x, has, args, bb, aR⟩, r3⟩ := q
           obtain ⟨iS, DT, sM⟩ := iS
           dsimp only at DT sM hw
           subst DT sM
           have jI : r2.n = r.n + 1 := hkw.n
           have S7 := fun {z : D} [Cell z] {s : St} {o : Nat} (ho : s.aw[o]? = some (bC z { r with n := r.n + 1 })) => Lf rp ht k3 LJ hi hh hq ho
           have wn := fun {z : D} [Cell z] {s : St} {o : Nat} (ho : s.aw[o]? = some (bC z r3)) => fY hw ho
           dsimp only[Sm.num, Sm.b7,↓reduceIte]
           cases bJ : r2.good
           · rw [kR bJ]
             refine aC.go eK.h rfl fun B Q hB hQ =>?_
             have hC : 0 < 1 := zas
             have hE : 0 < 1 := zas
             have hF : 0 < 1 := zas
             repeat' (first
 |simp only[go_sem, hC, hE, hF, hS, fw, q1, q2]
 |(with_reducible refine CU (bg (by with_unfolding_all rfl)) ?_)
 |(with_reducible refine CU (iw (by with_unfolding_all rfl)) ?_)
 |(with_reducible refine CU (tf _ hi (by with_unfolding_all rfl)) ?_)
 |(with_reducible refine CU (tf _ hh (by with_unfolding_all rfl)) ?_)
 |(with_reducible refine CU (S7 (by with_unfolding_all rfl)) ?_)
 |(with_reducible refine CU (wn (by with_unfolding_all rfl)) ?_)
 |(with_reducible first|refine aX fun hc =>?_|refine aY fun hc =>?_|refine aZ (fun hc =>?_) fun hc =>?_)<;>(try simp only[hc, bs,↓reduceIte]at h)<;>try simp only[hc]
 |(with_reducible refine ay hQ ?_; simp only[bp, bq, bS, bT, go_sem, hC, hE, hF, hS, fw, q1, q2]; try exact cp))
           · rw [pH bJ, jI]
             refine aC.go eK.h rfl fun B Q hB hQ =>?_
             have hC : 0 < 1 := zas
             have hE : 0 < 1 := zas
             have hF : 0 < 1 := zas
             repeat' (first
 |simp only[go_sem, hC, hE, hF, hS, fw, q1, q2, cD]
 |(with_reducible refine CU (bg (by with_unfolding_all rfl)) ?_)
 |(with_reducible refine CU (iw (by with_unfolding_all rfl)) ?_)
 |(with_reducible refine CU (tf _ hi (by with_unfolding_all rfl)) ?_)
 |(with_reducible refine CU (tf _ hh (by with_unfolding_all rfl)) ?_)
 |(with_reducible refine CU (S7 (by with_unfolding_all rfl)) ?_)
 |(with_reducible refine CU (wn (by with_unfolding_all rfl)) ?_)
 |(with_reducible first|refine aX fun hc =>?_|refine aY fun hc =>?_|refine aZ (fun hc =>?_) fun hc =>?_)<;>(try simp only[hc, bs,↓reduceIte]at h)<;>try simp only[hc]
 |(with_reducible refine ay hQ ?_; simp only[bp, bq, bS, bT, go_sem, hC, hE, hF, hS, fw, q1, q2, cD]; try exact cp))
         · simp only [hi, hh, zaa, ↓reduceIte] at h
           rw[zab]at h
           obtain ⟨x, hx, h⟩ := h
           rw[zab]at h
           obtain ⟨bl, mY, h⟩ := h
           unfold Rd.head at hx
           rw[zab]at hx
           obtain ⟨ra, S8, hx⟩ := hx
           rw[zab]at hx
           obtain ⟨y, hy, hx⟩ := hx
           rw[zab]at hx
           obtain ⟨rb, S9, hx⟩ := hx
           cases hx
           have ka := dS (df.refl _) _ _ S8
           have ky := rR ka _ hy
           have kb := dS ky _ _ S9
           cases n with
           |zero => simp only[Rd.block]at mY; cases mY
           |succ n =>
           simp only[Rd.block]at mY
           rw[zab]at mY
           obtain ⟨rc, Ta, mY⟩ := mY
           have kc := dS kb _ _ Ta
           rw[zab]at mY
           obtain ⟨kk, sr, mY⟩ := mY
           obtain ⟨kP, rfl⟩ := vt sr
           rw[zab]at mY
           obtain ⟨pr, tE, mY⟩ := mY
           cases mY
           cases h
           have nj : rc.n = r.n + 1 := kc.n
           have bk := fun {s : St} {o : Nat} (ho : s.aw[o]? = some (bC (.int .i64 ((r.n + 1 : Nat) : Int)) rb)) =>
             uL n (by omega) Ta tE (by rw[kb.l]; exact hT) (fun _ => by rw[nj]) (fun _ => by rw[nj]; omega) ho
           have eU := ((nW n).1 _ _ _ _ tE).n
           rw[nj]at bk eU
           have tt := fun {z : D} [Cell z] {s : St} {o : Nat} (ho : s.aw[o]? = some (bC z { r with n := r.n + 1 })) => gN (p := (true, { r with n := r.n + 1, i := r.i + 1 })) (text := [119, 104, 105, 108, 101]) (by rw[tk, e2, hh]; rfl) ho
           have wa := fun {z : D} [Cell z] {s : St} {o : Nat} (ho : s.aw[o]? = some (bC z { r with n := r.n + 1, i := r.i + 1 })) => fY S8 ho
           have ey := fun {z : D} [Cell z] {s : St} {o : Nat} (ho : s.aw[o]? = some (bC z ra)) => nV hy ho
           have wb := fun {z : D} [Cell z] {s : St} {o : Nat} (ho : s.aw[o]? = some (bC z y.2)) => fY S9 ho
           dsimp only[Sm.num, Sm.b7,↓reduceIte]
           cases bJ : pr.2.good
           · rw [kR bJ] at bk ⊢
             refine aC.go eK.h rfl fun B Q hB hQ =>?_
             have hC : 0 < 1 := zas
             have hE : 0 < 1 := zas
             have hF : 0 < 1 := zas
             repeat' (first
 |simp only[go_sem, hC, hE, hF, hS, fw, q1, q2, kP, hh]
 |(with_reducible refine CU (bg (by with_unfolding_all rfl)) ?_)
 |(with_reducible refine CU (iw (by with_unfolding_all rfl)) ?_)
 |(with_reducible refine CU (tf _ hi (by with_unfolding_all rfl)) ?_)
 |(with_reducible refine CU (tt (by with_unfolding_all rfl)) ?_)
 |(with_reducible refine CU (wa (by with_unfolding_all rfl)) ?_)
 |(with_reducible refine CU (ey (by with_unfolding_all rfl)) ?_)
 |(with_reducible refine CU (wb (by with_unfolding_all rfl)) ?_)
 |(with_reducible refine CU (bk (by with_unfolding_all rfl)) ?_)
 |(with_reducible first|refine aX fun hc =>?_|refine aY fun hc =>?_|refine aZ (fun hc =>?_) fun hc =>?_)<;>(try simp only[hc, bs,↓reduceIte]at h)<;>try simp only[hc]
 |(with_reducible refine ay hQ ?_; simp only[bp, bq, bS, bT, go_sem, hC, hE, hF, hS, fw, q1, q2, kP, hh]; try exact cp))
           · rw [pH bJ] at bk ⊢
             refine aC.go eK.h rfl fun B Q hB hQ =>?_
             have hC : 0 < 1 := zas
             have hE : 0 < 1 := zas
             have hF : 0 < 1 := zas
             repeat' (first
 |simp only[go_sem, hC, hE, hF, hS, fw, q1, q2, kP, hh, cD]
 |(with_reducible refine CU (bg (by with_unfolding_all rfl)) ?_)
 |(with_reducible refine CU (iw (by with_unfolding_all rfl)) ?_)
 |(with_reducible refine CU (tf _ hi (by with_unfolding_all rfl)) ?_)
 |(with_reducible refine CU (tt (by with_unfolding_all rfl)) ?_)
 |(with_reducible refine CU (wa (by with_unfolding_all rfl)) ?_)
 |(with_reducible refine CU (ey (by with_unfolding_all rfl)) ?_)
 |(with_reducible refine CU (wb (by with_unfolding_all rfl)) ?_)
 |(with_reducible refine CU (bk (by with_unfolding_all rfl)) ?_)
 |(with_reducible first|refine aX fun hc =>?_|refine aY fun hc =>?_|refine aZ (fun hc =>?_) fun hc =>?_)<;>(try simp only[hc, bs,↓reduceIte]at h)<;>try simp only[hc]
 |(with_reducible refine ay hQ ?_; simp only[bp, bq, bS, bT, go_sem, hC, hE, hF, hS, fw, q1, q2, kP, hh, cD]; try exact cp))
       · have hh : (t.text == [119, 104, 105, 108, 101]) = false := by
           have e : t.text = [105, 102] := by simpa using hi
           rw[e]; rfl
         simp only[hi,↓reduceIte]at h
         cases n with
         |zero => simp only[Rd.choice]at h; cases h
         |succ n =>
         simp only[Rd.choice]at h
         rw[zab]at h
         obtain ⟨x, hx, h⟩ := h
         rw[zab]at h
         obtain ⟨bl, mY, h⟩ := h
         rw[zab]at h
         obtain ⟨q, hq, h⟩ := h
         unfold Rd.head at hx
         rw[zab]at hx
         obtain ⟨ra, S8, hx⟩ := hx
         rw[zab]at hx
         obtain ⟨y, hy, hx⟩ := hx
         rw[zab]at hx
         obtain ⟨rb, S9, hx⟩ := hx
         cases hx
         have ka := dS (df.refl _) _ _ S8
         have ky := rR ka _ hy
         have kb := dS ky _ _ S9
         cases n with
         |zero => simp only[Rd.block]at mY; cases mY
         |succ n =>
         simp only[Rd.block]at mY
         rw[zab]at mY
         obtain ⟨rc, Ta, mY⟩ := mY
         have kc := dS kb _ _ Ta
         rw[zab]at mY
         obtain ⟨kk, sr, mY⟩ := mY
         obtain ⟨kP, rfl⟩ := vt sr
         rw[zab]at mY
         obtain ⟨pr, tE, mY⟩ := mY
         cases mY
         have nj : rc.n = r.n + 1 := kc.n
         have bk := fun {s : St} {o : Nat} (ho : s.aw[o]? = some (bC (.int .i64 ((r.n + 1 : Nat) : Int)) rb)) =>
           uL n (by omega) Ta tE (by rw[kb.l]; exact hT) (fun _ => by rw[nj]) (fun _ => by rw[nj]; omega) ho
         have eU := (nW n).1 _ _ _ _ tE
         have hnn := eU.n
         rw[nj]at bk hnn
         have tt := fun {z : D} [Cell z] {s : St} {o : Nat} (ho : s.aw[o]? = some (bC z { r with n := r.n + 1 })) => gN (p := (true, { r with n := r.n + 1, i := r.i + 1 })) (text := [105, 102]) (by rw[tk, e2, hi]; rfl) ho
         have wa := fun {z : D} [Cell z] {s : St} {o : Nat} (ho : s.aw[o]? = some (bC z { r with n := r.n + 1, i := r.i + 1 })) => fY S8 ho
         have ey := fun {z : D} [Cell z] {s : St} {o : Nat} (ho : s.aw[o]? = some (bC z ra)) => nV hy ho
         have wb := fun {z : D} [Cell z] {s : St} {o : Nat} (ho : s.aw[o]? = some (bC z y.2)) => fY S9 ho
         have te := fun {z : D} [Cell z] {s : St} {o : Nat} (ho : s.aw[o]? = some (bC z pr.2)) => gN hq ho
         have kq := ie (df.refl _) _ _ hq
         dsimp only at te kq hq
         cases qs : q.1
         · simp only [qs, zaa, ↓reduceIte] at h
           cases h
           dsimp only[Sm.num, Sm.b7,↓reduceIte]
           cases bJ : q.2.good
           · rw [kR bJ]
             refine aC.go eK.h rfl fun B Q hB hQ =>?_
             have hC : 0 < 1 := zas
             have hE : 0 < 1 := zas
             have hF : 0 < 1 := zas
             repeat' (first
 |simp only[go_sem, hC, hE, hF, hS, fw, q1, q2, kP, hh, qs]
 |(with_reducible refine CU (bg (by with_unfolding_all rfl)) ?_)
 |(with_reducible refine CU (iw (by with_unfolding_all rfl)) ?_)
 |(with_reducible refine CU (tt (by with_unfolding_all rfl)) ?_)
 |(with_reducible refine CU (wa (by with_unfolding_all rfl)) ?_)
 |(with_reducible refine CU (ey (by with_unfolding_all rfl)) ?_)
 |(with_reducible refine CU (wb (by with_unfolding_all rfl)) ?_)
 |(with_reducible refine CU (bk (by with_unfolding_all rfl)) ?_)
 |(with_reducible refine CU (te (by with_unfolding_all rfl)) ?_)
 |(with_reducible first|refine aX fun hc =>?_|refine aY fun hc =>?_|refine aZ (fun hc =>?_) fun hc =>?_)<;>(try simp only[hc, bs,↓reduceIte]at h)<;>try simp only[hc]
 |(with_reducible refine ay hQ ?_; simp only[bp, bq, bS, bT, go_sem, hC, hE, hF, hS, fw, q1, q2, kP, hh, qs]; try exact cp))
           · rw [pH bJ, kq.n]
             rw[pH (kq.g bJ)]at bk
             refine aC.go eK.h rfl fun B Q hB hQ =>?_
             have hC : 0 < 1 := zas
             have hE : 0 < 1 := zas
             have hF : 0 < 1 := zas
             repeat' (first
 |simp only[go_sem, hC, hE, hF, hS, fw, q1, q2, kP, hh, qs, cD]
 |(with_reducible refine CU (bg (by with_unfolding_all rfl)) ?_)
 |(with_reducible refine CU (iw (by with_unfolding_all rfl)) ?_)
 |(with_reducible refine CU (tt (by with_unfolding_all rfl)) ?_)
 |(with_reducible refine CU (wa (by with_unfolding_all rfl)) ?_)
 |(with_reducible refine CU (ey (by with_unfolding_all rfl)) ?_)
 |(with_reducible refine CU (wb (by with_unfolding_all rfl)) ?_)
 |(with_reducible refine CU (bk (by with_unfolding_all rfl)) ?_)
 |(with_reducible refine CU (te (by with_unfolding_all rfl)) ?_)
 |(with_reducible first|refine aX fun hc =>?_|refine aY fun hc =>?_|refine aZ (fun hc =>?_) fun hc =>?_)<;>(try simp only[hc, bs,↓reduceIte]at h)<;>try simp only[hc]
 |(with_reducible refine ay hQ ?_; simp only[bp, bq, bS, bT, go_sem, hC, hE, hF, hS, fw, q1, q2, kP, hh, qs, cD]; try exact cp))
         · simp only [qs, ↓reduceIte] at h
           obtain ⟨hqg, hpg⟩ := qt hq qs
           rw[zab]at h
           obtain ⟨b2, tu, h⟩ := h
           simp only[Rd.block]at tu
           rw[zab]at tu
           obtain ⟨rd, hwd, tu⟩ := tu
           have kd := dS kq _ _ hwd
           rw[sr, zam]at tu
           rw[zab]at tu
           obtain ⟨pr2, aie, tu⟩ := tu
           cases tu
           cases h
           have hdn : rd.n = (Sm.b7 true (r.n + 1) pr.1.1).2 := by rw[kd.n]; exact (hnn hpg).symm
           have hle : pr.2.n ≤ 200 := eU.le hpg (by rw[nj]; omega)
           rw[pH hpg]at bk
           have Tb := fun {s : St} {o : Nat} (ho : s.aw[o]? = some (bC (.int .i64 (pr.2.n : Int)) q.2)) =>
             uL n (by omega) hwd aie (by rw[kq.l, eU.l, kc.l]; exact hT) (fun _ => by rw[kd.n]) (fun _ => by rw[kd.n]; exact hle) ho
           rw[hdn]at Tb
           dsimp only[Sm.num, Sm.b7,↓reduceIte]
           cases bJ : pr2.2.good
           · rw [kR bJ] at Tb ⊢
             refine aC.go eK.h rfl fun B Q hB hQ =>?_
             have hC : 0 < 1 := zas
             have hE : 0 < 1 := zas
             have hF : 0 < 1 := zas
             repeat' (first
 |simp only[go_sem, hC, hE, hF, hS, fw, q1, q2, kP, hh, qs]
 |(with_reducible refine CU (bg (by with_unfolding_all rfl)) ?_)
 |(with_reducible refine CU (iw (by with_unfolding_all rfl)) ?_)
 |(with_reducible refine CU (tt (by with_unfolding_all rfl)) ?_)
 |(with_reducible refine CU (wa (by with_unfolding_all rfl)) ?_)
 |(with_reducible refine CU (ey (by with_unfolding_all rfl)) ?_)
 |(with_reducible refine CU (wb (by with_unfolding_all rfl)) ?_)
 |(with_reducible refine CU (bk (by with_unfolding_all rfl)) ?_)
 |(with_reducible refine CU (te (by with_unfolding_all rfl)) ?_)
 |(with_reducible refine CU (Tb (by with_unfolding_all rfl)) ?_)
 |(with_reducible first|refine aX fun hc =>?_|refine aY fun hc =>?_|refine aZ (fun hc =>?_) fun hc =>?_)<;>(try simp only[hc, bs,↓reduceIte]at h)<;>try simp only[hc]
 |(with_reducible refine ay hQ ?_; simp only[bp, bq, bS, bT, go_sem, hC, hE, hF, hS, fw, q1, q2, kP, hh, qs]; try exact cp))
           · rw [pH bJ] at Tb ⊢
             refine aC.go eK.h rfl fun B Q hB hQ =>?_
             have hC : 0 < 1 := zas
             have hE : 0 < 1 := zas
             have hF : 0 < 1 := zas
             repeat' (first
 |simp only[go_sem, hC, hE, hF, hS, fw, q1, q2, kP, hh, qs, cD]
 |(with_reducible refine CU (bg (by with_unfolding_all rfl)) ?_)
 |(with_reducible refine CU (iw (by with_unfolding_all rfl)) ?_)
 |(with_reducible refine CU (tt (by with_unfolding_all rfl)) ?_)
 |(with_reducible refine CU (wa (by with_unfolding_all rfl)) ?_)
 |(with_reducible refine CU (ey (by with_unfolding_all rfl)) ?_)
 |(with_reducible refine CU (wb (by with_unfolding_all rfl)) ?_)
 |(with_reducible refine CU (bk (by with_unfolding_all rfl)) ?_)
 |(with_reducible refine CU (te (by with_unfolding_all rfl)) ?_)
 |(with_reducible refine CU (Tb (by with_unfolding_all rfl)) ?_)
 |(with_reducible first|refine aX fun hc =>?_|refine aY fun hc =>?_|refine aZ (fun hc =>?_) fun hc =>?_)<;>(try simp only[hc, bs,↓reduceIte]at h)<;>try simp only[hc]
 |(with_reducible refine ay hQ ?_; simp only[bp, bq, bS, bT, go_sem, hC, hE, hF, hS, fw, q1, q2, kP, hh, qs, cD]; try exact cp))
end Go.Abs
