/-
  What is proved here: part 6 of the road to the claim (Sc5, Ar1, Ar2, Ar3, Srt1, Shelf, SortR, SrtP, Tc1, Tc2, Tc3, Bsl, Tc4, Tc5, Tc6, FlP, JmpP, Jm1, Jm2, MirRun, RunTot, RunFu, RunOk, Swap0, Swap2p, ToP, Al1, Al2, Al3, MirParse, Room1, Al4, Full1, Fits1, Fits2, MirEq, RefEq2, LawTo1, LawAl2, SwP, MirMapS, RightP, RunLo, RunNm, RunMc, RunI).
  No conditions.
-/
import Derived.Test.YtpjadlleefgcpaaGreatRnL5
import Derived.Shelf.Small.Bits
import Derived.Shelf.Strconv.Itoa0
import Derived.Shelf.Sort.Plain
import Derived.Shelf.Slices.Turned
import Derived.Ground.Names2Prog
import Derived.Shelf.Slices.Clone
import Derived.Shelf.Slices.CompactS
import Derived.Shelf.Slices.Cells
import Derived.Shelf.Slices.In.SortNone
import Derived.Ground.SlgnProg
import Derived.Shelf.SlicesE.Clone
import Derived.Test.YtpjadlleefgcpaaGreatProg
import Derived.Sort.Walk0

set_option linter.unusedSimpArgs false
set_option linter.unusedVariables false
namespace Go.Abs
set_option maxRecDepth 8000
open Go.Proofs
theorem YT (x:It):(dn x)[1]? = some (.int .i64 x.s.kind):=nd rfl
theorem YU (x:It):(dn x)[3]? = some (.str x.s.name):=nd rfl
theorem YV (x:It):(dn x)[4]? = some (.str x.s.proc):=nd rfl
theorem acS (x:It):List.take 16 (dn x)=dn x:=nd rfl
attribute [go_sem] YT YU YV acS
theorem IP {a:List aF} (h:a≠ []) (hl:a.length≤1000000000) {z:Nat} {g:Tag} (o:List (List D)) (T:List (Option Nat)) :
 fH 1 16 (.slice .full z []) (.slice g 1 (a.map encStr)) ⟨o,T⟩=some (.slice (.tok T.length) 1 (a.map encStr),⟨o,T++ [some a.length]⟩):=by
 have:a.length*17≤aV:=by unfold aV;omega
 cases a with
 |nil=>exact absurd rfl h
 |cons x r=>simp only[zat]at this;simp[fH,this]
theorem wN {z:Nat} {g:Tag} (o:List (List D)) (T:List (Option Nat)) :
 fH 1 16 (.slice .full z []) (.slice g 1 []) ⟨o,T⟩=some (.slice .full z [],⟨o,T⟩):=by simp[fH,aV]
theorem C8 {l nx:List aF} (h:l.length+nx.length≤1000000000) {g:Tag} {n0:Option Nat} (o:List (List D)) :
 fH 1 16 (.slice (.tok 1) 1 (l.map encStr)) (.slice g 1 (nx.map encStr)) ⟨o,[n0,some l.length]⟩=some (.slice (.tok 1) 1 ((l++nx).map encStr),⟨o,[n0,some (l++nx).length]⟩):=by
 have:=kB (size:=1) (bytes:=16) (t:=1) (rows:=l.map encStr) (new:=nx.map encStr) (g:=g) (s:=⟨o,[n0,some l.length]⟩) (by simp only[zaw];unfold aV;omega) (by simp)
 rw[this]
 simp
theorem Ha {size bytes:Nat} {x y d:D} {s s':St} (h:fH size bytes x y s=some (d,s')) : ∃ g z rows,d = .slice g z rows:=by
 unfold fH at h
 (repeat' (split at h))<;>first|(cases h;done)|(cases h;exact⟨_,_,_,rfl⟩)
theorem OY {p:Pg} (h:p.gu):p.kO:=SV h.M3
theorem YW {p:Pg} (h:p.gu) (s:St):az Tryz.prog 116 [.agg (bS p)] s (.agg [.int .i64 p.scope.1, .int .i64 p.scope.2]) s:=by
 refine az.pure ?_ (by simp[D.bM,D.ok,gR]) rfl s
 have hm:=fun s=>ajy (OY h) s
 obtain⟨nB,nF,lG⟩:=h.procs
 have od:=fun s=>xi (l:=p.globals) (by omega) .shared s
 have hpn:p.pn.length=p.procs.length:=by simp[Pg.pn]
 have ug:=fun g s=>xi (l:=p.pn) (by omega) g s
 have rU:=fun s=>DY (p:=p) (by omega) iR s
 have Bb:=fun s=>(show az Tryz.prog 149 [.agg (bS p), .str [109,97,105,110]] s (kJ (p.find iR)) s from rU s)
 clear rU
 generalize hR:p.scope=R
 simp only[Pg.scope]at hR
 unfold S0
 rcases zaa p.may with hb|hb
 case inr=>
  simp only[hb]at hm
  simp only[hb,zab,if_false]at hR
  subst hR
  refine az.go zY.h rfl fun B Q hB hQ=>?_
  have⟨hD,hY,hZ,gC⟩:=bb
  repeat' (first
 |simp only[go_sem,hD,hY,hZ,gC]
 |(with_reducible refine CU (hm _) ?_)
 |(with_reducible refine CU (gw _ _ _) ?_)
 |(with_reducible refine ax hQ ?_;exact aB))
 have ajC:=(qP hb).1
 simp only[hb]at hm
 simp only[hb,if_true]at hR
 refine az.go zY.h rfl fun B Q hB hQ=>?_
 have⟨hD,hY,hZ,gC⟩:=bb
 repeat' (first
 |simp only[go_sem,hD,hY,hZ,gC]
 |(with_reducible refine CU (hm _) ?_)
 |(with_reducible refine ax hQ ?_;exact aB))
 refine aN.ln 3 1 rfl ?_
 simp only[go_sem,hD,hY,hZ,gC]
 refine di 2 1 (aN.ind (ι:=List Pc×Nat×List aF×Nat) (fun i=>p.procs.drop i.2.1=i.1∧i.2.2.1++i.1.map (·.name)=p.pn∧i.2.2.2=i.2.2.1.length) (fun i=>i.1.length)
  (fun i=> [(1, .ptr 0 0),(2, .ptr 1 0),(3, .slice (.tok 0) 1 (i.2.2.1.map encStr)),(19, .slice .shared 5 (p.procs.map bN)),(20, .int .i64 (p.procs.length:Int)),(21, .int .i64 (i.2.1:Int))]) (fun i=>⟨[bS p,[.int .i64 0, .int .i64 0]],[some i.2.2.2]⟩) ?_ (p.procs,0,[],0) ⟨rfl,rfl,rfl⟩)
 rintro⟨rest,k,out,n⟩ ⟨h1,h2,h3⟩ IH
 dsimp only at h1 h2 h3
 subst h3
 have hlo:out.length+rest.length≤900000:=by
  have:=congrArg List.length h2
  simp only[zaj,zaw]at this
  omega
 cases rest with
 |cons a rest=>
  obtain⟨hY,g2,hD,g4⟩:=drop_cons h1
  have aZ:k<4611686018427387904:=by omega
  have hZ:(out.length+1)*17≤aV:=by unfold aV;omega
  repeat' (first
 |simp only[go_sem,hD,hY,hZ,gC]
 |(with_reducible refine ax hQ ?_;exact aB))
  refine cv 2 1 ?_ ?_ (IH (rest,k+1,out++ [a.name],out.length+1) ⟨g2,by rw[← h2];simp,by simp⟩ (zae _))
  ·(simp only[go_sem,hD,hY,hZ,gC,aw aZ,zag,zaf,zai,encStr];try exact aU)
  ·(simp only[go_sem,hD,hY,hZ,gC,aw aZ,zag,zaf,zai,encStr];try exact aU)
 | nil=>
  have hD:=drop_nil h1
  simp only[zai,zaI]at h2
  subst h2
  rcases zaa (er p.globals)with b1|b1
  ·simp only [b1,zbj,if_true]at hR
   subst hR
   cases v8:p.find iR<;>simp only[v8,kJ,zbx,zbh,zbF,zbw]at Bb
   all_goals
    repeat' (first
 |simp only[go_sem,hD,hY,hZ,gC,b1]
 |(with_reducible refine CU (Bb _) ?_)
 |(with_reducible refine CU (od _) ?_)
 |(with_reducible refine CU (ug _ _) ?_)
 |(with_reducible refine CU (gw _ _ _) ?_)
 | (with_reducible refine ax hQ ?_;exact aB))
  rcases zaa (er p.pn)with b2|b2
  ·simp only [b1,b2,zbj,zbI,if_true]at hR
   subst hR
   cases v8:p.find iR<;>simp only[v8,kJ,zbx,zbh,zbF,zbw]at Bb
   all_goals
    repeat' (first
 |simp only[go_sem,hD,hY,hZ,gC,b1,b2]
 |(with_reducible refine CU (Bb _) ?_)
 |(with_reducible refine CU (od _) ?_)
 |(with_reducible refine CU (ug _ _) ?_)
 |(with_reducible refine CU (gw _ _ _) ?_)
 | (with_reducible refine ax hQ ?_;exact aB))
  cases v8:p.find iR with
  |none=>
   simp only[v8,kJ,zbx,zbF]at Bb
   have b3:p.oT=true:=by unfold Pg.oT;rw[v8]
   simp only[b1,b2,b3,zbI,if_true]at hR
   subst hR
   repeat' (first
 |simp only[go_sem,hD,hY,hZ,gC,b1,b2]
 |(with_reducible refine CU (Bb _) ?_)
 |(with_reducible refine CU (od _) ?_)
 |(with_reducible refine CU (ug _ _) ?_)
 |(with_reducible refine CU (gw _ _ _) ?_)
 | (with_reducible refine ax hQ ?_;exact aB))
  |some m=>
  simp only[v8,kJ,zbh,zbw]at Bb
  have b3:p.oT=decide ((m.params.length:Int) > 0):=by unfold Pg.oT;rw[v8]
  rw[b3]at hR
  rcases zaa (decide ((m.params.length:Int) > 0))with b4|b4
  ·simp only [b1,b2,b4,zbI,if_true]at hR
   subst hR
   repeat' (first
 |simp only[go_sem,hD,hY,hZ,gC,b1,b2,b4]
 |(with_reducible refine CU (Bb _) ?_)
 |(with_reducible refine CU (od _) ?_)
 |(with_reducible refine CU (ug _ _) ?_)
 |(with_reducible refine CU (gw _ _ _) ?_)
 |(with_reducible refine ax hQ ?_;exact aB))
  simp only[b1,b2,b4,Bool.or_false,zab,if_false]at hR
  repeat' (first
 |simp only[go_sem,hD,hY,hZ,gC,b1,b2,b4]
 |(with_reducible refine CU (Bb _) ?_)
 |(with_reducible refine CU (od _) ?_)
 |(with_reducible refine CU (ug _ _) ?_)
 |(with_reducible refine CU (gw _ _ _) ?_)
 | (with_reducible refine ax hQ ?_;exact aB))
  refine di 2 1 (aN.ind (ι:=List Pc×Nat) (fun i=>p.procs.drop i.2=i.1∧rV p p.pn i.1=R) (fun i=>i.1.length)
   (fun i=> [(1, .ptr 0 0),(2, .ptr 1 0),(3, .slice (.tok 0) 1 (p.pn.map encStr)),(55, .slice .shared 5 (p.procs.map bN)),(56, .int .i64 (p.procs.length:Int)),(57, .int .i64 (i.2:Int))]) (fun i=>⟨[bS p,[.int .i64 0, .int .i64 0]],[some p.pn.length]⟩) ?_ (p.procs,0) ⟨rfl,hR⟩)
  clear IH h1 hD hR
  rintro⟨rest,k⟩ ⟨h1,hR⟩ IH
  dsimp only at h1 hR
  cases rest with
  |nil=>
   have hD:=drop_nil h1
   simp only[rV]at hR
   subst hR
   repeat' (first
 |simp only[go_sem,hD,hY,hZ,gC]
 | (with_reducible refine ax hQ ?_;exact aB))
  | cons f rest=>
   obtain⟨hY,g2,hD,g4⟩:=drop_cons h1
   have aZ:k<4611686018427387904:=by omega
   have oP:=zad hY
   have rD:=h.small oP
   have hpa:=fun s=>YP (f:=f) rD.par s
   have aq0:f.lx.length<1000000:=by have h1:=rD.par;unfold Pc.lx;simpa using h1
   have PF:=rD.vars
   have hxl:(p.globals++f.own).length<4611686018427387904:=by unfold Pc.own;simp;omega
   have SW:=fun g s=>xi (l:=p.globals++f.own) hxl g s
   have rn:Sm.bq f.body<4611686018427387000:=by have:=Pc.cq oP;simp only[Pc.size]at this;omega
   have fx:=fun s=>xg (f:=f) rn s
   have iD:=ajC f oP
   have IN:f.flat.length≤201:=f.sy
   simp only[rV]at hR
   rw[← iD]at hR
   obtain⟨q,hq⟩ : ∃ q,vS p f p.pn (f.flat.map It.s)=q:=⟨_,rfl⟩
   rw[hq]at hR
   have hc4 : ∃ (dA dB dC:D) (T1 T2 T3:List (Option Nat)),(∀ s,az Tryz.prog 150 [dC] s (.bool (er (p.globals++f.own))) s)∧
    (∀ o,fH 1 16 (.slice .full 1 []) (.slice .shared 1 (p.globals.map encStr)) ⟨o,[some p.pn.length]⟩=some (dA,⟨o,some p.pn.length::T1⟩))∧
    (∀ o,fH 1 16 dA (.slice .shared 1 (f.lx.map encStr)) ⟨o,some p.pn.length::T1⟩=some (dB,⟨o,some p.pn.length::T2⟩))∧
    (∀ o,fH 1 16 dB (.slice .shared 1 (f.vars.map encStr)) ⟨o,some p.pn.length::T2⟩=some (dC,⟨o,some p.pn.length::T3⟩)):=by
    have C9:f.own=f.lx++f.vars:=rfl
    by_cases z1:p.globals = []
    ·rw [z1]
     by_cases z2:f.lx = []
     ·rw [z2]
      by_cases z3:f.vars = []
      ·rw [z3]
       refine⟨.slice .full 1 [], .slice .full 1 [], .slice .full 1 [],[],[],[],fun s=>?_,fun o=>wN o _,fun o=>wN o _,fun o=>wN o _⟩
       have:=SW .full s
       rw[C9,z1,z2,z3]at this
       rw[C9,z2,z3]
       exact this
      ·refine⟨.slice .full 1 [], .slice .full 1 [],_,[],[],_,fun s=> ?_,fun o=>wN o _,fun o=>wN o _,fun o=>IP z3 (by omega) o _⟩
       have:=SW (.tok 1) s
       rw[C9,z1,z2]at this
       rw[C9,z2]
       exact this
     ·refine⟨.slice .full 1 [],_,_,[],_,_,fun s=> ?_,fun o=>wN o _,fun o=>IP z2 (by omega) o _,fun o=>C8 (by omega) o⟩
      have:=SW (.tok 1) s
      rw[C9,z1]at this
      rw[C9]
      exact this
    ·refine⟨_,_,_,_,_,_,fun s=> ?_,fun o=>IP z1 (by omega) o _,fun o=>C8 (by omega) o,fun o=>C8 (by simp;omega) o⟩
     have:=SW (.tok 1) s
     rw[C9, ← zaB]at this
     rw[C9, ← zaB]
     exact this
   obtain⟨dA,dB,dC,T1,T2,T3,qp,eA,eB,eC⟩:=hc4
   obtain⟨gA,zA,rA,rfl⟩:=Ha (eA [])
   obtain⟨gB,zB,rB,rfl⟩:=Ha (eB [])
   rcases zaa (er (p.globals++f.own))with c1|c1
   ·simp only [c1,if_true]at qp hR
    subst hR
    repeat' (first
 |simp only[go_sem,hD,hY,hZ,gC,eA,eB,eC]
 |(with_reducible refine CU (hpa _) ?_)
 |(with_reducible refine CU (qp _) ?_)
 |(with_reducible refine CU (gw _ _ _) ?_)
 |(with_reducible refine CU (fx _) ?_)
 | (with_reducible refine ax hQ ?_;exact aB))
   simp only[c1,zab,if_false]at qp hR
   repeat' (first
 |simp only[go_sem,hD,hY,hZ,gC,eA,eB,eC]
 |(with_reducible refine CU (hpa _) ?_)
 |(with_reducible refine CU (qp _) ?_)
 |(with_reducible refine CU (gw _ _ _) ?_)
 |(with_reducible refine CU (fx _) ?_)
 | (with_reducible refine ax hQ ?_;exact aB))
   refine di 3 1 (aN.ind (ι:=List It×Nat) (fun i=>f.flat.drop i.2=i.1∧vS p f p.pn (i.1.map It.s)=q) (fun i=>i.1.length)
    (fun i=> [(1, .ptr 0 0),(2, .ptr 1 0),(3, .slice (.tok 0) 1 (p.pn.map encStr)),(9, .ptr 2 0),(55, .slice .shared 5 (p.procs.map bN)),(56, .int .i64 (p.procs.length:Int)),(57, .int .i64 (k:Int)),(74, .slice .shared 16 (f.flat.map dn)),(75, .int .i64 (f.flat.length:Int)),(76, .int .i64 (i.2:Int))]) (fun i=>⟨[bS p,[.int .i64 0, .int .i64 0],bN f],[some p.pn.length]⟩) ?_ (f.flat,0) ⟨rfl,hq⟩)
   rintro⟨po,n⟩ ⟨j1,j2⟩ qo
   dsimp only at j1 j2
   cases po with
   |nil=>
    have YS:=drop_nil j1
    simp only[zai,vS]at j2
    subst j2
    simp only at hR
    repeat' (first
 |simp only[go_sem,hD,hY,hZ,gC,YS]
 | (with_reducible refine ax hQ ?_;exact aB))
    refine cv 2 1 ?_ ?_ (IH (rest,k+1) ⟨g2,hR⟩ (zae _))
    ·(simp only[go_sem,hD,hY,hZ,gC,aw aZ];try exact aU)
    ·(simp only[go_sem,hD,hY,hZ,gC,aw aZ];try exact aU)
   |cons i po=>
    obtain⟨fe,oe,iQ,G6⟩:=drop_cons j1
    have gn:n<4611686018427387904:=by omega
    have xk:i.s∈Sm.cZ f.body:=by rw[← iD];exact za1 (zad fe)
    have qi:=h.said oP _ xk
    have JK:=fun s=>EJ qi s
    have Af:=Ba _ qi
    have hki:=fun nm s=>OX (p:=p) (f:=f) (by have:=rD.par;omega) (by have:=rD.vars;omega) (by omega) nm s
    have ja:=vR (l:=p.pn) (by omega) i.s.proc
    simp only[zaf,vS]at j2
    repeat' (first
 |simp only[go_sem,hD,hY,hZ,gC,iQ,fe]
 |(with_reducible refine CU (JK _) ?_)
 | (with_reducible refine ax hQ ?_;exact aB))
    obtain⟨q2,CG⟩ : ∃ q2,u5 p f i.s.said=q2:=⟨_,rfl⟩
    have hkn:i.s.known p f p.pn=(q2 && (i.s.kind != 4 ||(i.s.proc != iR && dS p.pn i.s.proc))):=by rw[← CG,C6];rfl
    rw[hkn]at j2
    refine di 4 1 (aN.ind (ι:=List aF×Nat) (fun j=>i.s.said.drop j.2=j.1∧u5 p f j.1=q2) (fun j=>j.1.length)
     (fun j=> [(1, .ptr 0 0),(2, .ptr 1 0),(3, .slice (.tok 0) 1 (p.pn.map encStr)),(9, .ptr 2 0),(11, .ptr 3 0),(55, .slice .shared 5 (p.procs.map bN)),(56, .int .i64 (p.procs.length:Int)),(57, .int .i64 (k:Int)),(74, .slice .shared 16 (f.flat.map dn)),(75, .int .i64 (f.flat.length:Int)),(76, .int .i64 (n:Int)),(82, .slice .shared 1 (i.s.said.map encStr)),(83, .int .i64 (i.s.said.length:Int)),(84, .int .i64 (j.2:Int))]) (fun j=>⟨[bS p,[.int .i64 0, .int .i64 0],bN f,dn i],[some p.pn.length]⟩) ?_ (i.s.said,0) ⟨rfl,CG⟩)
    rintro⟨kP,m2⟩ ⟨l1,l2⟩ qM
    dsimp only at l1 l2
    cases kP with
    | cons a kP=>
     obtain⟨Db,M5,JV,lg4⟩:=drop_cons l1
     have vC:m2<4611686018427387904:=by omega
     simp only[u5]at l2
     rcases zaa (f.kx p a==0)with d1|d1
     ·simp only [d1,if_true]at l2
      subst l2
      simp only[zaN,zab,if_false]at j2
      subst j2
      simp only at hR
      subst hR
      repeat' (first
 |simp only[go_sem,hD,hY,hZ,gC,JV,Db,d1]
 |(with_reducible refine CU (hki _ _) ?_)
 |(with_reducible refine CU (gw _ _ _) ?_)
 |(with_reducible refine ax hQ ?_;exact aB))
     ·simp only [d1,zab,if_false]at l2
      repeat' (first
 |simp only[go_sem,hD,hY,hZ,gC,JV,Db,d1]
 |(with_reducible refine CU (hki _ _) ?_)
 |(with_reducible refine CU (gw _ _ _) ?_)
 | (with_reducible refine ax hQ ?_;exact aB))
      refine cv 4 1 ?_ ?_ (qM (kP,m2+1) ⟨M5,l2⟩ (zae _))
      ·(simp only[go_sem,hD,hY,hZ,gC,aw vC];try exact aU)
      ·(simp only[go_sem,hD,hY,hZ,gC,aw vC];try exact aU)
    | nil=>
     have SX:=drop_nil l1
     simp only[u5]at l2
     subst l2
     simp only[zbf]at j2
     unfold iR at j2
     have b5:(i.s.kind==4) = !(i.s.kind != 4):=by simp only[bne,zbP]
     have b6:(i.s.proc == [109,97,105,110]) = !(i.s.proc != [109,97,105,110]):=by simp only[bne,zbP]
     rcases zaa (i.s.kind != 4)with d1|d1
     ·simp only [d1,zbj,if_true]at j2
      simp only[d1,zau]at b5
      repeat' (first
 |simp only[go_sem,hD,hY,hZ,gC,SX,b5,d1]
 |(with_reducible refine CU (ja _ _) ?_)
 |(with_reducible refine CU (gw _ _ _) ?_)
 |(with_reducible refine ax hQ ?_;exact aB))
      refine cv 3 1 ?_ ?_ (qo (po,n+1) ⟨oe,j2⟩ (zae _))
      ·(simp only[go_sem,hD,hY,hZ,gC,aw gn];try exact aU)
      ·(simp only[go_sem,hD,hY,hZ,gC,aw gn];try exact aU)
     ·simp only [d1,zbg]at j2
      simp only[d1,zax]at b5
      rcases zaa (i.s.proc != [109,97,105,110])with d2|d2
      ·simp only [d2,zbf]at j2
       simp only[d2,zau]at b6
       rcases zaa (dS p.pn i.s.proc)with d3|d3
       ·simp only [d3,if_true]at j2
        repeat' (first
 |simp only[go_sem,hD,hY,hZ,gC,SX,b5,d1,b6,d2,d3]
 |(with_reducible refine CU (ja _ _) ?_)
 |(with_reducible refine CU (gw _ _ _) ?_)
 |(with_reducible refine ax hQ ?_;exact aB))
        refine cv 3 1 ?_ ?_ (qo (po,n+1) ⟨oe,j2⟩ (zae _))
        ·(simp only[go_sem,hD,hY,hZ,gC,aw gn];try exact aU)
        ·(simp only[go_sem,hD,hY,hZ,gC,aw gn];try exact aU)
       ·simp only [d3,zab,if_false]at j2
        subst j2
        simp only at hR
        subst hR
        repeat' (first
 |simp only[go_sem,hD,hY,hZ,gC,SX,b5,d1,b6,d2,d3]
 |(with_reducible refine CU (ja _ _) ?_)
 |(with_reducible refine CU (gw _ _ _) ?_)
 |(with_reducible refine ax hQ ?_;exact aB))
      ·simp only [d2,zaN,zab,if_false]at j2
       simp only[d2,zax]at b6
       subst j2
       simp only at hR
       subst hR
       repeat' (first
 |simp only[go_sem,hD,hY,hZ,gC,SX,b5,d1,b6,d2]
 |(with_reducible refine CU (ja _ _) ?_)
 |(with_reducible refine CU (gw _ _ _) ?_)
 |(with_reducible refine ax hQ ?_;exact aB))
end Go.Abs
namespace Go.Abs
set_option maxRecDepth 8000
open Go.Proofs
def u6:List Pm→List Ar→Bool
 | [],_=>true
 |_,[]=>true
 |a::l,b::m=>if a.ref==b.ref then u6 l m else false
def wD (l:List Pm) (m:List Ar):Bool:=if(l.length:Int)==(m.length:Int)then u6 l m else false
def Sm.lH (p:Pg) (v:Sm):Bool:=v.kind==4 && match p.find v.proc with|none=>false|some q=>wD q.params v.args
theorem afQ {l:List Pm} {m:List Ar} (hl:l.length<1000000000) (hm:m.length<1000000000) (s:St):az Tryz.prog 170 [.slice .shared 2 (l.map fz), .slice .shared 6 (m.map dE)] s (.bool (wD l m)) s:=by
 refine az.pure ?_ (by simp[D.bM,D.ok,Tag.ok,aiL,K5]) rfl s
 generalize h:wD l m=q
 simp only[wD]at h
 unfold S0
 have b0:((l.length:Int) != (m.length:Int)) = !((l.length:Int)==(m.length:Int)):=rfl
 rcases zaa ((l.length:Int)==(m.length:Int))with b1|b1
 case inr=>
  rw[b1]at b0
  simp only[b1,zab,if_false]at h
  subst h
  refine az.go zV.h rfl fun B Q hB hQ=>?_
  have⟨hD,hY,hZ,gC⟩:=bb
  repeat' (first
 |simp only[go_sem,hD,hY,hZ,gC,b0,zax]
 |(with_reducible refine ax hQ ?_;exact aB))
 rw[b1]at b0
 simp only[b1,if_true]at h
 have PG:l.length=m.length:=by have:=eq_of_beq b1;omega
 refine az.go zV.h rfl fun B Q hB hQ=>?_
 have⟨hD,hY,hZ,gC⟩:=bb
 repeat' (first
 |simp only[go_sem,hD,hY,hZ,gC,b0,zau]
 |(with_reducible refine ax hQ ?_;exact aB))
 refine di 0 0 (aN.ind (ι:=List Pm×List Ar×Nat) (fun i=>l.drop i.2.2=i.1∧m.drop i.2.2=i.2.1∧u6 i.1 i.2.1=q) (fun i=>i.1.length)
  (fun i=> [(1, .slice .shared 6 (m.map dE)),(12, .slice .shared 2 (l.map fz)),(13, .int .i64 (l.length:Int)),(14, .int .i64 (i.2.2:Int))]) (fun i=>⟨[],[]⟩) ?_ (l,m,0) ⟨rfl,rfl,h⟩)
 rintro⟨r1,r2,k⟩ ⟨h1,h2,h⟩ IH
 dsimp only at h1 h2 h
 cases r1 with
 |nil=>
  have hD:=drop_nil h1
  simp only[u6]at h
  subst h
  repeat' (first
 |simp only[go_sem,hD,hY,hZ,gC]
 |(with_reducible refine ax hQ ?_;exact aB))
 | cons a r1=>
  obtain⟨hY,g2,hD,g4⟩:=drop_cons h1
  cases r2 with
  |nil=>have:=zaP.1 h2;omega
  | cons b r2=>
   obtain⟨ym,b2,Bc,_⟩:=drop_cons h2
   have aZ:k<4611686018427387904:=by omega
   simp only[u6]at h
   have w1:(true==true)=true:=rfl
   have w2:(false==false)=true:=rfl
   have w3:(true==false)=false:=rfl
   have w4:(false==true)=false:=rfl
   have v1:(true != true)=false:=rfl
   have v2:(false != false)=false:=rfl
   have v3:(true != false)=true:=rfl
   have v4:(false != true)=true:=rfl
   rcases zaa a.ref with ea|ea
   ·rcases zaa b.ref with eb | eb
    ·simp only [ea,eb,w1,w2,if_true]at h
     repeat' (first
 |simp only[go_sem,hD,hY,hZ,gC,ym,Bc,ea,eb,w1,w2,v1,v2]
 | (with_reducible refine ax hQ ?_;exact aB))
     refine cv 0 0 ?_ ?_ (IH (r1,r2,k+1) ⟨g2,b2,h⟩ (zae _))
     ·(simp only[go_sem,hD,hY,hZ,gC,aw aZ];try exact aU)
     ·(simp only[go_sem,hD,hY,hZ,gC,aw aZ];try exact aU)
    ·simp only [ea,eb,w3,w4,zab,if_false]at h
     subst h
     repeat' (first
 |simp only[go_sem,hD,hY,hZ,gC,ym,Bc,ea,eb,w3,w4,v3,v4]
 | (with_reducible refine ax hQ ?_;exact aB))
   ·rcases zaa b.ref with eb | eb
    ·simp only [ea,eb,w3,w4,zab,if_false]at h
     subst h
     repeat' (first
 |simp only[go_sem,hD,hY,hZ,gC,ym,Bc,ea,eb,w3,w4,v3,v4]
 | (with_reducible refine ax hQ ?_;exact aB))
    ·simp only [ea,eb,w1,w2,if_true]at h
     repeat' (first
 |simp only[go_sem,hD,hY,hZ,gC,ym,Bc,ea,eb,w1,w2,v1,v2]
 |(with_reducible refine ax hQ ?_;exact aB))
     refine cv 0 0 ?_ ?_ (IH (r1,r2,k+1) ⟨g2,b2,h⟩ (zae _))
     ·(simp only[go_sem,hD,hY,hZ,gC,aw aZ];try exact aU)
     ·(simp only[go_sem,hD,hY,hZ,gC,aw aZ];try exact aU)
theorem afR {p:Pg} {v:Sm} (h:p.gu) (hv:v.lP) (s:St):az Tryz.prog 132 [.agg (bS p), .agg (aY v)] s (.bool (v.lH p)) s:=by
 refine az.pure ?_ (by simp[D.bM,D.ok,gR,qe]) rfl s
 obtain⟨nB,nF,lG⟩:=h.procs
 have qk:v.args.length<1000000000:=by have:=Ar.dI v.args;have:=hv.2.2;omega
 generalize hR:v.lH p=R
 simp only[Sm.lH]at hR
 unfold S0
 have b0:(v.kind != 4) = !(v.kind==4):=rfl
 rcases zaa (v.kind==4)with b1|b1
 case inr=>
  rw[b1]at b0
  simp only[b1,zaN]at hR
  subst hR
  refine az.go zZ.h rfl fun B Q hB hQ=>?_
  have⟨hD,hY,hZ,gC⟩:=bb
  repeat' (first
 |simp only[go_sem,hD,hY,hZ,gC,b0,zax]
 |(with_reducible refine ax hQ ?_;exact aB))
 rw[b1]at b0
 simp only[b1,zbf,Pg.find]at hR
 refine az.go zZ.h rfl fun B Q hB hQ=>?_
 have⟨hD,hY,hZ,gC⟩:=bb
 repeat' (first
 |simp only[go_sem,hD,hY,hZ,gC,b0,zau]
 |(with_reducible refine ax hQ ?_;exact aB))
 refine di 2 0 (aN.ind (ι:=List Pc×Nat) (fun i=>p.procs.drop i.2=i.1∧(match gS v.proc i.1 with|none=>false|some q=>wD q.params v.args)=R) (fun i=>i.1.length)
  (fun i=> [(3, .ptr 1 0),(11, .slice .shared 5 (p.procs.map bN)),(12, .int .i64 (p.procs.length:Int)),(13, .int .i64 (i.2:Int))]) (fun i=>⟨[bS p,aY v],[]⟩) ?_ (p.procs,0) ⟨rfl,hR⟩)
 clear hR
 rintro⟨rest,k⟩ ⟨h1,hR⟩ IH
 dsimp only at h1 hR
 cases rest with
 |nil=>
  have hD:=drop_nil h1
  simp only[gS]at hR
  subst hR
  repeat' (first
 |simp only[go_sem,hD,hY,hZ,gC]
 |(with_reducible refine ax hQ ?_;exact aB))
 | cons a rest=>
  obtain⟨hY,g2,hD,g4⟩:=drop_cons h1
  have aZ:k<4611686018427387904:=by omega
  have rD:=h.small (zad hY)
  have JK:=fun s=>afQ (l:=a.params) (m:=v.args) (by have:=rD.par;omega) qk s
  simp only[gS]at hR
  rcases zaa (a.name==v.proc)with c1|c1
  ·simp only [c1,if_true]at hR
   subst hR
   repeat' (first
 |simp only[go_sem,hD,hY,hZ,gC,c1]
 |(with_reducible refine CU (JK _) ?_)
 | (with_reducible refine ax hQ ?_;exact aB))
  ·simp only [c1,zab,if_false]at hR
   repeat' (first
 |simp only[go_sem,hD,hY,hZ,gC,c1]
 | (with_reducible refine ax hQ ?_;exact aB))
   refine cv 2 0 ?_ ?_ (IH (rest,k+1) ⟨g2,hR⟩ (zae _))
   ·(simp only[go_sem,hD,hY,hZ,gC,aw aZ];try exact aU)
   ·(simp only[go_sem,hD,hY,hZ,gC,aw aZ];try exact aU)
def yn (p:Pg):List Sm→Option Sm
 | []=>none
 |v::l=>if v.kind==4 && !(v.lH p)then some v else yn p l
def iS (c:Int):Option Sm→Int×Int
 |some v=>(c,v.id)
 |none=>(0,0)
def Pg.arity (p:Pg):Int×Int:=if p.scope.1==0 then iS 6 (yn p p.pre)else(1,0)
theorem Pg.gu.pre {p:Pg} (h:p.gu) : ∀ v∈p.pre,v.lP:=fun v m=>by
 simp only[Pg.pre,zbE,zaF]at m
 obtain⟨l,⟨f,hf,rfl⟩,m⟩:=m
 exact h.said hf v m
theorem M6 {p:Pg} (h:p.gu) (s:St):az Tryz.prog 96 [.agg (bS p)] s (.agg [.int .i64 p.arity.1, .int .i64 p.arity.2]) s:=by
 refine az.pure ?_ (by simp[D.bM,D.ok,gR]) rfl s
 obtain⟨nB,nF,lG⟩:=h.procs
 have rm:=fun s=>xj h s
 have du:=fun s=>DT (p:=p) (by omega) s
 have hL:=(pd p).1
 have JW:=qL p
 generalize hR:p.arity=R
 simp only[Pg.arity]at hR
 unfold S0
 have b0:(p.scope.1 != 0) = !(p.scope.1==0):=rfl
 rcases zaa (p.scope.1==0)with b1|b1
 case inr=>
  rw[b1]at b0
  simp only[b1,zab,if_false]at hR
  subst hR
  refine az.go x7.h rfl fun B Q hB hQ=>?_
  have⟨hD,hY,hZ,gC⟩:=bb
  repeat' (first
 |simp only[go_sem,hD,hY,hZ,gC,b0,zax]
 |(with_reducible refine CU (rm _) ?_)
 |(with_reducible refine ax hQ ?_;exact aB))
 rw[b1]at b0
 simp only[b1,if_true, ← hL]at hR
 refine az.go x7.h rfl fun B Q hB hQ=>?_
 have⟨hD,hY,hZ,gC⟩:=bb
 repeat' (first
 |simp only[go_sem,hD,hY,hZ,gC,b0,zau,qK]
 |(with_reducible refine CU (rm _) ?_)
 |(with_reducible refine CU (du _) ?_)
 |(with_reducible refine ax hQ ?_;exact aB))
 refine di 2 0 (aN.ind (ι:=List Im×Nat) (fun i=>p.aR.L.drop i.2=i.1∧iS 6 (yn p (i.1.map Im.s))=R) (fun i=>i.1.length)
  (fun i=> [(1, .ptr 0 0),(2, .ptr 1 0),(14, .slice .shared 17 (p.aR.L.map dK)),(15, .int .i64 (p.aR.L.length:Int)),(16, .int .i64 (i.2:Int))]) (fun i=>⟨[bS p,[.int .i64 0, .int .i64 0]],[]⟩) ?_ (p.aR.L,0) ⟨rfl,hR⟩)
 clear hR
 rintro⟨rest,k⟩ ⟨h1,hR⟩ IH
 dsimp only at h1 hR
 cases rest with
 |nil=>
  have hD:=drop_nil h1
  simp only[zai,yn,iS]at hR
  subst hR
  repeat' (first
 |simp only[go_sem,hD,hY,hZ,gC]
 |(with_reducible refine ax hQ ?_;exact aB))
 | cons a rest=>
  obtain⟨hY,g2,hD,g4⟩:=drop_cons h1
  have aZ:k<4611686018427387904:=by omega
  have xk:a.s∈p.pre:=by rw[← hL];exact za1 (zad hY)
  have Ag:=fun s=>afR h (h.pre _ xk) s
  simp only[zaf,yn]at hR
  rcases zaa (a.s.kind==4)with c1|c1
  ·rcases zaa (a.s.lH p)with c2 | c2
   ·simp only [c1,c2,zau,zbt,zab,if_false]at hR
    repeat' (first
 |simp only[go_sem,hD,hY,hZ,gC,c1,c2]
 |(with_reducible refine CU (Ag _) ?_)
 | (with_reducible refine ax hQ ?_;exact aB))
    refine cv 2 0 ?_ ?_ (IH (rest,k+1) ⟨g2,hR⟩ (zae _))
    ·(simp only[go_sem,hD,hY,hZ,gC,aw aZ];try exact aU)
    ·(simp only[go_sem,hD,hY,hZ,gC,aw aZ];try exact aU)
   ·simp only [c1,c2,zax,zbG,if_true,iS]at hR
    subst hR
    repeat' (first
 |simp only[go_sem,hD,hY,hZ,gC,c1,c2]
 |(with_reducible refine CU (Ag _) ?_)
 | (with_reducible refine ax hQ ?_;exact aB))
  ·simp only [c1,zaN,zab,if_false]at hR
   repeat' (first
 |simp only[go_sem,hD,hY,hZ,gC,c1]
 |(with_reducible refine CU (Ag _) ?_)
 | (with_reducible refine ax hQ ?_;exact aB))
   refine cv 2 0 ?_ ?_ (IH (rest,k+1) ⟨g2,hR⟩ (zae _))
   ·(simp only[go_sem,hD,hY,hZ,gC,aw aZ];try exact aU)
   ·(simp only[go_sem,hD,hY,hZ,gC,aw aZ];try exact aU)
theorem Hb {p:Pg} {v:Sm} (h:p.gu) (hv:v.lP) (s:St):az Tryz.prog 155 [.agg (bS p), .agg (aY v)] s (.bool (v.lH p)) s:=by
 refine az.pure ?_ (by simp[D.bM,D.ok,gR,qe]) rfl s
 obtain⟨nB,nF,lG⟩:=h.procs
 have qk:v.args.length<1000000000:=by have:=Ar.dI v.args;have:=hv.2.2;omega
 have rU:=fun s=>DY (p:=p) (by omega) v.proc s
 generalize hR:v.lH p=R
 simp only[Sm.lH]at hR
 unfold S0
 have b0:(v.kind != 4) = !(v.kind==4):=rfl
 cases v8:p.find v.proc with
 |none=>
  simp only[v8,kJ,zbx,zbF]at rU
  simp only[v8,zbt]at hR
  subst hR
  refine az.go ow.h rfl fun B Q hB hQ=>?_
  have⟨hD,hY,hZ,gC⟩:=bb
  repeat' (first
 |simp only[go_sem,hD,hY,hZ,gC]
 |(with_reducible refine CU (rU _) ?_)
 |(with_reducible first|refine cf fun hc=>?_|refine cj fun hc=>?_|refine cm (fun hc=>?_) fun hc=>?_)<;>(try simp only[hc,bs,↓reduceIte]at h)<;>try simp only[hc]
 |(with_reducible refine ax hQ ?_;exact aB))
 |some f=>
 have rD:=h.small (nX v8).1
 simp only[v8,kJ,zbh,zbw]at rU
 simp only[v8]at hR
 rcases zaa (v.kind==4)with b1|b1
 case inr=>
  rw[b1]at b0
  simp only[b1,zaN]at hR
  subst hR
  refine az.go ow.h rfl fun B Q hB hQ=>?_
  have⟨hD,hY,hZ,gC⟩:=bb
  repeat' (first
 |simp only[go_sem,hD,hY,hZ,gC,b0,zax]
 |(with_reducible refine CU (rU _) ?_)
 |(with_reducible refine ax hQ ?_;exact aB))
 rw[b1]at b0
 simp only[b1,zbf,wD]at hR
 have b4:((v.args.length:Int) != (f.params.length:Int)) = !((f.params.length:Int)==(v.args.length:Int)):=by
  rw[bne,show((v.args.length:Int)==(f.params.length:Int))=((f.params.length:Int)==(v.args.length:Int))from Bool.beq_comm]
 rcases zaa ((f.params.length:Int)==(v.args.length:Int))with b2|b2
 case inr=>
  rw[b2]at b4
  simp only[b2,zab,if_false]at hR
  subst hR
  refine az.go ow.h rfl fun B Q hB hQ=>?_
  have⟨hD,hY,hZ,gC⟩:=bb
  repeat' (first
 |simp only[go_sem,hD,hY,hZ,gC,b0,b4,zau,zax]
 |(with_reducible refine CU (rU _) ?_)
 |(with_reducible refine ax hQ ?_;exact aB))
 rw[b2]at b4
 simp only[b2,if_true]at hR
 have PG:f.params.length=v.args.length:=by have:=eq_of_beq b2;omega
 refine az.go ow.h rfl fun B Q hB hQ=>?_
 have⟨hD,hY,hZ,gC⟩:=bb
 repeat' (first
 |simp only[go_sem,hD,hY,hZ,gC,b0,b4,zau]
 |(with_reducible refine CU (rU _) ?_)
 |(with_reducible refine ax hQ ?_;exact aB))
 refine di 3 0 (aN.ind (ι:=List Pm×List Ar×Nat) (fun i=>f.params.drop i.2.2=i.1∧v.args.drop i.2.2=i.2.1∧u6 i.1 i.2.1=R) (fun i=>i.1.length)
  (fun i=> [(3, .ptr 1 0),(5, .ptr 2 0),(33, .int .i64 (v.args.length:Int)),(34, .int .i64 (i.2.2:Int))]) (fun i=>⟨[bS p,aY v,bN f],[]⟩) ?_ (f.params,v.args,0) ⟨rfl,rfl,hR⟩)
 clear hR
 rintro⟨r1,r2,k⟩ ⟨h1,h2,hR⟩ IH
 dsimp only at h1 h2 hR
 cases r1 with
 |nil=>
  have hD:=drop_nil h1
  rw[PG]at hD
  simp only[u6]at hR
  subst hR
  repeat' (first
 |simp only[go_sem,hD,hY,hZ,gC]
 |(with_reducible refine ax hQ ?_;exact aB))
 | cons a r1=>
  obtain⟨hY,g2,hD,g4⟩:=drop_cons h1
  cases r2 with
  |nil=>have:=zaP.1 h2;omega
  | cons b r2=>
   obtain⟨ym,b2',Bc,_⟩:=drop_cons h2
   have aZ:k<4611686018427387904:=by omega
   simp only[u6]at hR
   have w1:(true==true)=true:=rfl
   have w2:(false==false)=true:=rfl
   have w3:(true==false)=false:=rfl
   have w4:(false==true)=false:=rfl
   have v1:(true != true)=false:=rfl
   have v2:(false != false)=false:=rfl
   have v3:(true != false)=true:=rfl
   have v4:(false != true)=true:=rfl
   rcases zaa a.ref with ea|ea
   ·rcases zaa b.ref with eb | eb
    ·simp only [ea,eb,w1,w2,if_true]at hR
     repeat' (first
 |simp only[go_sem,hD,hY,hZ,gC,ym,Bc,ea,eb,w1,w2,v1,v2]
 | (with_reducible refine ax hQ ?_;exact aB))
     refine cv 3 0 ?_ ?_ (IH (r1,r2,k+1) ⟨g2,b2',hR⟩ (zae _))
     ·(simp only[go_sem,hD,hY,hZ,gC,aw aZ];try exact aU)
     ·(simp only[go_sem,hD,hY,hZ,gC,aw aZ];try exact aU)
    ·simp only [ea,eb,w3,w4,zab,if_false]at hR
     subst hR
     repeat' (first
 |simp only[go_sem,hD,hY,hZ,gC,ym,Bc,ea,eb,w3,w4,v3,v4]
 | (with_reducible refine ax hQ ?_;exact aB))
   ·rcases zaa b.ref with eb | eb
    ·simp only [ea,eb,w3,w4,zab,if_false]at hR
     subst hR
     repeat' (first
 |simp only[go_sem,hD,hY,hZ,gC,ym,Bc,ea,eb,w3,w4,v3,v4]
 | (with_reducible refine ax hQ ?_;exact aB))
    ·simp only [ea,eb,w1,w2,if_true]at hR
     repeat' (first
 |simp only[go_sem,hD,hY,hZ,gC,ym,Bc,ea,eb,w1,w2,v1,v2]
 |(with_reducible refine ax hQ ?_;exact aB))
     refine cv 3 0 ?_ ?_ (IH (r1,r2,k+1) ⟨g2,b2',hR⟩ (zae _))
     ·(simp only[go_sem,hD,hY,hZ,gC,aw aZ];try exact aU)
     ·(simp only[go_sem,hD,hY,hZ,gC,aw aZ];try exact aU)
theorem YX {p:Pg} (h:p.gu) (hb:p.may=true) (s:St):az Tryz.prog 117 [.agg (bS p)] s (.agg [.int .i64 (iS 6 (yn p p.pre)).1, .int .i64 (iS 6 (yn p p.pre)).2]) s:=by
 refine az.pure ?_ (by simp[D.bM,D.ok,gR]) rfl s
 obtain⟨nB,nF,lG⟩:=h.procs
 have qk:=fun s=>SP (p:=p) (by omega) s
 have hL:=(qP hb).2
 have JW:=(wM hb).1
 generalize hR:iS 6 (yn p p.pre)=R
 rw[← hL]at hR
 unfold S0
 refine az.go Iz.h rfl fun B Q hB hQ=>?_
 have⟨hD,hY,hZ,gC⟩:=bb
 repeat' (first
 |simp only[go_sem,hD,hY,hZ,gC]
 |(with_reducible refine CU (qk _) ?_)
 |(with_reducible refine ax hQ ?_;exact aB))
 refine di 2 0 (aN.ind (ι:=List It×Nat) (fun i=>p.all.drop i.2=i.1∧iS 6 (yn p (i.1.map It.s))=R) (fun i=>i.1.length)
  (fun i=> [(1, .ptr 0 0),(2, .ptr 1 0),(6, .slice .shared 16 (p.all.map dn)),(7, .int .i64 (p.all.length:Int)),(8, .int .i64 (i.2:Int))]) (fun i=>⟨[bS p,[.int .i64 0, .int .i64 0]],[]⟩) ?_ (p.all,0) ⟨rfl,hR⟩)
 clear hR
 rintro⟨rest,k⟩ ⟨h1,hR⟩ IH
 dsimp only at h1 hR
 cases rest with
 |nil=>
  have hD:=drop_nil h1
  simp only[zai,yn,iS]at hR
  subst hR
  repeat' (first
 |simp only[go_sem,hD,hY,hZ,gC]
 |(with_reducible refine ax hQ ?_;exact aB))
 | cons a rest=>
  obtain⟨hY,g2,hD,g4⟩:=drop_cons h1
  have aZ:k<4611686018427387904:=by omega
  have xk:a.s∈p.pre:=by rw[← hL];exact za1 (zad hY)
  have Ag:=fun s=>Hb h (h.pre _ xk) s
  simp only[zaf,yn]at hR
  rcases zaa (a.s.kind==4)with c1|c1
  ·rcases zaa (a.s.lH p)with c2 | c2
   ·simp only [c1,c2,zau,zbt,zab,if_false]at hR
    repeat' (first
 |simp only[go_sem,hD,hY,hZ,gC,c1,c2]
 |(with_reducible refine CU (Ag _) ?_)
 | (with_reducible refine ax hQ ?_;exact aB))
    refine cv 2 0 ?_ ?_ (IH (rest,k+1) ⟨g2,hR⟩ (zae _))
    ·(simp only[go_sem,hD,hY,hZ,gC,aw aZ];try exact aU)
    ·(simp only[go_sem,hD,hY,hZ,gC,aw aZ];try exact aU)
   ·simp only [c1,c2,zax,zbG,if_true,iS]at hR
    subst hR
    repeat' (first
 |simp only[go_sem,hD,hY,hZ,gC,c1,c2]
 |(with_reducible refine CU (Ag _) ?_)
 |(with_reducible refine CU (gw _ _ _) ?_)
 | (with_reducible refine ax hQ ?_;exact aB))
  ·simp only [c1,zaN,zab,if_false]at hR
   repeat' (first
 |simp only[go_sem,hD,hY,hZ,gC,c1]
 |(with_reducible refine CU (Ag _) ?_)
 | (with_reducible refine ax hQ ?_;exact aB))
   refine cv 2 0 ?_ ?_ (IH (rest,k+1) ⟨g2,hR⟩ (zae _))
   ·(simp only[go_sem,hD,hY,hZ,gC,aw aZ];try exact aU)
   ·(simp only[go_sem,hD,hY,hZ,gC,aw aZ];try exact aU)
theorem nI {p:Pg} (h:(p.scope.1==0)=true):p.may=true:=by
 unfold Pg.scope at h
 split at h
 ·assumption
 ·cases h
def ly (out:List aF):List aF→aF→Bool→aF×Bool
 | [],c,a=>(c,a)
 |s::l,c,a=>if !(dS out s) && (!a ||bytesLess s c)then ly out l s true else ly out l c a
def M7 (l out:List aF):List aF:=if(ly out l [] false).2 then out++ [(ly out l [] false).1]else out
def ni (l:List aF):Nat→List aF→List aF
 | 0,out=>out
 |n+1,out=>ni l n (M7 l out)
def iT (l:List aF):List aF:=ni l l.length []
theorem Fx {l:List aF} (hl:l.length<100000000) (g:Tag) (s:St):az Tryz.prog 206 [.slice g 1 (l.map encStr)] s (.slice .shared 1 ((iT l).map encStr)) s:=by
 refine az.MM (d':= .slice .shared 1 (l.map encStr)) ?_ (Wk.shared _ _ _)
 refine az.pure ?_ (by simp[D.bM,D.ok,Tag.ok,dz]) (by simp only[D.ok,Tag.ok,dz];rfl) s
 generalize hR:iT l=R
 simp only[iT]at hR
 unfold S0
 refine az.go GO.h rfl fun B Q hB hQ=>?_
 have⟨hD,hY,hZ,gC⟩:=bb
 repeat' (first
 |simp only[go_sem,hD,hY,hZ,gC]
 |(with_reducible refine ax hQ ?_;exact aB))
 refine aN.ln 3 1 rfl ?_
 simp only[go_sem,hD,hY,hZ,gC]
 refine di 0 1 (aN.ind (ι:=Nat×Nat×List aF×Nat) (fun i=>i.1+i.2.1=l.length∧ni l i.1 i.2.2.1=R∧i.2.2.1.length≤i.2.1∧i.2.2.2=i.2.2.1.length) (fun i=>i.1)
  (fun i=> [(0, .slice .shared 1 (l.map encStr)),(3, .slice (.tok 0) 1 (i.2.2.1.map encStr)),(9, .int .i64 (l.length:Int)),(10, .int .i64 (i.2.1:Int))]) (fun i=>⟨[],[some i.2.2.2]⟩) ?_ (l.length,0,[],0) ⟨rfl,hR,zal _,rfl⟩)
 rintro⟨n,k,out,no⟩ ⟨h1,h2,h3,h4⟩ IH
 dsimp only at h1 h2 h3 h4
 subst h4
 cases n with
 |zero=>
  have hD:decide ((k:Int)<(l.length:Int))=false:=by simp;omega
  simp only[ni]at h2
  subst h2
  repeat' (first
 |simp only[go_sem,hD,hY,hZ,gC]
 |(with_reducible refine ax hQ ?_;exact aB))
 |succ n=>
  have hD:decide ((k:Int)<(l.length:Int))=true:=by simp;omega
  have aZ:k<4611686018427387904:=by omega
  have hZ:(out.length+1)*17≤aV:=by unfold aV;omega
  have ja:=fun x g s=>vR (l:=out) (by omega) x g s
  simp only[ni,M7]at h2
  repeat' (first
 |simp only[go_sem,hD,hY,hZ,gC]
 | (with_reducible refine ax hQ ?_;exact aB))
  obtain⟨q,hq⟩ : ∃ q,ly out l [] false=q:=⟨_,rfl⟩
  rw[hq]at h2
  refine di 0 1 (aN.ind (ι:=List aF×Nat×aF×Bool) (fun i=>l.drop i.2.1=i.1∧ly out i.1 i.2.2.1 i.2.2.2=q) (fun i=>i.1.length)
   (fun i=> [(0, .slice .shared 1 (l.map encStr)),(3, .slice (.tok 0) 1 (out.map encStr)),(4, .str i.2.2.1),(5, .bool i.2.2.2),(9, .int .i64 (l.length:Int)),(10, .int .i64 (k:Int)),(12, .slice .shared 1 (l.map encStr)),(13, .int .i64 (l.length:Int)),(14, .int .i64 (i.2.1:Int))]) (fun i=>⟨[],[some out.length]⟩) ?_ (l,0,[],false) ⟨rfl,hq⟩)
  rintro⟨rest,j,c,a⟩ ⟨j1,j2⟩ qo
  dsimp only at j1 j2
  cases rest with
  | nil=>
   have afS:=drop_nil j1
   simp only[ly]at j2
   subst j2
   cases a
   ·simp only [zab,if_false]at h2
    repeat' (first
 |simp only[go_sem,hD,hY,hZ,gC,afS]
 | (with_reducible refine ax hQ ?_;exact aB))
    refine cv 0 1 ?_ ?_ (IH (n,k+1,out,_) ⟨by dsimp only;omega,h2,by dsimp only;omega,rfl⟩ (zae _))
    ·(simp only[go_sem,hD,hY,hZ,gC,aw aZ];try exact aU)
    ·(simp only[go_sem,hD,hY,hZ,gC,aw aZ];try exact aU)
   ·simp only [if_true]at h2
    repeat' (first
 |simp only[go_sem,hD,hY,hZ,gC,afS]
 | (with_reducible refine ax hQ ?_;exact aB))
    refine cv 0 1 ?_ ?_ (IH (n,k+1,out++ [c],out.length+1) ⟨by dsimp only;omega,h2,by simp;omega,by simp⟩ (zae _))
    ·(simp only[go_sem,hD,hY,hZ,gC,aw aZ,zag,zaf,zai,encStr];try exact aU)
    ·(simp only[go_sem,hD,hY,hZ,gC,aw aZ,zag,zaf,zai,encStr];try exact aU)
  | cons x rest=>
   obtain⟨fe,oe,iQ,G6⟩:=drop_cons j1
   have gn:j<4611686018427387904:=by omega
   simp only[ly]at j2
   rcases zaa (dS out x)with c1|c1
   ·simp only [c1,zau,zaN,zab,if_false]at j2
    repeat' (first
 |simp only[go_sem,hD,hY,hZ,gC,iQ,fe,c1]
 |(with_reducible refine CU (ja _ _ _) ?_)
 | (with_reducible refine ax hQ ?_;exact aB))
    refine cv 0 1 ?_ ?_ (qo (rest,j+1,c,a) ⟨oe,j2⟩ (zae _))
    ·(simp only[go_sem,hD,hY,hZ,gC,aw gn];try exact aU)
    ·(simp only[go_sem,hD,hY,hZ,gC,aw gn];try exact aU)
   ·cases a
    ·simp only [c1,zax,zbj,Bool.and_self,if_true]at j2
     repeat' (first
 |simp only[go_sem,hD,hY,hZ,gC,iQ,fe,c1]
 |(with_reducible refine CU (ja _ _ _) ?_)
 | (with_reducible refine ax hQ ?_;exact aB))
     refine cv 0 1 ?_ ?_ (qo (rest,j+1,x,true) ⟨oe,j2⟩ (zae _))
     ·(simp only[go_sem,hD,hY,hZ,gC,aw gn];try exact aU)
     ·(simp only[go_sem,hD,hY,hZ,gC,aw gn];try exact aU)
    ·rcases zaa (bytesLess x c)with c2 | c2
     ·simp only [c1,c2,zax,zau,zbI,Bool.and_self,if_true]at j2
      repeat' (first
 |simp only[go_sem,hD,hY,hZ,gC,iQ,fe,c1,c2]
 |(with_reducible refine CU (ja _ _ _) ?_)
 |(with_reducible refine ax hQ ?_;exact aB))
      refine cv 0 1 ?_ ?_ (qo (rest,j+1,x,true) ⟨oe,j2⟩ (zae _))
      ·(simp only[go_sem,hD,hY,hZ,gC,aw gn];try exact aU)
      ·(simp only[go_sem,hD,hY,hZ,gC,aw gn];try exact aU)
     ·simp only [c1,c2,zax,zau,Bool.or_false,zbt,zab,if_false]at j2
      repeat' (first
 |simp only[go_sem,hD,hY,hZ,gC,iQ,fe,c1,c2]
 |(with_reducible refine CU (ja _ _ _) ?_)
 |(with_reducible refine ax hQ ?_;exact aB))
      refine cv 0 1 ?_ ?_ (qo (rest,j+1,c,true) ⟨oe,j2⟩ (zae _))
      ·(simp only[go_sem,hD,hY,hZ,gC,aw gn];try exact aU)
      ·(simp only[go_sem,hD,hY,hZ,gC,aw gn];try exact aU)
end Go.Abs
namespace Go.Proofs
open Go.Shelf
def Tryz.OZ:Go.Shelf.Ren:=⟨fun| 190=>173| 125=>194| 258=>193| 128=>217| 129=>218| 302=>208| 303=>209| 304=>210| 305=>211| 306=>212| 307=>213| 308=>214| 309=>215| 310=>216| 333=>224| 329=>225| 330=>226| 334=>227| 335=>228| 336=>229| 344=>230|n=>n,fun| 31=>22| 9=>9| 3=>3| 46=>208| 0=>0| 51=>227| 53=>194| 4=>4| 183=>220| 182=>219| 131=>139| 5=>5| 218=>231| 222=>235| 228=>237| 229=>238|n=>n,fun|n=>n⟩
theorem Tryz.PH:Go.Proofs.Lays.n190 Tryz.prog Tryz.OZ:= {
 mixed:=by kernel_rfl
 f125:=Tryz.func194.trans (congrArg some (by kernel_rfl))
 f128:=Tryz.func217.trans (congrArg some (by kernel_rfl))
 f129:=Tryz.func218.trans (congrArg some (by kernel_rfl))
 f190:=Tryz.func173.trans (congrArg some (by kernel_rfl))
 f258:=Tryz.func193.trans (congrArg some (by kernel_rfl))
 f302:=Tryz.func208.trans (congrArg some (by kernel_rfl))
 f303:=Tryz.func209.trans (congrArg some (by kernel_rfl))
 f304:=Tryz.func210.trans (congrArg some (by kernel_rfl))
 f305:=Tryz.func211.trans (congrArg some (by kernel_rfl))
 f306:=Tryz.func212.trans (congrArg some (by kernel_rfl))
 f307:=Tryz.func213.trans (congrArg some (by kernel_rfl))
 f308:=Tryz.func214.trans (congrArg some (by kernel_rfl))
 f309:=Tryz.func215.trans (congrArg some (by kernel_rfl))
 f310:=Tryz.func216.trans (congrArg some (by kernel_rfl))
 f329:=Tryz.func225.trans (congrArg some (by kernel_rfl))
 f330:=Tryz.func226.trans (congrArg some (by kernel_rfl))
 f333:=Tryz.func224.trans (congrArg some (by kernel_rfl))
 f334:=Tryz.func227.trans (congrArg some (by kernel_rfl))
 f335:=Tryz.func228.trans (congrArg some (by kernel_rfl))
 f336:=Tryz.func229.trans (congrArg some (by kernel_rfl))
 f344:=Tryz.func230.trans (congrArg some (by kernel_rfl))
 t0:=Tryz.underlying0
 a0:=Tryz.isAgg0
 z0:=Tryz.sizeOf0
 v0:=Tryz.zeroValue0
 t3:=Tryz.underlying3
 a3:=Tryz.isAgg3
 z3:=Tryz.sizeOf3
 v3:=Tryz.zeroValue3
 t4:=Tryz.underlying4
 a4:=Tryz.isAgg4
 z4:=Tryz.sizeOf4
 v4:=Tryz.zeroValue4
 t5:=Tryz.underlying5
 a5:=Tryz.isAgg5
 z5:=Tryz.sizeOf5
 v5:=Tryz.zeroValue5
 t9:=Tryz.underlying9
 a9:=Tryz.isAgg9
 z9:=Tryz.sizeOf9
 v9:=Tryz.zeroValue9
 t31:=Tryz.underlying22
 a31:=Tryz.isAgg22
 z31:=Tryz.sizeOf22
 v31:=Tryz.zeroValue22
 t46:=Tryz.underlying208
 a46:=Tryz.isAgg208
 z46:=Tryz.sizeOf208
 v46:=Tryz.zeroValue208
 t51:=Tryz.underlying227
 a51:=Tryz.isAgg227
 z51:=Tryz.sizeOf227
 v51:=Tryz.zeroValue227
 t53:=Tryz.underlying194
 a53:=Tryz.isAgg194
 z53:=Tryz.sizeOf194
 v53:=Tryz.zeroValue194
 t131:=Tryz.underlying139
 a131:=Tryz.isAgg139
 z131:=Tryz.sizeOf139
 v131:=Tryz.zeroValue139
 t182:=Tryz.underlying219
 a182:=Tryz.isAgg219
 z182:=Tryz.sizeOf219
 v182:=Tryz.zeroValue219
 t183:=Tryz.underlying220
 a183:=Tryz.isAgg220
 z183:=Tryz.sizeOf220
 v183:=Tryz.zeroValue220
 t218:=Tryz.underlying231
 a218:=Tryz.isAgg231
 z218:=Tryz.sizeOf231
 v218:=Tryz.zeroValue231
 t222:=Tryz.underlying235
 a222:=Tryz.isAgg235
 z222:=Tryz.sizeOf235
 v222:=Tryz.zeroValue235
 t228:=Tryz.underlying237
 a228:=Tryz.isAgg237
 z228:=Tryz.sizeOf237
 v228:=Tryz.zeroValue237
 t229:=Tryz.underlying238
 a229:=Tryz.isAgg238
 z229:=Tryz.sizeOf238
 v229:=Tryz.zeroValue238}
open Go.Sort Go.RowKit in
theorem Tryz.slices_Sort_string (Dc off cap:Nat) (ss:List (List UInt8)) (w:World) (hH:Holds encStr w Dc off ss.toArray) (amK:Dc<w.heap.size) (dT:ss.length<4611686018427387904) :
 Calls Tryz.prog 173 #[.slice (some ⟨Dc,off,none⟩) ss.length cap] w fun e w'=>
  e = .returned (.tuple #[])∧∃ n os,w'=grow (putRow encStr (Sort.ahead w n) Dc off (ss.mergeSort fun x y=>decide (x≤y)).toArray) os:=Any.slices_Sort_string Tryz.PH Dc off cap ss w hH amK dT
def Tryz.O0:Go.Shelf.Ren:=⟨fun| 194=>174|n=>n,fun| 31=>22| 9=>9| 3=>3| 4=>4| 0=>0|n=>n,fun|n=>n⟩
theorem Tryz.PI:Go.Proofs.Lays.n194 Tryz.prog Tryz.O0:= {
 mixed:=by kernel_rfl
 f194:=Tryz.func174.trans (congrArg some (by kernel_rfl))
 t0:=Tryz.underlying0
 a0:=Tryz.isAgg0
 z0:=Tryz.sizeOf0
 v0:=Tryz.zeroValue0
 t3:=Tryz.underlying3
 a3:=Tryz.isAgg3
 z3:=Tryz.sizeOf3
 v3:=Tryz.zeroValue3
 t4:=Tryz.underlying4
 a4:=Tryz.isAgg4
 z4:=Tryz.sizeOf4
 v4:=Tryz.zeroValue4
 t9:=Tryz.underlying9
 a9:=Tryz.isAgg9
 z9:=Tryz.sizeOf9
 v9:=Tryz.zeroValue9
 t31:=Tryz.underlying22
 a31:=Tryz.isAgg22
 z31:=Tryz.sizeOf22
 v31:=Tryz.zeroValue22}
open Go.RowKit Go.Lib Go.Sort in
theorem Tryz.slices_Compact_string (Dc off cap:Nat) (zs:List (List UInt8)) (w:World) (hH:Holds encStr w Dc off zs.toArray) (dT:zs.length≤9223372036854775807) (vK:zs.length≤cap) :
 Calls Tryz.prog 174 #[.slice (some ⟨Dc,off,none⟩) zs.length cap] w fun e w'=>e = .returned (.slice (some ⟨Dc,off,none⟩) (Lib.compact zs).length cap)∧∃ q,w'=putRow encStr (Sort.ahead w q) Dc off (Lib.compact zs++List.replicate (zs.length - (Lib.compact zs).length) []).toArray:=Any.slices_Compact_string Tryz.PI Dc off cap zs w hH dT vK
open Go.RowKit Go.Lib Go.Sort in
theorem Tryz.slices_Compact_string_empty (a:Option Addr) (cap:Nat) (w:World) :
 Calls Tryz.prog 174 #[.slice a 0 cap] w fun e w'=>e = .returned (.slice a 0 cap)∧w'=w:=Any.slices_Compact_string_empty Tryz.PI a cap w
open Go.RowKit Go.Sort in
theorem Tryz.slices_Sort_string_none (p:Option Addr) (cap:Nat) (w:World) :
 Calls Tryz.prog 173 #[.slice p 0 cap] w fun e w'=>e = .returned (.tuple #[])∧w'=w:=Any.slices_Sort_string_none Tryz.PH p cap w
end Go.Proofs
namespace Go.Abs
open Go.Proofs
section
variable {P:Program} {B:gY} {nt:Nat}
theorem acT {x:Operand} {t:Nat} (h:cX x=some (.s t)):x = .tmp t:=by
 unfold cX at h
 split at h
 ·cases h;rfl
 ·obtain⟨d,_,h⟩:=map_some h;cases h
 ·cases h
 ·cases h
theorem SY {ops:Array Oper} {o:Oper} {g g':Option (Nat×Bool)} {dst:Option Nat} {f:Nat} {xs:List X} (h:uO P ops o g=some (.call dst g' f xs)) :
 g'=g∧∃ args oc,o.op = .call ⟨.value (.func f),args,oc⟩∧enters P f=true∧zn args.toList=some xs:=by
 unfold uO at h
 split at h
 ·rename_i f' args oc oa
  split at h
  ·rename_i he
   obtain⟨xs',h1,h2⟩:=map_some h
   cases h2
   exact⟨rfl,args,oc,oa,he,h1⟩
  ·cases h
 ·obtain⟨_,_,h⟩:=map_some h;cases h
 ·split at h
  ·cases h
  ·split at h<;>cases h
theorem VL {ops:Array Oper} {o:Oper} {tmps:Array Value} (hg:wT ops o.guard=some none):Region.wanted o (yielded ops tmps)=true:=by
 have:o.guard=none:=by
  cases Jk:o.guard with
  |none=>rfl
  |some p=>
   obtain⟨j,b⟩:=p
   rw[Jk]at hg
   unfold wT at hg
   simp only at hg
   split at hg<;>cases hg
 simp[Region.wanted,this]
theorem Sem.afU {a k b f:Nat} {is:List AI} {Q:Exit→Tm→St→Prop} {tm:Tm} {s:St}
 (Be : ∀ act w,Holds B nt (tm.put (some a) (tm.get k)) s act w→Calls P f #[act.tmps.getD a Go.undef] w fun e w'=>∃ v,e = .returned v∧∃ bQ s',Holds B nt bQ s' (act.put (some b) v) w'∧jS P is (Q .normal) bQ s') :
 Sem P B nt (.run (.op (some a) none (.mv (.s k)):: .call (some b) none f [.s a]::is)) Q tm s:=by
 intro c hc act w hh
 obtain⟨id,ops,rfl,hi⟩:=mL hc
 refine wp_region ?_
 have key : ∀ (l:List Nat) (ol:List Oper),l.map (ops[·]?)=ol.map some→rP P nt ops ol=some (.op (some a) none (.mv (.s k)):: .call (some b) none f [.s a]::is)→wpOps P ops (rF B nt Q) l act w:=by
  intro l ol hl yQ
  match ol,l,hl with
  | [],_,_=>simp[rP]at yQ
  |o0::ol,[],hl=>simp at hl
  | o0::ol,j0::l,hl=>
   simp only[zaf,List.cons.injEq]at hl
   obtain⟨hj0,hl⟩:=hl
   unfold rP at yQ
   split at yQ
   ·rename_i i0 is0 h1 h2
    cases yQ
    match ol,l,hl,h2 with
    | [],_,_,h2=>simp[rP]at h2
    |o1::ol,[],hl,_=>simp at hl
    | o1::ol,j1::l,hl,h2=>
     simp only[zaf,List.cons.injEq]at hl
     obtain⟨hj1,hl⟩:=hl
     unfold rP at h2
     split at h2
     ·rename_i i1 is1 h3 h4
      cases h2
      obtain⟨M,e,r,ht,hn,hd⟩:=hh
      have JF:=vq h1
      have JX:=vq h3
      simp only[AI.dst]at JF JX
      refine yP (K':=fun bQ s'=>bQ=tm.put (some a) (tm.get k)∧s'=s) hj0 h1 r (B.laid.ext e) ht (by simp only[jS,guarded,aS,X.ev,and_self]) (fun d v s1 w1 M1 hk e1 r1 hv=>?_)
      obtain⟨xO,rfl⟩:=hk
      have hH:=Holds.put e ht hn hd (zH h1) e1 r1 hv
      simp only[AI.dst]at xO
      rw[← JF]at hH ⊢
      rw[xO]at hH
      obtain⟨g,hg,_,hb⟩:=CI h3
      obtain⟨rfl,args,oc,oa,nQ,qj⟩:=SY hb
      simp only[wpOps,hj1,VL hg,if_true]
      left
      have Yr:args.map (act.put (some a) v).eval = #[(act.put (some a) v).tmps.getD a Go.undef]:=by
       have:args.toList = [.tmp a]:=by
        match hA:args.toList with
        | []=>rw[hA]at qj;simp[zn]at qj
        | [x]=>
         rw[hA]at qj
         simp only[zn]at qj
         split at qj
         ·rename_i x' r' hx hr
          cases qj
          rw[acT hx]
         ·cases qj
        | x::y::z=>
         rw[hA]at qj
         simp only[zn]at qj
         split at qj
         ·rename_i x' r' hx hr
          cases qj
          split at hr
          ·cases hr
          ·cases hr
         ·cases qj
       have:args = #[.tmp a]:=by rw[← za6 (xs:=args),this]
       rw[this]
       simp only[List.map_toArray,zaf,zai]
       rfl
      have hex:(execOp (act.put (some a) v).eval o1).run P w1 = .ok (.enter f #[(act.put (some a) v).tmps.getD a Go.undef]) w1:=by
       obtain⟨dst,op,type,pos,after,guard⟩:=o1
       simp only at oa
       subst oa
       rw[← Yr]
       exact yJ (act.put (some a) v).eval dst f args oc type pos after guard rfl nQ w1
      unfold Oper.wp
      rw[hex,Oper.upon_enter]
      refine(Be _ _ hH).mono ?_
      rintro en w' ⟨v',rfl,bQ,s',hH',hvc⟩
      rw[← JX]
      exact CC (Q:=Q) l ol _ hl h4 bQ s' _ w' hvc hH'
     ·cases h2
   ·cases yQ
 exact key _ _ (CD ops) hi
theorem JY (hB:B.s = ⟨[],[]⟩) {tm:Tm} {s:St} {act:Act} {w:World} (h:Holds B nt tm s act w) {t:Nat} {l:List aF} (ht:s.ay[t]? = some (some l.length)) {k0:Nat} (VB:tm.get k0 = .slice (.tok t) 1 (l.map encStr)) :
 (l = []∧∀ k,tm.get k = .slice (.tok t) 1 (l.map encStr)→(act.tmps.getD k Go.undef = .slice none 0 0∨∃ b q,act.tmps.getD k Go.undef = .slice (some ⟨b,q,none⟩) 0 0))∨
 ∃ (b cap:Nat) (vs:Array Value) (T:TypeId),(∀ k,tm.get k = .slice (.tok t) 1 (l.map encStr)→act.tmps.getD k Go.undef = .slice (some ⟨b,0,none⟩) l.length cap)∧l.length≤cap∧w.heap[b]? = some (.cells vs T (0,0))∧vs.size=cap∧B.w.heap.size≤b∧
  ∀ j (hj:j<l.length),vs[j]? = some (.string ⟨⟨l[j]⟩⟩):=by
 obtain⟨M,e,r,hr,_,_⟩:=h
 rcases r.tok t _ ht with ⟨h3,h4⟩|⟨b,cap,z,vs,T,h3,h4,h5,h6,h7⟩
 ·have hl:l = []:=zbk h4
  subst hl
  refine .inl ⟨rfl,fun k hk=>?_⟩
  have hv:=hr k
  rw[hk]at hv
  generalize act.tmps.getD k Go.undef=v at hv
  cases hv with
  |jz _ _ cap hc od=>subst hc;exact .inl rfl
  |slice _ _ _ b q cap hl hs h1 h2 od=>
   rcases(od.2 _ ht).2 rfl with ⟨_,h0,_⟩|⟨b',_,lM⟩
   ·subst h0;exact .inr ⟨b,q,rfl⟩
   ·rw[h3]at lM;cases lM
 ·right
  have each : ∀ k,tm.get k = .slice (.tok t) 1 (l.map encStr)→z=1∧act.tmps.getD k Go.undef = .slice (some ⟨b,0,none⟩) l.length cap∧l.length≤cap∧∀ j (hj:j<l.length),∃ u,M.G b j=some u∧RD M s (.str l[j]) u:=by
   intro k hk
   have hv:=hr k
   rw[hk]at hv
   generalize act.tmps.getD k Go.undef=v at hv
   generalize k8:l.map encStr=rows at hv
   cases hv with
   |jz _ _ cap hc od=>
    have hl:l = []:=by cases l<;>simp at k8;rfl
    subst hl
    rcases(od.2 _ ht).2 rfl with ⟨h0,_⟩|⟨b',h0,_⟩
    ·rw[h3]at h0;cases h0
    ·cases h0
   | slice _ _ _ b2 q aq1 hl hs h1 h2 od=>
    subst k8
    rw[zaw]at hl od
    rcases(od.2 _ ht).2 rfl with ⟨h0,_⟩|⟨b',hb,lM⟩
    ·rw[h3]at h0;cases h0
    ·cases hb
     rw[h3]at lM
     cases lM
     refine⟨rfl,by rw[zaw],hl,fun j hj=>?_⟩
     have e1:(l.map encStr)[j]? = some [.str l[j]]:=by rw[zao,zah hj];rfl
     obtain⟨u,hu⟩:=h1 j _ 0 _ e1 rfl
     refine⟨u,by simpa using hu,h2 j _ 0 _ u e1 rfl hu⟩
  obtain⟨rfl,_,vK,ny⟩:=each k0 VB
  have du:B.w.heap.size≤b:=by
   rcases e.sj t b cap 1 ⟨_,ht⟩ h3 with ⟨⟨n,hn⟩,_⟩|h
   ·rw[hB]at hn;simp at hn
   ·exact h
  refine⟨b,cap,vs,T,fun k hk=>(each k hk).2.1,vK,h4,by simpa[zs]using h5,du,fun j hj=>?_⟩
  obtain⟨u,hu,jG⟩:=ny j hj
  have:=(r.comm _ _ _ hu).1
  rw[j8 h4,jG.mz]at this
  exact this
theorem M8 (hB:B.s = ⟨[],[]⟩) {tm:Tm} {s:St} {act vT:Act} {w w':World} (h:Holds B nt tm s act w) {b cap:Nat} {vs:Array Value} {T:TypeId} (dT:vs.size=cap) (q8:B.w.heap.size≤b)
 (np : ∀ q,q<B.w.heap.size→w'.heap[q]? = w.heap[q]?) (dX:w'.heap[b]? = some (.cells vs T (0,0))) (o7:w.heap.size≤w'.heap.size) (wa:w'.os=w.os) (ug:w'.tape=w.tape) (E8:w'.output=w.output)
 {l:List aF} (hl:l.length≤cap) (ny : ∀ j (hj:j<l.length),vs[j]? = some (.string ⟨⟨l[j]⟩⟩)) {k:Nat} (SZ:vT.tmps.getD k Go.undef = .slice (some ⟨b,0,none⟩) l.length cap) (hn:vT.tmps.size=nt) (hd:vT.defers = []) :
 Holds B nt [(k, .slice (.tok 0) 1 (l.map encStr))] ⟨[],[some l.length]⟩ vT w':=by
 obtain⟨M,e,r,hr,_,_⟩:=h
 let M':Map:=⟨fun q o=>if q=b then(if o<l.length then(l[o]?).map fun x=>Value.string ⟨⟨x⟩⟩else none)else B.M.G q o,B.M.loc,fun _=>some (b,cap,1)⟩
 have hGb : ∀ q o v,B.M.G q o=some v→q<B.w.heap.size∧w'.cell? ⟨q,o,none⟩=some v∧v.oneCell'=true:=by
  intro q o v hq
  obtain⟨h1,h2⟩:=r.comm q o v (e.le.G q o v hq)
  have hD:=B.EA q o v hq
  refine⟨hD, ?_,h2⟩
  rw[← h1]
  simp[World.cell?,np q hD]
 have iN : ∀ j (hj:j<l.length),w'.cell? ⟨b,j,none⟩=some (.string ⟨⟨l[j]⟩⟩):=fun j hj=>by rw[j8 dX];exact ny j hj
 have hY : ∀ (j:Nat) v,(if j<l.length then(l[j]?).map fun x=>Value.string ⟨⟨x⟩⟩else none)=some v→∃ hj:j<l.length,v = .string ⟨⟨l[j]⟩⟩:=by
  intro j v hv
  split at hv
  ·rename_i hj
   rw[zah hj]at hv
   exact⟨hj,by simpa using hv.symm⟩
  ·cases hv
 refine⟨M',⟨⟨fun q o v hq=>?_,by simp[hB],fun o ho=> .refl _,by rw[hB];exact zaz _,fun t n' ht _=>by rw[hB]at ht;exact absurd ht (za9 _)⟩,fun q hq _ _=>?_,fun o _ h2=>absurd h2 (za9 _),fun t q c z _ hb=>?_,fun q o eO=>?_,zaW e.size o7,wa.trans e.os,ug.trans e.tape,E8.trans e.output⟩,
  ⟨fun q o v hq=>?_,fun o ds ho=>by simp at ho,fun o ho=>absurd ho (za9 _),fun o o' ho=>absurd ho (za9 _),fun t n ht=>?_,fun t q c z o _ _ ho=>absurd ho (za9 _),fun t t' q c z c' z' Ad jI _ _=>?_⟩,fun u=>?_,hn,hd⟩
 ·show(if q=b then _ else B.M.G q o)=some v
  rw[if_neg (by have:=(hGb q o v hq).1;omega)]
  exact hq
 ·rw [np q hq]
  exact e.kept q hq (fun o ho=>by rw[hB]at ho;exact absurd ho (za9 _)) (fun t c z jI=>by rw[hB]at jI;obtain⟨n,B2⟩:=jI;simp at B2)
 ·cases hb;exact .inr q8
 ·by_cases hq:q=b
  ·subst hq;exact .inl q8
  ·exact absurd (show(if q=b then _ else B.M.G q o)=B.M.G q o from if_neg hq) eO
 ·have nq:(if q=b then(if o<l.length then(l[o]?).map fun x=>Value.string ⟨⟨x⟩⟩else none)else B.M.G q o)=some v:=hq
  by_cases hqb:q=b
  ·rw [if_pos hqb]at nq
   obtain⟨hj,rfl⟩:=hY o v nq
   rw[hqb]
   exact⟨iN o hj,rfl⟩
  ·rw [if_neg hqb]at nq
   exact(hGb q o v nq).2
 ·match t with
  | 0=>
   simp at ht
   subst ht
   refine .inr ⟨b,cap,1,vs,T,rfl,dX,by simp[zs,dT],hl,fun off ho=>?_,fun h=>by cases h⟩
   show(if b=b then(if off<l.length then _ else none)else B.M.G b off)=none
   rw[if_pos rfl,if_neg (by simp[zs]at ho;omega)]
  |t+1=>simp at ht
 ·obtain⟨n1,h1⟩:=Ad
  obtain⟨n2,h2⟩:=jI
  have a1:=(zac.1 h1).1
  have a2:=(zac.1 h2).1
  simp at a1 a2
  omega
 ·simp only [Tm.get]
  split
  ·rename_i hku
   subst hku
   rw[SZ]
   have:=RD.slice (M:=M') (s:=⟨[],[some l.length]⟩) (.tok 0) 1 (l.map encStr) b 0 cap (by simpa using hl) (fun row hr=>by
    obtain⟨x,_,rfl⟩:=zaF.1 hr;rfl) (fun i row j d e1 e2=>?_) (fun i row j d u e1 e2 eu=>?_) ⟨by simp,fun n B2=>by
    simp at B2
    subst B2
    exact⟨by simp,fun _=> .inr ⟨b,rfl,rfl⟩⟩⟩
   ·simpa using this
   ·rw [zao]at e1
    cases BP:l[i]? with
    |none=>rw[BP]at e1;cases e1
    |some x=>
     have rr:=(zac.1 BP).1
     rw[BP]at e1
     cases e1
     have hj:j=0:=by cases j with|zero=>rfl|succ j=>simp[encStr]at e2
     subst hj
     refine⟨.string ⟨⟨x⟩⟩, ?_⟩
     show(if b=b then(if 0+(i*1+0)<l.length then _ else none)else _)=_
     rw[if_pos rfl,if_pos (by omega)]
     simp[BP]
   ·rw [zao]at e1
    cases BP:l[i]? with
    |none=>rw[BP]at e1;cases e1
    |some x=>
     have rr:=(zac.1 BP).1
     rw[BP]at e1
     cases e1
     have hj:j=0:=by cases j with|zero=>rfl|succ j=>simp[encStr]at e2
     subst hj
     have Gx:(if b=b then(if 0+(i*1+0)<l.length then(l[0+(i*1+0)]?).map fun x=>Value.string ⟨⟨x⟩⟩else none)else B.M.G b (0+(i*1+0)))=some u:=eu
     rw[if_pos rfl,if_pos (by omega)]at Gx
     simp[BP]at Gx
     subst Gx
     simp[encStr]at e2
     subst e2
     exact .str x
  ·exact .junk _
theorem PJ (hB:B.s = ⟨[],[]⟩) {tm:Tm} {s:St} {act vT:Act} {w:World} (h:Holds B nt tm s act w) {k:Nat} (SZ:vT.tmps.getD k Go.undef = .slice none 0 0∨∃ b q,vT.tmps.getD k Go.undef = .slice (some ⟨b,q,none⟩) 0 0) (hn:vT.tmps.size=nt) (hd:vT.defers = []) :
 Holds B nt [(k, .slice (.tok 0) 1 (([] : List aF).map encStr))] ⟨[],[some 0]⟩ vT w:=by
 obtain⟨M,e,r,hr,_,_⟩:=h
 let M':Map:=⟨B.M.G,B.M.loc,fun _=>none⟩
 refine⟨M',⟨⟨fun q o v hq=>hq,by simp[hB],fun o ho=> .refl _,by rw[hB];exact zaz _,fun t n' ht _=>by rw[hB]at ht;exact absurd ht (za9 _)⟩,fun q hq _ _=>?_,fun o _ h2=>absurd h2 (za9 _),fun t q c z _ hb=>(by cases hb),fun q o eO=>absurd rfl eO,e.size,e.os,e.tape,e.output⟩,
  ⟨fun q o v hq=>r.comm q o v (e.le.G q o v hq),fun o ds ho=>by simp at ho,fun o ho=>absurd ho (za9 _),fun o o' ho=>absurd ho (za9 _),fun t n ht=>?_,fun t q c z o _ _ ho=>absurd ho (za9 _),fun t t' q c z c' z' Ad jI h1 _=>by cases h1⟩,fun u=>?_,hn,hd⟩
 ·exact e.kept q hq (fun o ho=>by rw[hB]at ho;exact absurd ho (za9 _)) (fun t c z jI=>by rw[hB]at jI;obtain⟨n,B2⟩:=jI;simp at B2)
 ·match t with
  | 0=>simp at ht;subst ht;exact .inl ⟨rfl,rfl⟩
  |t+1=>simp at ht
 ·simp only [Tm.get]
  split
  ·rename_i hku
   subst hku
   have od : ∀ base,jO M' ⟨[],[some 0]⟩ (.tok 0) 1 0 base 0:=fun base=>⟨by simp,fun n B2=>by
    simp at B2
    subst B2
    exact⟨zal _,fun _=> .inl ⟨rfl,rfl,fun h=>by cases h⟩⟩⟩
   rcases SZ with h|⟨b,q,h⟩
   ·rw[h];exact .jz _ _ 0 rfl (od none)
   ·rw[h];exact .slice (.tok 0) 1 [] b q 0 (zal _) (by simp) (by simp) (by simp) (od _)
  ·exact .junk _
theorem M9 {α:Type} [Inhabited α] (enc:α→Value) (d:Array α) (c:Array Value) (j:Nat):(Sort.putCells enc 0 d c)[j]? = if j<d.size then(c[j]?).map fun _=>enc d[j]! else c[j]? :=by
 simp only[Sort.putCells,Array.getElem?_mapIdx]
 cases h:c[j]? with
 |none=>simp
 |some x=>by_cases hj:j<d.size<;>simp[hj]
theorem JZ {w:World} {b n cap:Nat} {vs:Array Value} {T:TypeId} (dX:w.heap[b]? = some (.cells vs T (0,0))) (dT:vs.size=cap) (l:List aF) (hl:l.length≤cap) (os:Array Obj) :
 (∀ q,q≠b→q<w.heap.size→(Sort.grow (Sort.putRow Go.Proofs.encStr (Sort.ahead w n) b 0 l.toArray) os).heap[q]? = w.heap[q]?)∧
 (Sort.grow (Sort.putRow Go.Proofs.encStr (Sort.ahead w n) b 0 l.toArray) os).heap[b]? = some (.cells (Sort.putCells Go.Proofs.encStr 0 l.toArray vs) T (0,0))∧w.heap.size≤(Sort.grow (Sort.putRow Go.Proofs.encStr (Sort.ahead w n) b 0 l.toArray) os).heap.size∧
 (Sort.putCells Go.Proofs.encStr 0 l.toArray vs).size=cap∧∀ j (hj:j<l.length),(Sort.putCells Go.Proofs.encStr 0 l.toArray vs)[j]? = some (.string ⟨⟨l[j]⟩⟩):=by
 have hb:b<w.heap.size:=(zaT.1 dX).1
 refine⟨fun q hq hD=>?_, ?_, ?_, ?_,fun j hj=>?_⟩
 ·simp only [Sort.grow,Sort.putRow,Sort.mapBlock,Sort.ahead]
  rw[zbc (by simpa using hD),zbT]
  simp[Ne.symm hq]
 ·simp only [Sort.grow,Sort.putRow,Sort.mapBlock,Sort.ahead]
  rw[zbc (by simpa using hb),zbT]
  simp[dX,Sort.onCells]
 ·simp[Sort.grow,Sort.putRow,Sort.mapBlock,Sort.ahead]
 ·simp[Sort.putCells,dT]
 ·rw [M9]
  have h1:j<l.toArray.size:=by simpa using hj
  have h2:vs[j]? = some vs[j]:=zbl (by omega)
  rw[if_pos h1,h2]
  simp[hj]
def nJ (l:List aF):List aF:=l.mergeSort fun x y=>decide (x≤y)
theorem Na {act:Act} {b:Nat} {v:Value} {u:Nat} (h:u≠b):(act.put (some b) v).tmps.getD u Go.undef=act.tmps.getD u Go.undef:=by
 simp only[Act.put,zbv]
 rw[zbK (fun e=>h e.symm)]
theorem J0 {act:Act} {b:Nat} {v:Value} (h:b<act.tmps.size):(act.put (some b) v).tmps.getD b Go.undef=v:=by
 simp only[Act.put,zbv]
 simp[h]
theorem Sem.sort (hB:B.s = ⟨[],[]⟩) {a k b t:Nat} {l:List aF} {is:List AI} {Q:Exit→Tm→St→Prop} {tm:Tm} {s:St} (hak:a≠k) (hbk:b≠k) (CZ:a≠b)
 (hk:tm.get k = .slice (.tok t) 1 (l.map encStr)) (ht:s.ay[t]? = some (some l.length)) (hl:l.length<4611686018427387904)
 (h:jS Tryz.prog is (Q .normal) [(k, .slice (.tok 0) 1 ((nJ l).map encStr))] ⟨[],[some l.length]⟩) :
 Sem Tryz.prog B nt (.run (.op (some a) none (.mv (.s k)):: .call (some b) none 173 [.s a]::is)) Q tm s:=by
 refine Sem.afU fun act w hh=>?_
 have BL:(tm.put (some a) (tm.get k)).get k = .slice (.tok t) 1 (l.map encStr):=by rw[Tm.mC,if_neg (by simpa using hak)];exact hk
 have Nb:(tm.put (some a) (tm.get k)).get a = .slice (.tok t) 1 (l.map encStr):=by rw[Tm.mC,if_pos rfl];exact hk
 have Af:(nJ l).length=l.length:=List.length_mergeSort l
 have hn:(act.put (some b) (.tuple #[])).tmps.size=nt:=by obtain⟨_,_,_,_,h1,_⟩:=hh;simpa[Act.put]using h1
 have hd:(act.put (some b) (.tuple #[])).defers = []:=by obtain⟨_,_,_,_,_,h1⟩:=hh;simpa[Act.put]using h1
 have dT:(act.tmps).size=nt:=by obtain⟨_,_,_,_,h1,_⟩:=hh;exact h1
 rcases JY hB hh ht Nb with ⟨rfl,hv⟩|⟨b',cap,vs,T,hv,vK,dX,mX,q8,ny⟩
 ·rw [show nJ [] = [] by simp [nJ]]at h
  have call : ∀ p,act.tmps.getD a Go.undef = .slice p 0 0→Calls Tryz.prog 173 #[act.tmps.getD a Go.undef] w fun e w'=>∃ v,e = .returned v∧∃ bQ s',Holds B nt bQ s' (act.put (some b) v) w'∧jS Tryz.prog is (Q .normal) bQ s':=by
   intro p hp
   rw[hp]
   refine(Tryz.slices_Sort_string_none p 0 w).mono ?_
   rintro e w' ⟨rfl,rfl⟩
   refine⟨_,rfl,_,_,PJ hB hh (k:=k) ?_ hn hd,h⟩
   rw[Na (Ne.symm hbk)]
   exact hv k BL
  rcases hv a Nb with h1|⟨b',q,h1⟩
  ·exact call _ h1
  ·exact call _ h1
 ·rw [hv a Nb]
  have hD:b'<w.heap.size:=(zaT.1 dX).1
  refine(Tryz.slices_Sort_string b' 0 cap l w (fun j hj=>?_) hD hl).mono ?_
  ·have VM:j<l.length:=by simpa using hj
   refine⟨?_,by simp[World.frozen?,dX]⟩
   rw[zaZ,j8 dX,ny j VM]
   simp[VM]
  ·rintro e w' ⟨rfl,n,os,rfl⟩
   obtain⟨p1,p2,p3,p4,p5⟩:=JZ (n:=n) dX mX (nJ l) (by omega) os
   have hH:=M8 hB hh (vT:=act.put (some b) (.tuple #[])) (l:=nJ l) (k:=k) p4 q8 (fun q hq=>p1 q (by omega) (by obtain⟨M,e,_⟩:=hh;exact zaX hq e.size)) p2 p3 rfl rfl rfl (by omega) p5 (by rw[Na (Ne.symm hbk),hv k BL,Af]) hn hd
   rw[Af]at hH
   exact⟨_,rfl,_,_,hH,h⟩
theorem O1 (l:List aF):(Lib.compact l).length≤l.length:=by
 unfold Lib.compact Lib.compactUpTo
 rw[zaw]
 exact zaW (List.length_filter_le _ _) (by simp)
theorem Sem.compact (hB:B.s = ⟨[],[]⟩) {a k b t:Nat} {l:List aF} {is:List AI} {Q:Exit→Tm→St→Prop} {tm:Tm} {s:St} (hbt:b<nt)
 (hk:tm.get k = .slice (.tok t) 1 (l.map encStr)) (ht:s.ay[t]? = some (some l.length)) (hl:l.length<4611686018427387904)
 (h:jS Tryz.prog is (Q .normal) [(b, .slice (.tok 0) 1 ((Lib.compact l).map encStr))] ⟨[],[some (Lib.compact l).length]⟩) :
 Sem Tryz.prog B nt (.run (.op (some a) none (.mv (.s k)):: .call (some b) none 174 [.s a]::is)) Q tm s:=by
 refine Sem.afU fun act w hh=>?_
 have Nb:(tm.put (some a) (tm.get k)).get a = .slice (.tok t) 1 (l.map encStr):=by rw[Tm.mC,if_pos rfl];exact hk
 have dT:(act.tmps).size=nt:=by obtain⟨_,_,_,_,h1,_⟩:=hh;exact h1
 have hn : ∀ v,(act.put (some b) v).tmps.size=nt:=fun v=>by simpa[Act.put]using dT
 have hd : ∀ v,(act.put (some b) v).defers = []:=by obtain⟨_,_,_,_,_,h1⟩:=hh;intro v;simpa[Act.put]using h1
 rcases JY hB hh ht Nb with ⟨rfl,hv⟩|⟨b',cap,vs,T,hv,vK,dX,mX,q8,ny⟩
 ·rw [show Lib.compact ([] : List aF) = []from rfl]at h
  have call : ∀ p,act.tmps.getD a Go.undef = .slice p 0 0→(p=none∨∃ b q,p=some ⟨b,q,none⟩)→Calls Tryz.prog 174 #[act.tmps.getD a Go.undef] w fun e w'=>∃ v,e = .returned v∧∃ bQ s',Holds B nt bQ s' (act.put (some b) v) w'∧jS Tryz.prog is (Q .normal) bQ s':=by
   intro p hp hq
   rw[hp]
   refine(Tryz.slices_Compact_string_empty p 0 w).mono ?_
   rintro e w' ⟨rfl,rfl⟩
   refine⟨_,rfl,_,_,PJ hB hh (k:=b) ?_ (hn _) (hd _),h⟩
   rw[J0 (by omega)]
   rcases hq with rfl|⟨x,y,rfl⟩
   ·exact .inl rfl
   ·exact .inr ⟨x,y,rfl⟩
  rcases hv a Nb with h1|⟨b',q,h1⟩
  ·exact call _ h1 (.inl rfl)
  ·exact call _ h1 (.inr ⟨b',q,rfl⟩)
 ·rw [hv a Nb]
  have ko:(Lib.compact l).length≤l.length:=O1 l
  refine(Tryz.slices_Compact_string b' 0 cap l w (fun j hj=>?_) (by omega) vK).mono ?_
  ·have VM:j<l.length:=by simpa using hj
   refine⟨?_,by simp[World.frozen?,dX]⟩
   rw[zaZ,j8 dX,ny j VM]
   simp[VM]
  ·rintro e w' ⟨rfl,q,rfl⟩
   obtain⟨p1,p2,p3,p4,p5⟩:=JZ (n:=q) dX mX (Lib.compact l++List.replicate (l.length - (Lib.compact l).length) []) (by simp;omega) #[]
   rw[Sort.grow_empty]at p1 p2 p3
   have hH:=M8 hB hh (vT:=act.put (some b) (.slice (some ⟨b',0,none⟩) (Lib.compact l).length cap)) (l:=Lib.compact l) (k:=b) p4 q8 (fun q hq=>p1 q (by omega) (by obtain⟨M,e,_⟩:=hh;exact zaX hq e.size)) p2 p3 rfl rfl rfl (by omega)
    (fun j hj=>by
     have:=p5 j (by simp;omega)
     rw[List.getElem_append_left hj]at this
     exact this) (J0 (by omega)) (hn _) (hd _)
   exact⟨_,rfl,_,_,hH,h⟩
end
end Go.Abs
namespace Go.Abs
theorem Hc {a b:UInt8} : a<b↔a.toNat<b.toNat:=UInt8.lt_iff_toNat_lt
theorem Ah : ∀ a:aF,bytesLess a a=false
 | []=>rfl
 |x::a=>by
  show Go.Op.bytesLess (x::a) (x::a)=false
  have h:=Ah a
  have h:Go.Op.bytesLess a a=false:=h
  simp[Go.Op.bytesLess,h]
theorem Ai : ∀ a b:aF,bytesLess a b=true∨a=b∨bytesLess b a=true
 | [],[]=> .inr (.inl rfl)
 | [],y::b=> .inl rfl
 |x::a,[]=> .inr (.inr rfl)
 | x::a,y::b=>by
  show Go.Op.bytesLess (x::a) (y::b)=true∨_∨Go.Op.bytesLess (y::b) (x::a)=true
  have h:Go.Op.bytesLess a b=true∨a=b∨Go.Op.bytesLess b a=true:=Ai a b
  simp only[Go.Op.bytesLess,zaC,zar,decide_eq_true_eq,beq_iff_eq,List.cons.injEq]
  by_cases e:x=y
  ·subst e
   rcases h with h|h|h
   ·exact .inl (.inr ⟨rfl,h⟩)
   ·exact .inr (.inl ⟨rfl,h⟩)
   ·exact .inr (.inr (.inr ⟨rfl,h⟩))
  ·have:x.toNat≠y.toNat:=fun h=>e (UInt8.toNat_inj.1 h)
   rcases Nat.lt_or_gt_of_ne this with h|h
   ·exact .inl (.inl (Hc.2 h))
   ·exact .inr (.inr (.inl (Hc.2 h)))
theorem Hd : ∀ a b c:aF,bytesLess a b=true→bytesLess b c=true→bytesLess a c=true
 |a,b,[],h1,h2=>by cases b<;>cases h2
 |a,[],z::c,h1,h2=>by cases a<;>cases h1
 | [],y::b,z::c,h1,h2=>rfl
 | x::a,y::b,z::c,h1,h2=>by
  have h1:Go.Op.bytesLess (x::a) (y::b)=true:=h1
  have h2:Go.Op.bytesLess (y::b) (z::c)=true:=h2
  show Go.Op.bytesLess (x::a) (z::c)=true
  simp only[Go.Op.bytesLess,zaC,zar,decide_eq_true_eq,beq_iff_eq]at h1 h2 ⊢
  rcases h1 with e1|⟨i1,e1⟩
  ·rcases h2 with e2 | ⟨i2,e2⟩
   ·exact .inl (Hc.2 (Nat.lt_trans (Hc.1 e1) (Hc.1 e2)))
   ·exact .inl (i2 ▸ e1)
  ·rcases h2 with e2 | ⟨i2,e2⟩
   ·exact .inl (i1 ▸ e2)
   ·exact .inr ⟨i1.trans i2,Hd a b c e1 e2⟩
def Dd (l:List aF):Prop:=l.Pairwise fun a b=>bytesLess a b=true
theorem yS : ∀ {a b:List aF},Dd a→Dd b→(∀ x,x∈a↔x∈b)→a=b
 | [],[],_,_,_=>rfl
 | [],y::b,_,_,h=>absurd ((h y).2 zaA) (by simp)
 |x::a,[],_,_,h=>absurd ((h x).1 zaA) (by simp)
 | x::a,y::b,h1,h2,h=>by
  obtain⟨g1,g2⟩:=List.pairwise_cons.1 h1
  obtain⟨g3,g4⟩:=List.pairwise_cons.1 h2
  have e:x=y:=by
   rcases zap.1 ((h x).1 zaA)with e|m
   ·exact e
   ·rcases zap.1 ((h y).2 zaA)with e | m'
    ·exact e.symm
    ·have:=Hd _ _ _ (g3 x m) (g1 y m');rw[Ah]at this;cases this
  subst e
  rw[yS g2 g4 fun z=>?_]
  constructor
  ·intro m
   rcases zap.1 ((h z).1 (zan _ m))with e|m'
   ·subst e;have:=g1 z m;rw[Ah]at this;cases this
   ·exact m'
  ·intro m
   rcases zap.1 ((h z).2 (zan _ m))with e|m'
   ·subst e;have:=g3 z m;rw[Ah]at this;cases this
   ·exact m'
theorem wE (out:List aF) : ∀ (l:List aF) (c:aF) (a:Bool),
 let q:=ly out l c a
 (q.2=false↔a=false∧∀ x∈l,x∈out)∧(q.2=true→((a=true∧q.1=c)∨(q.1∈l∧q.1∉out))∧(a=true→bytesLess c q.1=false)∧∀ x∈l,x∉out→bytesLess x q.1=false)
 | [],c,a=>by
  simp only[ly]
  refine⟨by simp,fun h=>⟨.inl ⟨h,by trivial⟩,fun _=>Ah c,fun x m=>(by cases m)⟩⟩
 | s::l,c,a=>by
  simp only[ly]
  by_cases h1:dS out s=true
  ·have m:=(gK _ _).1 h1
   simp only[h1,zau,zaN,zab,if_false]
   obtain⟨k1,k2⟩:=wE out l c a
   refine⟨k1.trans ⟨fun h=>⟨h.1,fun x hx=>?_⟩,fun h=>⟨h.1,fun x hx=>h.2 x (zan _ hx)⟩⟩,fun h=>?_⟩
   ·rcases zap.1 hx with rfl | hx
    ·exact m
    ·exact h.2 x hx
   ·obtain⟨g1,g2,g3⟩:=k2 h
    refine⟨g1.imp_right fun h=>⟨zan _ h.1,h.2⟩,g2,fun x hx hn=>?_⟩
    rcases zap.1 hx with rfl|hx
    ·exact absurd m hn
    ·exact g3 x hx hn
  ·have m:s∉out:=fun m=>h1 ((gK _ _).2 m)
   have o9:dS out s=false:=by simpa using h1
   by_cases h2:(!a ||bytesLess s c)=true
   ·simp only [o9,h2,zax,Bool.and_self,if_true]
    obtain⟨k1,k2⟩:=wE out l s true
    refine⟨⟨fun h=>absurd (k1.1 h).1 (by simp),fun h=>absurd (h.2 s zaA) m⟩,fun h=>?_⟩
    obtain⟨g1,g2,g3⟩:=k2 h
    have g4:=g2 rfl
    refine⟨.inr ?_,fun ha=>?_,fun x hx hn=>?_⟩
    ·rcases g1 with ⟨_,e⟩ | g1
     ·rw[e];exact⟨zaA,m⟩
     ·exact⟨zan _ g1.1,g1.2⟩
    ·have h3:bytesLess s c=true:=by simpa [ha]using h2
     cases hh:bytesLess c (ly out l s true).1
     ·rfl
     ·have:=Hd _ _ _ h3 hh;rw[g4]at this;cases this
    ·rcases zap.1 hx with rfl | hx
     ·exact g4
     ·exact g3 x hx hn
   ·have sG:(!a || bytesLess s c)=false:=by simpa using h2
    have ha:a=true:=by cases a<;>simp_all
    have h3:bytesLess s c=false:=by cases a<;>simp_all
    simp only[o9,sG,zax,zbt,zab,if_false]
    obtain⟨k1,k2⟩:=wE out l c a
    refine⟨⟨fun h=>absurd (k1.1 h).1 (by simp[ha]),fun h=>absurd h.1 (by simp[ha])⟩,fun h=>?_⟩
    obtain⟨g1,g2,g3⟩:=k2 h
    refine⟨g1.imp_right fun h=>⟨zan _ h.1,h.2⟩,g2,fun x hx hn=>?_⟩
    rcases zap.1 hx with rfl|hx
    ·cases hh:bytesLess x (ly out l c a).1
     ·rfl
     ·have g4:=g2 ha
      rcases Ai x c with e|e|e
      ·rw[h3]at e;cases e
      ·subst e;rw[g4]at hh;cases hh
      ·have:=Hd _ _ _ e hh;rw[g4]at this;cases this
    ·exact g3 x hx hn
theorem yT (l:List aF) : ∀ (n:Nat) (out:List aF),Dd out→(∀ x∈out,x∈l)→(∀ x∈out,∀ y∈l,y∉out→bytesLess x y=true)→
 Dd (ni l n out)∧(∀ x∈ni l n out,x∈l)∧(∀ x∈out,x∈ni l n out)∧((∀ x∈l,x∈ni l n out)∨(ni l n out).length=out.length+n)
 | 0,out,h1,h2,h3=>⟨h1,h2,fun x m=>m, .inr rfl⟩
 | n+1,out,h1,h2,h3=>by
  simp only[ni,M7]
  obtain⟨k1,k2⟩:=wE out l [] false
  cases hq:(ly out l [] false).2
  ·simp only [zab,if_false]
   obtain⟨g1,g2,g3,g4⟩:=yT l n out h1 h2 h3
   exact⟨g1,g2,g3, .inl fun x m=>g3 x ((k1.1 hq).2 x m)⟩
  ·simp only [if_true]
   obtain⟨g1,_,g3⟩:=k2 hq
   have g1:(ly out l [] false).1∈l∧(ly out l [] false).1∉out:=by
    rcases g1 with ⟨h,_⟩|g1
    ·cases h
    ·exact g1
   generalize (ly out l [] false).1=c at g1 g3
   obtain⟨r1,r2,r3,r4⟩:=yT l n (out++ [c])
    (by
     refine List.pairwise_append.2 ⟨h1,by simp,fun x hx y hy=>?_⟩
     have:y=c:=by simpa using hy
     subst this
     exact h3 x hx y g1.1 g1.2)
    (fun x hx=>by
     rcases zaq.1 hx with hx|hx
     ·exact h2 x hx
     ·have:x=c:=by simpa using hx
      subst this;exact g1.1)
    (fun x hx y hy hn=>by
     have hyo:y∉out:=fun m=>hn (zaJ _ m)
     have EL:y≠c:=fun e=>hn (za7 _ (by simp[e]))
     rcases zaq.1 hx with hx|hx
     ·exact h3 x hx y hy hyo
     ·have:x=c:=by simpa using hx
      subst this
      rcases Ai x y with h|h|h
      ·exact h
      ·exact absurd h.symm EL
      ·rw[g3 y hy hyo]at h;cases h)
   refine⟨r1,r2,fun x m=>r3 x (zaJ _ m),r4.imp_right fun h=>?_⟩
   rw[h];simp;omega
theorem yo : ∀ (a l:List aF),a.Nodup→(∀ x∈a,x∈l)→a.length≤l.length
 | [],l,_,_=>zaz _
 |x::a,l,h,hm=>by
  obtain⟨h1,h2⟩:=za4.1 h
  have m:=hm x zaA
  have:=yo a (l.erase x) h2 fun y hy=>(List.mem_erase_of_ne (fun e=>h1 (by rw[← e];exact hy))).2 (hm y (zan _ hy))
  rw[List.length_erase_of_mem m]at this
  have:0<l.length:=List.length_pos_of_mem m
  simp only[zat];omega
theorem tG {l:List aF} (h:Dd l):l.Nodup:=h.imp fun {a b} h e=>by subst e;rw[Ah]at h;cases h
theorem mg (l:List aF):Dd (iT l)∧∀ x,x∈iT l↔x∈l:=by
 obtain⟨h1,h2,h3,h4⟩:=yT l l.length [] List.Pairwise.nil (fun x m=>(by cases m)) (fun x m=>(by cases m))
 refine⟨h1,fun x=>⟨h2 x,fun m=>?_⟩⟩
 rcases h4 with h4|h4
 ·exact h4 x m
 ·refine Classical.byContradiction fun hn=> ?_
  have:=yo (x::ni l l.length []) l (za4.2 ⟨hn,tG h1⟩) fun y hy=>by
   rcases zap.1 hy with rfl|hy
   ·exact m
   ·exact h2 y hy
  simp only[zat,h4,zaD]at this
  omega
theorem O2 (zs:List aF) (hs:zs.Pairwise fun a b=>bytesLess b a=false) : ∀ m,m≤zs.length→
 Dd (Lib.compactUpTo zs.toArray m)∧(∀ x,x∈Lib.compactUpTo zs.toArray m↔x∈zs.take m):=by
 intro m
 induction m with
 |zero=>intro _;exact⟨by simp[Lib.compactUpTo,Dd],fun x=>by simp[Lib.compactUpTo]⟩
 | succ m ih=>
  intro hm
  obtain⟨h1,h2⟩:=ih (by omega)
  have hz:zs[m]? = some zs[m]:=zah (by omega)
  have e1:zs.toArray[m]! = zs[m]:=by simp[hm,Nat.lt_of_succ_le hm]
  have et:zs.take (m+1)=zs.take m++ [zs[m]]:=by rw[List.take_add_one,hz];rfl
  rw[Lib.compactUpTo_succ,e1,et]
  by_cases hk:Lib.keeps zs.toArray m=true
  ·rw [if_pos hk]
   refine⟨List.pairwise_append.2 ⟨h1,by simp,fun x hx y hy=>?_⟩,fun x=>by rw[zaq,zaq,h2]⟩
   have hy:y=zs[m]:=by simpa using hy
   subst hy
   have hx:=(h2 x).1 hx
   simp only[Lib.keeps,decide_eq_true_eq]at hk
   rcases hk with rfl|hk
   ·simp at hx
   ·have jq:m - 1<zs.length:=by omega
    have e2:zs.toArray[m - 1]! = zs[m - 1]:=by simp[jq]
    rw[e1,e2]at hk
    have h0:0<m:=by
     cases m with
     |zero=>simp at hx
     |succ m=>omega
    have hle : ∀ i j (hi:i<zs.length) (hj:j<zs.length),i<j→bytesLess zs[j] zs[i] = false:=fun i j hi hj hij=>List.pairwise_iff_getElem.1 hs i j hi hj hij
    have g1:bytesLess zs[m] zs[m - 1] = false:=hle (m - 1) m jq (by omega) (by omega)
    have g2:bytesLess zs[m - 1] zs[m] = true:=by
     rcases Ai zs[m - 1] zs[m]with h|h|h
     ·exact h
     ·exact absurd h.symm hk
     ·rw[g1]at h;cases h
    obtain⟨i,hi,rfl⟩:=List.mem_iff_getElem.1 hx
    rw[zbO]at hi
    rw[List.getElem_take]
    by_cases lj:i=m - 1
    ·subst lj;exact g2
    ·have g3:=hle i (m - 1) (by omega) jq (by omega)
     rcases Ai zs[i] zs[m - 1]with h|h|h
     ·exact Hd _ _ _ h g2
     ·rw[h];exact g2
     ·rw[g3]at h;cases h
  ·rw [if_neg hk]
   simp only[zaI]
   refine⟨h1,fun x=>?_⟩
   rw[h2]
   simp only[Lib.keeps,decide_eq_true_eq,not_or,ne_eq,Decidable.not_not]at hk
   obtain⟨k1,k2⟩:=hk
   have jq:m - 1<zs.length:=by omega
   have e2:zs.toArray[m - 1]! = zs[m - 1]:=by simp[jq]
   rw[e1,e2]at k2
   simp only[zaq,zaG]
   constructor
   ·exact .inl
   ·rintro(h | rfl)
    ·exact h
    ·rw [k2]
     exact List.mem_iff_getElem.2 ⟨m - 1,by rw[zbO];omega,by rw[List.getElem_take]⟩
theorem J1 (l:List aF):(nJ l).Pairwise fun a b=>bytesLess b a=false:=by
 have h:=List.pairwise_mergeSort (le:=fun x y:aF=>decide (x≤y)) (fun a b c h1 h2=>?_) (fun a b=>?_) l
 ·refine h.imp fun {a b} h=> ?_
  rw[decide_eq_true_eq]at h
  show Go.Op.bytesLess b a=false
  rw[Go.Proofs.bytesLess_eq]
  simpa using h
 ·rw [decide_eq_true_eq]at h1 h2 ⊢
  exact List.le_trans h1 h2
 ·have:=List.le_total a b
  simpa using this
theorem De (l:List aF):Lib.compact (nJ l)=iT l:=by
 obtain⟨h1,h2⟩:=O2 (nJ l) (J1 l) (nJ l).length (zal _)
 obtain⟨h3,h4⟩:=mg l
 refine yS h1 h3 fun x=>?_
 rw[h4]
 refine(h2 x).trans ?_
 rw[List.take_length]
 exact(List.mergeSort_perm _ _).mem_iff
set_option maxRecDepth 8000
open Go.Proofs
def kK:List Sm→List aF
 | []=> []
 |v::l=>if v.kind==4 then v.proc::kK l else kK l
theorem yU : ∀ l:List Sm,(kK l).length≤l.length
 | []=>zal _
 |v::l=>by
  simp only[kK]
  have:=yU l
  split<;>simp<;>omega
def Pc.calls (f:Pc):List aF:=iT (kK (Sm.cZ f.body))
theorem Df {name:aF} : ∀ {l:List Pc} {k:Nat} {f:Pc},gS name l=some f→∃ j,l[j]? = some f∧lW (fun f:Pc=>f.name==name) (k:Int) l=((k+j:Nat):Int)
 | g::l,k,f,h=>by
  simp only[gS]at h
  cases e:(g.name==name)
  ·rw [e]at h
   simp only[zab,if_false]at h
   obtain⟨j,h1,h2⟩:=Df (k:=k+1) h
   refine⟨j+1,by simpa using h1, ?_⟩
   simp only[lW,e,zab,if_false]
   rw[show((k:Int)+1)=((k+1:Nat):Int)from rfl,h2]
   congr 1;omega
  ·rw [e]at h
   simp only[if_true,Option.some.injEq]at h
   exact⟨0,by simpa using h,by simp[lW,e]⟩
theorem acU {p:Pg} (h:p.gu) {name:aF} {f:Pc} (hf:p.find name=some f) (s:St):az Tryz.prog 192 [.dO (fU p) 0, .str name] s (.slice .shared 1 (f.calls.map encStr)) s:=by
 refine az.pure ?_ (by simp[D.bM,D.ok,vQ]) (by simp only[D.ok,Tag.ok,dz];rfl) s
 obtain⟨nB,nF,lG⟩:=h.procs
 obtain⟨j,hj,gE⟩:=Df (k:=0) hf
 have gE:p.at name=((j:Nat):Int):=by unfold Pg.at;simpa using gE
 have sL:=fun s=>GX (p:=p) (by omega) name s
 rw[gE]at sL
 obtain⟨it,iD,C7⟩:=Yw hj (by omega)
 have IN:it.length≤900000:=by
  have e:=congrArg List.length iD
  obtain⟨a,b,e',_,_,e3,e4⟩:=(pd p).2 j f hj
  have e5:=qL p
  have e6:=congrArg List.length e3
  rw[e4]at e5
  simp only[zaw,zaj]at e e5 e6
  omega
 unfold S0
 obtain⟨fn,wi,rW⟩:=GM.h
 refine az.intro ⟨fn,wi,rW⟩ (zbp rfl) fun B hB=>?_
 generalize hQ:mN (⟨[],[]⟩:St).aq.length (⟨[],[]⟩:St).ay.length _ _ (⟨[],[]⟩:St)=Q
 have⟨hD,hY,hZ,gC⟩:=bb
 refine Sem.kX ?_
 repeat' (first
 |simp only[go_sem,hD,hY,hZ,gC]
 |(with_reducible refine ax hQ ?_;exact aB))
 refine Sem.kX ?_
 repeat' (first
 |simp only[go_sem,hD,hY,hZ,gC]
 |(with_reducible refine ax hQ ?_;exact aB))
 refine Sem.kX ?_
 repeat' (first
 |simp only[go_sem,hD,hY,hZ,gC]
 |(with_reducible refine CU (sL _) ?_)
 |(with_reducible refine CU (C7 _) ?_)
 |(with_reducible refine ax hQ ?_;exact aB))
 refine aN.ln 5 1 rfl ?_
 simp only[go_sem,hD,hY,hZ,gC]
 obtain⟨R,hR⟩ : ∃ R,R=kK (Sm.cZ f.body):=⟨_,rfl⟩
 have PK:R.length≤900000:=by rw[hR, ← iD];have:=yU (it.map Im.s);rw[zaw]at this;omega
 refine di 0 1 (aN.ind (ι:=List Im×Nat×List aF×Nat) (fun i=>it.drop i.2.1=i.1∧i.2.2.1++kK (i.1.map Im.s)=R∧i.2.2.2=i.2.2.1.length) (fun i=>i.1.length)
  (fun i=> [(5, .slice (.tok 0) 1 (i.2.2.1.map encStr)),(12, .slice .shared 17 (it.map dK)),(13, .int .i64 (it.length:Int)),(14, .int .i64 (i.2.1:Int))]) (fun i=>⟨[],[some i.2.2.2]⟩) ?_ (it,0,[],0) ⟨rfl,by rw[hR,iD];rfl,rfl⟩)
 rintro⟨rest,k,out,n⟩ ⟨h1,h2,h3⟩ IH
 dsimp only at h1 h2 h3
 subst h3
 have kn:out.length≤900000:=by have:=congrArg List.length h2;rw[zaj]at this;omega
 cases rest with
 | cons a rest=>
  obtain⟨hY,g2,hD,g4⟩:=drop_cons h1
  have aZ:k<4611686018427387904:=by omega
  have hZ:(out.length+1)*17≤aV:=by unfold aV;omega
  simp only[zaf,kK]at h2
  rcases zaa (a.s.kind==4)with c1|c1
  ·simp only [c1,if_true]at h2
   repeat' (first
 |simp only[go_sem,hD,hY,hZ,gC,c1]
 | (with_reducible refine ax hQ ?_;exact aB))
   refine cv 0 1 ?_ ?_ (IH (rest,k+1,out++ [a.s.proc],out.length+1) ⟨g2,by rw[← h2];simp,by simp⟩ (zae _))
   ·(simp only[go_sem,hD,hY,hZ,gC,aw aZ,zag,zaf,zai,encStr];try exact aU)
   ·(simp only[go_sem,hD,hY,hZ,gC,aw aZ,zag,zaf,zai,encStr];try exact aU)
  ·simp only [c1,zab,if_false]at h2
   repeat' (first
 |simp only[go_sem,hD,hY,hZ,gC,c1]
 | (with_reducible refine ax hQ ?_;exact aB))
   refine cv 0 1 ?_ ?_ (IH (rest,k+1,out,_) ⟨g2,h2,rfl⟩ (zae _))
   ·(simp only[go_sem,hD,hY,hZ,gC,aw aZ];try exact aU)
   ·(simp only[go_sem,hD,hY,hZ,gC,aw aZ];try exact aU)
 |nil=>
  have hD:=drop_nil h1
  simp only[zai,kK,zaI]at h2
  subst h2
  have Af:(nJ out).length=out.length:=List.length_mergeSort out
  repeat' (first
 |simp only[go_sem,hD,hY,hZ,gC]
 |(with_reducible refine ax hQ ?_;exact aB))
  refine Sem.seq (Sem.sort (k:=5) (t:=0) (l:=out) hB (by decide) (by decide) (by decide) rfl rfl (by omega) ?_)
  show Sem _ _ _ _ _ _ _
  refine Sem.seq (Sem.compact (k:=5) (t:=0) (l:=nJ out) hB (by decide) rfl (by rw[Af];rfl) (by rw[Af];omega) ?_)
  rw[De]
  have YZ:f.calls=iT out:=by unfold Pc.calls;rw[hR]
  rw[YZ]at hQ
  refine ji (ac:= .ret) (Q:=Q) (tm:= [(32, .slice (.tok 0) 1 ((iT out).map encStr)),(4, .slice (.tok 0) 1 ((iT out).map encStr))]) (s:=⟨[],[some (iT out).length]⟩) ?_
  repeat' (first
 |simp only[go_sem,hD,hY,hZ,gC]
 |(with_reducible refine ax hQ ?_;exact aB))
theorem Y0 {p:Pg} (h:p.gu) (hb:p.may=true) {name:aF} {f:Pc} (hf:p.find name=some f) (s:St):az Tryz.prog 223 [.agg (bS p), .str name] s (.slice .shared 1 (f.calls.map encStr)) s:=by
 refine az.pure ?_ (by simp[D.bM,D.ok,gR]) (by simp only[D.ok,Tag.ok,dz];rfl) s
 obtain⟨nB,nF,lG⟩:=h.procs
 have rU:=fun s=>DY (p:=p) (by omega) name s
 have oP:=(nX hf).1
 have rn:Sm.bq f.body<4611686018427387000:=by have:=Pc.cq oP;simp only[Pc.size]at this;omega
 have fx:=fun s=>xg (f:=f) rn s
 have iD:=(qP hb).1 f oP
 have IN:f.flat.length≤201:=f.sy
 simp only[hf,kJ,zbh,zbw]at rU
 obtain⟨R,hR⟩ : ∃ R,R=kK (Sm.cZ f.body):=⟨_,rfl⟩
 have PK:R.length≤201:=by rw[hR, ← iD];have:=yU (f.flat.map It.s);rw[zaw]at this;omega
 have YZ:f.calls=iT R:=by unfold Pc.calls;rw[hR]
 rw[YZ]
 unfold S0
 refine az.go Ix.h rfl fun B Q hB hQ=>?_
 have⟨hD,hY,hZ,gC⟩:=bb
 repeat' (first
 |simp only[go_sem,hD,hY,hZ,gC]
 |(with_reducible refine CU (rU _) ?_)
 |(with_reducible refine CU (fx _) ?_)
 |(with_reducible refine ax hQ ?_;exact aB))
 refine aN.ln 7 1 rfl ?_
 simp only[go_sem,hD,hY,hZ,gC]
 refine di 0 1 (aN.ind (ι:=List It×Nat×List aF×Nat) (fun i=>f.flat.drop i.2.1=i.1∧i.2.2.1++kK (i.1.map It.s)=R∧i.2.2.2=i.2.2.1.length) (fun i=>i.1.length)
  (fun i=> [(7, .slice (.tok 0) 1 (i.2.2.1.map encStr)),(17, .slice .shared 16 (f.flat.map dn)),(18, .int .i64 (f.flat.length:Int)),(19, .int .i64 (i.2.1:Int))]) (fun i=>⟨[],[some i.2.2.2]⟩) ?_ (f.flat,0,[],0) ⟨rfl,by rw[hR,iD];rfl,rfl⟩)
 rintro⟨rest,k,out,n⟩ ⟨h1,h2,h3⟩ IH
 dsimp only at h1 h2 h3
 subst h3
 have kn:out.length≤201:=by have:=congrArg List.length h2;rw[zaj]at this;omega
 cases rest with
 | cons a rest=>
  obtain⟨hY,g2,hD,g4⟩:=drop_cons h1
  have aZ:k<4611686018427387904:=by omega
  have hZ:(out.length+1)*17≤aV:=by unfold aV;omega
  simp only[zaf,kK]at h2
  rcases zaa (a.s.kind==4)with c1|c1
  ·simp only [c1,if_true]at h2
   repeat' (first
 |simp only[go_sem,hD,hY,hZ,gC,c1]
 | (with_reducible refine ax hQ ?_;exact aB))
   refine cv 0 1 ?_ ?_ (IH (rest,k+1,out++ [a.s.proc],out.length+1) ⟨g2,by rw[← h2];simp,by simp⟩ (zae _))
   ·(simp only[go_sem,hD,hY,hZ,gC,aw aZ,zag,zaf,zai,encStr];try exact aU)
   ·(simp only[go_sem,hD,hY,hZ,gC,aw aZ,zag,zaf,zai,encStr];try exact aU)
  ·simp only [c1,zab,if_false]at h2
   repeat' (first
 |simp only[go_sem,hD,hY,hZ,gC,c1]
 | (with_reducible refine ax hQ ?_;exact aB))
   refine cv 0 1 ?_ ?_ (IH (rest,k+1,out,_) ⟨g2,h2,rfl⟩ (zae _))
   ·(simp only[go_sem,hD,hY,hZ,gC,aw aZ];try exact aU)
   ·(simp only[go_sem,hD,hY,hZ,gC,aw aZ];try exact aU)
 |nil=>
  have hD:=drop_nil h1
  simp only[zai,kK,zaI]at h2
  subst h2
  have VN:=fun s=>Fx (l:=out) (by omega) (.tok 0) s
  repeat' (first
 |simp only[go_sem,hD,hY,hZ,gC]
 |(with_reducible refine CU (VN _) ?_)
 |(with_reducible refine ax hQ ?_;exact aB))
theorem J2 {name:aF} : ∀ {l:List Pc},name∈l.map (·.name)→∃ f,gS name l=some f
 | f::l,h=>by
  simp only[gS]
  cases e:(f.name==name)
  ·simp only [zab,if_false]
   refine J2 ?_
   rcases zap.1 h with h|h
   ·rw[h]at e;simp at e
   ·exact h
  ·exact⟨f,rfl⟩
theorem J3 {p:Pg} {f:Pc} {procs:List aF} : ∀ {l:List Sm},vS p f procs l=none→∀ v∈l,v.known p f procs=true
 | v::l,h,w,m=>by
  simp only[vS]at h
  split at h
  ·rename_i e
   rcases zap.1 m with rfl|m
   ·exact e
   ·exact J3 h w m
  ·cases h
theorem J4 {p:Pg} {procs:List aF} : ∀ {l:List Pc},((rV p procs l).1==0)=true→∀ f∈l,er (p.globals++f.own)=false∧∀ v∈Sm.cZ f.body,v.known p f procs=true
 | g::l,h,f,m=>by
  simp only[rV]at h
  split at h
  ·cases h
  ·rename_i e
   split at h
   ·cases h
   ·rename_i e2
    rcases zap.1 m with rfl|m
    ·exact⟨by simpa using e,J3 e2⟩
    ·exact J4 h f m
theorem Fy {p:Pg} (h:(p.scope.1==0)=true):er p.globals=false∧er p.pn=false∧p.oT=false∧∀ f∈p.procs,er (p.globals++f.own)=false∧∀ v∈Sm.cZ f.body,v.known p f p.pn=true:=by
 unfold Pg.scope at h
 split at h
 ·split at h
  ·cases h
  ·rename_i e
   simp only[zaC,not_or,zbD]at e
   exact⟨e.1,e.2.1,e.2.2,J4 h⟩
 ·cases h
theorem yV {x:aF} : ∀ {l:List Sm},x∈kK l↔∃ v∈l,v.kind=4∧v.proc=x
 | []=>by simp[kK]
 | v::l=>by
  simp only[kK]
  cases e:(v.kind==4)
  ·have:v.kind≠4:=by simpa using e
   simp[this,yV (l:=l)]
  ·have:v.kind=4:=by simpa using e
   simp only[if_true,zap,yV (l:=l),exists_eq_or_imp,this,true_and]
   constructor
   ·rintro(h | h)
    ·exact .inl h.symm
    ·exact .inr h
   ·rintro(h | h)
    ·exact .inl h.symm
    ·exact .inr h
theorem VO {f:Pc} {x:aF} : x∈f.calls↔∃ v∈Sm.cZ f.body,v.kind=4∧v.proc=x:=by
 unfold Pc.calls;rw[(mg _).2,yV]
theorem yW {p:Pg} (h:(p.scope.1==0)=true) {f:Pc} (hf:f∈p.procs) {x:aF} (m:x∈f.calls) : ∃ g,p.find x=some g:=by
 obtain⟨v,hv,h4,rfl⟩:=VO.1 m
 have hk:=((Fy h).2.2.2 f hf).2 v hv
 simp only[Sm.known,h4,zar,zaC]at hk
 rcases hk.2 with h|⟨_,h⟩
 ·simp at h
 ·exact J2 ((gK _ _).1 h)
def Aj (p:Pg) (x:aF):List aF:=match p.find x with|some f=>f.calls|none=> []
def tH (out:List aF):List aF→List aF
 | []=>out
 |x::l=>tH (nG out x) l
def sh (p:Pg):Nat→Nat→List aF→List aF
 | 0,_,out=>out
 |n+1,i,out=>match out[i]? with
  |some x=>sh p n (i+1) (tH out (Aj p x))
  |none=>out
def Pg.work (p:Pg) (name:aF):List aF:=sh p (p.procs.length+1) 0 [name]
def Good (p:Pg) (out:List aF):Prop:=out.Nodup∧∀ x∈out,∃ f,p.find x=some f
theorem Good.len {p:Pg} {out:List aF} (h:Good p out):out.length≤p.procs.length:=by
 have:=yo out p.pn h.1 fun x m=>by
  obtain⟨f,hf⟩:=h.2 x m
  obtain⟨h1,h2⟩:=nX hf
  rw[← h2];exact za1 h1
 simpa[Pg.pn]using this
theorem Good.spk {p:Pg} {out:List aF} (h:Good p out) {x:aF} (hx : ∃ f,p.find x=some f):Good p (nG out x):=by
 unfold nG
 split
 ·exact h
 ·rename_i e
  have:x∉out:=fun m=>e ((gK _ _).2 m)
  refine⟨zba.2 ⟨h.1,by simp,fun a ha b hb e'=>?_⟩,fun y hy=>?_⟩
  ·have hbx:b=x:=by simpa using hb
   rw[e',hbx]at ha;exact this ha
  ·rcases zaq.1 hy with hy | hy
   ·exact h.2 y hy
   ·have:y=x:=by simpa using hy
    subst this;exact hx
theorem Good.add {p:Pg} : ∀ {l out:List aF},Good p out→(∀ x∈l,∃ f,p.find x=some f)→Good p (tH out l)
 | [],out,h,_=>h
 |x::l,out,h,hx=>Good.add (l:=l) (out:=nG out x) (Good.spk h (hx x zaA)) fun y m=>hx y (zan _ m)
def VP:Bool→Tag
 |true=> .tok 0
 |false=> .full
def VQ:Bool→Nat→List (Option Nat)
 |true,n=> [some n]
 |false,_=> []
theorem fk:VP true = .tok 0:=rfl
theorem fl:VP false = .full:=rfl
theorem pE (n:Nat):VQ true n = [some n]:=rfl
theorem pF (n:Nat):VQ false n = []:=rfl
theorem Nc {l:List aF} {x:aF} (h:(l.length+1)*17≤aV) {g:Tag} (o:List (List D)) :
 fH 1 16 (.slice .full 1 (l.map encStr)) (.slice g 1 [[.str x]]) ⟨o,[]⟩=some (.slice (.tok 0) 1 (l.map encStr++ [[.str x]]),⟨o,[some (l.length+1)]⟩):=by
 simp[fH,h]
theorem VR {p:Pg} (h:p.gu) (ki:(p.scope.1==0)=true) {name:aF} {f:Pc} (hf:p.find name=some f) (s:St):az Tryz.prog 205 [.agg (bS p), .str name] s (.slice .shared 1 ((iT (p.work name)).map encStr)) s:=by
 refine az.pure ?_ (by simp[D.bM,D.ok,gR]) (by simp only[D.ok,Tag.ok,dz];rfl) s
 obtain⟨nB,nF,lG⟩:=h.procs
 have hb:=nI ki
 obtain⟨R,hR⟩ : ∃ R,p.work name=R:=⟨_,rfl⟩
 rw[hR]
 unfold Pg.work at hR
 have hg0:Good p [name]:=⟨by simp,fun x m=>by
  have:x=name:=by simpa using m
  subst this;exact⟨f,hf⟩⟩
 unfold S0
 refine az.go GN.h rfl fun B Q hB hQ=>?_
 have⟨hD,hY,hZ,gC⟩:=bb
 repeat' (first
 |simp only[go_sem,hD,hY,hZ,gC]
 |(with_reducible refine ax hQ ?_;exact aB))
 refine cv 1 0 ?_ ?_ (aN.ind (ι:=Nat×Nat×List aF×Bool×Nat) (fun i=>sh p i.1 i.2.1 i.2.2.1=R∧Good p i.2.2.1∧i.1+i.2.1=p.procs.length+1∧i.2.2.2.2=i.2.2.1.length) (fun i=>i.1)
  (fun i=> [(2, .ptr 0 0),(5, .slice (VP i.2.2.2.1) 1 (i.2.2.1.map encStr)),(6, .int .i64 (i.2.1:Int))]) (fun i=>⟨[bS p],VQ i.2.2.2.1 i.2.2.2.2⟩) ?_ (p.procs.length+1,0,[name],false,1) ⟨hR,hg0,rfl,rfl⟩)
 ·(simp only[go_sem,hD,hY,hZ,gC,fl,fk];try exact aU)
 ·(simp only[go_sem,hD,hY,hZ,gC,fl,fk];try exact aU)
 rintro⟨n,i,out,b,no⟩ ⟨h1,h2,h3,h4⟩ IH
 dsimp only at h1 h2 h3 h4
 subst h4
 have kn:=h2.len
 cases hx:out[i]? with
 | none=>
  have hD:decide ((i:Int)<(out.length:Int))=false:=by have:=zbA.1 hx;simp;omega
  have:R=out:=by
   cases n with
   |zero=>simpa[sh]using h1.symm
   |succ n=>simp only[sh,hx]at h1;exact h1.symm
  subst this
  cases b
  all_goals
   have VN:=fun g s=>Fx (l:=R) (by omega) g s
   repeat' (first
 |simp only[go_sem,hD,hY,hZ,gC,fk,fl,pE,pF]
 |(with_reducible refine CU (VN _ _) ?_)
 |(with_reducible refine ax hQ ?_;exact aB))
 |some x=>
  have rr:=(zac.1 hx).1
  have hD:decide ((i:Int)<(out.length:Int))=true:=by simp;omega
  have lj:i<4611686018427387904:=by omega
  cases n with
  |zero=>omega
  |succ n=>
  simp only[sh,hx]at h1
  obtain⟨g,xl⟩:=h2.2 x (zad hx)
  have Ak:=(nX xl).1
  have EM:=fun s=>Y0 h hb xl s
  have hcn:Aj p x=g.calls:=by unfold Aj;rw[xl]
  rw[hcn]at h1
  have Nd : ∀ y∈g.calls,∃ f,p.find y=some f:=fun y m=>yW ki Ak m
  have amN:g.calls.length≤p.procs.length:=Good.len ⟨tG (mg _).1,Nd⟩
  obtain⟨W,hW⟩ : ∃ W,tH out g.calls=W:=⟨_,rfl⟩
  have hWg:Good p W:=hW ▸ h2.add Nd
  rw[hW]at h1
  cases b
  ·repeat' (first
 |simp only[go_sem,hD,hY,hZ,gC,fk,fl,pE,pF,hx]
 |(with_reducible refine CU (EM _) ?_)
 | (with_reducible refine ax hQ ?_;exact aB))
   refine cv 1 0 ?_ ?_ (aN.ind (ι:=List aF×Nat×List aF×Bool×Nat) (fun j=>g.calls.drop j.2.1=j.1∧tH j.2.2.1 j.1=W∧Good p j.2.2.1∧j.2.2.2.2=j.2.2.1.length) (fun j=>j.1.length)
    (fun j=> [(2, .ptr 0 0),(5, .slice (VP j.2.2.2.1) 1 (j.2.2.1.map encStr)),(6, .int .i64 (i:Int)),(22, .slice .shared 1 (g.calls.map encStr)),(23, .int .i64 (g.calls.length:Int)),(24, .int .i64 (j.2.1:Int))]) (fun j=>⟨[bS p],VQ j.2.2.2.1 j.2.2.2.2⟩) ?_ (g.calls,0,out,false,out.length) ⟨rfl,hW,h2,rfl⟩)
   ·(simp only[go_sem,hD,hY,hZ,gC,fl,fk];try exact aU)
   ·(simp only[go_sem,hD,hY,hZ,gC,fl,fk];try exact aU)
   clear hW
   rintro⟨rest,k,bU,b',n'⟩ ⟨j1,j2,j3,j4⟩ qo
   dsimp only at j1 j2 j3 j4
   subst j4
   have af0:=j3.len
   cases rest with
   |nil=>
    have Dg:=drop_nil j1
    simp only[tH]at j2
    subst j2
    cases b'
    ·repeat' (first
 |simp only[go_sem,hD,hY,hZ,gC,fk,fl,pE,pF,Dg]
 | (with_reducible refine ax hQ ?_;exact aB))
     refine cv 1 0 ?_ ?_ (IH (n,i+1,bU,false,bU.length) ⟨h1,j3,by dsimp only;omega,rfl⟩ (zae _))
     ·(simp only[go_sem,hD,hY,hZ,gC,fl,fk,aw lj];try exact aU)
     ·(simp only[go_sem,hD,hY,hZ,gC,fl,fk,aw lj];try exact aU)
    ·repeat' (first
 |simp only[go_sem,hD,hY,hZ,gC,fk,fl,pE,pF,Dg]
 | (with_reducible refine ax hQ ?_;exact aB))
     refine cv 1 1 ?_ ?_ (IH (n,i+1,bU,true,_) ⟨h1,j3,by dsimp only;omega,rfl⟩ (zae _))
     ·(simp only[go_sem,hD,hY,hZ,gC,fl,fk,aw lj];try exact aU)
     ·(simp only[go_sem,hD,hY,hZ,gC,fl,fk,aw lj];try exact aU)
   | cons y rest=>
    obtain⟨fe,oe,iQ,G6⟩:=drop_cons j1
    have gn:k<4611686018427387904:=by omega
    have hZ:(bU.length+1)*17≤aV:=by unfold aV;omega
    have ja:=fun g s=>vR (l:=bU) (by omega) y g s
    have dd:=fun o=>Nc (l:=bU) (x:=y) hZ (g:= .full) o
    have hy:=Nd y (zad fe)
    have qH:=j3.spk hy
    simp only[tH]at j2
    rcases zaa (dS bU y)with c1|c1
    ·simp only [nG,c1,if_true]at j2
     cases b'
     ·repeat' (first
 |simp only[go_sem,hD,hY,hZ,gC,fk,fl,pE,pF,iQ,fe,c1]
 |(with_reducible refine CU (ja _ _) ?_)
 |(with_reducible refine ax hQ ?_;exact aB))
      refine cv 1 0 ?_ ?_ (qo (rest,k+1,bU,false,bU.length) ⟨oe,j2,j3,rfl⟩ (zae _))
      ·(simp only[go_sem,hD,hY,hZ,gC,fl,fk,aw gn];try exact aU)
      ·(simp only[go_sem,hD,hY,hZ,gC,fl,fk,aw gn];try exact aU)
     ·repeat' (first
 |simp only[go_sem,hD,hY,hZ,gC,fk,fl,pE,pF,iQ,fe,c1]
 |(with_reducible refine CU (ja _ _) ?_)
 | (with_reducible refine ax hQ ?_;exact aB))
      refine cv 1 1 ?_ ?_ (qo (rest,k+1,bU,true,_) ⟨oe,j2,j3,rfl⟩ (zae _))
      ·(simp only[go_sem,hD,hY,hZ,gC,fl,fk,aw gn];try exact aU)
      ·(simp only[go_sem,hD,hY,hZ,gC,fl,fk,aw gn];try exact aU)
    ·simp only [nG,c1,zab,if_false]at j2 qH
     cases b'
     ·repeat' (first
 |simp only[go_sem,hD,hY,hZ,gC,fk,fl,pE,pF,iQ,fe,c1,dd]
 |(with_reducible refine CU (ja _ _) ?_)
 |(with_reducible refine ax hQ ?_;exact aB))
      refine cv 1 1 ?_ ?_ (qo (rest,k+1,bU++ [y],true,bU.length+1) ⟨oe,j2,qH,by simp⟩ (zae _))
      ·(simp only[go_sem,hD,hY,hZ,gC,fl,fk,aw gn,zag,zaf,zai,encStr];try exact aU)
      ·(simp only[go_sem,hD,hY,hZ,gC,fl,fk,aw gn,zag,zaf,zai,encStr];try exact aU)
     ·repeat' (first
 |simp only[go_sem,hD,hY,hZ,gC,fk,fl,pE,pF,iQ,fe,c1]
 |(with_reducible refine CU (ja _ _) ?_)
 |(with_reducible refine ax hQ ?_;exact aB))
      refine cv 1 1 ?_ ?_ (qo (rest,k+1,bU++ [y],true,bU.length+1) ⟨oe,j2,qH,by simp⟩ (zae _))
      ·(simp only[go_sem,hD,hY,hZ,gC,fl,fk,aw gn,zag,zaf,zai,encStr];try exact aU)
      ·(simp only[go_sem,hD,hY,hZ,gC,fl,fk,aw gn,zag,zaf,zai,encStr];try exact aU)
  ·repeat' (first
 |simp only[go_sem,hD,hY,hZ,gC,fk,fl,pE,pF,hx]
 |(with_reducible refine CU (EM _) ?_)
 | (with_reducible refine ax hQ ?_;exact aB))
   refine cv 1 1 ?_ ?_ (aN.ind (ι:=List aF×Nat×List aF×Bool×Nat) (fun j=>g.calls.drop j.2.1=j.1∧tH j.2.2.1 j.1=W∧Good p j.2.2.1∧j.2.2.2.2=j.2.2.1.length) (fun j=>j.1.length)
    (fun j=> [(2, .ptr 0 0),(5, .slice (VP j.2.2.2.1) 1 (j.2.2.1.map encStr)),(6, .int .i64 (i:Int)),(22, .slice .shared 1 (g.calls.map encStr)),(23, .int .i64 (g.calls.length:Int)),(24, .int .i64 (j.2.1:Int))]) (fun j=>⟨[bS p],VQ j.2.2.2.1 j.2.2.2.2⟩) ?_ (g.calls,0,out,true,out.length) ⟨rfl,hW,h2,rfl⟩)
   ·(simp only[go_sem,hD,hY,hZ,gC,fl,fk];try exact aU)
   ·(simp only[go_sem,hD,hY,hZ,gC,fl,fk];try exact aU)
   clear hW
   rintro⟨rest,k,bU,b',n'⟩ ⟨j1,j2,j3,j4⟩ qo
   dsimp only at j1 j2 j3 j4
   subst j4
   have af0:=j3.len
   cases rest with
   |nil=>
    have Dg:=drop_nil j1
    simp only[tH]at j2
    subst j2
    cases b'
    ·repeat' (first
 |simp only[go_sem,hD,hY,hZ,gC,fk,fl,pE,pF,Dg]
 | (with_reducible refine ax hQ ?_;exact aB))
     refine cv 1 0 ?_ ?_ (IH (n,i+1,bU,false,bU.length) ⟨h1,j3,by dsimp only;omega,rfl⟩ (zae _))
     ·(simp only[go_sem,hD,hY,hZ,gC,fl,fk,aw lj];try exact aU)
     ·(simp only[go_sem,hD,hY,hZ,gC,fl,fk,aw lj];try exact aU)
    ·repeat' (first
 |simp only[go_sem,hD,hY,hZ,gC,fk,fl,pE,pF,Dg]
 | (with_reducible refine ax hQ ?_;exact aB))
     refine cv 1 1 ?_ ?_ (IH (n,i+1,bU,true,_) ⟨h1,j3,by dsimp only;omega,rfl⟩ (zae _))
     ·(simp only[go_sem,hD,hY,hZ,gC,fl,fk,aw lj];try exact aU)
     ·(simp only[go_sem,hD,hY,hZ,gC,fl,fk,aw lj];try exact aU)
   | cons y rest=>
    obtain⟨fe,oe,iQ,G6⟩:=drop_cons j1
    have gn:k<4611686018427387904:=by omega
    have hZ:(bU.length+1)*17≤aV:=by unfold aV;omega
    have ja:=fun g s=>vR (l:=bU) (by omega) y g s
    have dd:=fun o=>Nc (l:=bU) (x:=y) hZ (g:= .full) o
    have hy:=Nd y (zad fe)
    have qH:=j3.spk hy
    simp only[tH]at j2
    rcases zaa (dS bU y)with c1|c1
    ·simp only [nG,c1,if_true]at j2
     cases b'
     ·repeat' (first
 |simp only[go_sem,hD,hY,hZ,gC,fk,fl,pE,pF,iQ,fe,c1]
 |(with_reducible refine CU (ja _ _) ?_)
 |(with_reducible refine ax hQ ?_;exact aB))
      refine cv 1 0 ?_ ?_ (qo (rest,k+1,bU,false,bU.length) ⟨oe,j2,j3,rfl⟩ (zae _))
      ·(simp only[go_sem,hD,hY,hZ,gC,fl,fk,aw gn];try exact aU)
      ·(simp only[go_sem,hD,hY,hZ,gC,fl,fk,aw gn];try exact aU)
     ·repeat' (first
 |simp only[go_sem,hD,hY,hZ,gC,fk,fl,pE,pF,iQ,fe,c1]
 |(with_reducible refine CU (ja _ _) ?_)
 | (with_reducible refine ax hQ ?_;exact aB))
      refine cv 1 1 ?_ ?_ (qo (rest,k+1,bU,true,_) ⟨oe,j2,j3,rfl⟩ (zae _))
      ·(simp only[go_sem,hD,hY,hZ,gC,fl,fk,aw gn];try exact aU)
      ·(simp only[go_sem,hD,hY,hZ,gC,fl,fk,aw gn];try exact aU)
    ·simp only [nG,c1,zab,if_false]at j2 qH
     cases b'
     ·repeat' (first
 |simp only[go_sem,hD,hY,hZ,gC,fk,fl,pE,pF,iQ,fe,c1,dd]
 |(with_reducible refine CU (ja _ _) ?_)
 |(with_reducible refine ax hQ ?_;exact aB))
      refine cv 1 1 ?_ ?_ (qo (rest,k+1,bU++ [y],true,bU.length+1) ⟨oe,j2,qH,by simp⟩ (zae _))
      ·(simp only[go_sem,hD,hY,hZ,gC,fl,fk,aw gn,zag,zaf,zai,encStr];try exact aU)
      ·(simp only[go_sem,hD,hY,hZ,gC,fl,fk,aw gn,zag,zaf,zai,encStr];try exact aU)
     ·repeat' (first
 |simp only[go_sem,hD,hY,hZ,gC,fk,fl,pE,pF,iQ,fe,c1]
 |(with_reducible refine CU (ja _ _) ?_)
 |(with_reducible refine ax hQ ?_;exact aB))
      refine cv 1 1 ?_ ?_ (qo (rest,k+1,bU++ [y],true,bU.length+1) ⟨oe,j2,qH,by simp⟩ (zae _))
      ·(simp only[go_sem,hD,hY,hZ,gC,fl,fk,aw gn,zag,zaf,zai,encStr];try exact aU)
      ·(simp only[go_sem,hD,hY,hZ,gC,fl,fk,aw gn,zag,zaf,zai,encStr];try exact aU)
def Bf:AI→AI
 | .op d g (.qw z k n ps)=> .op d g (.wR z k n ps)
 |a=>a
section
variable {P:Program}
theorem O3 {nt:Nat} {ops:Array Oper} {i:Nat} {o:Oper} {ai:AI} (hi:ops[i]? = some o) (hc:cI P nt ops o=some ai)
 {M:Map} {s:St} {w:World} {tm:Tm} {act:Act} (r:Rel M s w) (lC:Laid M s w) (ht:nr M s tm act.tmps) {K':Tm→St→Prop} (h:jS P [Bf ai] K' tm s)
 {K:Act→World→Prop} {Q:Exit→Act→World→Prop}
 (hK : ∀ d v s1 w1 M1,K' (tm.put ai.dst d) s1→Ext M s w M1 s1 w1→Rel M1 s1 w1→RD M1 s1 d v→K (act.put o.dst v) w1):wpOp P ops Q i K act w:=by
 by_cases hb : ∃ d g z k n ps,ai = .op d g (.qw z k n ps)
 ·obtain⟨d0,g0,z,k,n,ps,rfl⟩:=hb
  obtain⟨g,hg,_,hb⟩:=CI hc
  rw[vn hb]at hK
  simp only[wpOp,hi]
  have skip:K' (tm.put o.dst (.tuple [])) s→K (act.put o.dst Go.undef) w:=fun hk=>hK _ _ _ _ _ hk (Ext.refl M s w) r .undef
  have hd:=vn hb
  simp only[AI.dst]at hd
  subst hd
  have pQ:Gb P o=some (.qw z k n ps)∧g0=g:=by
   unfold uO at hb
   split at hb
   ·split at hb
    ·obtain⟨xs,_,h⟩:=map_some hb;cases h
    ·cases hb
   ·obtain⟨xs,_,h⟩:=map_some hb;cases h
   ·split at hb
    ·cases hb
    ·split at hb
     ·rename_i pQ
      simp only[Option.some.injEq,AI.op.injEq,true_and]at hb
      obtain⟨h1,h2⟩:=hb
      split at h2
      ·cases h2
      ·cases h2;exact⟨pQ,h1.symm⟩
     ·rename_i ao eO pQ
      simp only[Option.some.injEq,AI.op.injEq,true_and]at hb
      obtain⟨h1,h2⟩:=hb
      subst h2
      exact⟨pQ,h1.symm⟩
     ·cases hb
  obtain⟨pQ,rfl⟩:=pQ
  simp only[Bf,jS]at h
  rcases la hg ht h with ⟨hw,hA⟩|⟨hw,hB⟩
  ·simp only [hw,if_true]
   left
   split at hA
   ·rename_i d s' sF
    obtain⟨v,w',M',dU,r',hv,e'⟩:=AW pQ r ht sF
    unfold Oper.wp
    rcases dU with dU|⟨dU,rfl⟩
    ·rw [dU,Oper.upon_value]
     exact hK _ _ _ _ _ hA e' r' hv
    ·rw [dU,Oper.upon_skip]
     exact hK _ _ _ _ _ hA e' r' hv
   ·exact hA.elim
  ·simp only [hw]
   exact skip hB
 ·have hs:Bf ai=ai:=by
   unfold Bf
   split
   ·rename_i d g z k n ps;exact absurd ⟨d,g,z,k,n,ps,rfl⟩ hb
   ·rfl
  rw[hs]at h
  exact yP hi hc r lC ht h hK
theorem acV {a:AI} {r:List AI} {K:Tm→St→Prop} {tm:Tm} {s:St} (h:jS P (a::r) K tm s):jS P [a] (jS P r K) tm s:=by
 cases a<;>exact h
theorem J5 {B:gY} {nt:Nat} {ops:Array Oper} {Q:Exit→Tm→St→Prop} : ∀ (l:List Nat) (ol:List Oper) (is:List AI),l.map (ops[·]?)=ol.map some→rP P nt ops ol=some is→
 ∀ (tm:Tm) (s:St) (act:Act) (w:World),jS P (is.map Bf) (Q .normal) tm s→Holds B nt tm s act w→wpOps P ops (rF B nt Q) l act w
 | [],[],is,_,hc,tm,s,act,w,h,hh=>by cases hc;exact⟨tm,s,h,hh⟩
 | [],_::_,_,hl,_,_,_,_,_,_,_=>by simp at hl
 |_::_,[],_,hl,_,_,_,_,_,_,_=>by simp at hl
 | i::l,o::ol,is,hl,hc,tm,s,act,w,h,hh=>by
  simp only[zaf,List.cons.injEq]at hl
  obtain⟨hi,hl⟩:=hl
  unfold rP at hc
  split at hc
  ·rename_i ai Ud h1 h2
   cases hc
   obtain⟨M,e,r,ht,hn,hd⟩:=hh
   have sr:=zH h1
   have hdd:=vq h1
   rw[zaf]at h
   have key:=O3 (K:=fun act w=>wpOps P ops (rF B nt Q) l act w) (Q:=rF B nt Q) hi h1 r (B.laid.ext e) ht (acV h) (fun d v s1 w1 M1 hk e1 r1 hv=>
    J5 (Q:=Q) l ol Ud hl h2 _ _ _ _ hk (hdd ▸ Holds.put e ht hn hd sr e1 r1 hv))
   simpa only[wpOps,wpOp,hi]using key
  ·cases hc
theorem Sem.swap {B:gY} {nt:Nat} {is:List AI} {Q:Exit→Tm→St→Prop} {tm:Tm} {s:St} (h:jJ P B nt (.run (is.map Bf)) Q tm s):Sem P B nt (.run is) Q tm s:=by
 intro c hc act w hh
 obtain⟨id,ops,rfl,hi⟩:=mL hc
 refine wp_region ?_
 exact J5 _ _ is (CD ops) hi tm s act w (p6 h) hh
end
end Go.Abs
namespace Go.Abs
set_option maxRecDepth 8000
open Go.Proofs
theorem S1 {l:List aF} (h:l.Nodup):nJ l=iT l:=by
 refine yS ?_ (mg l).1 fun x=>?_
 ·have h1:=J1 l
  have h2:(nJ l).Nodup:=(List.mergeSort_perm l _).nodup_iff.2 h
  refine(List.pairwise_and_iff.2 ⟨h1,h2⟩).imp fun {a b} CZ=>?_
  rcases Ai a b with e|e|e
  ·exact e
  ·exact absurd e CZ.2
  ·rw[CZ.1]at e;cases e
 ·rw[(mg l).2];exact(List.mergeSort_perm l _).mem_iff
theorem Dh {p:Pg} (ki:(p.scope.1==0)=true) : ∀ (n i:Nat) (out:List aF),Good p out→Good p (sh p n i out)
 | 0,i,out,h=>h
 | n+1,i,out,h=>by
  simp only[sh]
  split
  ·rename_i x hx
   obtain⟨g,hg⟩:=h.2 x (zad hx)
   refine Dh ki n _ _ (h.add fun y m=>?_)
   unfold Aj at m
   rw[hg]at m
   exact yW ki (nX hg).1 m
  ·exact h
theorem Fz {p:Pg} {name:aF} {f:Pc} (hf:p.find name=some f):Good p [name]:=
 ⟨by simp,fun x m=>by
  have:x=name:=by simpa using m
  subst this;exact⟨f,hf⟩⟩
theorem acW {p:Pg} (h:p.gu) (ki:(p.scope.1==0)=true) {name:aF} {f:Pc} (hf:p.find name=some f) (s:St):az Tryz.prog 172 [.dO (fU p) 0, .str name] s (.slice .shared 1 ((iT (p.work name)).map encStr)) s:=by
 refine az.pure ?_ (by simp[D.bM,D.ok,vQ]) (by simp only[D.ok,Tag.ok,dz];rfl) s
 obtain⟨nB,nF,lG⟩:=h.procs
 obtain⟨R,hR⟩ : ∃ R,p.work name=R:=⟨_,rfl⟩
 have hgR:Good p R:=hR ▸ Dh ki _ _ _ (Fz hf)
 rw[hR, ← S1 hgR.1]
 unfold Pg.work at hR
 have hg0:Good p [name]:=Fz hf
 have PK:=hgR.len
 unfold S0
 obtain⟨fn,wi,rW⟩:=BV.h
 refine az.intro ⟨fn,wi,rW⟩ (zbp rfl) fun B hB=>?_
 generalize hQ:mN (⟨[],[]⟩:St).aq.length (⟨[],[]⟩:St).ay.length _ _ (⟨[],[]⟩:St)=Q
 have⟨hD,hY,hZ,gC⟩:=bb
 refine Sem.kX ?_
 repeat' (first
 |simp only[go_sem,hD,hY,hZ,gC]
 |(with_reducible first|refine cf fun hc=>?_|refine cj fun hc=>?_|refine cm (fun hc=>?_) fun hc=>?_)<;>(try simp only[hc,bs,↓reduceIte]at h)<;>try simp only[hc]
 |(with_reducible refine ax hQ ?_;exact fL)
 |(cases h;done))
 refine Sem.seq (Sem.swap ?_)
 simp only[zaf,zai,Bf]
 repeat' (first
 |simp only[go_sem,hD,hY,hZ,gC]
 |(with_reducible first|refine cf fun hc=>?_|refine cj fun hc=>?_|refine cm (fun hc=>?_) fun hc=>?_)<;>(try simp only[hc,bs,↓reduceIte]at h)<;>try simp only[hc]
 |(with_reducible refine ax hQ ?_;exact fL)
 |(cases h;done))
 refine Sem.kX ?_
 repeat' (first
 |simp only[go_sem,hD,hY,hZ,gC]
 |(with_reducible first|refine cf fun hc=>?_|refine cj fun hc=>?_|refine cm (fun hc=>?_) fun hc=>?_)<;>(try simp only[hc,bs,↓reduceIte]at h)<;>try simp only[hc]
 |(with_reducible refine ax hQ ?_;exact fL)
 |(cases h;done))
 refine di 0 1 (aN.ind (ι:=Nat×Nat×List aF×Nat) (fun i=>sh p i.1 i.2.1 i.2.2.1=R∧Good p i.2.2.1∧i.1+i.2.1=p.procs.length+1∧i.2.2.2=i.2.2.1.length) (fun i=>i.1)
  (fun i=> [(0, .dO (fU p) 0),(5, .slice (.tok 0) 1 (i.2.2.1.map encStr)),(6, .int .i64 (i.2.1:Int))]) (fun i=>⟨[],[some i.2.2.2]⟩) ?_ (p.procs.length+1,0,[name],1) ⟨hR,hg0,rfl,rfl⟩)
 rintro⟨n,i,out,no⟩ ⟨h1,h2,h3,h4⟩ IH
 dsimp only at h1 h2 h3 h4
 subst h4
 have kn:=h2.len
 cases hx:out[i]? with
 | none=>
  have hD:decide ((i:Int)<(out.length:Int))=false:=by have:=zbA.1 hx;simp;omega
  have:R=out:=by
   cases n with
   |zero=>simpa[sh]using h1.symm
   |succ n=>simp only[sh,hx]at h1;exact h1.symm
  subst this
  repeat' (first
 |simp only[go_sem,hD,hY,hZ,gC]
 |(with_reducible first|refine cf fun hc=>?_|refine cj fun hc=>?_|refine cm (fun hc=>?_) fun hc=>?_)<;>(try simp only[hc,bs,↓reduceIte]at h)<;>try simp only[hc]
 |(with_reducible refine ax hQ ?_;exact fL)
 |(cases h;done))
  refine Sem.seq (Sem.sort (k:=5) (t:=0) (l:=R) hB (by decide) (by decide) (by decide) rfl rfl (by omega) ?_)
  refine ji (ac:=Q0R) (Q:=Q) (tm:= [(5, .slice (.tok 0) 1 ((nJ R).map encStr))]) (s:=⟨[],[some R.length]⟩) ?_
  repeat' (first
 |simp only[go_sem,hD,hY,hZ,gC]
 |(with_reducible first|refine cf fun hc=>?_|refine cj fun hc=>?_|refine cm (fun hc=>?_) fun hc=>?_)<;>(try simp only[hc,bs,↓reduceIte]at h)<;>try simp only[hc]
 |(with_reducible refine ax hQ ?_;exact fL)
 |(cases h;done))
 |some x=>
  have rr:=(zac.1 hx).1
  have hD:decide ((i:Int)<(out.length:Int))=true:=by simp;omega
  have lj:i<4611686018427387904:=by omega
  cases n with
  |zero=>omega
  |succ n=>
  simp only[sh,hx]at h1
  obtain⟨g,xl⟩:=h2.2 x (zad hx)
  have Ak:=(nX xl).1
  have EM:=fun s=>acU h xl s
  have hcn:Aj p x=g.calls:=by unfold Aj;rw[xl]
  rw[hcn]at h1
  have Nd : ∀ y∈g.calls,∃ f,p.find y=some f:=fun y m=>yW ki Ak m
  have amN:g.calls.length≤p.procs.length:=Good.len ⟨tG (mg _).1,Nd⟩
  obtain⟨W,hW⟩ : ∃ W,tH out g.calls=W:=⟨_,rfl⟩
  rw[hW]at h1
  repeat' (first
 |simp only[go_sem,hD,hY,hZ,gC,hx]
 |(with_reducible refine CU (EM _) ?_)
 |(with_reducible first|refine cf fun hc=>?_|refine cj fun hc=>?_|refine cm (fun hc=>?_) fun hc=>?_)<;>(try simp only[hc,bs,↓reduceIte]at h)<;>try simp only[hc]
 |(with_reducible refine ax hQ ?_;(try cases h);simp only[bF,bG,bZ,cb,go_sem,hD,hY,hZ,gC,hx];try exact eQ)
 | (cases h;done))
  refine di 0 1 (aN.ind (ι:=List aF×Nat×List aF×Nat) (fun j=>g.calls.drop j.2.1=j.1∧tH j.2.2.1 j.1=W∧Good p j.2.2.1∧j.2.2.2=j.2.2.1.length) (fun j=>j.1.length)
   (fun j=> [(0, .dO (fU p) 0),(5, .slice (.tok 0) 1 (j.2.2.1.map encStr)),(6, .int .i64 (i:Int)),(22, .slice .shared 1 (g.calls.map encStr)),(23, .int .i64 (g.calls.length:Int)),(24, .int .i64 (j.2.1:Int))]) (fun j=>⟨[],[some j.2.2.2]⟩) ?_ (g.calls,0,out,out.length) ⟨rfl,hW,h2,rfl⟩)
  clear hW
  rintro⟨rest,k,bU,n'⟩ ⟨j1,j2,j3,j4⟩ qo
  dsimp only at j1 j2 j3 j4
  subst j4
  have af0:=j3.len
  cases rest with
  |nil=>
   have Dg:=drop_nil j1
   simp only[tH]at j2
   subst j2
   repeat' (first
 |simp only[go_sem,hD,hY,hZ,gC,Dg]
 |(with_reducible first|refine cf fun hc=>?_|refine cj fun hc=>?_|refine cm (fun hc=>?_) fun hc=>?_)<;>(try simp only[hc,bs,↓reduceIte]at h)<;>try simp only[hc]
 |(with_reducible refine ax hQ ?_;(try cases h);simp only[bF,bG,bZ,cb,go_sem,hD,hY,hZ,gC,Dg];try exact eQ)
 | (cases h;done))
   refine cv 0 1 ?_ ?_ (IH (n,i+1,bU,bU.length) ⟨h1,j3,by dsimp only;omega,rfl⟩ (zae _))
   ·(simp only[go_sem,hD,hY,hZ,gC,aw lj];try exact aU)
   ·(simp only[go_sem,hD,hY,hZ,gC,aw lj];try exact aU)
  | cons y rest=>
   obtain⟨fe,oe,iQ,G6⟩:=drop_cons j1
   have gn:k<4611686018427387904:=by omega
   have hZ:(bU.length+1)*17≤aV:=by unfold aV;omega
   have ja:=fun g s=>kF (l:=bU) (by omega) y g s
   have hy:=Nd y (zad fe)
   have qH:=j3.spk hy
   simp only[tH]at j2
   rcases zaa (dS bU y)with c1|c1
   ·simp only [nG,c1,if_true]at j2
    repeat' (first
 |simp only[go_sem,hD,hY,hZ,gC,iQ,fe,c1]
 |(with_reducible refine CU (ja _ _) ?_)
 |(with_reducible first|refine cf fun hc=>?_|refine cj fun hc=>?_|refine cm (fun hc=>?_) fun hc=>?_)<;>(try simp only[hc,bs,↓reduceIte]at h)<;>try simp only[hc]
 |(with_reducible refine ax hQ ?_;(try cases h);simp only[bF,bG,bZ,cb,go_sem,hD,hY,hZ,gC,iQ,fe,c1];try exact eQ)
 | (cases h;done))
    refine cv 0 1 ?_ ?_ (qo (rest,k+1,bU,bU.length) ⟨oe,j2,j3,rfl⟩ (zae _))
    ·(simp only[go_sem,hD,hY,hZ,gC,aw gn];try exact aU)
    ·(simp only[go_sem,hD,hY,hZ,gC,aw gn];try exact aU)
   ·simp only [nG,c1,zab,if_false]at j2 qH
    repeat' (first
 |simp only[go_sem,hD,hY,hZ,gC,iQ,fe,c1]
 |(with_reducible refine CU (ja _ _) ?_)
 |(with_reducible first|refine cf fun hc=>?_|refine cj fun hc=>?_|refine cm (fun hc=>?_) fun hc=>?_)<;>(try simp only[hc,bs,↓reduceIte]at h)<;>try simp only[hc]
 |(with_reducible refine ax hQ ?_;(try cases h);simp only[bF,bG,bZ,cb,go_sem,hD,hY,hZ,gC,iQ,fe,c1];try exact eQ)
 | (cases h;done))
    refine cv 0 1 ?_ ?_ (qo (rest,k+1,bU++ [y],bU.length+1) ⟨oe,j2,qH,by simp⟩ (zae _))
    ·(simp only[go_sem,hD,hY,hZ,gC,aw gn,zag,zaf,zai,encStr];try exact aU)
    ·(simp only[go_sem,hD,hY,hZ,gC,aw gn,zag,zaf,zai,encStr];try exact aU)
theorem Nf (name:aF) : ∀ l:List Pc,l.any (fun f=>f.name==name)=(gS name l).isSome
 | []=>rfl
 |f::l=>by
  simp only[List.any_cons,gS]
  cases e:(f.name==name)
  ·simp[Nf name l]
  ·simp
theorem Y1 (name:aF) (f:Pc):az Tryz.prog 191 ([.agg (bN f)]++ [.ptr 0 0]) ⟨[[.str name]],[]⟩ (.bool (f.name==name)) ⟨[[.str name]],[]⟩:=by
 show az Tryz.prog 191 [.agg (bN f), .ptr 0 0] _ _ _
 refine az.go Ei.h rfl fun B Q hB hQ=>?_
 have⟨hD,hY,hZ,gC⟩:=bb
 repeat' (first
 |simp only[go_sem,hD,hY,hZ,gC]
 |(with_reducible refine ax hQ ?_;exact aB))
def Pg.yX (p:Pg) (name:aF):Option Pc:=if p.scope.1==0 then p.find name else none
theorem Y2 {p:Pg} (h:p.gu) (name:aF) (s:St):az Tryz.prog 171 [.agg (bS p), .str name] s (.bool (p.yX name).isSome) s:=by
 refine az.pure ?_ (by simp[D.bM,D.ok,gR]) rfl s
 obtain⟨nB,nF,lG⟩:=h.procs
 have rm:=fun s=>xj h s
 have hi:=fun {s:St} {o:Nat} (ho:s.aq[o]? = some [.str name])=>CY (B8 (l:=p.procs) (f:=191) (row:= [.str name]) (b:=fun f:Pc=>f.name==name) (by omega) rfl (by with_unfolding_all rfl) (fun x _=>Y1 name x)) rfl (xY _) rfl ho
 have jf:=fun {s:St} {o:Nat} (ho:s.aq[o]? = some [.str name])=>(show az Tryz.prog 190 [.slice .shared 5 (p.procs.map bN), .il 191 [.ptr o 0]] s (.bool (p.procs.any fun f:Pc=>f.name==name)) s from hi ho)
 simp only[Nf]at jf
 unfold Pg.yX Pg.find
 unfold S0
 rcases zaa (p.scope.1==0)with b1|b1
 ·simp only [b1,if_true]
  refine az.go x9.h rfl fun B Q hB hQ=>?_
  have⟨hD,hY,hZ,gC⟩:=bb
  repeat' (first
 |simp only[go_sem,hD,hY,hZ,gC,b1]
 |(with_reducible refine CU (rm _) ?_)
 |(with_reducible refine CU (jf (by with_unfolding_all rfl)) ?_)
 |(with_reducible refine ax hQ ?_;exact aB))
 ·simp only [b1,zab,if_false,zbF]
  refine az.go x9.h rfl fun B Q hB hQ=>?_
  have⟨hD,hY,hZ,gC⟩:=bb
  repeat' (first
 |simp only[go_sem,hD,hY,hZ,gC,b1]
 |(with_reducible refine CU (rm _) ?_)
 |(with_reducible refine CU (jf (by with_unfolding_all rfl)) ?_)
 |(with_reducible refine ax hQ ?_;exact aB))
def Pg.apf (p:Pg) (name:aF):List aF:=match p.yX name with|some f=>f.calls|none=> []
def Pg.amO (p:Pg) (name:aF):List aF:=match p.yX name with|some _=>iT (p.work name)|none=> []
theorem J6 {p:Pg} {name:aF} {f:Pc} (h:p.yX name=some f):(p.scope.1==0)=true∧p.find name=some f:=by
 unfold Pg.yX at h
 split at h
 ·exact⟨by assumption,h⟩
 ·cases h
def qq (p:Pg) (out:List aF):List aF→List aF
 | []=>out
 |v::l=>qq p (if dS p.globals v then out++ [v]else out) l
def qs (p:Pg) (out:List aF):List Sm→List aF
 | []=>out
 |v::l=>qs p (qq p out v.said) l
def rX (p:Pg) (n:aF):List Sm:=match p.find n with|some f=>Sm.cZ f.body|none=> []
def si (p:Pg) (out:List aF):List aF→List aF
 | []=>out
 |n::l=>si p (qs p out (rX p n)) l
theorem uA (p:Pg) : ∀ (l out:List aF),out.length≤(qq p out l).length∧(qq p out l).length≤out.length+l.length
 | [],out=>⟨zal _,zal _⟩
 |v::l,out=>by
  simp only[qq]
  have h:=uA p l (if dS p.globals v then out++ [v]else out)
  have h2:out.length≤(if dS p.globals v then out++ [v]else out).length∧(if dS p.globals v then out++ [v]else out).length≤out.length+1:=by split<;>simp
  simp only[zat]
  omega
def qt:List Sm→Nat
 | []=>0
 |v::l=>v.said.length+qt l
theorem Di : ∀ a b:List Sm,qt (a++b)=qt a+qt b
 | [],b=>by simp[qt]
 |v::a,b=>by simp only[zaR,qt,Di a b];omega
theorem acX (v:Sm):v.said.length≤1+v.x.size+2*Ar.bq v.args:=by
 have : ∀ (l:List Ar) (out:List aF),(Ar.said out l).length≤out.length+2*Ar.bq l:=by
  intro l
  induction l with
  |nil=>intro out;simp[Ar.said]
  |cons a l ih=>
   intro out
   simp only[Ar.said,Ar.bq]
   refine zaW (ih _) ?_
   have:=iI a.x
   have:1≤a.x.size:=by obtain⟨_,_,_,_⟩:=a.x;simp[Ex.size]
   simp only[zaj]
   split<;>simp<;>omega
 have h1:=this v.args (v.sg++v.x.names)
 have h2:=iI v.x
 have h4:v.sg.length≤1:=by unfold Sm.sg;split<;>simp
 simp only[zaj]at h1
 unfold Sm.said
 omega
mutual
theorem VS : ∀ s:Sm,qt s.pre≤2*s.size
 |⟨id,kind,labels,name,proc,x,has,args,a8,aK⟩=>by
  simp only[Sm.pre,qt,Di,Sm.size]
  have h1:=acX ⟨id,kind,labels,name,proc,x,has,args,a8,aK⟩
  have h2:=wF a8
  have h3:=wF aK
  dsimp only at h1
  omega
theorem wF : ∀ l:List Sm,qt (Sm.cZ l)≤2*Sm.bq l
 | []=>by simp[Sm.cZ,qt,Sm.bq]
 |s::l=>by
  simp only[Sm.cZ,Di,Sm.bq]
  have:=VS s;have:=wF l;omega
end
theorem uB (p:Pg) : ∀ (l:List Sm) (out:List aF),out.length≤(qs p out l).length∧(qs p out l).length≤out.length+qt l
 | [],out=>⟨zal _,zal _⟩
 |v::l,out=>by
  simp only[qs,qt]
  have h:=uB p l (qq p out v.said)
  have h2:=uA p v.said out
  omega
theorem uC {p:Pg} (h:p.gu) : ∀ (l out:List aF),out.length≤(si p out l).length∧(si p out l).length≤out.length+l.length*1800000
 | [],out=>⟨zal _,by simp[si]⟩
 | n::l,out=>by
  simp only[si]
  have h1:=uC h l (qs p out (rX p n))
  have h2:=uB p (rX p n) out
  have h3:qt (rX p n)≤1800000:=by
   unfold rX
   split
   ·rename_i f hf
    have:=wF f.body
    have h4:=Pc.cq (nX hf).1
    have h5:=h.procs.2.1
    simp only[Pc.size]at h4
    omega
   ·simp[qt]
  simp only[zat]
  omega
theorem J7 {p:Pg} (h:p.may=true):p.procs.length≤16:=by
 unfold Pg.may at h
 split at h
 ·cases h
 ·rename_i c
  simp only[zaC,decide_eq_true_eq,not_or,Int.not_lt,gt_iff_lt]at c
  have:=c.1.2
  omega
def Pg.nY (p:Pg) (name:aF):List aF:=si p [] (iT (p.work name))
def Pg.pX (p:Pg) (name:aF):List aF:=match p.yX name with|some _=>iT (p.nY name)|none=> []
theorem FA {p:Pg} (ki:(p.scope.1==0)=true) {name:aF} {f:Pc} (hf:p.find name=some f):Good p (iT (p.work name)):=by
 have h:=Dh ki (p.procs.length+1) 0 [name] (Fz hf)
 refine⟨tG (mg _).1,fun x m=>h.2 x ?_⟩
 exact((mg _).2 x).1 m
theorem S2 {p:Pg} (h:p.gu) (ki:(p.scope.1==0)=true) {name:aF} {f:Pc} (hf:p.find name=some f) (s:St):az Tryz.prog 183 [.agg (bS p), .str name] s (.slice .shared 1 ((iT (p.nY name)).map encStr)) s:=by
 refine az.pure ?_ (by simp[D.bM,D.ok,gR]) (by simp only[D.ok,Tag.ok,dz];rfl) s
 have hb:=nI ki
 obtain⟨nB,nF,lG⟩:=h.procs
 have hN:=FA ki hf
 obtain⟨N,Ng⟩ : ∃ N,iT (p.work name)=N:=⟨_,rfl⟩
 rw[Ng]at hN
 have PN:=hN.len
 obtain⟨R,hR⟩ : ∃ R,p.nY name=R:=⟨_,rfl⟩
 rw[hR]
 unfold Pg.nY at hR
 rw[Ng]at hR
 have PK:R.length≤28800000:=by
  have:=(uC h N []).2
  rw[hR]at this
  have h4:=J7 (nI ki)
  have h3:N.length*1800000≤16*1800000:=zaO _ (by omega)
  simp only[zaD]at this
  omega
 have EM:=fun s=>VR h ki hf s
 simp only[Ng]at EM
 unfold S0
 refine az.go Fk.h rfl fun B Q hB hQ=>?_
 have⟨hD,hY,hZ,gC⟩:=bb
 repeat' (first
 |simp only[go_sem,hD,hY,hZ,gC]
 |(with_reducible refine CU (EM _) ?_)
 |(with_reducible refine ax hQ ?_;exact aB))
 refine aN.ln 5 1 rfl ?_
 simp only[go_sem,hD,hY,hZ,gC]
 refine di 1 1 (aN.ind (ι:=List aF×Nat×List aF×Nat) (fun i=>N.drop i.2.1=i.1∧si p i.2.2.1 i.1=R∧i.2.2.1.length≤R.length∧i.2.2.2=i.2.2.1.length) (fun i=>i.1.length)
  (fun i=> [(2, .ptr 0 0),(5, .slice (.tok 0) 1 (i.2.2.1.map encStr)),(16, .slice .shared 1 (N.map encStr)),(17, .int .i64 (N.length:Int)),(18, .int .i64 (i.2.1:Int))]) (fun i=>⟨[bS p],[some i.2.2.2]⟩) ?_ (N,0,[],0) ⟨rfl,hR,zaz _,rfl⟩)
 rintro⟨rest,k,out,no⟩ ⟨h1,h2,h3,h4⟩ IH
 dsimp only at h1 h2 h3 h4
 subst h4
 cases rest with
 |nil=>
  have hD:=drop_nil h1
  simp only[si]at h2
  subst h2
  have VN:=fun g s=>Fx (l:=out) (by omega) g s
  repeat' (first
 |simp only[go_sem,hD,hY,hZ,gC]
 |(with_reducible refine CU (VN _ _) ?_)
 |(with_reducible refine ax hQ ?_;exact aB))
 |cons x rest=>
  obtain⟨hY,g2,hD,g4⟩:=drop_cons h1
  have aZ:k<4611686018427387904:=by omega
  obtain⟨g,xl⟩:=hN.2 x (zad hY)
  have Ak:=(nX xl).1
  have hbd:rX p x=Sm.cZ g.body:=by unfold rX;rw[xl]
  simp only[si,hbd]at h2
  have rU:=fun s=>DY (p:=p) (by omega) x s
  simp only[xl,kJ,zbh,zbw]at rU
  have rn:Sm.bq g.body<4611686018427387000:=by have:=Pc.cq Ak;simp only[Pc.size]at this;omega
  have fx:=fun s=>xg (f:=g) rn s
  obtain⟨it,hie⟩ : ∃ it,g.flat=it:=⟨_,rfl⟩
  have iD:=(qP hb).1 g Ak
  have IN:g.flat.length≤201:=g.sy
  rw[hie]at iD IN
  simp only[hie]at fx
  rw[← iD]at h2
  repeat' (first
 |simp only[go_sem,hD,hY,hZ,gC,hY]
 |(with_reducible refine CU (rU _) ?_)
 |(with_reducible refine CU (fx _) ?_)
 | (with_reducible refine ax hQ ?_;exact aB))
  obtain⟨W,hW⟩ : ∃ W,qs p out (it.map It.s)=W:=⟨_,rfl⟩
  rw[hW]at h2
  have hWR:W.length≤R.length:=by have:=(uC h rest W).1;rw[h2]at this;exact this
  have M4:out.length≤W.length:=by have:=(uB p (it.map It.s) out).1;rw[hW]at this;exact this
  refine di 1 1 (aN.ind (ι:=List It×Nat×List aF×Nat) (fun i=>it.drop i.2.1=i.1∧qs p i.2.2.1 (i.1.map It.s)=W∧i.2.2.1.length≤W.length∧i.2.2.2=i.2.2.1.length) (fun i=>i.1.length)
   (fun i=> [(2, .ptr 0 0),(5, .slice (.tok 0) 1 (i.2.2.1.map encStr)),(16, .slice .shared 1 (N.map encStr)),(17, .int .i64 (N.length:Int)),(18, .int .i64 (k:Int)),(29, .slice .shared 16 (it.map dn)),(30, .int .i64 (it.length:Int)),(31, .int .i64 (i.2.1:Int))]) (fun i=>⟨[bS p],[some i.2.2.2]⟩) ?_ (it,0,out,out.length) ⟨rfl,hW,M4,rfl⟩)
  rintro⟨kP,k2,sA,no⟩ ⟨j1,j2,j3,j4⟩ qM
  dsimp only at j1 j2 j3 j4
  subst j4
  cases kP with
  |nil=>
   have Nh:=drop_nil j1
   simp only[zai,qs]at j2
   subst j2
   repeat' (first
 |simp only[go_sem,hD,hY,hZ,gC,Nh]
 | (with_reducible refine ax hQ ?_;exact aB))
   refine cv 1 1 ?_ ?_ (IH (rest,k+1,sA,sA.length) ⟨g2,h2,hWR,rfl⟩ (zae _))
   ·(simp only[go_sem,hD,hY,hZ,gC,aw aZ];try exact aU)
   ·(simp only[go_sem,hD,hY,hZ,gC,aw aZ];try exact aU)
  |cons y kP=>
   obtain⟨fe,oe,iQ,G6⟩:=drop_cons j1
   have gn:k2<4611686018427387904:=by omega
   have hym:y.s∈Sm.cZ g.body:=by rw[← iD];exact za1 (zad fe)
   have qi:=h.said Ak _ hym
   have JK:=fun s=>EJ qi s
   have Af:=Ba _ qi
   simp only[zaf,qs]at j2
   repeat' (first
 |simp only[go_sem,hD,hY,hZ,gC,iQ,fe]
 |(with_reducible refine CU (JK _) ?_)
 | (with_reducible refine ax hQ ?_;exact aB))
   obtain⟨V,hV⟩ : ∃ V,qq p sA y.s.said=V:=⟨_,rfl⟩
   rw[hV]at j2
   have hVW:V.length≤W.length:=by have:=(uB p (kP.map It.s) V).1;rw[j2]at this;exact this
   have hoV:sA.length≤V.length:=by have:=(uA p y.s.said sA).1;rw[hV]at this;exact this
   refine di 1 1 (aN.ind (ι:=List aF×Nat×List aF×Nat) (fun i=>y.s.said.drop i.2.1=i.1∧qq p i.2.2.1 i.1=V∧i.2.2.1.length≤V.length∧i.2.2.2=i.2.2.1.length) (fun i=>i.1.length)
    (fun i=> [(2, .ptr 0 0),(5, .slice (.tok 0) 1 (i.2.2.1.map encStr)),(16, .slice .shared 1 (N.map encStr)),(17, .int .i64 (N.length:Int)),(18, .int .i64 (k:Int)),(29, .slice .shared 16 (it.map dn)),(30, .int .i64 (it.length:Int)),(31, .int .i64 (k2:Int)),(37, .slice .shared 1 (y.s.said.map encStr)),(38, .int .i64 (y.s.said.length:Int)),(39, .int .i64 (i.2.1:Int))]) (fun i=>⟨[bS p],[some i.2.2.2]⟩) ?_ (y.s.said,0,sA,sA.length) ⟨rfl,hV,hoV,rfl⟩)
   rintro⟨tJ,k3,pG,no⟩ ⟨l1,l2,l3,l4⟩ Al
   dsimp only at l1 l2 l3 l4
   subst l4
   cases tJ with
   |nil=>
    have Y3:=drop_nil l1
    simp only[qq]at l2
    subst l2
    repeat' (first
 |simp only[go_sem,hD,hY,hZ,gC,Y3]
 | (with_reducible refine ax hQ ?_;exact aB))
    refine cv 1 1 ?_ ?_ (qM (kP,k2+1,pG,pG.length) ⟨oe,j2,hVW,rfl⟩ (zae _))
    ·(simp only[go_sem,hD,hY,hZ,gC,aw gn];try exact aU)
    ·(simp only[go_sem,hD,hY,hZ,gC,aw gn];try exact aU)
   | cons z tJ=>
    obtain⟨Db,M5,JV,lg4⟩:=drop_cons l1
    have vC:k3<4611686018427387904:=by omega
    have ja:=fun g s=>vR (l:=p.globals) (by omega) z g s
    simp only[qq]at l2
    rcases zaa (dS p.globals z)with c1|c1
    ·simp only [c1,if_true]at l2
     have hZ:(pG.length+1)*17≤aV:=by unfold aV;omega
     have hoo:(pG++ [z]).length≤V.length:=by have:=(uA p tJ (pG++ [z])).1;rw[l2]at this;exact this
     repeat' (first
 |simp only[go_sem,hD,hY,hZ,gC,JV,Db,c1]
 |(with_reducible refine CU (ja _ _) ?_)
 | (with_reducible refine ax hQ ?_;exact aB))
     refine cv 1 1 ?_ ?_ (Al (tJ,k3+1,pG++ [z],pG.length+1) ⟨M5,l2,hoo,by simp⟩ (zae _))
     ·(simp only[go_sem,hD,hY,hZ,gC,aw vC,zag,zaf,zai,encStr];try exact aU)
     ·(simp only[go_sem,hD,hY,hZ,gC,aw vC,zag,zaf,zai,encStr];try exact aU)
    ·simp only [c1,zab,if_false]at l2
     repeat' (first
 |simp only[go_sem,hD,hY,hZ,gC,JV,Db,c1]
 |(with_reducible refine CU (ja _ _) ?_)
 |(with_reducible refine ax hQ ?_;exact aB))
     refine cv 1 1 ?_ ?_ (Al (tJ,k3+1,pG,pG.length) ⟨M5,l2,l3,rfl⟩ (zae _))
     ·(simp only[go_sem,hD,hY,hZ,gC,aw vC];try exact aU)
     ·(simp only[go_sem,hD,hY,hZ,gC,aw vC];try exact aU)
theorem VT {p:Pg} (h:p.gu) (name:aF) (s:St):az Tryz.prog 136 [.agg (bS p), .str name] s (.slice .shared 1 ((p.pX name).map encStr)) s:=by
 refine az.pure ?_ (by simp[D.bM,D.ok,gR]) (by simp only[D.ok,Tag.ok,dz];rfl) s
 have hk:=fun s=>Y2 h name s
 have du:=fun s=>DT (p:=p) (by have:=h.procs;omega) s
 unfold Pg.pX
 unfold S0
 cases Y4:p.yX name with
 |none=>
  simp only[Y4,zbF]at hk
  simp only[zai]
  refine az.go wg.h rfl fun B Q hB hQ=>?_
  have⟨hD,hY,hZ,gC⟩:=bb
  repeat' (first
 |simp only[go_sem,hD,hY,hZ,gC]
 |(with_reducible refine CU (hk _) ?_)
 |(with_reducible refine ax hQ ?_;exact aB))
 |some f=>
 obtain⟨ki,hf⟩:=J6 Y4
 simp only[Y4,zbw]at hk
 dsimp only
 obtain⟨nB,nF,lG⟩:=h.procs
 have hN:=FA ki hf
 obtain⟨N,Ng⟩ : ∃ N,iT (p.work name)=N:=⟨_,rfl⟩
 rw[Ng]at hN
 have PN:=hN.len
 obtain⟨R,hR⟩ : ∃ R,p.nY name=R:=⟨_,rfl⟩
 rw[hR]
 unfold Pg.nY at hR
 rw[Ng]at hR
 have PK:R.length≤28800000:=by
  have:=(uC h N []).2
  rw[hR]at this
  have h4:=J7 (nI ki)
  have h3:N.length*1800000≤16*1800000:=zaO _ (by omega)
  simp only[zaD]at this
  omega
 have EM:=fun s=>acW h ki hf s
 simp only[Ng]at EM
 obtain⟨fn,wi,rW⟩:=wg.h
 refine az.intro ⟨fn,wi,rW⟩ (zbp rfl) fun B hB=>?_
 generalize hQ:mN (⟨[],[]⟩:St).aq.length (⟨[],[]⟩:St).ay.length _ _ (⟨[],[]⟩:St)=Q
 have⟨hD,hY,hZ,gC⟩:=bb
 refine Sem.kX ?_
 repeat' (first
 |simp only[go_sem,hD,hY,hZ,gC]
 |(with_reducible refine ax hQ ?_;exact aB))
 refine Sem.kX ?_
 repeat' (first
 |simp only[go_sem,hD,hY,hZ,gC]
 |(with_reducible refine CU (hk _) ?_)
 |(with_reducible refine ax hQ ?_;exact aB))
 refine Sem.kX ?_
 repeat' (first
 |simp only[go_sem,hD,hY,hZ,gC]
 |(with_reducible refine CU (du _) ?_)
 |(with_reducible refine ax hQ ?_;exact aB))
 refine Sem.kX ?_
 repeat' (first
 |simp only[go_sem,hD,hY,hZ,gC]
 |(with_reducible refine ax hQ ?_;exact aB))
 refine Sem.kX ?_
 repeat' (first
 |simp only[go_sem,hD,hY,hZ,gC]
 |(with_reducible refine CU (EM _) ?_)
 |(with_reducible refine ax hQ ?_;exact aB))
 refine aN.ln 6 1 rfl ?_
 simp only[go_sem,hD,hY,hZ,gC]
 refine di 1 1 (aN.ind (ι:=List aF×Nat×List aF×Nat) (fun i=>N.drop i.2.1=i.1∧si p i.2.2.1 i.1=R∧i.2.2.1.length≤R.length∧i.2.2.2=i.2.2.1.length) (fun i=>i.1.length)
  (fun i=> [(2, .ptr 0 0),(5, .dO (fU p) 0),(6, .slice (.tok 0) 1 (i.2.2.1.map encStr)),(21, .slice .shared 1 (N.map encStr)),(22, .int .i64 (N.length:Int)),(23, .int .i64 (i.2.1:Int))]) (fun i=>⟨[bS p],[some i.2.2.2]⟩) ?_ (N,0,[],0) ⟨rfl,hR,zaz _,rfl⟩)
 rintro⟨rest,k,out,no⟩ ⟨h1,h2,h3,h4⟩ IH
 dsimp only at h1 h2 h3 h4
 subst h4
 cases rest with
 |nil=>
  have hD:=drop_nil h1
  simp only[si]at h2
  subst h2
  have Af:(nJ out).length=out.length:=List.length_mergeSort out
  repeat' (first
 |simp only[go_sem,hD,hY,hZ,gC]
 |(with_reducible refine ax hQ ?_;exact aB))
  refine Sem.seq (Sem.sort (k:=6) (t:=0) (l:=out) hB (by decide) (by decide) (by decide) rfl rfl (by omega) ?_)
  refine Sem.seq (Sem.compact (k:=6) (t:=0) (l:=nJ out) hB (by decide) rfl (by rw[Af];rfl) (by rw[Af];omega) ?_)
  rw[De]
  refine ji (ac:= .ret) (Q:=Q) (tm:= [(59, .slice (.tok 0) 1 ((iT out).map encStr)),(4, .slice (.tok 0) 1 ((iT out).map encStr))]) (s:=⟨[],[some (iT out).length]⟩) ?_
  repeat' (first
 |simp only[go_sem,hD,hY,hZ,gC]
 |(with_reducible refine ax hQ ?_;exact aB))
 | cons x rest=>
  obtain⟨hY,g2,hD,g4⟩:=drop_cons h1
  have aZ:k<4611686018427387904:=by omega
  obtain⟨g,xl⟩:=hN.2 x (zad hY)
  have Ak:=(nX xl).1
  have hbd:rX p x=Sm.cZ g.body:=by unfold rX;rw[xl]
  simp only[si,hbd]at h2
  obtain⟨j,hj,gE⟩:=Df (k:=0) xl
  have gE:p.at x=((j:Nat):Int):=by unfold Pg.at;simpa using gE
  have sL:=fun s=>GX (p:=p) (by omega) x s
  simp only[gE]at sL
  obtain⟨it,iD,C7⟩:=Yw hj (by omega)
  have IN:it.length≤900000:=by
   have e:=congrArg List.length iD
   obtain⟨a,b,e',_,_,e3,e4⟩:=(pd p).2 j g hj
   have e5:=qL p
   have e6:=congrArg List.length e3
   rw[e4]at e5
   simp only[zaw,zaj]at e e5 e6
   omega
  rw[← iD]at h2
  repeat' (first
 |simp only[go_sem,hD,hY,hZ,gC,hY]
 |(with_reducible refine CU (sL _) ?_)
 |(with_reducible refine CU (C7 _) ?_)
 | (with_reducible refine ax hQ ?_;exact aB))
  obtain⟨W,hW⟩ : ∃ W,qs p out (it.map Im.s)=W:=⟨_,rfl⟩
  rw[hW]at h2
  have hWR:W.length≤R.length:=by have:=(uC h rest W).1;rw[h2]at this;exact this
  have M4:out.length≤W.length:=by have:=(uB p (it.map Im.s) out).1;rw[hW]at this;exact this
  refine di 1 1 (aN.ind (ι:=List Im×Nat×List aF×Nat) (fun i=>it.drop i.2.1=i.1∧qs p i.2.2.1 (i.1.map Im.s)=W∧i.2.2.1.length≤W.length∧i.2.2.2=i.2.2.1.length) (fun i=>i.1.length)
   (fun i=> [(2, .ptr 0 0),(5, .dO (fU p) 0),(6, .slice (.tok 0) 1 (i.2.2.1.map encStr)),(21, .slice .shared 1 (N.map encStr)),(22, .int .i64 (N.length:Int)),(23, .int .i64 (k:Int)),(31, .slice .shared 17 (it.map dK)),(32, .int .i64 (it.length:Int)),(33, .int .i64 (i.2.1:Int))]) (fun i=>⟨[bS p],[some i.2.2.2]⟩) ?_ (it,0,out,out.length) ⟨rfl,hW,M4,rfl⟩)
  rintro⟨kP,k2,sA,no⟩ ⟨j1,j2,j3,j4⟩ qM
  dsimp only at j1 j2 j3 j4
  subst j4
  cases kP with
  |nil=>
   have Nh:=drop_nil j1
   simp only[zai,qs]at j2
   subst j2
   repeat' (first
 |simp only[go_sem,hD,hY,hZ,gC,Nh]
 | (with_reducible refine ax hQ ?_;exact aB))
   refine cv 1 1 ?_ ?_ (IH (rest,k+1,sA,sA.length) ⟨g2,h2,hWR,rfl⟩ (zae _))
   ·(simp only[go_sem,hD,hY,hZ,gC,aw aZ];try exact aU)
   ·(simp only[go_sem,hD,hY,hZ,gC,aw aZ];try exact aU)
  |cons y kP=>
   obtain⟨fe,oe,iQ,G6⟩:=drop_cons j1
   have gn:k2<4611686018427387904:=by omega
   have hym:y.s∈Sm.cZ g.body:=by rw[← iD];exact za1 (zad fe)
   have qi:=h.said Ak _ hym
   have JK:=fun s=>C3 qi s
   have Af:=Ba _ qi
   simp only[zaf,qs]at j2
   repeat' (first
 |simp only[go_sem,hD,hY,hZ,gC,iQ,fe]
 |(with_reducible refine CU (JK _) ?_)
 | (with_reducible refine ax hQ ?_;exact aB))
   obtain⟨V,hV⟩ : ∃ V,qq p sA y.s.said=V:=⟨_,rfl⟩
   rw[hV]at j2
   have hVW:V.length≤W.length:=by have:=(uB p (kP.map Im.s) V).1;rw[j2]at this;exact this
   have hoV:sA.length≤V.length:=by have:=(uA p y.s.said sA).1;rw[hV]at this;exact this
   refine di 1 1 (aN.ind (ι:=List aF×Nat×List aF×Nat) (fun i=>y.s.said.drop i.2.1=i.1∧qq p i.2.2.1 i.1=V∧i.2.2.1.length≤V.length∧i.2.2.2=i.2.2.1.length) (fun i=>i.1.length)
    (fun i=> [(2, .ptr 0 0),(5, .dO (fU p) 0),(6, .slice (.tok 0) 1 (i.2.2.1.map encStr)),(21, .slice .shared 1 (N.map encStr)),(22, .int .i64 (N.length:Int)),(23, .int .i64 (k:Int)),(31, .slice .shared 17 (it.map dK)),(32, .int .i64 (it.length:Int)),(33, .int .i64 (k2:Int)),(39, .slice .shared 1 (y.s.said.map encStr)),(40, .int .i64 (y.s.said.length:Int)),(41, .int .i64 (i.2.1:Int))]) (fun i=>⟨[bS p],[some i.2.2.2]⟩) ?_ (y.s.said,0,sA,sA.length) ⟨rfl,hV,hoV,rfl⟩)
   rintro⟨tJ,k3,pG,no⟩ ⟨l1,l2,l3,l4⟩ Al
   dsimp only at l1 l2 l3 l4
   subst l4
   cases tJ with
   |nil=>
    have Y3:=drop_nil l1
    simp only[qq]at l2
    subst l2
    repeat' (first
 |simp only[go_sem,hD,hY,hZ,gC,Y3]
 | (with_reducible refine ax hQ ?_;exact aB))
    refine cv 1 1 ?_ ?_ (qM (kP,k2+1,pG,pG.length) ⟨oe,j2,hVW,rfl⟩ (zae _))
    ·(simp only[go_sem,hD,hY,hZ,gC,aw gn];try exact aU)
    ·(simp only[go_sem,hD,hY,hZ,gC,aw gn];try exact aU)
   | cons z tJ=>
    obtain⟨Db,M5,JV,lg4⟩:=drop_cons l1
    have vC:k3<4611686018427387904:=by omega
    have ja:=fun g s=>kF (l:=p.globals) (by omega) z g s
    simp only[qq]at l2
    rcases zaa (dS p.globals z)with c1|c1
    ·simp only [c1,if_true]at l2
     have hZ:(pG.length+1)*17≤aV:=by unfold aV;omega
     have hoo:(pG++ [z]).length≤V.length:=by have:=(uA p tJ (pG++ [z])).1;rw[l2]at this;exact this
     repeat' (first
 |simp only[go_sem,hD,hY,hZ,gC,JV,Db,c1]
 |(with_reducible refine CU (ja _ _) ?_)
 | (with_reducible refine ax hQ ?_;exact aB))
     refine cv 1 1 ?_ ?_ (Al (tJ,k3+1,pG++ [z],pG.length+1) ⟨M5,l2,hoo,by simp⟩ (zae _))
     ·(simp only[go_sem,hD,hY,hZ,gC,aw vC,zag,zaf,zai,encStr];try exact aU)
     ·(simp only[go_sem,hD,hY,hZ,gC,aw vC,zag,zaf,zai,encStr];try exact aU)
    ·simp only [c1,zab,if_false]at l2
     repeat' (first
 |simp only[go_sem,hD,hY,hZ,gC,JV,Db,c1]
 |(with_reducible refine CU (ja _ _) ?_)
 |(with_reducible refine ax hQ ?_;exact aB))
     refine cv 1 1 ?_ ?_ (Al (tJ,k3+1,pG,pG.length) ⟨M5,l2,l3,rfl⟩ (zae _))
     ·(simp only[go_sem,hD,hY,hZ,gC,aw vC];try exact aU)
     ·(simp only[go_sem,hD,hY,hZ,gC,aw vC];try exact aU)
mutual
def Sm.og (deep a7:Int) (aK:Bool):Sm→List It
 |⟨id,kind,labels,name,proc,x,has,args,a8,e⟩=>⟨⟨id,kind,labels,name,proc,x,has,args,a8,e⟩,deep,a7,aK⟩::(Sm.gZ (deep+1) id false a8++Sm.gZ (deep+1) id true e)
def Sm.gZ (deep a7:Int) (aK:Bool):List Sm→List It
 | []=> []
 |s::l=>s.og deep a7 aK++Sm.gZ deep a7 aK l
end
theorem VU (deep a7:Int) (aK:Bool) (s:Sm):s.og deep a7 aK = ⟨s,deep,a7,aK⟩::(Sm.gZ (deep+1) s.id false s.a8++Sm.gZ (deep+1) s.id true s.aK):=by cases s;simp only[Sm.og]
mutual
theorem VV (deep a7:Int) (aK:Bool) (out:List It) : ∀ s:Sm,(gN deep a7 aK out s).length≤200→(∀ i∈gN deep a7 aK out s,i.deep≤12)→gN deep a7 aK out s=out++s.og deep a7 aK
 | ⟨id,kind,labels,name,proc,x,has,args,a8,e⟩,h1,h2=>by
  simp only[gN,Sm.og]at h1 h2 ⊢
  by_cases hd:deep≤12
  ·simp only [hd,decide_true,if_true]at h1 h2 ⊢
   obtain⟨e2,g2⟩:=qO (deep+1) id true (dJ (deep+1) id false (out++ [⟨⟨id,kind,labels,name,proc,x,has,args,a8,e⟩,deep,a7,aK⟩]) a8) e
   have k1:(dJ (deep+1) id false (out++ [⟨⟨id,kind,labels,name,proc,x,has,args,a8,e⟩,deep,a7,aK⟩]) a8).length≤200:=by
    rw[g2,zaj]at h1;omega
   have k2 : ∀ i∈dJ (deep+1) id false (out++ [⟨⟨id,kind,labels,name,proc,x,has,args,a8,e⟩,deep,a7,aK⟩]) a8,i.deep≤12:=fun i m=>h2 i (by rw[g2];exact zaJ _ m)
   rw[yp (deep+1) id true _ e h1 h2,yp (deep+1) id false _ a8 k1 k2]
   simp
  ·simp only [hd,decide_false,zab,if_false]at h1 h2
   exact absurd (h2 _ (za7 _ (zaG.2 rfl))) (by simpa using hd)
theorem yp (deep a7:Int) (aK:Bool) (out:List It) : ∀ l:List Sm,(dJ deep a7 aK out l).length≤200→(∀ i∈dJ deep a7 aK out l,i.deep≤12)→dJ deep a7 aK out l=out++Sm.gZ deep a7 aK l
 | [],h1,h2=>by simp[dJ,Sm.gZ]
 | s::l,h1,h2=>by
  simp only[dJ,Sm.gZ]at h1 h2 ⊢
  by_cases hc:(out.length:Int)≤200
  ·simp only [hc,decide_true,if_true]at h1 h2 ⊢
   obtain⟨e2,g2⟩:=qO deep a7 aK (gN deep a7 aK out s) l
   have k1:(gN deep a7 aK out s).length≤200:=by rw[g2,zaj]at h1;omega
   have k2 : ∀ i∈gN deep a7 aK out s,i.deep≤12:=fun i m=>h2 i (by rw[g2];exact zaJ _ m)
   rw[yp deep a7 aK _ l h1 h2,VV deep a7 aK out s k1 k2]
   simp
  ·simp only [hc,decide_false,zab,if_false]at h1
   omega
end
theorem Ni : ∀ (l:List Pc) (out:List It),(allM out l).length≤200→(∀ i∈allM out l,i.deep≤12)→(∀ f∈l,f.flat=Sm.gZ 1 0 false f.body)∧allM out l=out++(l.map fun f=>Sm.gZ 1 0 false f.body).flatten
 | [],out,h1,h2=>⟨fun f m=>(by cases m),by simp[allM]⟩
 | f::l,out,h1,h2=>by
  simp only[allM]at h1 h2 ⊢
  by_cases hc:(((out++f.flat).length:Nat):Int) > 200
  ·simp only[hc,decide_true,if_true]at h1;omega
  ·simp only [hc,decide_false,zab,if_false]at h1 h2 ⊢
   obtain⟨k1,k2⟩:=Ni l (out++f.flat) h1 h2
   have k3:f.flat=Sm.gZ 1 0 false f.body:=by
    have:=yp 1 0 false [] f.body (by
     have:f.flat.length≤200:=by simp only[zaj]at hc;omega
     exact this) (fun i m=>h2 i (by rw[k2];exact zaJ _ (za7 _ m)))
    simpa[Pc.flat]using this
   refine⟨fun g m=>?_, ?_⟩
   ·rcases zap.1 m with rfl | m
    ·exact k3
    ·exact k1 g m
   ·rw[k2,k3];simp
theorem D0 {p:Pg} (h:p.may=true):(∀ f∈p.procs,f.flat=Sm.gZ 1 0 false f.body)∧p.all=(p.procs.map fun f=>Sm.gZ 1 0 false f.body).flatten:=by
 obtain⟨h1,h2⟩:=wM h
 have:=Ni p.procs [] h1 (yk _ 0 h2).1
 simpa[Pg.all]using this
mutual
theorem La (deep a7:Int) (aK:Bool) : ∀ s:Sm,(s.og deep a7 aK).map It.s=s.pre
 |⟨id,kind,labels,name,proc,x,has,args,a8,e⟩=>by
  simp only[Sm.og,Sm.pre,zaf,zag,rY _ _ _ a8,rY _ _ _ e]
theorem rY (deep a7:Int) (aK:Bool) : ∀ l:List Sm,(Sm.gZ deep a7 aK l).map It.s=Sm.cZ l
 | []=>rfl
 |s::l=>by simp only[Sm.gZ,Sm.cZ,zag,La _ _ _ s,rY _ _ _ l]
end
def eD (l:List Sm) (none:Int):Int:=match l with| []=>none|t::_=>t.id
mutual
def Sm.sM (proc up next loop:Int):Sm→List Im
 |⟨id,kind,labels,name,pc,x,has,args,a8,aK⟩=>⟨⟨id,kind,labels,name,pc,x,has,args,a8,aK⟩,proc,up,next,loop⟩::
  (Sm.iE proc id (if kind==6 then id else next) (if kind==6 then id else loop) a8++Sm.iE proc id (if kind==6 then id else next) (if kind==6 then id else loop) aK)
def Sm.iE (proc up next loop:Int):List Sm→List Im
 | []=> []
 |s::l=>s.sM proc up (eD l next) loop++Sm.iE proc up next loop l
end
def jo (n:Nat) (l:List Sm):Prop:=∀ (i:Nat) (v:Sm),l[i]? = some v→v.id=((n+i+1:Nat):Int)
theorem jo.head {n:Nat} {v:Sm} {l:List Sm} (h:jo n (v::l)):v.id=((n+1:Nat):Int):=h 0 v rfl
theorem jo.tail {n:Nat} {v:Sm} {l:List Sm} (h:jo n (v::l)):jo (n+1) l:=fun i w hw=>by
 rw[h (i+1) w (by simpa using hw)];congr 1;omega
theorem jo.left {n:Nat} {a b:List Sm} (h:jo n (a++b)):jo n a:=fun i w hw=>h i w (by rw[zak (zac.1 hw).1];exact hw)
theorem jo.right {n:Nat} {a b:List Sm} (h:jo n (a++b)):jo (n+a.length) b:=fun i w hw=>by
 rw[h (a.length+i) w (by rw[zas (by omega)];simpa using hw)];congr 1;omega
theorem Y5 (s:Sm):s.pre=s::(Sm.cZ s.a8++Sm.cZ s.aK):=Sm.oN s
mutual
theorem PO : ∀ s:Sm,s.kE=s.pre.length
 |⟨id,kind,labels,name,proc,x,has,args,a8,aK⟩=>by
  simp only[Sm.kE,Sm.pre,zat,zaj,Bg a8,Bg aK];omega
theorem Bg : ∀ l:List Sm,Sm.jV l=(Sm.cZ l).length
 | []=>rfl
 |s::l=>by simp only[Sm.jV,Sm.cZ,zaj,PO s,Bg l]
end
mutual
theorem aa1 (proc up next loop:Int) : ∀ s:Sm,(s.sM proc up next loop).map Im.s=s.pre
 |⟨id,kind,labels,name,pc,x,has,args,a8,aK⟩=>by
  simp only[Sm.sM,Sm.pre,zaf,zag,tL _ _ _ _ a8,tL _ _ _ _ aK]
theorem tL (proc up next loop:Int) : ∀ l:List Sm,(Sm.iE proc up next loop l).map Im.s=Sm.cZ l
 | []=>rfl
 |s::l=>by simp only[Sm.iE,Sm.cZ,zag,aa1 _ _ _ _ s,tL _ _ _ _ l]
end
theorem PQ (proc up next loop:Int) (s:Sm):(s.sM proc up next loop).length=s.pre.length:=by rw[← aa1 proc up next loop s,zaw]
theorem uD (proc up next loop:Int) (l:List Sm):(Sm.iE proc up next loop l).length=(Sm.cZ l).length:=by rw[← tL proc up next loop l,zaw]
mutual
theorem acY (proc up next loop:Int) (out:List Im) : ∀ s:Sm,jo out.length s.pre→Im.one proc up next loop out s=out++s.sM proc up next loop
 | ⟨id,kind,labels,name,pc,x,has,args,a8,aK⟩,h=>by
  simp only[Sm.pre]at h
  have h0:id=((out.length+1:Nat):Int):=h.head
  have h1:=h.tail.left
  have h2:=h.tail.right
  have e0:((out.length:Int)+1)=id:=by rw[h0];rfl
  simp only[Im.one,Sm.sM,e0]
  rw[xm proc id _ _ (out++ [_]) a8 (by rw[zaj];exact h1)]
  rw[xm proc id _ _ _ aK (by
   rw[zaj,zaj,uD];exact h2)]
  simp
theorem xm (proc up next loop:Int) (out:List Im) : ∀ l:List Sm,jo out.length (Sm.cZ l)→Im.rows proc up next loop out l=out++Sm.iE proc up next loop l
 | [],h=>by simp[Im.rows,Sm.iE]
 | s::l,h=>by
  simp only[Sm.cZ]at h
  have e:(if l.length=0 then next else(out.length:Int)+1+(s.kE:Int))=eD l next:=by
   cases l with
   |nil=>rfl
   |cons t l=>
    have h2:=h.right
    simp only[Sm.cZ]at h2
    rw[Y5 t]at h2
    simp only[zat,eD]
    rw[if_neg (by omega),h2.head,PO]
    omega
  simp only[Im.rows,Sm.iE,e]
  rw[acY proc up _ loop out s h.left,xm proc up next loop _ l (by rw[zaj,PQ];exact h.right)]
  simp
end
def rM (n:Nat):List Pc→List Im
 | []=> []
 |f::l=>Sm.iE n 0 (-1) 0 f.body++rM (n+1) l
theorem VW : ∀ (l:List Pc) (n:Nat) (h:Sh),jo h.L.length ((l.map fun f=>Sm.cZ f.body).flatten)→(Sh.go n h l).L=h.L++rM n l
 | [],n,h,_=>by simp[Sh.go,rM]
 | f::l,n,h,hi=>by
  simp only[zaf,zbi]at hi
  simp only[Sh.go,rM]
  have e:=xm (n:Int) 0 (-1) 0 h.L f.body hi.left
  rw[VW l (n+1) _ (by
   show jo (Im.rows (n:Int) 0 (-1) 0 h.L f.body).length _
   rw[e,zaj,uD];exact hi.right)]
  show Im.rows (n:Int) 0 (-1) 0 h.L f.body++_=_
  rw[e];simp
theorem D1 {p:Pg} (h:p.may=true):jo 0 p.pre:=fun i v hv=>by rw[G9 h hv];congr 1;omega
theorem Dj {p:Pg} (h:p.may=true):p.aR.L=rM 0 p.procs:=by
 have:=VW p.procs 0 ⟨[],[],[]⟩ (D1 h)
 simpa[Pg.aR]using this
def tM (l:List It):Nat→Int→Int
 | 0,_=>0
 |n+1,a7=>if a7==0 then 0 else match l[n]? with
  |none=>0
  |some x=>if x.s.id != a7 then tM l n a7 else if x.s.kind==6 then a7 else tM l n x.a7
theorem Nj (l:List It) : ∀ n,tM l n 0=0
 | 0=>rfl
 |n+1=>rfl
theorem Nk {l : List It} {a7 : Int} : ∀ {n m : Nat}, m ≤ n → n ≤ l.length → (∀ (j : Nat) (x : It), m ≤ j → j < n → l[j]? = some x → x.s.id ≠ a7) → tM l n a7 = tM l m a7
 | 0, m, h, _, _ => by have : m = 0 := by omega
                       rw[this]
 | n + 1, m, h, hl, hx => by
   rcases zaE m (n + 1) with h1|h1
   · obtain ⟨x, e⟩ : ∃ x, l[n]? = some x := ⟨_, zah (by omega)⟩
     by_cases hz : a7 = 0
     · rw[hz, Nj, Nj]
     · simp only [tM, e]
       rw[if_neg (by simpa using hz), if_pos (by simpa using hx n x (by omega) (by omega) e)]
       exact Nk (by omega) (by omega) fun j x h1 h2 => hx j x h1 (by omega)
   · have : m = n + 1 := by omega
     rw[this]
def Up (L:List It) (k:Nat) (og:List It) (sM:List Im):Prop:=∀ (i:Nat) (a:It) (b:Im),og[i]? = some a→sM[i]? = some b→a.s=b.s∧a.a7=b.up∧tM L (k+i) a.a7=b.loop
mutual
theorem af8 {L:List It} {A C:List It} {n:Nat} {proc up next loop deep:Int} {aK:Bool} : ∀ s:Sm,L=A++(s.og deep up aK++C)→jo n (L.map It.s)→tM L A.length up=loop→Up L A.length (s.og deep up aK) (s.sM proc up next loop)
 | ⟨id,kind,labels,name,pc,x,has,args,a8,e⟩,hL,lQ,hu=>by
  intro i a b ha hb
  have mU:L[A.length]? = some ⟨⟨id,kind,labels,name,pc,x,has,args,a8,e⟩,deep,up,aK⟩:=by
   rw[hL,zas (zal _)];simp[Sm.og]
  have hn:id=((n+A.length+1:Nat):Int):=lQ A.length ⟨id,kind,labels,name,pc,x,has,args,a8,e⟩ (by rw[zao,mU];rfl)
  have IS : ∀ (j:Nat) (y:It),L[j]? = some y→y.s.id=((n+j+1:Nat):Int):=fun j y hj=>lQ j y.s (by rw[zao,hj];rfl)
  have hu2:tM L (A.length+1) id=if kind==6 then id else loop:=by
   simp only[tM,mU]
   rw[if_neg (by simp only[beq_iff_eq];omega),if_neg (by simp)]
   split
   ·rfl
   ·exact hu
  simp only[Sm.og]at ha hL
  simp only[Sm.sM]at hb
  have wG:(Sm.gZ (deep+1) id false a8).length=(Sm.iE proc id (if kind==6 then id else next) (if kind==6 then id else loop) a8).length:=by
   rw[uD, ← rY (deep+1) id false a8,zaw]
  cases i with
  |zero=>
   simp only[zbe,Option.some.injEq]at ha hb
   subst ha hb
   exact⟨rfl,rfl,hu⟩
  | succ i=>
   simp only[za2]at ha hb
   rcases zaE i (Sm.gZ (deep+1) id false a8).length with h1|h1
   ·rw [zak h1]at ha
    rw[zak (by rw[← wG];exact h1)]at hb
    have:=D2 (L:=L) (A:=A++ [⟨⟨id,kind,labels,name,pc,x,has,args,a8,e⟩,deep,up,aK⟩]) (C:=Sm.gZ (deep+1) id true e++C) (n:=n) (proc:=proc) (up:=id) (next:=if kind==6 then id else next) (loop:=if kind==6 then id else loop) (deep:=deep+1) (aK:=false) (m:=A.length+1) a8
     (by rw[hL];simp) lQ hu2 (by simp) (fun j y h2 h3=>by rw[IS j y h3,hn];omega) i a b ha hb
    simpa[Nat.add_assoc,Nat.add_comm 1 i]using this
   ·rw [zas h1]at ha
    rw[zas (by rw[← wG];exact h1)]at hb
    have:=D2 (L:=L) (A:=A++⟨⟨id,kind,labels,name,pc,x,has,args,a8,e⟩,deep,up,aK⟩::Sm.gZ (deep+1) id false a8) (C:=C) (n:=n) (proc:=proc) (up:=id) (next:=if kind==6 then id else next) (loop:=if kind==6 then id else loop) (deep:=deep+1) (aK:=true) (m:=A.length+1) e
     (by rw[hL];simp) lQ hu2 (by simp) (fun j y h2 h3=>by rw[IS j y h3,hn];omega) (i - (Sm.gZ (deep+1) id false a8).length) a b ha (by rw[wG];exact hb)
    refine⟨this.1,this.2.1, ?_⟩
    have h3:=this.2.2
    rw[← h3]
    congr 1
    simp only[zaj,zat]
    omega
theorem D2 {L:List It} {A C:List It} {n m:Nat} {proc up next loop deep:Int} {aK:Bool} : ∀ l:List Sm,L=A++(Sm.gZ deep up aK l++C)→jo n (L.map It.s)→tM L m up=loop→m≤A.length→(∀ (j:Nat) (y:It),m≤j→L[j]? = some y→y.s.id≠up)→Up L A.length (Sm.gZ deep up aK l) (Sm.iE proc up next loop l)
 | [],hL,lQ,hu,hm,eO=>fun i a b ha hb=>by simp[Sm.gZ]at ha
 | s::l,hL,lQ,hu,hm,eO=>by
  intro i a b ha hb
  simp only[Sm.gZ]at ha hL
  simp only[Sm.iE]at hb
  have hAL:A.length≤L.length:=by rw[hL];simp
  have hu1:tM L A.length up=loop:=by rw[Nk hm hAL fun j y h1 h2=>eO j y h1];exact hu
  have wG:(s.og deep up aK).length=(s.sM proc up (eD l next) loop).length:=by rw[PQ, ← La deep up aK s,zaw]
  rcases zaE i (s.og deep up aK).length with h1|h1
  ·rw [zak h1]at ha
   rw[zak (by rw[← wG];exact h1)]at hb
   exact af8 (C:=Sm.gZ deep up aK l++C) (n:=n) s (by rw[hL];simp) lQ hu1 i a b ha hb
  ·rw [zas h1]at ha
   rw[zas (by rw[← wG];exact h1)]at hb
   have:=D2 (A:=A++s.og deep up aK) (C:=C) (n:=n) (m:=m) (proc:=proc) (next:=next) (loop:=loop) l (by rw[hL];simp) lQ hu (by simp;omega) eO (i - (s.og deep up aK).length) a b ha (by rw[wG];exact hb)
   refine⟨this.1,this.2.1, ?_⟩
   have h3:=this.2.2
   rw[← h3]
   congr 1
   simp only[zaj]
   omega
end
def jw (seen:List aF):List aF→List aF×Bool
 | []=>(seen,true)
 |n::l=>if dS seen n then(seen,false)else jw (seen++ [n]) l
theorem yr : ∀ (l seen:List aF),jw seen l=(if pW seen l then((jw seen l).1,false)else(seen++l,true))
 | [],seen=>by simp[jw,pW]
 | n::l,seen=>by
  simp only[jw,pW]
  split
  ·rfl
  ·rw [yr l (seen++ [n])]
   split
   ·rfl
   ·simp
theorem IT : ∀ (a b seen:List aF),pW seen (a++b)=(pW seen a ||pW (seen++a) b)
 | [],b,seen=>by simp[pW]
 |x::a,b,seen=>by
  simp only[zaR,pW]
  split
  ·rfl
  ·rw[IT a b (seen++ [x])];simp
theorem EN {seen l:List aF} (h:er seen=false):jw seen l=(if er (seen++l)then((jw seen l).1,false)else(seen++l,true)):=by
 rw[yr]
 have:er (seen++l)=pW seen l:=by unfold er at h ⊢;rw[IT,h];simp
 rw[this]
 split<;>rfl
theorem J8 : ∀ (l seen:List aF),seen.length≤(jw seen l).1.length∧(jw seen l).1.length≤seen.length+l.length
 | [],seen=>by simp[jw]
 |n::l,seen=>by
  simp only[jw]
  split
  ·simp
  ·have:=J8 l (seen++ [n]);simp at this ⊢;omega
def oy (yY:List aF) (v:Sm) (loop:Int):Bool:=if v.kind==7 ||v.kind==8 then loop != 0 else if v.kind==10 then dS yY v.name else true
def pH (yY fin seen:List aF):List (Sm×Int)→Option Int
 | []=>if(jw seen fin).2 then none else some 0
 |(v,lp)::l=>if(jw seen v.labels).2 then(if oy yY v lp then pH yY fin (jw seen v.labels).1 l else some v.id)else some v.id
def fp:List Sm→List aF
 | []=> []
 |v::l=>v.labels++fp l
def Pc.labels (f:Pc):List aF:=fp (Sm.cZ f.body)++f.fin
def Im.pair (m:Im):Sm×Int:=(m.s,m.loop)
def Pc.oz (f:Pc):List (Sm×Int):=(Sm.iE 0 0 (-1) 0 f.body).map Im.pair
def nK:List Pc→Option Int
 | []=>none
 |f::l=>match pH f.labels f.fin [] f.oz with
  |some id=>some id
  |none=>nK l
def mR (c:Int):Option Int→Int×Int
 |some id=>(c,id)
 |none=>(0,0)
def Pg.jump (p:Pg):Int×Int:=if p.scope.1==0 then mR 7 (nK p.procs)else(1,0)
mutual
theorem Y6 (proc up next wH VX next' loop:Int) : ∀ s:Sm,(s.sM proc up next loop).map Im.pair=(s.sM wH VX next' loop).map Im.pair
 |⟨id,kind,labels,name,pc,x,has,args,a8,aK⟩=>by
  simp only[Sm.sM,zaf,zag,Im.pair]
  rw[yu proc id _ wH id (if kind==6 then id else next') _ a8,yu proc id _ wH id (if kind==6 then id else next') _ aK]
theorem yu (proc up next wH VX next' loop:Int) : ∀ l:List Sm,(Sm.iE proc up next loop l).map Im.pair=(Sm.iE wH VX next' loop l).map Im.pair
 | []=>rfl
 |s::l=>by
  simp only[Sm.iE,zag]
  rw[Y6 proc up _ wH VX (eD l next') loop s,yu proc up next wH VX next' loop l]
end
theorem FB (n:Int) (f:Pc):(Sm.iE n 0 (-1) 0 f.body).map Im.pair=f.oz:=yu _ _ _ _ _ _ _ _
theorem acZ (f:Pc):f.oz.map Prod.fst=Sm.cZ f.body:=by
 unfold Pc.oz
 rw[List.map_map, ← tL 0 0 (-1) 0 f.body]
 rfl
def gy (l:List It):Nat→Int→Int
 | 0,_=>0
 |n+1,id=>match l[n]? with
  |none=>0
  |some x=>if x.s.id != id then gy l n id else if tM l n x.a7 != 0 then tM l n x.a7 else gy l n id
theorem He {l:List It} {id:Int} : ∀ {n:Nat},(∀ (j:Nat) (x:It),j<n→l[j]? = some x→x.s.id≠id)→gy l n id=0
 | 0,_=>rfl
 | n+1,h=>by
  simp only[gy]
  split
  ·rfl
  ·rename_i x e
   rw[if_pos (by simpa using h n x (by omega) e)]
   exact He fun j x hj=>h j x (by omega)
theorem Hf {l:List It} {b i:Nat} {x:It} (lQ:jo b (l.map It.s)) (hx:l[i]? = some x) : ∀ {n:Nat},i<n→n≤l.length→gy l n x.s.id=tM l i x.a7
 | 0,h,_=>by omega
 | n+1,h,hn=>by
  have IS : ∀ (j:Nat) (y:It),l[j]? = some y→y.s.id=((b+j+1:Nat):Int):=fun j y hj=>lQ j y.s (by rw[zao,hj];rfl)
  obtain⟨y,e⟩ : ∃ y,l[n]? = some y:=⟨_,zah (by omega)⟩
  have h1:=IS n y e
  have h2:=IS i x hx
  simp only[gy,e]
  rcases zaE i n with h3|h3
  ·rw [if_pos (by simp only [bne_iff_ne,ne_eq];omega)]
   exact Hf lQ hx h3 (by omega)
  ·have:i=n:=by omega
   subst this
   rw[hx]at e
   cases e
   rw[if_neg (by simp)]
   split
   ·rfl
   ·rename_i h4
    rw[He fun j z hj hz=>by rw[IS j z hz,h2];omega]
    simpa using Eq.symm (by simpa using h4)
theorem EO {p:Pg} (hb:p.may=true) {f:Pc} (hf:f∈p.procs):f.flat.length=f.oz.length∧∀ (i:Nat) (a:It),f.flat[i]? = some a→f.oz[i]? = some (a.s,gy f.flat f.flat.length a.s.id):=by
 have fx:=(D0 hb).1 f hf
 obtain⟨base,q8⟩ : ∃ n,jo n (Sm.cZ f.body):=by
  have h:=D1 hb
  obtain⟨a,c,e⟩:=List.append_of_mem hf
  unfold Pg.pre at h
  rw[e,zag,List.flatten_append,zaf,zbi]at h
  exact⟨_,h.right.left⟩
 have lQ:jo base (f.flat.map It.s):=by rw[fx,rY];exact q8
 have hup:=D2 (L:=f.flat) (A:= []) (C:= []) (n:=base) (m:=0) (proc:=0) (up:=0) (next:= -1) (loop:=0) (deep:=1) (aK:=false) f.body (by rw[fx];simp) lQ rfl (zaz _) (fun j y _ hj=>by
  rw[lQ j y.s (by rw[zao,hj];rfl)];omega)
 have hlen:f.flat.length=f.oz.length:=by
  unfold Pc.oz
  rw[zaw,uD,fx, ← rY 1 0 false f.body,zaw]
 refine⟨hlen,fun i a ha=>?_⟩
 have hi:=(zac.1 ha).1
 have jI:(Sm.iE 0 0 (-1) 0 f.body).length=f.oz.length:=by unfold Pc.oz;rw[zaw]
 obtain⟨m,hm⟩ : ∃ m,(Sm.iE 0 0 (-1) 0 f.body)[i]? = some m:=⟨_,zah (by omega)⟩
 obtain⟨e1,e2,e3⟩:=hup i a m (by rw[← fx];exact ha) hm
 rw[Hf lQ ha hi (zal _)]
 unfold Pc.oz
 rw[zao,hm]
 simp only[zaD,zaZ]at e3
 show some (m.s,m.loop)=_
 rw[e1,e3]
theorem PR : ∀ (l:List Pc) (n:Nat) (h:Sh),h.lo.length=n→h.hi.length=n→jo h.L.length ((l.map fun f=>Sm.cZ f.body).flatten)→
 ∃ lo hi,Sh.go n h l = ⟨h.L++rM n l,h.lo++lo,h.hi++hi⟩∧lo.length=l.length∧hi.length=l.length∧
  ∀ (i:Nat) (f:Pc),l[i]? = some f→∃ a e:List Im,lo[i]? = some (((h.L++a).length:Int)+1)∧hi[i]? = some (((h.L++a++Sm.iE ((n+i:Nat):Int) 0 (-1) 0 f.body).length:Int)+1)∧rM n l=a++Sm.iE ((n+i:Nat):Int) 0 (-1) 0 f.body++e
 | [],n,h,hl,hh,_=>⟨[],[],by simp[Sh.go,rM],rfl,rfl,fun i f h=>by simp at h⟩
 | f::l,n,h,hl,hh,hi=>by
  simp only[zaf,zbi]at hi
  simp only[Sh.go,rM]
  have e1:=xm (n:Int) 0 (-1) 0 h.L f.body hi.left
  obtain⟨lo,jf,h2,h3,h4,h5⟩:=PR l (n+1) ⟨Im.rows (n:Int) 0 (-1) 0 h.L f.body,h.lo++ [(h.L.length:Int)+1],h.hi++ [((Im.rows (n:Int) 0 (-1) 0 h.L f.body).length:Int)+1]⟩ (by simp[hl]) (by simp[hh]) (by
   show jo (Im.rows (n:Int) 0 (-1) 0 h.L f.body).length _
   rw[e1,zaj,uD];exact hi.right)
  refine⟨((h.L.length:Int)+1)::lo,(((Im.rows (n:Int) 0 (-1) 0 h.L f.body).length:Int)+1)::jf, ?_,by simp[h3],by simp[h4],fun i g jf=>?_⟩
  ·rw[h2,e1];simp
  ·cases i with
   |zero=>
    simp only[zbe,Option.some.injEq]at jf
    subst jf
    exact⟨[],rM (n+1) l,by simp,by rw[e1];simp,by simp⟩
   |succ i=>
    simp only[za2]at jf
    obtain⟨a,e,g1,g2,g3⟩:=h5 i g jf
    have en:n+1+i=n+(i+1):=by omega
    rw[en]at g2 g3
    refine⟨Sm.iE n 0 (-1) 0 f.body++a,e, ?_, ?_,by rw[g3];simp⟩
    ·rw[za2,g1,e1];simp
    ·rw[za2,g2,e1];simp
theorem af9 {p:Pg} (hb:p.may=true) {i:Nat} {f:Pc} (hf:p.procs[i]? = some f) (hs:Pc.bq p.procs<1000000000) (s:St) :
 az Tryz.prog 114 [.dO (fU p) 0, .int .i64 (i:Int)] s (.slice .shared 17 ((Sm.iE (i:Int) 0 (-1) 0 f.body).map dK)) s:=by
 obtain⟨lo,hi,h1,h2,h3,h4⟩:=PR p.procs 0 ⟨[],[],[]⟩ rfl rfl (D1 hb)
 obtain⟨a,e,g1,g2,g3⟩:=h4 i f hf
 simp only[zaZ,zaV]at g1 g2 g3 h1
 refine afG hs (a:=a) (e:=e) ?_ ?_ ?_ s
 ·show(Sh.go 0 ⟨[],[],[]⟩ p.procs).lo[i]? = _
  rw[h1];exact g1
 ·show(Sh.go 0 ⟨[],[],[]⟩ p.procs).hi[i]? = _
  rw[h1];exact g2
 ·show(Sh.go 0 ⟨[],[],[]⟩ p.procs).L=_
  rw[h1];exact g3
theorem az.amP {P:Program} {f:FuncId} {pre post:List D} {rows qh:List (List D)} {z z' k k':Nat} {b:Bool} (h:az P f (pre++ .slice (.tok 0) z rows::post) ⟨[],[some k]⟩ (.tuple [.slice (.tok 0) z' qh, .bool b]) ⟨[],[some k']⟩)
 (hp:D.bM 0 0 pre=true) (ha:D.bM 0 0 post=true) (hw:D.iW 0 0 rows=true) (hw':D.iW 0 0 qh=true)
 {s:St} {t:Nat} (ht:s.ay[t]? = some (some k)):az P f (pre++ .slice (.tok t) z rows::post) s (.tuple [.slice (.tok t) z' qh, .bool b]) ⟨s.aq,s.ay.set t (some k')⟩:=by
 refine bp.frame [] [t] h (by simp) (by simp) (by simp) (by simpa using (zac.1 ht).1) rfl (fun i o' ds e1 e2=>by simp at e1) rfl (fun i t' e1=>?_)
  ?_ ?_ ?_
 ·cases i with
  |zero=>simp at e1;subst e1;simp[ht]
  |succ i=>simp at e1
 ·have h1:=gf [] [t] _ hp
  have h2:=gf [] [t] _ ha
  rw[gM]at h1 h2
  simp[gM,D.dm,Tag.dm,h1,h2,kb _ _ _ hw]
 ·have h1:=jB (n':=0) (m':=1) (zal 0) (zaz 1) _ hp
  have h2:=jB (n':=0) (m':=1) (zal 0) (zaz 1) _ ha
  rw[zI]at h1 h2 ⊢
  simp only[zaD,zat,List.all_append,h1,zbf,List.all_cons,h2,zbG,D.ok,Tag.ok,nR (zaz 0) (zaz 1) _ hw]
  rfl
 ·rintro _ _ ⟨rfl,rfl⟩
  refine⟨by simp[D.back,D.dm,D.fu,Tag.dm,lD,kb _ _ _ hw'], ?_⟩
  simp[St.back,lJ]
theorem aga {seen l:List aF} (hl:seen.length+l.length<1000000000):az Tryz.prog 134 [.slice (.tok 0) 1 (seen.map encStr), .slice .shared 1 (l.map encStr)] ⟨[],[some seen.length]⟩
 (.tuple [.slice (.tok 0) 1 ((jw seen l).1.map encStr), .bool (jw seen l).2]) ⟨[],[some (jw seen l).1.length]⟩:=by
 generalize hR:jw seen l=R
 refine az.go KR.h rfl fun B Q hB hQ=>?_
 have⟨hD,hY,hZ,gC⟩:=bb
 repeat' (first
 |simp only[go_sem,hD,hY,hZ,gC]
 |(with_reducible refine ax hQ ?_;exact aB))
 refine di 0 1 (aN.ind (ι:=List aF×Nat×List aF×Nat) (fun i=>l.drop i.2.1=i.1∧jw i.2.2.1 i.1=R∧i.2.2.2=i.2.2.1.length∧i.2.2.1.length+i.1.length<1000000000) (fun i=>i.1.length)
  (fun i=> [(0, .slice (.tok 0) 1 (i.2.2.1.map encStr)),(8, .slice .shared 1 (l.map encStr)),(9, .int .i64 (l.length:Int)),(10, .int .i64 (i.2.1:Int))]) (fun i=>⟨[],[some i.2.2.2]⟩) ?_ (l,0,seen,seen.length) ⟨rfl,hR,rfl,hl⟩)
 clear hR
 rintro⟨rest,k,out,n⟩ ⟨h1,h2,h3,h4⟩ IH
 dsimp only at h1 h2 h3 h4
 subst h3
 cases rest with
 |nil=>
  have hD:=drop_nil h1
  simp only[jw]at h2
  subst h2
  repeat' (first
 |simp only[go_sem,hD,hY,hZ,gC]
 |(with_reducible refine ax hQ ?_;exact aB))
 | cons x rest=>
  obtain⟨hY,g2,hD,g4⟩:=drop_cons h1
  have aZ:k<4611686018427387904:=by omega
  simp only[zat]at h4
  have hZ:(out.length+1)*17≤aV:=by unfold aV;omega
  have ja:=fun g s=>kF (l:=out) (by omega) x g s
  simp only[jw]at h2
  rcases zaa (dS out x)with c1|c1
  ·simp only [c1,if_true]at h2
   subst h2
   repeat' (first
 |simp only[go_sem,hD,hY,hZ,gC,c1]
 |(with_reducible refine CU (ja _ _) ?_)
 | (with_reducible refine ax hQ ?_;exact aB))
  ·simp only [c1,zab,if_false]at h2
   repeat' (first
 |simp only[go_sem,hD,hY,hZ,gC,c1]
 |(with_reducible refine CU (ja _ _) ?_)
 | (with_reducible refine ax hQ ?_;exact aB))
   refine cv 0 1 ?_ ?_ (IH (rest,k+1,out++ [x],out.length+1) ⟨g2,h2,by simp,by simp;omega⟩ (zae _))
   ·(simp only[go_sem,hD,hY,hZ,gC,aw aZ,zag,zaf,zai,encStr];try exact aU)
   ·(simp only[go_sem,hD,hY,hZ,gC,aw aZ,zag,zaf,zai,encStr];try exact aU)
theorem VY {seen l:List aF} (hl:seen.length+l.length<1000000000) {s:St} {t:Nat} (ht:s.ay[t]? = some (some seen.length)):az Tryz.prog 134 [.slice (.tok t) 1 (seen.map encStr), .slice .shared 1 (l.map encStr)] s
 (.tuple [.slice (.tok t) 1 ((jw seen l).1.map encStr), .bool (jw seen l).2]) ⟨s.aq,s.ay.set t (some (jw seen l).1.length)⟩:=
 (aga hl).amP (pre:= []) (post:= [_]) rfl (by simp[D.bM,D.ok,Tag.ok,dz]) (dz _) (dz _) ht
theorem Y7 (x:Im):(dK x)[2]? = some (.slice .shared 1 (x.s.labels.map encStr)):=nd rfl
theorem VZ (x:Im):(dK x)[3]? = some (.str x.s.name):=nd rfl
attribute [go_sem] Y7 VZ
def jb (fin:List aF) (label:aF):List Sm→Int×Bool
 | []=>if dS fin label then(-1,true)else(0,false)
 |v::l=>if dS v.labels label then(v.id,true)else jb fin label l
theorem Dk (fin:List aF) (label:aF) : ∀ l:List Sm,(jb fin label l).2=dS (fp l++fin) label
 | []=>by simp only[jb,fp,zaV];split<;>simp_all
 | v::l=>by
  simp only[jb,fp,zaB]
  have h:=Dk fin label l
  rw[Bool.eq_iff_iff,gK]at h
  split
  ·rename_i c
   exact((gK _ _).2 (zaq.2 (.inl ((gK _ _).1 c)))).symm
  ·rename_i c
   have:label∉v.labels:=fun m=>c ((gK _ _).2 m)
   rw[Bool.eq_iff_iff,h,gK]
   exact⟨fun m=>zaq.2 (.inr m),fun m=>(zaq.1 m).resolve_left this⟩
theorem Nl {p:Pg} {v:Sm} (ho:p.gu) {f:Pc} (hf:f∈p.procs) (hv:v∈Sm.cZ f.body):v.labels.length≤900000:=by
 have key : ∀ n:Nat,(∀ s:Sm,s.pre.length≤n→∀ v∈s.pre,v.labels.length≤s.size)∧(∀ l:List Sm,(Sm.cZ l).length≤n→∀ v∈Sm.cZ l,v.labels.length≤Sm.bq l):=by
  intro n
  induction n with
  |zero=>
   refine⟨fun s h=>by rw[Sm.oN]at h;simp at h,fun l h v m=>?_⟩
   have:=zbk (Nat.le_zero.1 h)
   rw[this]at m;cases m
  | succ n ih=>
   have h1 : ∀ s:Sm,s.pre.length≤n+1→∀ v∈s.pre,v.labels.length≤s.size:=by
    intro s h v m
    rw[Sm.oN]at h m
    simp only[zat,zaj]at h
    obtain⟨id,kind,labels,name,proc,x,has,args,a8,aK⟩:=s
    simp only[Sm.size]
    rcases zap.1 m with rfl|m
    ·dsimp only;omega
    ·rcases zaq.1 m with m | m
     ·have:=ih.2 a8 (by dsimp only at h;omega) v m;omega
     ·have:=ih.2 aK (by dsimp only at h;omega) v m;omega
   refine⟨h1,fun l=>?_⟩
   induction l with
   |nil=>intro _ v m;cases m
   |cons s l V0=>
    intro h v m
    simp only[Sm.cZ,zaj]at h
    simp only[Sm.cZ]at m
    simp only[Sm.bq]
    rcases zaq.1 m with m|m
    ·have:=h1 s (by omega) v m;omega
    ·have:=V0 (by omega) v m;omega
 have h1:=(key (Sm.cZ f.body).length).2 f.body (zal _) v hv
 have h2:=Pc.cq hf
 have h3:=ho.procs.2.1
 simp only[Pc.size]at h2
 omega
theorem Dl {p:Pg} (ho:p.gu) {f:Pc} (hf:f∈p.procs):f.fin.length≤900000:=by
 have h2:=Pc.cq hf
 have h3:=ho.procs.2.1
 simp only[Pc.size]at h2
 omega
theorem Hg {p:Pg} (ho:p.gu) {f:Pc} (hf:f∈p.procs):(Sm.cZ f.body).length≤900000:=by
 rw[← Bg]
 have:=pb f.body
 have h2:=Pc.cq hf
 have h3:=ho.procs.2.1
 simp only[Pc.size]at h2
 omega
theorem agb {p:Pg} (ho:p.gu) (hb:p.may=true) {i:Nat} {f:Pc} (hf:p.procs[i]? = some f) (label:aF) (s:St) :
 az Tryz.prog 80 [.dO (fU p) 0, .int .i64 (i:Int), .str label] s (.tuple [.int .i64 (jb f.fin label (Sm.cZ f.body)).1, .bool (jb f.fin label (Sm.cZ f.body)).2]) s:=by
 refine az.pure ?_ (by simp[D.bM,D.ok,vQ]) rfl s
 obtain⟨nB,nF,lG⟩:=ho.procs
 have oP:=zad hf
 have C7:=fun s=>af9 hb hf (by omega) s
 have kj:=tL (i:Int) 0 (-1) 0 f.body
 have Nn:=Hg ho oP
 have qf:=Dl ho oP
 have rW:=fun s=>tB (l:=f.fin) (by omega) label s
 have rr:i<p.procs.length:=(zac.1 hf).1
 generalize hI:Sm.iE (i:Int) 0 (-1) 0 f.body=I at *
 have hIl:I.length≤900000:=by rw[← kj,zaw]at Nn;exact Nn
 obtain⟨R,hR⟩ : ∃ R,jb f.fin label (Sm.cZ f.body)=R:=⟨_,rfl⟩
 rw[hR]
 rw[← kj]at hR
 unfold S0
 refine az.go Eh.h rfl fun B Q hB hQ=>?_
 have⟨hD,hY,hZ,gC⟩:=bb
 repeat' (first
 |simp only[go_sem,hD,hY,hZ,gC]
 |(with_reducible refine CU (C7 _) ?_)
 |(with_reducible refine ax hQ ?_;exact aB))
 refine di 0 0 (aN.ind (ι:=List Im×Nat) (fun j=>I.drop j.2=j.1∧jb f.fin label (j.1.map Im.s)=R) (fun j=>j.1.length)
  (fun j=> [(0, .dO (fU p) 0),(1, .int .i64 (i:Int)),(2, .str label),(12, .slice .shared 17 (I.map dK)),(13, .int .i64 (I.length:Int)),(14, .int .i64 (j.2:Int))]) (fun j=>⟨[],[]⟩) ?_ (I,0) ⟨rfl,hR⟩)
 clear hR
 rintro⟨rest,k⟩ ⟨h1,h2⟩ IH
 dsimp only at h1 h2
 cases rest with
 | nil=>
  have hD:=drop_nil h1
  simp only[zai,jb]at h2
  rcases zaa (dS f.fin label)with c1|c1
  ·simp only [c1,if_true]at h2
   subst h2
   repeat' (first
 |simp only[go_sem,hD,hY,hZ,gC,qK,hf,c1]
 |(with_reducible refine CU (rW _) ?_)
 | (with_reducible refine ax hQ ?_;exact aB))
  ·simp only [c1,zab,if_false]at h2
   subst h2
   repeat' (first
 |simp only[go_sem,hD,hY,hZ,gC,qK,hf,c1]
 |(with_reducible refine CU (rW _) ?_)
 |(with_reducible refine ax hQ ?_;exact aB))
 | cons a rest=>
  obtain⟨hY,g2,hD,g4⟩:=drop_cons h1
  have aZ:k<4611686018427387904:=by omega
  have xk:a.s∈Sm.cZ f.body:=by rw[← kj];exact za1 (zad hY)
  have ko:=fun s=>tB (l:=a.s.labels) (by have:=Nl ho oP xk;omega) label s
  simp only[zaf,jb]at h2
  rcases zaa (dS a.s.labels label)with c1|c1
  ·simp only [c1,if_true]at h2
   subst h2
   repeat' (first
 |simp only[go_sem,hD,hY,hZ,gC,c1]
 |(with_reducible refine CU (ko _) ?_)
 | (with_reducible refine ax hQ ?_;exact aB))
  ·simp only [c1,zab,if_false]at h2
   repeat' (first
 |simp only[go_sem,hD,hY,hZ,gC,c1]
 |(with_reducible refine CU (ko _) ?_)
 | (with_reducible refine ax hQ ?_;exact aB))
   refine cv 0 0 ?_ ?_ (IH (rest,k+1) ⟨g2,h2⟩ (zae _))
   ·(simp only[go_sem,hD,hY,hZ,gC,aw aZ];try exact aU)
   ·(simp only[go_sem,hD,hY,hZ,gC,aw aZ];try exact aU)
theorem ac0 {p:Pg} (ho:p.gu) (hb:p.may=true) {i:Nat} {f:Pc} (hf:p.procs[i]? = some f) (m:Im) (hm:m.proc=(i:Int)) (s:St) :
 az Tryz.prog 135 [.dO (fU p) 0, .agg (dK m)] s (.bool (oy f.labels m.s m.loop)) s:=by
 refine az.pure ?_ (by simp[D.bM,D.ok,vQ,SM]) rfl s
 have gE:=fun s=>agb ho hb hf m.s.name s
 have agd:=Dk f.fin m.s.name (Sm.cZ f.body)
 rw[← hm]at gE
 obtain⟨A,hA⟩ : ∃ A,jb f.fin m.s.name (Sm.cZ f.body)=A:=⟨_,rfl⟩
 rw[hA]at gE agd
 obtain⟨R,hR⟩ : ∃ R,oy f.labels m.s m.loop=R:=⟨_,rfl⟩
 rw[hR]
 unfold oy Pc.labels at hR
 unfold S0
 rcases zaa (m.s.kind==7)with c1|c1
 ·simp only [c1,zbj,if_true]at hR
  subst hR
  refine az.go rf.h rfl fun B Q hB hQ=>?_
  have⟨hD,hY,hZ,gC⟩:=bb
  repeat' (first
 |simp only[go_sem,hD,hY,hZ,gC,c1]
 |(with_reducible refine ax hQ ?_;exact aB))
 rcases zaa (m.s.kind==8)with c2|c2
 ·simp only [c1,c2,zbI,if_true]at hR
  subst hR
  refine az.go rf.h rfl fun B Q hB hQ=>?_
  have⟨hD,hY,hZ,gC⟩:=bb
  repeat' (first
 |simp only[go_sem,hD,hY,hZ,gC,c1,c2]
 |(with_reducible refine ax hQ ?_;exact aB))
 rcases zaa (m.s.kind==10)with c3|c3
 ·simp only [c1,c2,c3,Bool.or_self,zab,if_false,if_true, ← agd]at hR
  subst hR
  refine az.go rf.h rfl fun B Q hB hQ=>?_
  have⟨hD,hY,hZ,gC⟩:=bb
  repeat' (first
 |simp only[go_sem,hD,hY,hZ,gC,c1,c2,c3]
 |(with_reducible refine CU (gE _) ?_)
 |(with_reducible refine ax hQ ?_;exact aB))
 ·simp only [c1,c2,c3,Bool.or_self,zab,if_false]at hR
  subst hR
  refine az.go rf.h rfl fun B Q hB hQ=>?_
  have⟨hD,hY,hZ,gC⟩:=bb
  repeat' (first
 |simp only[go_sem,hD,hY,hZ,gC,c1,c2,c3]
 |(with_reducible refine ax hQ ?_;exact aB))
end Go.Abs
namespace Go.Abs
def mh (x:Int):Int:=IntKind.wrap .i64 x
def nZ (b:Bool):Int:=if b then 1 else 0
def Bh (op a:Int):Int×Bool:=if op==3 then(mh (0 - a),true)else if op==4 then(nZ (a==0),true)else(0,false)
def FC (op a b:Int):Int×Bool:=
 if b==0 then(0,false)
 else if b == -1 then if op==7 then(0,true)else if a == -9223372036854775808 then(a,true)else(mh (0 - a),true)
 else if op==7 then(a.tmod b,true)else(mh (a.tdiv b),true)
def Bi (op a b:Int):Int×Bool:=
 if op==10 then(nZ (decide (a<b)),true)else if op==11 then(nZ (decide (a≤b)),true)else if op==12 then(nZ (decide (a > b)),true)
 else if op==13 then(nZ (decide (a≥b)),true)else if op==14 then(nZ (a==b),true)else if op==15 then(nZ (!(a==b)),true)else(0,false)
def uE (op a b:Int):Int×Bool:=
 if op==8 then(mh (a+b),true)else if op==9 then(mh (a - b),true)else if op==5 then(mh (a*b),true)
 else if op==6 ||op==7 then FC op a b
 else if op==16 then(nZ (!(a==0) && !(b==0)),true)else if op==17 then(nZ (!(a==0) || !(b==0)),true)
 else Bi op a b
def yv (name:aF) (names:List aF) (bu:List Int):Int:=if fS name 0 names≥0 then bu.getD (fS name 0 names).toNat 0 else 0
def wI (op:Int):List (Int×Bool)→Int×Bool
 | []=>(0,false)
 | [a]=>if a.2 then Bh op a.1 else(0,false)
 |a::b::_=>if !a.2 then(0,false)else if op==16 && a.1==0 then(0,true)else if op==17 && !(a.1==0)then(1,true)else if !b.2 then(0,false)else uE op a.1 b.1
mutual
def Ex.val (names:List aF) (bu:List Int):Ex→Int×Bool
 |⟨op,n,name,kids⟩=>if op==1 then(n,true)else if op==2 then(yv name names bu,true)else wI op (Ex.S3 names bu kids)
def Ex.S3 (names:List aF) (bu:List Int):List Ex→List (Int×Bool)
 | []=> []
 |x::l=>x.val names bu::Ex.S3 names bu l
end
def Ex.bA (x:Ex) (names:List aF) (bu:List Int):Int×Bool:=if x.may then x.val names bu else(0,false)
structure Fr where
 proc:Int
 names:List aF
 vars:List Nat
 call:Int
structure Mc where
 st:List Fr
 mem:List Int
 fin:Int
 steps:Int
 reads:Int
 out:List Int
 trace:List (Int×List Int)
def Mc.event (W:List Int) (m:Mc) (id:Int) (bu:List Int):Mc:=if W.contains id then {m with trace:=m.trace++ [(id,bu)]}else m
def Mc.top (m:Mc):Fr:=m.st.headD ⟨0,[],[],0⟩
def Mc.bu (m:Mc):List Int:=m.top.vars.map fun c=>m.mem.getD c 0
def Mc.cell (m:Mc) (name:aF):Nat:=m.top.vars.getD (fS name 0 m.top.names).toNat 0
def Mc.set (m:Mc) (name:aF) (v:Int):Mc:= {m with mem:=m.mem.set (m.cell name) v}
def Mc.bA (m:Mc) (x:Ex):(Int×Bool)×Mc:=
 let r:=x.bA m.top.names m.bu
 (r,if r.2 then m else {m with fin:=4})
def Mc.open (p:Pg) (m:Mc) (i:Int) (params:List Nat) (call:Int):Int×Mc:=
 match p.procs[i.toNat]? with
 |none=>(-1,m)
 |some f=>(eD f.body (-1),{m with st:=⟨i,p.globals++f.own,List.range p.globals.length++params++(List.range f.vars.length).map (m.mem.length + ·),call⟩::m.st,mem:=m.mem++List.replicate f.vars.length 0})
def ff (L:List Im) (id:Int):Im:=L.getD (id - 1).toNat ⟨Mk,0,0,0,0⟩
def Mc.close (L:List Im) (m:Mc) (n6:Int):Int×Mc:=
 let call:=m.top.call
 let m:= {m with st:=m.st.tail}
 if call==0 then(-1,{m with fin:=1})
 else
  let it:=ff L call
  (it.next,if it.s.name == []then m else m.set it.s.name n6)
def Mc.fA (W:List Int) (m:Mc) (s:Sm):Int×Mc:=
 if s.has then
  let r:=m.bA s.x
  (r.1.1,if r.1.2 then r.2.event W s.id [r.1.1]else r.2)
 else(0,m.event W s.id [])
def Mc.args:List Ar→Mc→List Nat→Option (List Nat)×Mc
 | [],m,out=>(some out,m)
 | a::l,m,out=>
  if a.ref then Mc.args l m (out++ [m.cell a.name])
  else
   let r:=m.bA a.x
   if r.1.2 then Mc.args l {r.2 with mem:=r.2.mem++ [r.1.1]} (out++ [r.2.mem.length])else(none,r.2)
def Mc.call (p:Pg) (W:List Int) (m:Mc) (s:Sm):Int×Mc:=
 match Mc.args s.args m []with
 |(none,m)=>(-1,m)
 |(some l,m)=>if m.st.length > 100 then(-1,{m with fin:=5})else(m.event W s.id []).open p (p.at s.proc) l s.id
def firstM (l:List Sm) (other:Int):Int:=eD l other
def Mc.do (p:Pg) (L:List Im) (tape W:List Int) (m:Mc) (it:Im):Int×Mc:=
 let s:=it.s
 if s.kind==7 then((ff L it.loop).next,m.event W s.id [])
 else if s.kind==8 then(it.loop,m.event W s.id [])
 else if s.kind==10 then((match p.procs[it.proc.toNat]? with|some f=>(jb f.fin s.name (Sm.cZ f.body)).1|none=>0),m.event W s.id [])
 else if s.kind==2 then
  match tape[m.reads.toNat]? with
  |none=>(-1,{m with fin:=3})
  |some n=>(it.next,(({m with reads:=m.reads+1} : Mc).set s.name n).event W s.id [n])
 else
  let r:=m.bA s.x
  if r.1.2 then
   let m:=r.2.event W s.id [r.1.1]
   let n:=r.1.1
   if s.kind==1 then(it.next,m.set s.name n)
   else if s.kind==3 then(it.next,{m with out:=m.out++ [n]})
   else if s.kind==5 then(if n==0 then firstM s.aK it.next else firstM s.a8 it.next,m)
   else if s.kind==6 then(if n==0 then it.next else firstM s.a8 s.id,m)
   else(it.next,m)
  else(-1,r.2)
def Mc.back (L:List Im) (m:Mc) (n6:Int):Option Int×Mc:=
 let r:=m.close L n6
 (if r.2.fin==0 then some r.1 else none,r.2)
def Mc.next (p:Pg) (L:List Im) (tape W:List Int) (fuel:Int) (at_:Int) (m:Mc):Option Int×Mc:=
 if at_ == -1 then m.back L 0
 else if m.steps==fuel then(none,{m with fin:=2})
 else
  let m:= {m with steps:=m.steps+1}
  let it:=ff L at_
  if it.s.kind==4 then
   let r:=m.call p W it.s
   (if r.2.fin==0 then some r.1 else none,r.2)
  else if it.s.kind==9 then
   let r:=m.fA W it.s
   if r.2.fin==0 then r.2.back L r.1 else(none,r.2)
  else
   let r:=m.do p L tape W it
   (if r.2.fin==0 then some r.1 else none,r.2)
def Mc.go (p:Pg) (L:List Im) (tape W:List Int) (fuel:Int):Nat→Int→Mc→Option Mc
 | 0,_,_=>none
 |N+1,at_,m=>
  match m.next p L tape W fuel at_ with
  |(none,m)=>some m
  |(some a,m)=>Mc.go p L tape W fuel N a m
def gJ (p:Pg):Mc:=⟨[],List.replicate p.globals.length 0,0,0,0,[],[]⟩
def runM (p:Pg) (tape W:List Int) (fuel:Int):Option Mc:=
 let r:=(gJ p).open p (p.at iR) [] 0
 Mc.go p p.aR.L tape W fuel (2*fuel.toNat+3) r.1 r.2
theorem dL (W:List Int) (m:Mc) (id:Int) (bu:List Int):(m.event W id bu).st=m.st∧(m.event W id bu).mem=m.mem∧(m.event W id bu).fin=m.fin∧(m.event W id bu).steps=m.steps∧(m.event W id bu).reads=m.reads∧(m.event W id bu).out=m.out:=by
 unfold Mc.event;split<;>exact⟨rfl,rfl,rfl,rfl,rfl,rfl⟩
theorem gL (m:Mc) (x:Ex):(m.bA x).2.st=m.st∧(m.bA x).2.mem=m.mem∧(m.bA x).2.steps=m.steps∧(m.bA x).2.reads=m.reads∧(m.bA x).2.out=m.out∧(m.bA x).2.trace=m.trace:=by
 unfold Mc.bA;dsimp only;split<;>exact⟨rfl,rfl,rfl,rfl,rfl,rfl⟩
theorem Am : ∀ (l:List Ar) (m:Mc) (out:List Nat),(Mc.args l m out).2.st=m.st∧(Mc.args l m out).2.steps=m.steps
 | [],m,out=>⟨rfl,rfl⟩
 | a::l,m,out=>by
  simp only[Mc.args]
  split
  ·exact Am l m _
  ·have h:=gL m a.x
   split
   ·have:=Am l {(m.bA a.x).2 with mem:=(m.bA a.x).2.mem++ [(m.bA a.x).1.1]} (out++ [(m.bA a.x).2.mem.length])
    exact⟨this.1.trans h.1,this.2.trans h.2.2.1⟩
   ·exact⟨h.1,h.2.2.1⟩
theorem D3 (p:Pg) (m:Mc) (i:Int) (l:List Nat) (c:Int):(m.open p i l c).2.st.length≤m.st.length+1∧(m.open p i l c).2.steps=m.steps:=by
 unfold Mc.open;split
 ·exact⟨Nat.le_succ _,rfl⟩
 ·exact⟨zal _,rfl⟩
theorem ac1 (p:Pg) (W:List Int) (m:Mc) (s:Sm):(m.call p W s).2.st.length≤m.st.length+1∧(m.call p W s).2.steps=m.steps:=by
 have h:=Am s.args m []
 unfold Mc.call
 generalize Mc.args s.args m [] = r at *
 obtain⟨o,m1⟩:=r
 dsimp only at h
 cases o with
 |none=>dsimp only;rw[h.1,h.2];exact⟨Nat.le_succ _,rfl⟩
 | some l=>
  dsimp only
  split
  ·dsimp only;rw[h.1,h.2];exact⟨Nat.le_succ _,rfl⟩
  ·have h2:=D3 p (m1.event W s.id []) (p.at s.proc) l s.id
   rw[(dL ..).1,(dL ..).2.2.2.1,h.1,h.2]at h2
   exact h2
theorem FD (W:List Int) (m:Mc) (s:Sm):(m.fA W s).2.st=m.st∧(m.fA W s).2.steps=m.steps:=by
 have h:=gL m s.x
 unfold Mc.fA
 dsimp only
 split
 ·split
  ·exact⟨(dL ..).1.trans h.1,(dL ..).2.2.2.1.trans h.2.2.1⟩
  ·exact⟨h.1,h.2.2.1⟩
 ·exact⟨(dL ..).1,(dL ..).2.2.2.1⟩
theorem S4 (p:Pg) (L:List Im) (tape W:List Int) (m:Mc) (it:Im):(m.do p L tape W it).2.st=m.st∧(m.do p L tape W it).2.steps=m.steps:=by
 have h:=gL m it.s.x
 have e:=fun(m:Mc) id bu=>(⟨(dL W m id bu).1,(dL W m id bu).2.2.2.1⟩:(m.event W id bu).st=m.st∧(m.event W id bu).steps=m.steps)
 unfold Mc.do
 dsimp only
 repeat' split
 all_goals first
  |exact e ..
  |exact⟨rfl,rfl⟩
  |exact⟨(e ..).1.trans h.1,(e ..).2.trans h.2.2.1⟩
  |exact⟨h.1,h.2.2.1⟩
theorem Y8 (L:List Im) (m:Mc) (g:Int):(m.close L g).2.st=m.st.tail∧(m.close L g).2.steps=m.steps∧(m.st = []→(m.close L g).2.fin=1):=by
 unfold Mc.close
 dsimp only
 split
 ·exact⟨rfl,rfl,fun _=>rfl⟩
 ·rename_i hc
  refine⟨by split<;>rfl,by split<;>rfl,fun e=>absurd ?_ hc⟩
  simp[Mc.top,e]
theorem back_eq {L:List Im} {m:Mc} {g:Int} {a:Int} {m':Mc} (h:m.back L g=(some a,m')):m'.st.length<m.st.length∧m'.steps=m.steps:=by
 obtain⟨h1,h2,h3⟩:=Y8 L m g
 unfold Mc.back at h
 dsimp only at h
 split at h
 ·rename_i hf
  simp only[Prod.mk.injEq]at h
  rw[← h.2]
  refine⟨?_,h2⟩
  rw[h1,List.length_tail]
  cases e:m.st with
  |nil=>rw[h3 e]at hf;cases hf
  |cons x l=>simp
 ·simp at h
theorem ac2 {p:Pg} {L:List Im} {tape W:List Int} {fuel a a':Int} {m m':Mc} (hs:m.steps≤fuel) (h:m.next p L tape W fuel a=(some a',m')) :
 m'.steps≤fuel∧2*(fuel - m'.steps)+m'.st.length<2*(fuel - m.steps)+m.st.length:=by
 unfold Mc.next at h
 split at h
 ·have:=back_eq h;omega
 split at h
 ·simp at h
 rename_i eO
 have hD:m.steps<fuel:=by(have:m.steps≠fuel:=by simpa using eO);omega
 dsimp only at h
 split at h
 ·have h1:=ac1 p W {m with steps:=m.steps+1} (ff L a).s
  simp only[Prod.mk.injEq]at h
  rw[← h.2]
  dsimp only at h1
  omega
 split at h
 ·have h1:=FD W {m with steps:=m.steps+1} (ff L a).s
  dsimp only at h1
  split at h
  ·have h2:=back_eq h
   rw[h1.1,h1.2]at h2
   omega
  ·simp at h
 ·have h1:=S4 p L tape W {m with steps:=m.steps+1} (ff L a)
  simp only[Prod.mk.injEq]at h
  rw[← h.2,h1.1,h1.2]
  dsimp only
  omega
theorem PS (p:Pg) (L:List Im) (tape W:List Int) (fuel:Int) : ∀ (N:Nat) (a:Int) (m:Mc),m.steps≤fuel→2*(fuel - m.steps)+m.st.length<N→∃ m',Mc.go p L tape W fuel N a m=some m'
 | 0,_,_,_,h=>by omega
 | N+1,a,m,hs,h=>by
  simp only[Mc.go]
  cases e:m.next p L tape W fuel a with
  | mk o m1=>
   cases o with
   |none=>exact⟨m1,rfl⟩
   |some a1=>
    have:=ac2 hs e
    exact PS p L tape W fuel N a1 m1 this.1 (by omega)
theorem Dm (p:Pg) (tape W:List Int) {fuel:Int} (h:0≤fuel) : ∃ m,runM p tape W fuel=some m:=by
 unfold runM
 have h1:=D3 p (gJ p) (p.at iR) [] 0
 have e1:(gJ p).st.length=0:=rfl
 have e2:(gJ p).steps=0:=rfl
 rw[e1,e2]at h1
 exact PS p _ tape W fuel _ _ _ (by rw[h1.2];exact h) (by rw[h1.2];omega)
structure Grow (m m':Mc):Prop where
 trace : ∃ t,m'.trace=m.trace++t
 out : ∃ t,m'.out=m.out++t
 reads:m.reads≤m'.reads
 steps:m.steps≤m'.steps
def Dn (L:List Im) (a:Int):Prop:=a = -1∨(1≤a∧a≤(L.length:Int))
theorem Bj {L:List Im} {a:Int} (h:Dn L a) (hn:a≠ -1):ff L a∈L:=by
 rcases h with h|⟨h1,h2⟩
 ·exact absurd h hn
 ·unfold ff
  rw[zay,zah (show(a - 1).toNat<L.length by omega)]
  exact List.getElem_mem _
structure LOk (p:Pg) (L:List Im):Prop where
 id : ∀ x∈L,1≤x.s.id∧x.s.id≤(L.length:Int)
 next : ∀ x∈L,Dn L x.next
 loop : ∀ x∈L,x.s.kind=7∨x.s.kind=8→1≤x.loop∧x.loop≤(L.length:Int)
 S5 : ∀ x∈L,x.s.kind=10→∃ f,p.procs[x.proc.toNat]? = some f∧Dn L (jb f.fin x.s.name (Sm.cZ f.body)).1
 a8 : ∀ x∈L,Dn L (eD x.s.a8 (-1))
 aK : ∀ x∈L,Dn L (eD x.s.aK (-1))
 lF : ∀ f∈p.procs,Dn L (eD f.body (-1))
def age (L:List Im) (m:Mc):Prop:=∀ fr∈m.st,fr.call=0∨(1≤fr.call∧fr.call≤(L.length:Int))
def Told (L:List Im) (r:Option Int×Mc):Prop:=
 match r.1 with
 |some a=>Dn L a∧age L r.2∧r.2.fin=0∧(r.2.trace.length:Int)=r.2.steps
 |none=>((r.2.fin=1∨r.2.fin=2)∧(r.2.trace.length:Int)=r.2.steps)∨((r.2.fin=3∨r.2.fin=4∨r.2.fin=5)∧(r.2.trace.length:Int)+1=r.2.steps)
theorem V1 (m:Mc) (x:Ex) (h:m.fin=0):((m.bA x).1.2=true→(m.bA x).2.fin=0)∧((m.bA x).1.2=false→(m.bA x).2.fin=4):=by
 unfold Mc.bA
 dsimp only
 constructor
 ·intro e;rw[if_pos e];exact h
 ·intro e;rw[e];rfl
theorem FE : ∀ (l:List Ar) (m:Mc) (out:List Nat),m.fin=0→(Mc.args l m out).2.trace=m.trace∧(match (Mc.args l m out).1 with|some _=>(Mc.args l m out).2.fin=0|none=>(Mc.args l m out).2.fin=4)
 | [],m,out,h=>⟨rfl,h⟩
 | a::l,m,out,h=>by
  have hw:=V1 m a.x h
  have he:=gL m a.x
  simp only[Mc.args]
  by_cases c:a.ref=true
  ·rw[if_pos c];exact FE l m _ h
  ·rw [if_neg c]
   by_cases c2:(m.bA a.x).1.2=true
   ·rw [if_pos c2]
    obtain⟨h1,h2⟩:=FE l {(m.bA a.x).2 with mem:=(m.bA a.x).2.mem++ [(m.bA a.x).1.1]} (out++ [(m.bA a.x).2.mem.length]) (hw.1 c2)
    exact⟨h1.trans he.2.2.2.2.2,h2⟩
   ·rw [if_neg c2]
    exact⟨he.2.2.2.2.2,hw.2 (by simpa using c2)⟩
def aq2 (L:List Im) (r:Int×Mc):Prop:=
 (r.2.fin=0∧Dn L r.1∧age L r.2∧(r.2.trace.length:Int)=r.2.steps)∨((r.2.fin=3∨r.2.fin=4∨r.2.fin=5)∧(r.2.trace.length:Int)+1=r.2.steps)
def aq3 (m:Mc):Prop:=((m.fin=1∨m.fin=2)∧(m.trace.length:Int)=m.steps)∨((m.fin=3∨m.fin=4∨m.fin=5)∧(m.trace.length:Int)+1=m.steps)
def EP (a b t:aF):aF:=if t==a then b else if t==b then a else t
mutual
def Ex.swap (a b:aF):Ex→Ex
 |⟨op,n,name,kids⟩=>⟨op,n,EP a b name,Ex.Bk a b kids⟩
def Ex.Bk (a b:aF):List Ex→List Ex
 | []=> []
 |x::l=>x.swap a b::Ex.Bk a b l
end
def Ar.swap (a b:aF) (x:Ar):Ar:=⟨x.ref,EP a b x.name,x.x.swap a b⟩
mutual
def Sm.swap (a b:aF):Sm→Sm
 |⟨id,kind,labels,name,proc,x,has,args,a8,aK⟩=>⟨id,kind,labels.map (EP a b),EP a b name,EP a b proc,x.swap a b,has,args.map (Ar.swap a b),Sm.Bk a b a8,Sm.Bk a b aK⟩
def Sm.Bk (a b:aF):List Sm→List Sm
 | []=> []
 |s::l=>s.swap a b::Sm.Bk a b l
end
def Pm.swap (a b:aF) (x:Pm):Pm:=⟨EP a b x.name,x.ref⟩
def Pc.swap (a b:aF) (f:Pc):Pc:=⟨EP a b f.name,f.params.map (Pm.swap a b),f.vars.map (EP a b),Sm.Bk a b f.body,f.fin.map (EP a b)⟩
def Pg.swap (a b:aF) (p:Pg):Pg:=⟨p.globals.map (EP a b),p.procs.map (Pc.swap a b)⟩
def It.swap (a b:aF) (i:It):It:=⟨i.s.swap a b,i.deep,i.a7,i.aK⟩
def aa2:List Sm→List aF
 | []=> []
 |v::l=>v.said++aa2 l
def ajD (p:Pg):List aF→List aF
 | []=> []
 |n::l=>aa2 (rX p n)++ajD p l
set_option maxRecDepth 8000
open Go.Proofs
def oU (nm:aF) (T:List aF) (seen:List aF):List Ar→Bool
 | []=>true
 |a::l=>if a.ref then(if dS seen a.name ||(a.name==nm ||dS T a.name)then false else oU nm T (seen++ [a.name]) l)else oU nm T seen l
def J9 (T:List aF) (seen:List aF):List Ar→Bool
 | []=>true
 |a::l=>if a.ref then(if dS seen a.name ||dS T a.name then false else J9 T (seen++ [a.name]) l)else J9 T seen l
def Sm.agf (v:Sm):List aF:=if v.name != []then [v.name]else []
theorem Ka {nm:aF} {T:List aF} : ∀ (l:List Ar) (seen:List aF),(∀ a∈l,a.ref=true→a.name≠ [])→
 oU nm T seen l=J9 T ((if nm != []then [nm]else [])++seen) l
 | [],seen,_=>rfl
 | a::l,seen,h=>by
  have ih:=fun seen=>Ka (nm:=nm) (T:=T) l seen fun b m=>h b (zan _ m)
  simp only[oU,J9,ih]
  cases hr:a.ref with
  |false=>rfl
  | true=>
   have hn:=h a (zaA ..) hr
   have:dS ((if nm != []then [nm]else [])++seen) a.name=(dS seen a.name ||a.name==nm):=by
    rw[Bool.eq_iff_iff,gK,zaC,gK,zaq,beq_iff_eq]
    cases hb:(nm != [])
    ·have:nm = []:=by simpa using hb
     subst this
     simp[hn]
    ·simp only [if_true,zaG]
     exact Or.comm
   simp only[if_true,this,Bool.or_assoc,zaB]
theorem Y9 {v:Sm} (qk:v.args.length<1000000000) {T:List aF} (hT:T.length<4611686018427387904) (s:St) :
 az Tryz.prog 137 [.agg (aY v), .slice .shared 1 (T.map encStr)] s (.bool (oU v.name T [] v.args)) s:=by
 refine az.pure ?_ (by simp[D.bM,D.ok,qe,Tag.ok,dz]) rfl s
 generalize hR:oU v.name T [] v.args=R
 have hcT:=fun x s=>tB hT x s
 unfold S0
 refine az.go Fp.h rfl fun B Q hB hQ=>?_
 have⟨hD,hY,hZ,gC⟩:=bb
 repeat' (first
 |simp only[go_sem,hD,hY,hZ,gC]
 |(with_reducible refine ax hQ ?_;exact aB))
 refine aN.ln 5 1 rfl ?_
 simp only[go_sem,hD,hY,hZ,gC]
 refine di 1 1 (aN.ind (ι:=List Ar×Nat×List aF×Nat) (fun i=>v.args.drop i.2.1=i.1∧oU v.name T i.2.2.1 i.1=R∧i.2.2.1.length≤i.2.1∧i.2.2.2=i.2.2.1.length) (fun i=>i.1.length)
  (fun i=> [(1, .slice .shared 1 (T.map encStr)),(2, .ptr 0 0),(5, .slice (.tok 0) 1 (i.2.2.1.map encStr)),(9, .slice .shared 6 (v.args.map dE)),(10, .int .i64 (v.args.length:Int)),(11, .int .i64 (i.2.1:Int))]) (fun i=>⟨[aY v],[some i.2.2.2]⟩) ?_ (v.args,0,[],0) ⟨rfl,hR,zal _,rfl⟩)
 clear hR
 rintro⟨rest,k,seen,n'⟩ ⟨h1,h2,h3,h4⟩ IH
 dsimp only at h1 h2 h3 h4
 subst h4
 cases rest with
 |nil=>
  have hD:=drop_nil h1
  simp only[oU]at h2
  subst h2
  repeat' (first
 |simp only[go_sem,hD,hY,hZ,gC]
 |(with_reducible refine ax hQ ?_;exact aB))
 | cons a rest=>
  obtain⟨hY,g2,hD,g4⟩:=drop_cons h1
  have aZ:k<4611686018427387904:=by omega
  have hZ:(seen.length+1)*17≤aV:=by unfold aV;omega
  have kz:=fun g s=>kF (l:=seen) (by omega) a.name g s
  simp only[oU]at h2
  rcases zaa a.ref with c1|c1
  case inr=>
   simp only[c1,zab,if_false]at h2
   repeat' (first
 |simp only[go_sem,hD,hY,hZ,gC,c1,zax]
 | (with_reducible refine ax hQ ?_;exact aB))
   refine cv 1 1 ?_ ?_ (IH (rest,k+1,seen,_) ⟨g2,h2,by dsimp only;omega,rfl⟩ (zae _))
   ·(simp only[go_sem,hD,hY,hZ,gC,aw aZ];try exact aU)
   ·(simp only[go_sem,hD,hY,hZ,gC,aw aZ];try exact aU)
  simp only[c1,if_true]at h2
  rcases zaa (dS seen a.name)with c2|c2
  ·simp only [c2,zbj,if_true]at h2
   subst h2
   repeat' (first
 |simp only[go_sem,hD,hY,hZ,gC,c1,c2,zau]
 |(with_reducible refine CU (kz _ _) ?_)
 |(with_reducible refine CU (hcT _ _) ?_)
 | (with_reducible refine ax hQ ?_;exact aB))
  rcases zaa (a.name==v.name)with c3|c3
  ·simp only [c2,c3,zbg,zbj,if_true]at h2
   subst h2
   repeat' (first
 |simp only[go_sem,hD,hY,hZ,gC,c1,c2,c3,zau]
 |(with_reducible refine CU (kz _ _) ?_)
 |(with_reducible refine CU (hcT _ _) ?_)
 | (with_reducible refine ax hQ ?_;exact aB))
  rcases zaa (dS T a.name)with c4|c4
  ·simp only [c2,c3,c4,zbg,if_true]at h2
   subst h2
   repeat' (first
 |simp only[go_sem,hD,hY,hZ,gC,c1,c2,c3,c4,zau]
 |(with_reducible refine CU (kz _ _) ?_)
 |(with_reducible refine CU (hcT _ _) ?_)
 | (with_reducible refine ax hQ ?_;exact aB))
  ·simp only [c2,c3,c4,zbg,zab,if_false]at h2
   repeat' (first
 |simp only[go_sem,hD,hY,hZ,gC,c1,c2,c3,c4,zau]
 |(with_reducible refine CU (kz _ _) ?_)
 |(with_reducible refine CU (hcT _ _) ?_)
 | (with_reducible refine ax hQ ?_;exact aB))
   refine cv 1 1 ?_ ?_ (IH (rest,k+1,seen++ [a.name],seen.length+1) ⟨g2,h2,by simp;omega,by simp⟩ (zae _))
   ·(simp only[go_sem,hD,hY,hZ,gC,aw aZ,zag,zaf,zai,encStr];try exact aU)
   ·(simp only[go_sem,hD,hY,hZ,gC,aw aZ,zag,zaf,zai,encStr];try exact aU)
def oV (p:Pg):List Pc→List D
 | []=> []
 |f::l=> .str f.name:: .slice .shared 1 ((p.pX f.name).map encStr)::oV p l
theorem V2 (p:Pg) : ∀ l,D.bM 0 0 (oV p l)=true
 | []=>rfl
 |f::l=>by simp only[oV,D.bM,D.ok,Tag.ok,dz,V2 p l];rfl
theorem ac3 (n m:Nat) (p:Pg) (l:List Pc):D.iz n m (oV p l)=oV p l:=jk n m _ (V2 p l)
attribute [go_sem] ac3
theorem No (p:Pg) : ∀ l m,oV p (l++m)=oV p l++oV p m
 | [],m=>rfl
 |f::l,m=>by simp only[zaR,oV,No p l m]
theorem Np {p:Pg} {nm:aF} {d:D} : ∀ {l:List Pc},nm∉l.map (·.name)→yG nm d (oV p l)=some (oV p l++ [.str nm,d])
 | [],_=>rfl
 |f::l,h=>by
  simp only[zaf,zap,not_or]at h
  have:(f.name==nm)=false:=by simpa using fun e=>h.1 e.symm
  simp only[oV,yG,this,zab,if_false,Np h.2,zaR]
theorem Nq {p:Pg} {nm:aF} {z:D} : ∀ {l:List Pc} {f:Pc},gS nm l=some f→AE nm z (oV p l)=some (.slice .shared 1 ((p.pX nm).map encStr))
 | g::l,f,h=>by
  simp only[gS]at h
  simp only[oV,AE]
  split at h
  ·rename_i e
   rw[if_pos e,eq_of_beq e]
  ·rename_i e
   rw[if_neg e]
   exact Nq h
theorem ac4 (l:List aF) : ∀ (s:List aF),pW s l=false→∀ a x b,l=a++x::b→x∉s++a:=by
 induction l with
 |nil=>intro s _ a x b e;cases a<;>cases e
 | cons y l ih=>
  intro s h a x b e
  simp only[pW]at h
  split at h
  ·cases h
  ·rename_i hy
   cases a with
   |nil=>cases e;simpa[← gK]using hy
   |cons z a=>
    cases e
    have:=ih (s++ [y]) h a x b rfl
    simpa using this
end Go.Abs
namespace Go.Abs
set_option maxRecDepth 8000
open Go.Proofs
theorem FF {p:Pg} (h:(p.arity.1==0)=true):(p.scope.1==0)=true∧∀ v∈p.pre,(v.kind==4)=true→v.lH p=true:=by
 unfold Pg.arity at h
 split at h
 ·rename_i e
  refine⟨e,fun v hv hk=>?_⟩
  have : ∀ l:List Sm,((iS 6 (yn p l)).1==0)=true→∀ v∈l,(v.kind==4)=true→v.lH p=true:=by
   intro l
   induction l with
   |nil=>intro _ v m;cases m
   | cons a l ih=>
    intro h v m hk
    simp only[yn]at h
    split at h
    ·cases h
    ·rename_i c
     rcases zap.1 m with rfl|m
     ·simpa[hk]using c
     ·exact ih h v m hk
  exact this _ h v hv hk
 ·cases h
theorem yw {p:Pg} {v:Sm} (h:v.lH p=true) : ∃ f,p.find v.proc=some f:=by
 unfold Sm.lH at h
 cases e:p.find v.proc with
 |some f=>exact⟨f,rfl⟩
 |none=>rw[e]at h;simp at h
theorem Nr : ∀ {l:List It} {n:Nat} {i:It},It.eU n l=true→i∈l→i.s.one=true
 | j::l,n,i,h,m=>by
  simp only[It.eU]at h
  split at h
  ·cases h
  ·rename_i c
   simp only[zaC,not_or,zaH,zbb]at c
   rcases zap.1 m with rfl|m
   ·exact c.2
   ·exact Nr h m
theorem An {p:Pg} (h:p.may=true) : ∀ v∈p.pre,v.one=true:=fun v m=>by
 rw[← (qP h).2,zaF]at m
 obtain⟨i,hi,rfl⟩:=m
 exact Nr (wM h).2 hi
theorem Ns {v:Sm} (h:v.one=true):Ar.eU v.args=true:=by
 unfold Sm.one at h
 repeat' (split at h)
 all_goals first|(cases h;done)|(rename_i c;simpa using c)|skip
theorem FG : ∀ {l:List Ar},Ar.eU l=true→∀ a∈l,a.may=true
 | b::l,h,a,m=>by
  simp only[Ar.eU]at h
  split at h
  ·cases h
  ·rename_i c
   rcases zap.1 m with rfl|m
   ·simpa using c
   ·exact FG h a m
theorem Za {v:Sm} (h:v.one=true) : ∀ a∈v.args,a.ref=true→a.name≠ []:=fun a m hr=>by
 have:=FG (Ns h) a m
 unfold Ar.may at this
 rw[if_pos hr]at this
 intro e
 rw[e]at this
 simp[isName]at this
def Sm.uF (p:Pg) (v:Sm):Bool:=oU v.name (p.pX v.proc) [] v.args
def Hh (p:Pg):List Sm→Option Sm
 | []=>none
 |v::l=>if v.kind==4 && !(v.uF p)then some v else Hh p l
def Pg.alias (p:Pg):Int×Int:=if p.arity.1==0 then iS 8 (Hh p p.pre)else(1,0)
theorem Dp {p:Pg} (h:p.gu) (nm:aF):(p.pX nm).length<4611686018427387904:=by
 unfold Pg.pX
 cases hs:p.yX nm with
 |none=>dsimp only;decide
 |some f=>
  obtain⟨ki,hf⟩:=J6 hs
  have h1:=(FA ki hf).len
  have h2:=h.procs
  have h3:=(uC h (iT (p.work nm)) []).2
  have h4:(iT (p.work nm)).length*1800000≤900000*1800000:=zaO _ (by omega)
  have h5:(iT (p.nY nm)).length≤(p.nY nm).length:=yo _ _ (tG (mg _).1) fun x m=>((mg _).2 x).1 m
  dsimp only
  unfold Pg.nY at *
  simp only[zaD]at h3
  omega
theorem Hi {v:Sm} (hv:v.lP):v.args.length<1000000000:=by have:=Ar.dI v.args;have:=hv.2.2;omega
theorem V3 {p:Pg} (h:p.gu) (s:St):az Tryz.prog 98 [.agg (bS p)] s (.agg [.int .i64 p.alias.1, .int .i64 p.alias.2]) s:=by
 refine az.pure ?_ (by simp[D.bM,D.ok,gR]) rfl s
 obtain⟨nB,nF,lG⟩:=h.procs
 have rm:=fun s=>M6 h s
 have du:=fun s=>DT (p:=p) (by omega) s
 have hL:=(pd p).1
 have JW:=qL p
 generalize hR:p.alias=R
 simp only[Pg.alias]at hR
 unfold S0
 have b0:(p.arity.1 != 0) = !(p.arity.1==0):=rfl
 rcases zaa (p.arity.1==0)with b1|b1
 case inr=>
  rw[b1]at b0
  simp only[b1,zab,if_false]at hR
  subst hR
  refine az.go x8.h rfl fun B Q hB hQ=>?_
  have⟨hD,hY,hZ,gC⟩:=bb
  repeat' (first
 |simp only[go_sem,hD,hY,hZ,gC,b0,zax]
 |(with_reducible refine CU (rm _) ?_)
 |(with_reducible refine ax hQ ?_;exact aB))
 rw[b1]at b0
 obtain⟨ki,iB⟩:=FF b1
 have qp:=(Fy ki).2.1
 simp only[b1,if_true, ← hL]at hR
 refine az.go x8.h rfl fun B Q hB hQ=>?_
 have⟨hD,hY,hZ,gC⟩:=bb
 repeat' (first
 |simp only[go_sem,hD,hY,hZ,gC,b0,zau]
 |(with_reducible refine CU (rm _) ?_)
 |(with_reducible refine ax hQ ?_;exact aB))
 refine cv 3 0 ?_ ?_ (aN.ind (ι:=List Pc×Nat×List Pc) (fun i=>p.procs.drop i.2.1=i.1∧p.procs=i.2.2++i.1) (fun i=>i.1.length)
  (fun i=> [(1, .ptr 0 0),(2, .ptr 1 0),(3, .gU 2),(15, .slice .shared 5 (p.procs.map bN)),(16, .int .i64 (p.procs.length:Int)),(17, .int .i64 (i.2.1:Int))]) (fun i=>⟨[bS p,[.int .i64 0, .int .i64 0],oV p i.2.2],[]⟩) ?_ (p.procs,0,[]) ⟨rfl,rfl⟩)
 ·(simp only[go_sem,hD,hY,hZ,gC,oV];try exact aU)
 ·(simp only[go_sem,hD,hY,hZ,gC,oV];try exact aU)
 rintro⟨rest,k,done⟩ ⟨h1,h2⟩ IH
 dsimp only at h1 h2
 cases rest with
 | cons a rest=>
  obtain⟨hY,g2,hD,g4⟩:=drop_cons h1
  have aZ:k<4611686018427387904:=by omega
  have ve:=fun s=>VT h a.name s
  have rU:a.name∉done.map (·.name):=by
   have:=ac4 _ [] qp (done.map (·.name)) a.name (rest.map (·.name)) (by simp[Pg.pn,h2])
   simpa using this
  have hmp:yG a.name (.slice .shared 1 ((p.pX a.name).map encStr)) (oV p done)=some (oV p (done++ [a])):=by
   rw[Np rU,No];rfl
  repeat' (first
 |simp only[go_sem,hD,hY,hZ,gC,hmp]
 |(with_reducible refine CU (ve _) ?_)
 |(with_reducible refine ax hQ ?_;exact aB))
  refine cv 3 0 ?_ ?_ (IH (rest,k+1,done++ [a]) ⟨g2,by rw[h2];simp⟩ (zae _))
  ·(simp only[go_sem,hD,hY,hZ,gC,aw aZ];try exact aU)
  ·(simp only[go_sem,hD,hY,hZ,gC,aw aZ];try exact aU)
 |nil=>
  have hD:=drop_nil h1
  rw[zaI]at h2
  subst h2
  repeat' (first
 |simp only[go_sem,hD,hY,hZ,gC,qK]
 |(with_reducible refine CU (du _) ?_)
 | (with_reducible refine ax hQ ?_;exact aB))
  refine di 3 0 (aN.ind (ι:=List Im×Nat) (fun i=>p.aR.L.drop i.2=i.1∧iS 8 (Hh p (i.1.map Im.s))=R) (fun i=>i.1.length)
   (fun i=> [(1, .ptr 0 0),(2, .ptr 1 0),(3, .gU 2),(33, .slice .shared 17 (p.aR.L.map dK)),(34, .int .i64 (p.aR.L.length:Int)),(35, .int .i64 (i.2:Int))]) (fun i=>⟨[bS p,[.int .i64 0, .int .i64 0],oV p p.procs],[]⟩) ?_ (p.aR.L,0) ⟨rfl,hR⟩)
  clear hR
  rintro⟨rest,k⟩ ⟨h1,hR⟩ IH
  dsimp only at h1 hR
  cases rest with
  |nil=>
   have hD:=drop_nil h1
   simp only[zai,Hh,iS]at hR
   subst hR
   repeat' (first
 |simp only[go_sem,hD,hY,hZ,gC]
 | (with_reducible refine ax hQ ?_;exact aB))
  | cons a rest=>
   obtain⟨hY,g2,hD,g4⟩:=drop_cons h1
   have aZ:k<4611686018427387904:=by omega
   have xk:a.s∈p.pre:=by rw[← hL];exact za1 (zad hY)
   have nz:=fun s=>Y9 (Hi (h.pre _ xk)) (Dp h a.s.proc) s
   simp only[zaf,Hh,Sm.uF]at hR
   rcases zaa (a.s.kind==4)with c1|c1
   ·obtain⟨f,hf⟩:=yw (iB _ xk c1)
    have hmg:=fun z=>Nq (p:=p) (z:=z) hf
    rcases zaa (oU a.s.name (p.pX a.s.proc) [] a.s.args)with c2|c2
    ·simp only [c1,c2,zau,zbt,zab,if_false]at hR
     repeat' (first
 |simp only[go_sem,hD,hY,hZ,gC,c1,c2,hmg]
 |(with_reducible refine CU (nz _) ?_)
 | (with_reducible refine ax hQ ?_;exact aB))
     refine cv 3 0 ?_ ?_ (IH (rest,k+1) ⟨g2,hR⟩ (zae _))
     ·(simp only[go_sem,hD,hY,hZ,gC,aw aZ];try exact aU)
     ·(simp only[go_sem,hD,hY,hZ,gC,aw aZ];try exact aU)
    ·simp only [c1,c2,zax,zbG,if_true,iS]at hR
     subst hR
     repeat' (first
 |simp only[go_sem,hD,hY,hZ,gC,c1,c2,hmg]
 |(with_reducible refine CU (nz _) ?_)
 | (with_reducible refine ax hQ ?_;exact aB))
   ·simp only [c1,zaN,zab,if_false]at hR
    repeat' (first
 |simp only[go_sem,hD,hY,hZ,gC,c1]
 |(with_reducible refine CU (nz _) ?_)
 | (with_reducible refine ax hQ ?_;exact aB))
    refine cv 3 0 ?_ ?_ (IH (rest,k+1) ⟨g2,hR⟩ (zae _))
    ·(simp only[go_sem,hD,hY,hZ,gC,aw aZ];try exact aU)
    ·(simp only[go_sem,hD,hY,hZ,gC,aw aZ];try exact aU)
def Sm.xn (p:Pg) (v:Sm):Bool:=v.lH p && J9 (p.pX v.proc) v.agf v.args
theorem Nt {p:Pg} {v:Sm} (h:v.one=true):v.xn p=(v.lH p && v.uF p):=by
 unfold Sm.xn Sm.uF
 rw[Ka v.args [] (Za h),zaI]
 rfl
theorem Zb {p:Pg} {v:Sm} (h:p.gu) (ki:(p.scope.1==0)=true) (hv:v.lP) (s:St):az Tryz.prog 158 [.agg (bS p), .agg (aY v)] s (.bool (v.xn p)) s:=by
 refine az.pure ?_ (by simp[D.bM,D.ok,gR,qe]) rfl s
 have rW:=fun s=>Hb h hv s
 have qk:=Hi hv
 generalize hR:v.xn p=R
 unfold Sm.xn at hR
 unfold S0
 rcases zaa (v.lH p)with b1|b1
 case inr=>
  simp only[b1,zaN]at hR
  subst hR
  refine az.go q9.h rfl fun B Q hB hQ=>?_
  have⟨hD,hY,hZ,gC⟩:=bb
  repeat' (first
 |simp only[go_sem,hD,hY,hZ,gC,b1,zax]
 |(with_reducible refine CU (rW _) ?_)
 |(with_reducible refine ax hQ ?_;exact aB))
 simp only[b1,zbf]at hR
 obtain⟨f,hf⟩:=yw b1
 have yl:=fun s=>S2 h ki hf s
 obtain⟨T,hT⟩ : ∃ T,T=p.pX v.proc:=⟨_,rfl⟩
 have hTl:T.length<4611686018427387904:=hT ▸ Dp h v.proc
 have hTe:iT (p.nY v.proc)=T:=by
  rw[hT];unfold Pg.pX Pg.yX;rw[if_pos ki];simp only[hf]
 rw[hTe]at yl
 rw[← hT]at hR
 have Zc:=fun x g s=>vR hTl x g s
 refine az.go q9.h rfl fun B Q hB hQ=>?_
 have⟨hD,hY,hZ,gC⟩:=bb
 have agj:=@aN.ind Tryz.prog B 52 (List Ar×Nat×List aF×Nat) Q0P (fX 0 (kA (jJ Tryz.prog B 52 Q0Q Q) Q)) (fun i=>v.args.drop i.2.1=i.1∧J9 T i.2.2.1 i.1=R∧i.2.2.1.length≤i.2.1+1∧i.2.2.2=i.2.2.1.length) (fun i=>i.1.length)
  (fun i=> [(2, .ptr 0 0),(3, .ptr 1 0),(5, .slice (.tok 0) 1 (i.2.2.1.map encStr)),(21, .slice .shared 6 (v.args.map dE)),(22, .int .i64 (v.args.length:Int)),(23, .int .i64 (i.2.1:Int))]) (fun i=>⟨[bS p,aY v],[some i.2.2.2]⟩) (by
   clear hR
   rintro⟨rest,k,seen,n'⟩ ⟨h1,h2,h3,h4⟩ IH
   dsimp only at h1 h2 h3 h4
   subst h4
   cases rest with
   |nil=>
    have hD:=drop_nil h1
    simp only[J9]at h2
    subst h2
    repeat' (first
 |simp only[go_sem,hD,hY,hZ,gC]
 | (with_reducible refine ax hQ ?_;exact aB))
   | cons a rest=>
    obtain⟨hY,g2,hD,g4⟩:=drop_cons h1
    have aZ:k<4611686018427387904:=by omega
    have hZ:(seen.length+1)*17≤aV:=by unfold aV;omega
    have kz:=fun g s=>vR (l:=seen) (by omega) a.name g s
    simp only[J9]at h2
    rcases zaa a.ref with c1|c1
    case inr=>
     simp only[c1,zab,if_false]at h2
     repeat' (first
 |simp only[go_sem,hD,hY,hZ,gC,c1]
 | (with_reducible refine ax hQ ?_;exact aB))
     refine cv 2 1 ?_ ?_ (IH (rest,k+1,seen,_) ⟨g2,h2,by dsimp only;omega,rfl⟩ (zae _))
     ·(simp only[go_sem,hD,hY,hZ,gC,aw aZ];try exact aU)
     ·(simp only[go_sem,hD,hY,hZ,gC,aw aZ];try exact aU)
    simp only[c1,if_true]at h2
    rcases zaa (dS seen a.name)with c2|c2
    ·simp only [c2,zbj,if_true]at h2
     subst h2
     repeat' (first
 |simp only[go_sem,hD,hY,hZ,gC,c1,c2]
 |(with_reducible refine CU (kz _ _) ?_)
 |(with_reducible refine CU (yl _) ?_)
 |(with_reducible refine CU (Zc _ _ _) ?_)
 | (with_reducible refine ax hQ ?_;exact aB))
    rcases zaa (dS T a.name)with c4|c4
    ·simp only [c2,c4,zbg,if_true]at h2
     subst h2
     repeat' (first
 |simp only[go_sem,hD,hY,hZ,gC,c1,c2,c4]
 |(with_reducible refine CU (kz _ _) ?_)
 |(with_reducible refine CU (yl _) ?_)
 |(with_reducible refine CU (Zc _ _ _) ?_)
 | (with_reducible refine ax hQ ?_;exact aB))
    ·simp only [c2,c4,zbg,zab,if_false]at h2
     repeat' (first
 |simp only[go_sem,hD,hY,hZ,gC,c1,c2,c4]
 |(with_reducible refine CU (kz _ _) ?_)
 |(with_reducible refine CU (yl _) ?_)
 |(with_reducible refine CU (Zc _ _ _) ?_)
 |(with_reducible refine ax hQ ?_;exact aB))
     refine cv 2 1 ?_ ?_ (IH (rest,k+1,seen++ [a.name],seen.length+1) ⟨g2,h2,by simp;omega,by simp⟩ (zae _))
     ·(simp only[go_sem,hD,hY,hZ,gC,aw aZ,zag,zaf,zai,encStr];try exact aU)
     ·(simp only[go_sem,hD,hY,hZ,gC,aw aZ,zag,zaf,zai,encStr];repeat' (first|exact Ok.out|with_reducible refine ei ?_ ?_)))
 unfold Sm.agf at hR
 rcases zaa (v.name != [])with b2|b2
 ·simp only [b2,if_true]at hR
  have b3:(v.name == [])=false:=by simpa using b2
  have hZ:17≤aV:=by unfold aV;omega
  repeat' (first
 |simp only[go_sem,hD,hY,hZ,gC,b1,b2,b3,zau]
 |(with_reducible refine CU (rW _) ?_)
 |(with_reducible refine ax hQ ?_;exact aB))
  refine di 2 1 (agj (v.args,0,[v.name],1) ⟨rfl,hR,zal _,rfl⟩)
 ·simp only [b2,zab,if_false]at hR
  have b3:(v.name == [])=true:=by simpa using b2
  repeat' (first
 |simp only[go_sem,hD,hY,hZ,gC,b1,b2,b3,zau]
 |(with_reducible refine CU (rW _) ?_)
 |(with_reducible refine ax hQ ?_;exact aB))
  refine aN.ln 5 1 rfl ?_
  simp only[go_sem,hD,hY,hZ,gC]
  refine di 2 1 (agj (v.args,0,[],0) ⟨rfl,hR,zaz _,rfl⟩)
def ER (p:Pg):List Sm→Option Sm
 | []=>none
 |v::l=>if v.kind==4 && !(v.xn p)then some v else ER p l
theorem agk {p:Pg} (h:p.gu) (ki:(p.scope.1==0)=true) (s:St):az Tryz.prog 119 [.agg (bS p)] s (.agg [.int .i64 (iS 8 (ER p p.pre)).1, .int .i64 (iS 8 (ER p p.pre)).2]) s:=by
 refine az.pure ?_ (by simp[D.bM,D.ok,gR]) rfl s
 obtain⟨nB,nF,lG⟩:=h.procs
 have qk:=fun s=>SP (p:=p) (by omega) s
 have hL:=(qP (nI ki)).2
 have JW:=(wM (nI ki)).1
 generalize hR:iS 8 (ER p p.pre)=R
 rw[← hL]at hR
 unfold S0
 refine az.go Ek.h rfl fun B Q hB hQ=>?_
 have⟨hD,hY,hZ,gC⟩:=bb
 repeat' (first
 |simp only[go_sem,hD,hY,hZ,gC]
 |(with_reducible refine CU (qk _) ?_)
 |(with_reducible refine ax hQ ?_;exact aB))
 refine di 2 0 (aN.ind (ι:=List It×Nat) (fun i=>p.all.drop i.2=i.1∧iS 8 (ER p (i.1.map It.s))=R) (fun i=>i.1.length)
  (fun i=> [(1, .ptr 0 0),(2, .ptr 1 0),(6, .slice .shared 16 (p.all.map dn)),(7, .int .i64 (p.all.length:Int)),(8, .int .i64 (i.2:Int))]) (fun i=>⟨[bS p,[.int .i64 0, .int .i64 0]],[]⟩) ?_ (p.all,0) ⟨rfl,hR⟩)
 clear hR
 rintro⟨rest,k⟩ ⟨h1,hR⟩ IH
 dsimp only at h1 hR
 cases rest with
 |nil=>
  have hD:=drop_nil h1
  simp only[zai,ER,iS]at hR
  subst hR
  repeat' (first
 |simp only[go_sem,hD,hY,hZ,gC]
 |(with_reducible refine ax hQ ?_;exact aB))
 | cons a rest=>
  obtain⟨hY,g2,hD,g4⟩:=drop_cons h1
  have aZ:k<4611686018427387904:=by omega
  have xk:a.s∈p.pre:=by rw[← hL];exact za1 (zad hY)
  have Ag:=fun s=>Zb h ki (h.pre _ xk) s
  simp only[zaf,ER]at hR
  rcases zaa (a.s.kind==4)with c1|c1
  ·rcases zaa (a.s.xn p)with c2 | c2
   ·simp only [c1,c2,zau,zbt,zab,if_false]at hR
    repeat' (first
 |simp only[go_sem,hD,hY,hZ,gC,c1,c2]
 |(with_reducible refine CU (Ag _) ?_)
 | (with_reducible refine ax hQ ?_;exact aB))
    refine cv 2 0 ?_ ?_ (IH (rest,k+1) ⟨g2,hR⟩ (zae _))
    ·(simp only[go_sem,hD,hY,hZ,gC,aw aZ];try exact aU)
    ·(simp only[go_sem,hD,hY,hZ,gC,aw aZ];try exact aU)
   ·simp only [c1,c2,zax,zbG,if_true,iS]at hR
    subst hR
    repeat' (first
 |simp only[go_sem,hD,hY,hZ,gC,c1,c2]
 |(with_reducible refine CU (Ag _) ?_)
 |(with_reducible refine CU (gw _ _ _) ?_)
 | (with_reducible refine ax hQ ?_;exact aB))
  ·simp only [c1,zaN,zab,if_false]at hR
   repeat' (first
 |simp only[go_sem,hD,hY,hZ,gC,c1]
 |(with_reducible refine CU (Ag _) ?_)
 | (with_reducible refine ax hQ ?_;exact aB))
   refine cv 2 0 ?_ ?_ (IH (rest,k+1) ⟨g2,hR⟩ (zae _))
   ·(simp only[go_sem,hD,hY,hZ,gC,aw aZ];try exact aU)
   ·(simp only[go_sem,hD,hY,hZ,gC,aw aZ];try exact aU)
theorem ac5 {p:Pg} (hm:p.may=true) (iB : ∀ v∈p.pre,(v.kind==4)=true→v.lH p=true):ER p p.pre=Hh p p.pre:=by
 have ig:=An hm
 generalize p.pre=l at *
 induction l with
 |nil=>rfl
 |cons v l ih=>
  simp only[ER,Hh]
  rw[Nt (ig v (zaA ..))]
  rw[ih (fun w m=>iB w (zan _ m)) (fun w m=>ig w (zan _ m))]
  cases hk:(v.kind==4)
  ·rfl
  ·rw[iB v (zaA ..) hk];rfl
def rd0 (l:List rT):Rd:=⟨l,0,0,0,0⟩
def apm (m:Nat) (text:aF):Option (Pg×Int×Int):=
 if(z7 text).2.1 != 0 then some (pg0,(z7 text).2)
 else(Rd.program m (rd0 (z7 text).1)).bind fun p=>if p.2.code != 0 then some (pg0,p.2.code,p.2.Mr)else(p.1.acC).bind fun q=>some (q,0,0)
def aqH (m:Nat) (text:aF):Option (Ex×Int×Int):=
 if(z7 text).2.1 != 0 then some (ti,(z7 text).2)
 else(Rd.whole m (rd0 (z7 text).1)).bind fun x=>x.2.Ve.bind fun b=>
  if b then(x.2.bad 3).bind fun r=>if !r.good then some (ti,r.code,r.Mr)else some (x.1,0,0)
  else if !x.2.good then some (ti,x.2.code,x.2.Mr)else some (x.1,0,0)
def agl (n k:Int):Int:=if Int.tmod n k<0 then Int.tmod n k+k else Int.tmod n k
def ajE (t:aF):Nat→aF
 | 0=> []
 |n+1=>ajE t n++t
def two (i:Nat):aF:= [UInt8.ofNat (48+i / 10),UInt8.ofNat (48+i % 10)]
def agm (ahead:aF):Nat→aF
 | 0=> []
 |n+1=>(if n=0 then agm ahead n else agm ahead n++ [44])++(ahead++ [97]++two n)
def agn:Nat→aF
 | 0=> []
 |n+1=>agn n++([112,114,111,99,32,112]++two n++ [40,41,123,125])
def Zd (k:Int):List It→List Int
 | []=> []
 |i::l=>if k==0 ||i.s.kind==k then i.s.id::Zd k l else Zd k l
def aqI (l:List Int) (n:Int):Int:=match l[(agl n l.length).toNat]? with|some x=>x|none=>0
def aa4 (id:Int):List It→Option It
 | []=>none
 |i::l=>if i.s.id==id then some i else aa4 id l
def aa5 (id:Int):List Pc→Option (It×aF)
 | []=>none
 |f::l=>match aa4 id f.flat with|some i=>some (i,f.name)|none=>aa5 id l
def it0:It:=⟨Mk,0,0,false⟩
def amQ (r:Option (It×aF)):D:=match r with
 |some (i,nm)=> .tuple [.agg (dn i), .str nm, .bool true]
 |none=> .tuple [.agg (dn it0), .str [], .bool false]
theorem V4:dn it0 = [.int .i64 0, .int .i64 0, .slice .shared 1 [], .str [], .str [], .int .i64 0, .int .i64 0, .str [], .slice .shared 4 [], .bool false, .slice .shared 6 [], .slice .shared 13 [], .slice .shared 13 [], .int .i64 0, .int .i64 0, .bool false]:=nd rfl
def Pg.aqJ (p:Pg) (id:Int):Sm:=match aa5 id p.procs with|some (i,_)=>i.s|none=>Mk
def dq (t:aF) (n:Int):Int:=if n > 20000 then 20001 else if(t.length:Int)≥20000 - n then 20001 else n+1+t.length
mutual
def fy:Ex→Int→Int
 |⟨_,_,name,kids⟩,n=>oW kids (dq name n)
def oW:List Ex→Int→Int
 | [],n=>n
 |x::l,n=>if n≤20000 then oW l (fy x n)else n
end
theorem nL {t:aF} {n:Int} (h0:0≤n):dq t n≤20001∧(n≤20000→n+1≤dq t n)∧0≤dq t n∧(dq t n≤20000→n+1+t.length=dq t n):=by
 unfold dq;split
 ·omega
 ·split<;>omega
theorem xo : ∀ (m:Nat) (x:Ex),x.size≤m→∀ n:Int,0≤n→fy x n≤20001∧(n≤20000→n+1≤fy x n)∧0≤fy x n∧(fy x n≤20000→(x.size:Int)+1≤2*(fy x n - n)∧x.texts):=by
 intro m
 induction m with
 |zero=>rintro⟨op,v,name,kids⟩ h;simp only[Ex.size]at h;omega
 | succ m ih=>
  rintro⟨op,v,name,kids⟩ h n h0
  simp only[Ex.size]at h
  obtain⟨t1,t2,t3,t4⟩:=nL (t:=name) h0
  have go : ∀ (l:List Ex),Ex.bq l≤m→∀ c:Int,0≤c→c≤20001→oW l c≤20001∧c≤oW l c∧(oW l c≤20000→(Ex.bq l:Int)≤2*(oW l c - c)∧Ex.xd l):=by
   intro l
   induction l with
   |nil=>intro _ c h0 h1;simp only[oW,Ex.bq];exact⟨h1,za8 _,fun _=>⟨by omega,trivial⟩⟩
   | cons y l V0=>
    intro hs c h0 h1
    simp only[Ex.bq]at hs ⊢
    simp only[oW]
    split
    ·rename_i hc
     obtain⟨a1,a2,a3,a4⟩:=ih y (by omega) c h0
     obtain⟨b1,b2,b3⟩:=V0 (by omega) (fy y c) a3 a1
     have:=a2 hc
     refine⟨b1,by omega,fun hw=>?_⟩
     obtain⟨c1,c2⟩:=b3 hw
     obtain⟨d1,d2⟩:=a4 (by omega)
     exact⟨by omega,d2,c2⟩
    ·exact⟨h1,za8 _,fun hw=>by omega⟩
  obtain⟨g1,g2,g3⟩:=go kids (by omega) (dq name n) t3 t1
  simp only[fy,Ex.size]
  refine⟨g1,fun hn=>by have:=t2 hn;omega,by omega,fun hw=>?_⟩
  obtain⟨k1,k2⟩:=g3 hw
  have:=t4 (by omega)
  exact⟨by omega,by omega,k2⟩
theorem sB (t:aF) {n:Int} (h0:0≤n) (h1:n≤20001) (s:St):az Tryz.prog 41 [.str t, .int .i64 n] s (.int .i64 (dq t n)) s:=by
 refine az.pure ?_ rfl rfl s
 unfold S0
 have w1:IntKind.wrap .i64 (20000 - n)=20000 - n:=dv (by omega) (by omega)
 have w2:IntKind.wrap .i64 (n+1)=n+1:=dv (by omega) (by omega)
 by_cases c:n > 20000
 ·have c1:decide (n > 20000)=true:=by simp;omega
  have e:dq t n=20001:=by simp[dq,c]
  rw[e]
  refine az.go qI.h rfl fun B Q hB hQ=>?_
  have⟨hD,hY,hZ,gC⟩:=bb
  repeat' (first
 |simp only[go_sem,hD,hY,hZ,gC,c1,w1,w2]
 |(with_reducible refine ax hQ ?_;exact aB))
 ·have c1:decide (n > 20000)=false:=by simp;omega
  by_cases d:(t.length:Int)≥20000 - n
  ·have d1:decide ((t.length:Int)≥20000 - n)=true:=by simp;omega
   have e:dq t n=20001:=by unfold dq;rw[if_neg c,if_pos d]
   rw[e]
   refine az.go qI.h rfl fun B Q hB hQ=>?_
   have⟨hD,hY,hZ,gC⟩:=bb
   repeat' (first
 |simp only[go_sem,hD,hY,hZ,gC,c1,d1,w1,w2]
 | (with_reducible refine ax hQ ?_;exact aB))
  ·have d1:decide ((t.length:Int)≥20000 - n)=false:=by simp;omega
   have e:dq t n=n+1+t.length:=by unfold dq;rw[if_neg c,if_neg d]
   have w3:IntKind.wrap .i64 (n+1+t.length)=n+1+t.length:=dv (by omega) (by omega)
   rw[e]
   refine az.go qI.h rfl fun B Q hB hQ=>?_
   have⟨hD,hY,hZ,gC⟩:=bb
   repeat' (first
 |simp only[go_sem,hD,hY,hZ,gC,c1,d1,w1,w2,w3]
 |(with_reducible refine ax hQ ?_;exact aB))
theorem Nu : ∀ (m:Nat) (x:Ex),x.size≤m→∀ {n:Int},0≤n→n≤20000→∀ s:St,az Tryz.prog 71 [.agg (bT x), .int .i64 n] s (.int .i64 (fy x n)) s:=by
 intro m
 induction m with
 |zero=>rintro⟨op,v,name,kids⟩ h;simp only[Ex.size]at h;omega
 |succ m ih=>
  rintro⟨op,v,name,kids⟩ dT n h0 h1 s
  refine az.pure ?_ (by simp[D.bM,D.ok,jM]) rfl s
  simp only[Ex.size]at dT
  have hk : ∀ y∈kids,∀ {n:Int},0≤n→n≤20000→∀ s:St,az Tryz.prog 71 [.agg (bT y), .int .i64 n] s (.int .i64 (fy y n)) s:=fun y hy=>ih y (by have:=Ex.cq hy;omega)
  have ht:=fun s=>sB name h0 (by omega) s
  obtain⟨t1,t2,t3,t4⟩:=nL (t:=name) h0
  unfold S0
  generalize h:fy ⟨op,v,name,kids⟩ n=p
  simp only[fy]at h
  refine az.go CS.h rfl fun B Q hB hQ=>?_
  have⟨hD,hY,hZ,gC⟩:=bb
  repeat' (first
 |simp only[go_sem,hD,hY,hZ,gC]
 |(with_reducible refine CU (ht _) ?_)
 |(with_reducible first|refine cf fun hc=>?_|refine cj fun hc=>?_|refine cm (fun hc=>?_) fun hc=>?_)<;>(try simp only[hc,bs,↓reduceIte]at h)<;>try simp only[hc]
 | (with_reducible refine ax hQ ?_;exact fL))
  refine di 1 0 (aN.ind (ι:=List Ex×Nat×Int) (fun i=>kids.drop i.2.1=i.1∧oW i.1 i.2.2=p∧(i.2.1:Int)≤i.2.2∧i.2.2≤20001) (fun i=>i.1.length)
   (fun i=> [(1, .int .i64 i.2.2),(2, .ptr 0 0),(5, .int .i64 (i.2.1:Int))]) (fun i=>⟨[bT ⟨op,v,name,kids⟩],[]⟩) ?_ (kids,0,dq name n) ⟨rfl,h,t3,t1⟩)
  rintro⟨rest,k,c⟩ ⟨g1,h,g3,g4⟩ IH
  dsimp only at g1 h g3 g4
  cases rest with
  |nil=>
   have hD:=drop_nil g1
   simp only[oW]at h
   repeat' (first
 |simp only[go_sem,hD,hY,hZ,gC]
 |(with_reducible first|refine cf fun hc=>?_|refine cj fun hc=>?_|refine cm (fun hc=>?_) fun hc=>?_)<;>(try simp only[hc,bs,↓reduceIte]at h)<;>try simp only[hc]
 | (with_reducible refine ax hQ ?_;exact fL))
  | cons y rest=>
   obtain⟨hY,g2,hD,g5⟩:=drop_cons g1
   simp only[oW]at h
   by_cases hc:c≤20000
   ·have c1:decide (c≤20000)=true:=by simp;omega
    have hy:=fun s=>hk y (zad hY) (n:=c) (by omega) hc s
    obtain⟨a1,a2,a3,a4⟩:=xo _ y (zal _) c (by omega)
    have:=a2 hc
    have w3:IntKind.wrap .i64 ((k:Int)+1)=((k+1:Nat):Int):=by rw[dv]<;>omega
    rw[if_pos hc]at h
    repeat' (first
 |simp only[go_sem,hD,hY,hZ,gC,c1,w3]
 |(with_reducible refine CU (hy _) ?_)
 |(with_reducible first|refine cf fun hc=>?_|refine cj fun hc=>?_|refine cm (fun hc=>?_) fun hc=>?_)<;>(try simp only[hc,bs,↓reduceIte]at h)<;>try simp only[hc]
 | (with_reducible refine ax hQ ?_;(try cases h);simp only [bF,bG,bZ,cb,go_sem,hD,hY,hZ,gC,c1,w3];try exact eQ))
    refine di 1 0 (IH (rest,k+1,fy y c) ⟨g2,h,by dsimp only;omega,a1⟩ (zae _))
   ·have c1:decide (c≤20000)=false:=by simp;omega
    rw[if_neg hc]at h
    repeat' (first
 |simp only[go_sem,hD,hY,hZ,gC,c1]
 |(with_reducible first|refine cf fun hc=>?_|refine cj fun hc=>?_|refine cm (fun hc=>?_) fun hc=>?_)<;>(try simp only[hc,bs,↓reduceIte]at h)<;>try simp only[hc]
 |(with_reducible refine ax hQ ?_;(try cases h);simp only[bF,bG,bZ,cb,go_sem,hD,hY,hZ,gC,c1];try exact eQ))
def ej:List aF→Int→Int
 | [],n=>n
 |t::l,n=>if n≤20000 then ej l (dq t n)else n
def jL:List Ar→Int→Int
 | [],n=>n
 |a::l,n=>if n≤20000 then jL l (dq a.name (fy a.x n))else n
def lI:List Pm→Int→Int
 | [],n=>n
 |a::l,n=>if n≤20000 then lI l (dq a.name n)else n
mutual
def tO:Sm→Int→Int
 |⟨_,_,labels,name,proc,x,_,args,a8,aK⟩,n=>gh aK (gh a8 (jL args (dq proc (dq name (ej labels (fy x n))))))
def gh:List Sm→Int→Int
 | [],n=>n
 |s::l,n=>if n≤20000 then gh l (tO s n)else n
end
theorem V5 (s:Sm) (n:Int):tO s n=gh s.aK (gh s.a8 (jL s.args (dq s.proc (dq s.name (ej s.labels (fy s.x n)))))):=by cases s;simp only[tO]
def vD (f:Pc) (n:Int):Int:=gh f.body (lI f.params (ej f.fin (ej f.vars (dq f.name n))))
def oX:List Pc→Int→Int
 | [],n=>n
 |f::l,n=>if n≤20000 then oX l (vD f n)else n
def Pg.D4 (p:Pg):Int:=oX p.procs (ej p.globals 0)
theorem lZ : ∀ (l:List aF) {n:Int},0≤n→n≤20001→ej l n≤20001∧n≤ej l n∧(ej l n≤20000→n+l.length≤ej l n∧∀ t∈l,t.length<4611686018427387904)
 | [],n,h0,h1=>by simp only[ej];exact⟨h1,za8 _,fun _=>⟨by simp,by simp⟩⟩
 | t::l,n,h0,h1=>by
  simp only[ej]
  split
  ·rename_i hc
   obtain⟨a1,a2,a3,a4⟩:=nL (t:=t) h0
   obtain⟨b1,b2,b3⟩:=lZ l (n:=dq t n) a3 a1
   have:=a2 hc
   refine⟨b1,by omega,fun hw=>?_⟩
   obtain⟨c1,c2⟩:=b3 hw
   have:=a4 (by omega)
   refine⟨by simp only[zat];omega,fun s m=>?_⟩
   rcases zap.1 m with rfl|m
   ·omega
   ·exact c2 s m
  ·exact⟨h1,za8 _,fun hw=>by omega⟩
theorem Bl : ∀ (l:List Pm) {n:Int},0≤n→n≤20001→lI l n≤20001∧n≤lI l n∧(lI l n≤20000→n+l.length≤lI l n∧∀ t∈l,t.name.length<4611686018427387904)
 | [],n,h0,h1=>by simp only[lI];exact⟨h1,za8 _,fun _=>⟨by simp,by simp⟩⟩
 | t::l,n,h0,h1=>by
  simp only[lI]
  split
  ·rename_i hc
   obtain⟨a1,a2,a3,a4⟩:=nL (t:=t.name) h0
   obtain⟨b1,b2,b3⟩:=Bl l (n:=dq t.name n) a3 a1
   have:=a2 hc
   refine⟨b1,by omega,fun hw=>?_⟩
   obtain⟨c1,c2⟩:=b3 hw
   have:=a4 (by omega)
   refine⟨by simp only[zat];omega,fun s m=>?_⟩
   rcases zap.1 m with rfl|m
   ·omega
   ·exact c2 s m
  ·exact⟨h1,za8 _,fun hw=>by omega⟩
theorem Bm : ∀ (l:List Ar) {n:Int},0≤n→n≤20001→jL l n≤20001∧n≤jL l n∧
 (jL l n≤20000→(Ar.bq l:Int)≤2*(jL l n - n)∧∀ a∈l,a.x.size<4611686018427387904∧a.x.texts∧a.name.length<4611686018427387904)
 | [],n,h0,h1=>by simp only[jL];exact⟨h1,za8 _,fun _=>⟨by simp[Ar.bq],by simp⟩⟩
 | a::l,n,h0,h1=>by
  simp only[jL]
  split
  ·rename_i hc
   obtain⟨a1,a2,a3,a4⟩:=xo _ a.x (zal _) n h0
   obtain⟨e1,e2,e3,e4⟩:=nL (t:=a.name) a3
   obtain⟨b1,b2,b3⟩:=Bm l (n:=dq a.name (fy a.x n)) e3 e1
   have:=a2 hc
   have:fy a.x n≤dq a.name (fy a.x n):=by
    by_cases h:fy a.x n≤20000
    ·have:=e2 h;omega
    ·have:dq a.name (fy a.x n)=20001:=by unfold dq;rw [if_pos (by omega)]
     omega
   refine⟨b1,by omega,fun hw=>?_⟩
   obtain⟨c1,c2⟩:=b3 hw
   have:=e4 (by omega)
   obtain⟨d1,d2⟩:=a4 (by omega)
   refine⟨by simp only[Ar.bq];omega,fun s m=>?_⟩
   rcases zap.1 m with rfl|m
   ·exact⟨by omega,d2,by omega⟩
   ·exact c2 s m
  ·exact⟨h1,za8 _,fun hw=>by omega⟩
theorem ml {t:aF} {n:Int} (h0:0≤n) (h1:n≤20001):n≤dq t n∧dq t n≤20001∧(dq t n≤20000→n+1≤dq t n∧t.length<4611686018427387904):=by
 obtain⟨e1,e2,e3,e4⟩:=nL (t:=t) h0
 by_cases h:n≤20000
 ·have:=e2 h
  exact⟨by omega,e1,fun hw=>⟨by omega,by have:=e4 hw;omega⟩⟩
 ·have:dq t n=20001:=by unfold dq;rw [if_pos (by omega)]
  exact⟨by omega,e1,fun hw=>by omega⟩
mutual
theorem Kb : ∀ (s:Sm) {n:Int},0≤n→n≤20000→tO s n≤20001∧n+1≤tO s n∧(tO s n≤20000→(s.size:Int)+1≤2*(tO s n - n)∧s.uZ)
 |⟨id,kind,labels,name,proc,x,has,args,a8,aK⟩,n,h0,h1=>by
  obtain⟨a1,a2,a3,a4⟩:=xo _ x (zal _) n h0
  have a2:=a2 h1
  obtain⟨b1,b2,b3⟩:=lZ labels a3 a1
  obtain⟨c1,c2,c3⟩:=ml (t:=name) (n:=ej labels (fy x n)) (by omega) b1
  obtain⟨d1,d2,d3⟩:=ml (t:=proc) (n:=dq name (ej labels (fy x n))) (by omega) c2
  obtain⟨e1,e2,e3⟩:=Bm args (n:=dq proc (dq name (ej labels (fy x n)))) (by omega) d2
  obtain⟨f1,f2,f3⟩:=tP a8 (n:=jL args (dq proc (dq name (ej labels (fy x n))))) (by omega) e1
  obtain⟨g1,g2,g3⟩:=tP aK (n:=gh a8 (jL args (dq proc (dq name (ej labels (fy x n)))))) (by omega) f1
  simp only[tO,Sm.size]
  refine⟨g1,by omega,fun hw=>?_⟩
  obtain⟨g4,g5⟩:=g3 hw
  obtain⟨f4,f5⟩:=f3 (by omega)
  obtain⟨e4,e5⟩:=e3 (by omega)
  obtain⟨d4,d5⟩:=d3 (by omega)
  obtain⟨c4,c5⟩:=c3 (by omega)
  obtain⟨b4,b5⟩:=b3 (by omega)
  obtain⟨a5,a6⟩:=a4 (by omega)
  have:=Ar.dI args
  refine⟨by omega, ?_⟩
  rw[Ft]
  exact⟨⟨b5,by dsimp only;omega,c5,d5,by dsimp only;omega,a6,by dsimp only;omega,e5⟩,f5,g5⟩
theorem tP : ∀ (l:List Sm) {n:Int},0≤n→n≤20001→gh l n≤20001∧n≤gh l n∧(gh l n≤20000→(Sm.bq l:Int)≤2*(gh l n - n)∧Sm.kh l)
 | [],n,h0,h1=>by simp only[gh];exact⟨h1,za8 _,fun _=>⟨by simp[Sm.bq],by simp only[Sm.kh]⟩⟩
 | s::l,n,h0,h1=>by
  simp only[gh]
  split
  ·rename_i hc
   obtain⟨a1,a2,a3⟩:=Kb s h0 hc
   obtain⟨b1,b2,b3⟩:=tP l (n:=tO s n) (by omega) a1
   refine⟨b1,by omega,fun hw=>?_⟩
   obtain⟨c1,c2⟩:=b3 hw
   obtain⟨d1,d2⟩:=a3 (by omega)
   exact⟨by simp only[Sm.bq];omega,d2,c2⟩
  ·exact⟨h1,za8 _,fun hw=>by omega⟩
end
theorem Kc (f:Pc) {n:Int} (h0:0≤n) (h1:n≤20000):vD f n≤20001∧n+1≤vD f n∧(vD f n≤20000→(f.size:Int)+1≤2*(vD f n - n)∧
 (f.name.length<4611686018427387904∧(∀ t∈f.vars,t.length<4611686018427387904)∧(∀ t∈f.fin,t.length<4611686018427387904)∧∀ a∈f.params,a.name.length<4611686018427387904)∧Sm.kh f.body):=by
 obtain⟨c1,c2,c3⟩:=ml (t:=f.name) h0 (by omega:n≤20001)
 have c4:=(nL (t:=f.name) h0).2.1 h1
 obtain⟨d1,d2,d3⟩:=lZ f.vars (n:=dq f.name n) (by omega) c2
 obtain⟨e1,e2,e3⟩:=lZ f.fin (n:=ej f.vars (dq f.name n)) (by omega) d1
 obtain⟨g1,g2,g3⟩:=Bl f.params (n:=ej f.fin (ej f.vars (dq f.name n))) (by omega) e1
 obtain⟨k1,k2,k3⟩:=tP f.body (n:=lI f.params (ej f.fin (ej f.vars (dq f.name n)))) (by omega) g1
 unfold vD Pc.size
 refine⟨k1,by omega,fun hw=>?_⟩
 obtain⟨k4,k5⟩:=k3 hw
 obtain⟨g4,g5⟩:=g3 (by omega)
 obtain⟨e4,e5⟩:=e3 (by omega)
 obtain⟨d4,d5⟩:=d3 (by omega)
 obtain⟨_,c5⟩:=c3 (by omega)
 exact⟨by omega,⟨c5,d5,e5,g5⟩,k5⟩
theorem Hj : ∀ (l:List Pc) {n:Int},0≤n→n≤20001→oX l n≤20001∧n≤oX l n∧(oX l n≤20000→(Pc.bq l:Int)≤2*(oX l n - n)∧∀ f∈l,
 (f.name.length<4611686018427387904∧(∀ t∈f.vars,t.length<4611686018427387904)∧(∀ t∈f.fin,t.length<4611686018427387904)∧∀ a∈f.params,a.name.length<4611686018427387904)∧Sm.kh f.body)
 | [],n,h0,h1=>by simp only[oX];exact⟨h1,za8 _,fun _=>⟨by simp[Pc.bq],by simp⟩⟩
 | f::l,n,h0,h1=>by
  simp only[oX]
  split
  ·rename_i hc
   obtain⟨a1,a2,a3⟩:=Kc f h0 hc
   obtain⟨b1,b2,b3⟩:=Hj l (n:=vD f n) (by omega) a1
   refine⟨b1,by omega,fun hw=>?_⟩
   obtain⟨c1,c2⟩:=b3 hw
   obtain⟨d1,d2⟩:=a3 (by omega)
   refine⟨by simp only[Pc.bq];omega,fun s m=>?_⟩
   rcases zap.1 m with rfl|m
   ·exact d2
   ·exact c2 s m
  ·exact⟨h1,za8 _,fun hw=>by omega⟩
theorem S6 {p:Pg} (h:p.D4≤20000):p.size≤40001∧p.G0:=by
 unfold Pg.D4 at h
 obtain⟨a1,a2,a3⟩:=lZ p.globals (n:=0) (by omega) (by omega)
 obtain⟨b1,b2,b3⟩:=Hj p.procs (n:=ej p.globals 0) (by omega) a1
 obtain⟨c1,c2⟩:=b3 h
 obtain⟨d1,d2⟩:=a3 (by omega)
 have:p.size≤40001:=by unfold Pg.size;omega
 exact⟨this,by omega,d2,fun f m=>(c2 f m).1,fun f m=>(c2 f m).2⟩
theorem yx {l:List aF} {n:Int} (h0:0≤n) (h1:n≤20001) (s:St):az Tryz.prog 40 [.slice .shared 1 (l.map encStr), .int .i64 n] s (.int .i64 (ej l n)) s:=by
 refine az.pure ?_ (by simp[D.bM,D.ok,dz,Tag.ok]) rfl s
 unfold S0
 generalize h:ej l n=p
 refine az.go B5.h rfl fun B Q hB hQ=>?_
 have⟨hD,hY,hZ,gC⟩:=bb
 repeat' (first
 |simp only[go_sem,hD,hY,hZ,gC]
 |(with_reducible refine ax hQ ?_;exact aB))
 refine di 0 0 (aN.ind (ι:=List aF×Nat×Int) (fun i=>l.drop i.2.1=i.1∧ej i.1 i.2.2=p∧(i.2.1:Int)≤i.2.2∧i.2.2≤20001) (fun i=>i.1.length)
  (fun i=> [(0, .slice .shared 1 (l.map encStr)),(1, .int .i64 i.2.2),(5, .int .i64 (i.2.1:Int))]) (fun i=>⟨[],[]⟩) ?_ (l,0,n) ⟨rfl,h,h0,h1⟩)
 rintro⟨rest,k,c⟩ ⟨g1,h,g3,g4⟩ IH
 dsimp only at g1 h g3 g4
 cases rest with
 |nil=>
  have hD:=drop_nil g1
  simp only[ej]at h
  subst h
  repeat' (first
 |simp only[go_sem,hD,hY,hZ,gC]
 |(with_reducible refine ax hQ ?_;exact aB))
 | cons y rest=>
  obtain⟨hY,g2,hD,g5⟩:=drop_cons g1
  simp only[ej]at h
  by_cases hc:c≤20000
  ·have c1:decide (c≤20000)=true:=by simp;omega
   have hy:=fun s=>sB y (n:=c) (by omega) g4 s
   obtain⟨a1,a2,a3,a4⟩:=nL (t:=y) (n:=c) (by omega)
   have:=a2 hc
   have w3:IntKind.wrap .i64 ((k:Int)+1)=((k+1:Nat):Int):=by rw[dv]<;>omega
   rw[if_pos hc]at h
   repeat' (first
 |simp only[go_sem,hD,hY,hZ,gC,c1,w3]
 |(with_reducible refine CU (hy _) ?_)
 | (with_reducible refine ax hQ ?_;exact aB))
   refine di 0 0 (IH (rest,k+1,dq y c) ⟨g2,h,by dsimp only;omega,a1⟩ (zae _))
  ·have c1:decide (c≤20000)=false:=by simp;omega
   rw[if_neg hc]at h
   subst h
   repeat' (first
 |simp only[go_sem,hD,hY,hZ,gC,c1]
 |(with_reducible refine ax hQ ?_;exact aB))
theorem V6 : ∀ (m:Nat) (l:List Sm),Sm.bq l≤m→∀ {n:Int},0≤n→n≤20001→∀ s:St,az Tryz.prog 42 [.slice .shared 13 (l.map aY), .int .i64 n] s (.int .i64 (gh l n)) s:=by
 intro m
 induction m with
 | zero=>
  intro l h n h0 h1 s
  cases l with
  |nil=>
   have z:decide ((0:Int)<0)=false:=rfl
   refine az.pure ?_ (by simp[D.bM,D.ok,D.iW,Tag.ok]) rfl s
   unfold S0
   simp only[gh]
   refine az.go uh.h rfl fun B Q hB hQ=>?_
   have⟨hD,hY,hZ,gC⟩:=bb
   repeat' (first
 |simp only[go_sem,hD,hY,hZ,gC,z]
 |(with_reducible refine aN.fJ ?_)
 |(with_reducible refine ax hQ ?_;exact aB))
  |cons s l=>simp only[Sm.bq]at h;omega
 |succ m ih=>
  intro l h n h0 h1 s
  refine az.pure ?_ (by simp[D.bM,D.ok,q7,Tag.ok]) rfl s
  unfold S0
  generalize hp:gh l n=p
  refine az.go uh.h rfl fun B Q hB hQ=>?_
  have⟨hD,hY,hZ,gC⟩:=bb
  repeat' (first
 |simp only[go_sem,hD,hY,hZ,gC]
 | (with_reducible refine ax hQ ?_;exact aB))
  refine di 0 0 (aN.ind (ι:=List Sm×Nat×Int) (fun i=>l.drop i.2.1=i.1∧gh i.1 i.2.2=p∧(i.2.1:Int)≤i.2.2∧i.2.2≤20001) (fun i=>i.1.length)
   (fun i=> [(0, .slice .shared 13 (l.map aY)),(1, .int .i64 i.2.2),(5, .int .i64 (i.2.1:Int))]) (fun i=>⟨[],[]⟩) ?_ (l,0,n) ⟨rfl,hp,h0,h1⟩)
  rintro⟨rest,k,c⟩ ⟨g1,hp,g3,g4⟩ IH
  dsimp only at g1 hp g3 g4
  cases rest with
  |nil=>
   have hD:=drop_nil g1
   simp only[gh]at hp
   subst hp
   repeat' (first
 |simp only[go_sem,hD,hY,hZ,gC]
 | (with_reducible refine ax hQ ?_;exact aB))
  | cons y rest=>
   obtain⟨hY,g2,hD,g5⟩:=drop_cons g1
   simp only[gh]at hp
   by_cases hc:c≤20000
   ·have c1:decide (c≤20000)=true:=by simp;omega
    have ij:=zad hY
    have dT:=Sm.cq ij
    have W3:s.aq.length≤s.aq.length∧Sm.bq y.a8<y.size∧Sm.bq y.aK<y.size:=by cases y;simp only[Sm.size];omega
    have w3:IntKind.wrap .i64 ((k:Int)+1)=((k+1:Nat):Int):=by rw[dv]<;>omega
    rw[if_pos hc]at hp
    obtain⟨a1,a2,a3,a4⟩:=xo _ y.x (zal _) c (by omega)
    have a2:=a2 hc
    obtain⟨b1,b2,b3⟩:=lZ y.labels a3 a1
    obtain⟨c1',c2,c3⟩:=ml (t:=y.name) (n:=ej y.labels (fy y.x c)) (by omega) b1
    obtain⟨d1,d2,d3⟩:=ml (t:=y.proc) (n:=dq y.name (ej y.labels (fy y.x c))) (by omega) c2
    have eE:=fun s=>Nu _ y.x (zal _) (n:=c) (by omega) hc s
    have eL:=fun s=>yx (l:=y.labels) (n:=fy y.x c) (by omega) a1 s
    have eN:=fun s=>sB y.name (n:=ej y.labels (fy y.x c)) (by omega) b1 s
    have eP:=fun s=>sB y.proc (n:=dq y.name (ej y.labels (fy y.x c))) (by omega) c2 s
    obtain⟨r1,r2,r3⟩:=Kb y (n:=c) (by omega) hc
    rw[V5]at hp r1 r2
    generalize hC:dq y.proc (dq y.name (ej y.labels (fy y.x c)))=C at *
    obtain⟨s1,s2,s3⟩:=Bm y.args (n:=C) (by omega) d2
    obtain⟨t1,t2,t3⟩:=tP y.a8 (n:=jL y.args C) (by omega) s1
    have eT:=fun s=>ih y.a8 (by omega) (n:=jL y.args C) (by omega) s1 s
    have eS:=fun s=>ih y.aK (by omega) (n:=gh y.a8 (jL y.args C)) (by omega) t1 s
    generalize hW:jL y.args C=W at *
    repeat' (first
 |simp only[go_sem,hD,hY,hZ,gC,c1,w3]
 |(with_reducible refine CU (eE _) ?_)
 |(with_reducible refine CU (eL _) ?_)
 |(with_reducible refine CU (eN _) ?_)
 |(with_reducible refine CU (eP _) ?_)
 | (with_reducible refine ax hQ ?_;exact aB))
    refine di 1 0 (aN.ind (ι:=List Ar×Nat×Int) (fun i=>y.args.drop i.2.1=i.1∧jL i.1 i.2.2=W∧(i.2.1:Int)≤i.2.2∧i.2.2≤20001) (fun i=>i.1.length)
     (fun i=> [(0, .slice .shared 13 (l.map aY)),(1, .int .i64 i.2.2),(5, .int .i64 (k:Int)),(6, .ptr 0 0),(7, .int .i64 (i.2.1:Int))]) (fun i=>⟨[aY y],[]⟩) ?_ (y.args,0,C) ⟨rfl,hW,by dsimp only;omega,d2⟩)
    rintro⟨ars,j,e⟩ ⟨k1,hw,k3,k4⟩ qM
    dsimp only at k1 hw k3 k4
    cases ars with
    |nil=>
     have hD:=drop_nil k1
     simp only[jL]at hw
     subst hw
     repeat' (first
 |simp only[go_sem,hD,hY,hZ,gC,w3]
 |(with_reducible refine CU (eT _) ?_)
 |(with_reducible refine CU (eS _) ?_)
 | (with_reducible refine ax hQ ?_;exact aB))
     refine di 0 0 (IH (rest,k+1,gh y.aK (gh y.a8 e)) ⟨g2,hp,by dsimp only;omega,r1⟩ (zae _))
    | cons a ars=>
     obtain⟨hY,k2,hD,k5⟩:=drop_cons k1
     simp only[jL]at hw
     by_cases he:e≤20000
     ·have e1:decide (e≤20000)=true:=by simp;omega
      have w4:IntKind.wrap .i64 ((j:Int)+1)=((j+1:Nat):Int):=by rw[dv]<;>omega
      rw[if_pos he]at hw
      obtain⟨u1,u2,u3,u4⟩:=xo _ a.x (zal _) e (by omega)
      have u2:=u2 he
      obtain⟨v1,v2,v3⟩:=ml (t:=a.name) (n:=fy a.x e) u3 u1
      have eX:=fun s=>Nu _ a.x (zal _) (n:=e) (by omega) he s
      have eM:=fun s=>sB a.name (n:=fy a.x e) u3 u1 s
      repeat' (first
 |simp only[go_sem,hD,hY,hZ,gC,e1,w4]
 |(with_reducible refine CU (eX _) ?_)
 |(with_reducible refine CU (eM _) ?_)
 |(with_reducible refine ax hQ ?_;exact aB))
      refine di 1 0 (qM (ars,j+1,dq a.name (fy a.x e)) ⟨k2,hw,by dsimp only;omega,v2⟩ (zae _))
     ·have e1:decide (e≤20000)=false:=by simp;omega
      rw[if_neg he]at hw
      subst hw
      repeat' (first
 |simp only[go_sem,hD,hY,hZ,gC,e1,w3]
 |(with_reducible refine CU (eT _) ?_)
 |(with_reducible refine CU (eS _) ?_)
 | (with_reducible refine ax hQ ?_;exact aB))
      refine di 0 0 (IH (rest,k+1,gh y.aK (gh y.a8 e)) ⟨g2,hp,by dsimp only;omega,r1⟩ (zae _))
   ·have c1:decide (c≤20000)=false:=by simp;omega
    rw[if_neg hc]at hp
    subst hp
    repeat' (first
 |simp only[go_sem,hD,hY,hZ,gC,c1]
 |(with_reducible refine ax hQ ?_;exact aB))
theorem agr (p:Pg) (s:St):az Tryz.prog 16 [.agg (bS p)] s (.bool (decide (p.D4≤20000))) s:=by
 refine az.pure ?_ (by simp only[D.bM,D.ok,gR];rfl) rfl s
 unfold S0
 generalize hp:p.D4=W
 unfold Pg.D4 at hp
 obtain⟨a1,a2,a3⟩:=lZ p.globals (n:=0) (by omega) (by omega)
 have eG:=fun s=>yx (l:=p.globals) (n:=0) (by omega) (by omega) s
 refine az.go Kv.h rfl fun B Q hB hQ=>?_
 have⟨hD,hY,hZ,gC⟩:=bb
 repeat' (first
 |simp only[go_sem,hD,hY,hZ,gC]
 |(with_reducible refine CU (eG _) ?_)
 |(with_reducible refine ax hQ ?_;exact aB))
 refine di 1 0 (aN.ind (ι:=List Pc×Nat×Int) (fun i=>p.procs.drop i.2.1=i.1∧oX i.1 i.2.2=W∧(i.2.1:Int)≤i.2.2∧i.2.2≤20001) (fun i=>i.1.length)
  (fun i=> [(1, .ptr 0 0),(3, .int .i64 i.2.2),(4, .int .i64 (i.2.1:Int))]) (fun i=>⟨[bS p],[]⟩) ?_ (p.procs,0,ej p.globals 0) ⟨rfl,hp,a2,a1⟩)
 rintro⟨rest,k,c⟩ ⟨g1,hp,g3,g4⟩ IH
 dsimp only at g1 hp g3 g4
 cases rest with
 |nil=>
  have hD:=drop_nil g1
  simp only[oX]at hp
  subst hp
  repeat' (first
 |simp only[go_sem,hD,hY,hZ,gC]
 |(with_reducible refine ax hQ ?_;exact aB))
 | cons f rest=>
  obtain⟨hY,g2,hD,g5⟩:=drop_cons g1
  simp only[oX]at hp
  by_cases hc:c≤20000
  ·have c1:decide (c≤20000)=true:=by simp;omega
   have w3:IntKind.wrap .i64 ((k:Int)+1)=((k+1:Nat):Int):=by rw[dv]<;>omega
   rw[if_pos hc]at hp
   obtain⟨r1,r2,r3⟩:=Kc f (n:=c) (by omega) hc
   unfold vD at hp r1 r2
   obtain⟨c1',c2,c3⟩:=ml (t:=f.name) (n:=c) (by omega) g4
   obtain⟨d1,d2,d3⟩:=lZ f.vars (n:=dq f.name c) (by omega) c2
   obtain⟨e1,e2,e3⟩:=lZ f.fin (n:=ej f.vars (dq f.name c)) (by omega) d1
   have eN:=fun s=>sB f.name (n:=c) (by omega) g4 s
   have eV:=fun s=>yx (l:=f.vars) (n:=dq f.name c) (by omega) c2 s
   have eF:=fun s=>yx (l:=f.fin) (n:=ej f.vars (dq f.name c)) (by omega) d1 s
   generalize hC:ej f.fin (ej f.vars (dq f.name c))=C at *
   obtain⟨s1,s2,s3⟩:=Bl f.params (n:=C) (by omega) e1
   have eT:=fun s=>V6 _ f.body (zal _) (n:=lI f.params C) (by omega) s1 s
   generalize hM:lI f.params C=M at *
   repeat' (first
 |simp only[go_sem,hD,hY,hZ,gC,c1,w3]
 |(with_reducible refine CU (eN _) ?_)
 |(with_reducible refine CU (eV _) ?_)
 |(with_reducible refine CU (eF _) ?_)
 | (with_reducible refine ax hQ ?_;exact aB))
   refine di 2 0 (aN.ind (ι:=List Pm×Nat×Int) (fun i=>f.params.drop i.2.1=i.1∧lI i.1 i.2.2=M∧(i.2.1:Int)≤i.2.2∧i.2.2≤20001) (fun i=>i.1.length)
    (fun i=> [(1, .ptr 0 0),(3, .int .i64 i.2.2),(4, .int .i64 (k:Int)),(5, .ptr 1 0),(6, .int .i64 (i.2.1:Int))]) (fun i=>⟨[bS p,bN f],[]⟩) ?_ (f.params,0,C) ⟨rfl,hM,by dsimp only;omega,e1⟩)
   rintro⟨ms,j,e⟩ ⟨k1,hw,k3,k4⟩ qM
   dsimp only at k1 hw k3 k4
   cases ms with
   |nil=>
    have hD:=drop_nil k1
    simp only[lI]at hw
    subst hw
    repeat' (first
 |simp only[go_sem,hD,hY,hZ,gC,w3]
 |(with_reducible refine CU (eT _) ?_)
 | (with_reducible refine ax hQ ?_;exact aB))
    refine di 1 0 (IH (rest,k+1,gh f.body e) ⟨g2,hp,by dsimp only;omega,r1⟩ (zae _))
   | cons a ms=>
    obtain⟨hY,k2,hD,k5⟩:=drop_cons k1
    simp only[lI]at hw
    by_cases he:e≤20000
    ·have e1:decide (e≤20000)=true:=by simp;omega
     have w4:IntKind.wrap .i64 ((j:Int)+1)=((j+1:Nat):Int):=by rw[dv]<;>omega
     rw[if_pos he]at hw
     obtain⟨v1,v2,v3⟩:=ml (t:=a.name) (n:=e) (by omega) k4
     have v4:=(nL (t:=a.name) (n:=e) (by omega)).2.1 he
     have eM:=fun s=>sB a.name (n:=e) (by omega) k4 s
     repeat' (first
 |simp only[go_sem,hD,hY,hZ,gC,e1,w4]
 |(with_reducible refine CU (eM _) ?_)
 | (with_reducible refine ax hQ ?_;exact aB))
     refine di 2 0 (qM (ms,j+1,dq a.name e) ⟨k2,hw,by dsimp only;omega,v2⟩ (zae _))
    ·have e1:decide (e≤20000)=false:=by simp;omega
     rw[if_neg he]at hw
     subst hw
     repeat' (first
 |simp only[go_sem,hD,hY,hZ,gC,e1,w3]
 |(with_reducible refine CU (eT _) ?_)
 |(with_reducible first|refine cf fun hc=>?_|refine cj fun hc=>?_|refine cm (fun hc=>?_) fun hc=>?_)<;>(try simp only[hc,bs,↓reduceIte]at h)<;>try simp only[hc]
 | (with_reducible refine ax hQ ?_;simp only [bF,bG,bZ,cb,go_sem,hD,hY,hZ,gC,e1,w3];try exact eQ))
     refine di 1 0 (IH (rest,k+1,gh f.body e) ⟨g2,hp,by dsimp only;omega,r1⟩ (zae _))
  ·have c1:decide (c≤20000)=false:=by simp;omega
   rw[if_neg hc]at hp
   subst hp
   repeat' (first
 |simp only[go_sem,hD,hY,hZ,gC,c1]
 |(with_reducible first|refine cf fun hc=>?_|refine cj fun hc=>?_|refine cm (fun hc=>?_) fun hc=>?_)<;>(try simp only[hc,bs,↓reduceIte]at h)<;>try simp only[hc]
 |(with_reducible refine ax hQ ?_;simp only[bF,bG,bZ,cb,go_sem,hD,hY,hZ,gC,c1];try exact eQ))
def ags:List aF→List aF→Bool
 | [],_=>true
 |_::_,[]=>true
 |x::l,y::l'=>if !(x==y)then false else ags l l'
def eqT (l l':List aF):Bool:=if(l.length:Int) != (l'.length:Int)then false else ags l l'
def Ar.rH:List Ar→List Ar→Bool
 | [],_=>true
 |_::_,[]=>true
 |a::l,b::l'=>if !(a.ref==b.ref) || !(a.name==b.name) || !(Ex.beq a.x b.x)then false else Ar.rH l l'
mutual
def Sm.beq:Sm→Sm→Bool
 |⟨id,kind,labels,name,proc,x,has,args,a8,aK⟩,⟨id',ajF,ac6,SH,wH,x',amU,Gq,agt,agu⟩=>
  if id != id' ||kind != ajF || !(name==SH) || !(proc==wH) || !(has==amU) || !(eqT labels ac6) || !(Ex.beq x x') ||(args.length:Int) != (Gq.length:Int)then false
  else if !(Ar.rH args Gq)then false
  else if(if(a8.length:Int) != (agt.length:Int)then false else Sm.rH a8 agt)then(if(aK.length:Int) != (agu.length:Int)then false else Sm.rH aK agu)else false
def Sm.rH:List Sm→List Sm→Bool
 | [],_=>true
 |_::_,[]=>true
 |s::l,t::l'=>if !(Sm.beq s t)then false else Sm.rH l l'
end
def Sm.amV (l l':List Sm):Bool:=if(l.length:Int) != (l'.length:Int)then false else Sm.rH l l'
def Pm.rH:List Pm→List Pm→Bool
 | [],_=>true
 |_::_,[]=>true
 |a::l,b::l'=>if !((a.name==b.name) && (a.ref==b.ref))then false else Pm.rH l l'
def Pc.rH:List Pc→List Pc→Bool
 | [],_=>true
 |_::_,[]=>true
 |f::l,g::l'=>
  if !(f.name==g.name) ||(f.params.length:Int) != (g.params.length:Int) || !(eqT f.vars g.vars) || !(eqT f.fin g.fin) || !(Sm.amV f.body g.body)then false
  else if !(Pm.rH f.params g.params)then false else Pc.rH l l'
def Pg.beq (p q:Pg):Bool:=if !(eqT p.globals q.globals) ||(p.procs.length:Int) != (q.procs.length:Int)then false else Pc.rH p.procs q.procs
def D5 (n:Int):Ex:=⟨1,n,[],[]⟩
def tQ (s:aF):Ex:=⟨2,0,s,[]⟩
def Hk (op:Int) (a b:Ex):Ex:=⟨op,0,[],[a,b]⟩
theorem ajG (n:Int) (s:St):az Tryz.prog 68 [.int .i64 n] s (.agg (bT (D5 n))) s:=by
 refine az.pure ?_ rfl (by simp[D.ok,jM]) s
 unfold S0
 refine az.go Mv.h rfl fun B Q hB hQ=>?_
 have⟨hD,hY,hZ,gC⟩:=bb
 repeat' (first
 |simp only[go_sem,hD,hY,hZ,gC,D5]
 |(with_reducible first|refine cf fun hc=>?_|refine cj fun hc=>?_|refine cm (fun hc=>?_) fun hc=>?_)<;>(try simp only[hc,bs,↓reduceIte]at h)<;>try simp only[hc]
 |(with_reducible refine ax hQ ?_;simp only[bF,bG,bZ,cb,go_sem,hD,hY,hZ,gC,D5];try exact eQ))
theorem S7 (t:aF) (s:St):az Tryz.prog 69 [.str t] s (.agg (bT (tQ t))) s:=by
 refine az.pure ?_ rfl (by simp[D.ok,jM]) s
 unfold S0
 refine az.go Kz.h rfl fun B Q hB hQ=>?_
 have⟨hD,hY,hZ,gC⟩:=bb
 repeat' (first
 |simp only[go_sem,hD,hY,hZ,gC,tQ]
 |(with_reducible first|refine cf fun hc=>?_|refine cj fun hc=>?_|refine cm (fun hc=>?_) fun hc=>?_)<;>(try simp only[hc,bs,↓reduceIte]at h)<;>try simp only[hc]
 |(with_reducible refine ax hQ ?_;simp only[bF,bG,bZ,cb,go_sem,hD,hY,hZ,gC,tQ];try exact eQ))
theorem V8 (op:Int) (a b:Ex) (s:St):az Tryz.prog 70 [.int .i64 op, .agg (bT a), .agg (bT b)] s (.agg (bT (Hk op a b))) s:=by
 refine az.pure ?_ (by simp[D.bM,D.ok,jM]) (by simp[D.ok,jM]) s
 unfold S0
 refine az.go Mw.h rfl fun B Q hB hQ=>?_
 have⟨hD,hY,hZ,gC⟩:=bb
 repeat' (first
 |simp only[go_sem,hD,hY,hZ,gC,Hk]
 |(with_reducible first|refine cf fun hc=>?_|refine cj fun hc=>?_|refine cm (fun hc=>?_) fun hc=>?_)<;>(try simp only[hc,bs,↓reduceIte]at h)<;>try simp only[hc]
 |(with_reducible refine ax hQ ?_;simp only[bF,bG,bZ,cb,go_sem,hD,hY,hZ,gC,Hk];try exact eQ))
def source:aF:= [103,108,111,98,97,108,32,103,59,10,112,114,111,99,32,109,97,105,110,40,41,32,123,10,32,118,97,114,32,118,59,10,32,118,32,61,32,50,59,10,32,103,32,61,32,112,40,51,44,32,114,101,102,32,118,41,59,10,32,112,114,105,110,116,32,118,59,10,32,112,114,105,110,116,32,103,59,10,125,10,112,114,111,99,32,112,40,120,44,32,114,101,102,32,121,41,32,123,10,32,121,32,61,32,121,32,43,32,120,59,10,32,105,102,32,40,121,32,62,32,57,41,32,123,10,32,32,103,111,116,111,32,101,59,10,32,125,10,32,114,101,116,117,114,110,32,121,59,10,101,58,32,125,10]
def tR:Pg:=⟨[[103]],[
 ⟨[109,97,105,110],[],[[118]],[
  ⟨1,1,[],[118],[],D5 2,false,[],[],[]⟩,
  ⟨2,4,[],[103],[112],ti,false,[⟨false,[],D5 3⟩,⟨true,[118],ti⟩],[],[]⟩,
  ⟨3,3,[],[],[],tQ [118],false,[],[],[]⟩,
  ⟨4,3,[],[],[],tQ [103],false,[],[],[]⟩],[]⟩,
 ⟨[112],[⟨[120],false⟩,⟨[121],true⟩],[],[
  ⟨5,1,[],[121],[],Hk 8 (tQ [121]) (tQ [120]),false,[],[],[]⟩,
  ⟨6,5,[],[],[],Hk 12 (tQ [121]) (D5 9),false,[],[⟨7,10,[],[101],[],ti,false,[],[],[]⟩],[]⟩,
  ⟨8,9,[],[],[],tQ [121],true,[],[],[]⟩],[[101]]⟩]⟩
theorem agv (s:St):az Tryz.prog 39 [] s (.agg (bS tR)) s:=by
 refine az.pure ?_ rfl (by simp[D.ok,gR]) s
 unfold S0
 refine az.go Ky.h rfl fun B Q hB hQ=>?_
 have⟨hD,hY,hZ,gC⟩:=bb
 repeat' (first
 |simp only[go_sem,hD,hY,hZ,gC,tR]
 |(with_reducible refine CU (ajG _ _) ?_)
 |(with_reducible refine CU (S7 _ _) ?_)
 |(with_reducible refine CU (V8 _ _ _ _) ?_)
 |(with_reducible refine ax hQ ?_;simp only[bF,bG,bZ,cb,go_sem,hD,hY,hZ,gC];repeat' (first|exact Ok.out|with_reducible refine ei ?_ ?_|(simp;done))))
 repeat' (first|exact Ok.out|with_reducible refine Wk.agg ?_|with_reducible refine Wk.rows ?_|with_reducible refine Wk.slice ?_|with_reducible refine ie.cons ?_ ?_|with_reducible refine jh.cons ?_ ?_)
def Pg.apt (p:Pg) (n:Int):aF:=match p.procs[(agl n p.procs.length).toNat]? with|some f=>f.name|none=> []
theorem Ze {p:Pg} (h:(p.arity.1==0)=true) (h2:(p.alias.1==0)=true) : ∀ v∈p.pre,(v.kind==4)=true→v.uF p=true:=by
 unfold Pg.alias at h2
 rw[if_pos h]at h2
 intro v hv hk
 have : ∀ l:List Sm,((iS 8 (Hh p l)).1==0)=true→∀ v∈l,(v.kind==4)=true→v.uF p=true:=by
  intro l
  induction l with
  |nil=>intro _ v m;cases m
  | cons a l ih=>
   intro h v m hk
   simp only[Hh]at h
   split at h
   ·cases h
   ·rename_i c
    rcases zap.1 m with rfl|m
    ·simpa[hk]using c
    ·exact ih h v m hk
 exact this _ h2 v hv hk
section
variable {a b:aF}
end
section
variable {a b:aF} (ha:isName a=true) (hb:isName b=true)
include ha hb
end
def Pg.check (p:Pg):Int×Int:=if p.scope.1==0 then(if p.arity.1==0 then(if p.jump.1==0 then p.alias else p.jump)else p.arity)else p.scope
end Go.Abs
namespace Go.Abs
mutual
def Sm.IU (g:Sm→Sm):Sm→Sm
 |⟨id,kind,labels,name,proc,x,has,args,a8,aK⟩=> {g ⟨id,kind,labels,name,proc,x,has,args,a8,aK⟩with a8:=Sm.Lb g a8,aK:=Sm.Lb g aK}
def Sm.Lb (g:Sm→Sm):List Sm→List Sm
 | []=> []
 |s::l=>s.IU g::Sm.Lb g l
end
def It.IU (g:Sm→Sm) (i:It):It:= {i with s:=i.s.IU g}
def Pc.IU (g:Sm→Sm) (f:Pc):Pc:= {f with body:=Sm.Lb g f.body}
def Pg.IU (g:Sm→Sm) (p:Pg):Pg:= {p with procs:=p.procs.map (Pc.IU g)}
def arc (t:Sm) (v:Sm):Sm:=if v.id==t.id then t else v
theorem Hl {yY fin:List aF} : ∀ {l:List (Sm×Int)} {seen:List aF},pH yY fin seen l=none↔pW seen (fp (l.map Prod.fst)++fin)=false∧∀ q∈l,oy yY q.1 q.2=true
 | [],seen=>by
  simp only[pH,zai,fp,zaV,List.not_mem_nil,false_imp_iff,implies_true,and_true]
  rw[yr]
  cases pW seen fin<;>simp
 | (v,lp)::l,seen=>by
  simp only[pH,zaf,fp,zaB]
  rw[yr,IT v.labels]
  cases h:pW seen v.labels
  ·simp only [zab,if_false,if_true,zbg]
   cases h2:oy yY v lp
   ·simp only [zab,if_false,reduceCtorEq,false_iff,not_and]
    intro _ h3
    have:=h3 (v,lp) (zaA ..)
    rw[h2]at this;cases this
   ·simp only [if_true,Hl (l:=l),zap]
    constructor
    ·rintro⟨h3,h4⟩
     refine⟨h3,fun q hq=>?_⟩
     rcases hq with rfl|hq
     ·exact h2
     ·exact h4 q hq
    ·rintro⟨h3,h4⟩
     exact⟨h3,fun q hq=>h4 q (.inr hq)⟩
  ·simp
theorem Hn : ∀ {l:List Pc},nK l=none↔∀ f∈l,er f.labels=false∧∀ q∈f.oz,oy f.labels q.1 q.2=true
 | []=>by simp[nK]
 | f::l=>by
  have e:pH f.labels f.fin [] f.oz=none↔er f.labels=false∧∀ q∈f.oz,oy f.labels q.1 q.2=true:=by
   rw[Hl,acZ];rfl
  simp only[nK,zap]
  split
  ·rename_i id h
   simp only[reduceCtorEq,false_iff]
   intro h3
   rw[e.2 (h3 f (.inl rfl))]at h
   cases h
  ·rename_i h
   rw[Hn (l:=l)]
   constructor
   ·intro h3 g hg
    rcases hg with rfl|hg
    ·exact e.1 h
    ·exact h3 g hg
   ·exact fun h3 g hg=>h3 g (.inr hg)
structure Pg.Right (p:Pg):Prop where
 may:p.may=true
 tg:er p.globals=false
 tp:er p.pn=false
 main:p.oT=false
 own : ∀ f∈p.procs,er (p.globals++f.own)=false
 known : ∀ f∈p.procs,∀ v∈Sm.cZ f.body,v.known p f p.pn=true
 yY : ∀ f∈p.procs,er f.labels=false
 leads : ∀ f∈p.procs,∀ q∈f.oz,oy f.labels q.1 q.2=true
 fits : ∀ v∈p.pre,(v.kind==4)=true→v.lH p=true
 single : ∀ v∈p.pre,(v.kind==4)=true→v.uF p=true
theorem Nv {p:Pg} (h:(p.check.1==0)=true):p.Right:=by
 unfold Pg.check at h
 by_cases h1:(p.scope.1==0)=true
 ·rw [if_pos h1]at h
  by_cases h2:(p.arity.1==0)=true
  ·rw [if_pos h2]at h
   by_cases h3:(p.jump.1==0)=true
   ·rw [if_pos h3]at h
    obtain⟨k1,k2,k3,k4⟩:=Fy h1
    have hj:nK p.procs=none:=by
     unfold Pg.jump at h3
     rw[if_pos h1]at h3
     cases e:nK p.procs with
     |none=>rfl
     |some id=>rw[e]at h3;cases h3
    rw[Hn]at hj
    exact⟨nI h1,k1,k2,k3,fun f hf=>(k4 f hf).1,fun f hf=>(k4 f hf).2,fun f hf=>(hj f hf).1,fun f hf=>(hj f hf).2,(FF h2).2,Ze h2 h⟩
   ·rw[if_neg h3]at h;exact absurd h h3
  ·rw[if_neg h2]at h;exact absurd h h2
 ·rw[if_neg h1]at h;exact absurd h h1
def AtR (R:Int→Prop) (a:Int):Prop:=a = -1∨R a
theorem D6 {R:Int→Prop} {l:List Sm} {o:Int} (h : ∀ v∈Sm.cZ l,R v.id) (ho:AtR R o):AtR R (eD l o):=by
 cases l with
 |nil=>exact ho
 |cons s l=>exact .inr (h s (by rw[Sm.cZ,Sm.oN];exact zaJ _ (zaA ..)))
mutual
theorem agw {R:Int→Prop} (proc up next loop:Int) : ∀ s:Sm,(∀ v∈s.pre,R v.id)→AtR R next→(loop=0∨R loop)→
 ∀ x∈s.sM proc up next loop,x.proc=proc∧AtR R x.next∧(x.loop=0∨R x.loop)∧AtR R (eD x.s.a8 (-1))∧AtR R (eD x.s.aK (-1))∧x.s∈s.pre
 | ⟨id,kind,labels,name,pc,x,has,args,a8,aK⟩,h,hn,hl,y,m=>by
  have mU:=h _ (by rw[Sm.oN];exact zaA ..)
  have h1 : ∀ v∈Sm.cZ a8,R v.id:=fun v m=>h v (by rw[Sm.oN];exact zan _ (zaJ _ m))
  have h2 : ∀ v∈Sm.cZ aK,R v.id:=fun v m=>h v (by rw[Sm.oN];exact zan _ (za7 _ m))
  have s5:AtR R (if kind==6 then id else next):=by split;exact .inr mU;exact hn
  have pO:(if kind==6 then id else loop)=0∨R (if kind==6 then id else loop):=by split;exact .inr mU;exact hl
  rw[Sm.oN]
  simp only[Sm.sM,zap,zaq]at m
  rcases m with rfl|m|m
  ·exact⟨rfl,hn,hl,D6 h1 (.inl rfl),D6 h2 (.inl rfl),zaA ..⟩
  ·obtain⟨g1,g2,g3,g4,g5,g6⟩:=wO proc id _ _ a8 h1 s5 pO y m
   exact⟨g1,g2,g3,g4,g5,zan _ (zaJ _ g6)⟩
  ·obtain⟨g1,g2,g3,g4,g5,g6⟩:=wO proc id _ _ aK h2 s5 pO y m
   exact⟨g1,g2,g3,g4,g5,zan _ (za7 _ g6)⟩
theorem wO {R:Int→Prop} (proc up next loop:Int) : ∀ l:List Sm,(∀ v∈Sm.cZ l,R v.id)→AtR R next→(loop=0∨R loop)→
 ∀ x∈Sm.iE proc up next loop l,x.proc=proc∧AtR R x.next∧(x.loop=0∨R x.loop)∧AtR R (eD x.s.a8 (-1))∧AtR R (eD x.s.aK (-1))∧x.s∈Sm.cZ l
 | [],_,_,_,x,m=>by simp[Sm.iE]at m
 | s::l,h,hn,hl,x,m=>by
  simp only[Sm.cZ,zaq]at h
  simp only[Sm.iE,zaq]at m
  simp only[Sm.cZ,zaq]
  rcases m with m|m
  ·obtain⟨g1,g2,g3,g4,g5,g6⟩:=agw proc up _ loop s (fun v m=>h v (.inl m)) (D6 (fun v m=>h v (.inr m)) hn) hl x m
   exact⟨g1,g2,g3,g4,g5, .inl g6⟩
  ·obtain⟨g1,g2,g3,g4,g5,g6⟩:=wO proc up next loop l (fun v m=>h v (.inr m)) hn hl x m
   exact⟨g1,g2,g3,g4,g5, .inr g6⟩
end
theorem FH {x:Im} : ∀ (l:List Pc) (k:Nat),x∈rM k l→∃ i f,l[i]? = some f∧x∈Sm.iE ((k+i:Nat):Int) 0 (-1) 0 f.body
 | [],_,h=>by simp[rM]at h
 | f::l,k,h=>by
  simp only[rM,zaq]at h
  rcases h with h|h
  ·exact⟨0,f,rfl,h⟩
  ·obtain⟨i,g,h1,h2⟩:=FH l (k+1) h
   exact⟨i+1,g,by simpa using h1,by rw[show k+(i+1)=k+1+i by omega];exact h2⟩
theorem Nw {x:Im} : ∀ (l:List Pc) (k:Nat) {i:Nat} {f:Pc},l[i]? = some f→x∈Sm.iE ((k+i:Nat):Int) 0 (-1) 0 f.body→x∈rM k l
 |f::l,k,0,g,h,m=>by simp at h;subst h;exact zaJ _ m
 |f::l,k,i+1,g,h,m=>za7 _ (Nw l (k+1) (i:=i) (by simpa using h) (by rw[show k+1+i=k+(i+1) by omega];exact m))
theorem Nx : ∀ (l:List Pc) (k:Nat),(rM k l).map Im.s=(l.map fun f=>Sm.cZ f.body).flatten
 | [],_=>rfl
 |f::l,k=>by simp only[rM,zag,tL,Nx l,zaf,zbi]
theorem PT {R:Int→Prop} {fin:List aF} {Vg:aF} : ∀ {l:List Sm},(∀ v∈l,R v.id)→(jb fin Vg l).2=true→AtR R (jb fin Vg l).1
 | [],_,h=>by
  simp only[jb]at h ⊢
  split at h
  ·rename_i c;rw[if_pos c];exact .inl rfl
  ·cases h
 | v::l,hv,h=>by
  simp only[jb]at h ⊢
  split
  ·exact .inr (hv v (zaA ..))
  ·rename_i c
   rw[if_neg c]at h
   exact PT (fun w m=>hv w (zan _ m)) h
def Hm (L:List Im) (k:Int) (a:Int):Prop:=1≤a∧a≤(L.length:Int)∧(ff L a).proc=k
structure xp (p:Pg) (L:List Im) (x:Im) (f:Pc):Prop where
 self:ff L x.s.id=x∧1≤x.s.id∧x.s.id≤(L.length:Int)
 proc:p.procs[x.proc.toNat]? = some f∧0≤x.proc
 mem:x.s∈Sm.cZ f.body
 next:AtR (Hm L x.proc) x.next
 loop:x.s.kind=7∨x.s.kind=8→Hm L x.proc x.loop
 a8:AtR (Hm L x.proc) (eD x.s.a8 (-1))
 aK:AtR (Hm L x.proc) (eD x.s.aK (-1))
 S5:x.s.kind=10→AtR (Hm L x.proc) (jb f.fin x.s.name (Sm.cZ f.body)).1
structure POk (p:Pg) (L:List Im):Prop where
 im : ∀ x∈L,∃ f,xp p L x f
 head : ∀ (i:Nat) (f:Pc),p.procs[i]? = some f→AtR (Hm L i) (eD f.body (-1))
theorem pe {p:Pg} (h:p.Right):POk p p.aR.L:=by
 have hL:=Dj h.may
 have hs:p.aR.L.map Im.s=p.pre:=by rw[hL,Nx];rfl
 have hlen:p.aR.L.length=p.pre.length:=by rw[← hs,zaw]
 have self : ∀ x∈p.aR.L,ff p.aR.L x.s.id=x∧1≤x.s.id∧x.s.id≤(p.aR.L.length:Int):=fun x m=>by
  obtain⟨i,hi⟩:=List.getElem?_of_mem m
  have h1:=G9 h.may (i:=i) (v:=x.s) (by rw[← hs,zao,hi];rfl)
  have h2:=(zac.1 hi).1
  refine⟨?_,by omega,by omega⟩
  unfold ff
  rw[h1,show(((i+1:Nat):Int) - 1).toNat=i by omega,zay,hi];rfl
 have there : ∀ (i:Nat) (f:Pc),p.procs[i]? = some f→∀ v∈Sm.cZ f.body,Hm p.aR.L i v.id:=fun i f hf v m=>by
  rw[← tL (i:Int) 0 (-1) 0 f.body]at m
  obtain⟨x,hx,rfl⟩:=zaF.1 m
  have hxL:x∈p.aR.L:=by rw[hL];exact Nw p.procs 0 hf (by simpa using hx)
  obtain⟨g1,g2,g3⟩:=self x hxL
  exact⟨g2,g3,by rw[g1];exact(wO (R:=fun _=>True) _ 0 (-1) 0 f.body (fun _ _=>trivial) (.inl rfl) (.inl rfl) x hx).1⟩
 refine⟨fun x m=>?_,fun i f hf=>D6 (there i f hf) (.inl rfl)⟩
 have m':=m
 rw[hL]at m'
 obtain⟨i,f,h1,h2⟩:=FH p.procs 0 m'
 have hf:=zad h1
 rw[zaZ]at h2
 obtain⟨g1,g2,g3,g4,g5,g6⟩:=wO (R:=Hm p.aR.L i) _ 0 (-1) 0 f.body (there i f h1) (.inl rfl) (.inl rfl) x h2
 have hl:=h.leads f hf (x.s,x.loop) (by rw[← FB (i:Int) f];exact zaF.2 ⟨x,h2,rfl⟩)
 refine⟨f,self x m,⟨by rw[g1];simpa using h1,by rw[g1];exact zbR _⟩,g6,by rw[g1];exact g2,fun hk=>?_,by rw[g1];exact g4,by rw[g1];exact g5,fun hk=>?_⟩
 ·rw [g1]
  refine g3.resolve_left fun e=>?_
  unfold oy at hl
  rw[if_pos (by rcases hk with hk|hk<;>simp[hk]),e]at hl
  cases hl
 ·rw [g1]
  refine PT (there i f h1) ?_
  unfold oy at hl
  rw[if_neg (by simp[hk]),if_pos (by simp[hk])]at hl
  rw[Dk];exact hl
theorem Ny {vars globals:List aF} {n:aF} : ∀ {l:List Pm},tF vars globals n l≠0→n∈l.map (·.name)∨n∈vars∨n∈globals
 | [],h=>by
  simp only[tF]at h
  split at h
  ·rename_i e;exact .inr (.inl ((gK _ _).1 e))
  ·split at h
   ·rename_i e;exact .inr (.inr ((gK _ _).1 e))
   ·exact absurd rfl h
 | a::l,h=>by
  simp only[tF]at h
  split at h
  ·rename_i e;exact .inl (by simp only[zaf,zap];exact .inl (by simpa using Eq.symm (by simpa using e)))
  ·rcases Ny h with h | h
   ·exact .inl (zan _ h)
   ·exact .inr h
theorem Zf {p:Pg} {f:Pc} {v:Sm} (h:v.known p f p.pn=true) {n:aF} (m:n∈v.said):n∈p.globals++f.own:=by
 simp only[Sm.known,zar,zaH]at h
 have h1:f.kx p n≠0:=fun e=>by
  have:v.said.any (fun n=>f.kx p n==0)=true:=List.any_eq_true.2 ⟨n,m,by simp[e]⟩
  rw[h.1]at this;cases this
 simp only[zaq,Pc.own,Pc.lx]
 rcases Ny h1 with h2|h2|h2
 ·exact .inr (.inl h2)
 ·exact .inr (.inr h2)
 ·exact .inl h2
theorem tT {n:aF} : ∀ {l:List Ar} {out:List aF},n∈out∨(∃ a∈l,a.ref=true∧a.name=n)→n∈Ar.said out l
 | [],out,h=>by rcases h with h|⟨a,m,_⟩;exact h;cases m
 | b::l,out,h=>by
  simp only[Ar.said]
  refine tT ?_
  rcases h with h|⟨a,m,h1,h2⟩
  ·left;split<;>simp[h]
  ·rcases zap.1 m with rfl | m
   ·left;rw[if_pos h1];simp[h2]
   ·exact .inr ⟨a,m,h1,h2⟩
theorem Nz {x:aF} : ∀ {l:List aF} {k:Nat},x∈l→∃ j:Nat,fS x (k:Int) l=((k+j:Nat):Int)∧j<l.length
 | s::l,k,m=>by
  by_cases e:x=s
  ·subst e;exact⟨0,by simp[fS],by simp⟩
  ·have e':(x==s)=false:=by simp [e]
   obtain⟨j,h1,h2⟩:=Nz (l:=l) (k:=k+1) ((zap.1 m).resolve_left e)
   refine⟨j+1, ?_,by simp;omega⟩
   simp only[fS,e',zab,if_false]
   rw[show(k:Int)+1=((k+1:Nat):Int) by omega,h1];congr 1;omega
theorem Bo {name:aF} {f:Pc} : ∀ {l:List Pc} {k:Nat},gS name l=some f→∃ j:Nat,lW (fun f:Pc=>f.name==name) (k:Int) l=((k+j:Nat):Int)∧l[j]? = some f
 | g::l,k,h=>by
  simp only[gS]at h
  by_cases e:(g.name==name)=true
  ·rw [if_pos e]at h;cases h
   exact⟨0,by simp only[lW,e,if_true,zaS],rfl⟩
  ·have e':(g.name==name)=false:=by simpa using e
   rw[if_neg e]at h
   obtain⟨j,h1,h2⟩:=Bo (l:=l) (k:=k+1) h
   refine⟨j+1, ?_,by simpa using h2⟩
   simp only[lW,e',zab,if_false]
   rw[show(k:Int)+1=((k+1:Nat):Int) by omega,h1];congr 1;omega
def FI (p:Pg) (n:Nat) (fr:Fr):Prop:=∃ f,p.procs[fr.proc.toNat]? = some f∧0≤fr.proc∧fr.names=p.globals++f.own∧fr.vars.length=fr.names.length∧∀ c∈fr.vars,c<n
def D7 (L:List Im):List Fr→Prop
 | []=>False
 | [fr]=>fr.call=0
 |fr::jK::l=>(Hm L jK.proc fr.call∧(ff L fr.call).s.kind=4)∧D7 L (jK::l)
structure mS (p:Pg) (L:List Im) (a:Int) (m:Mc):Prop where
 st:D7 L m.st
 fr : ∀ fr∈m.st,FI p m.mem.length fr
 at_:AtR (Hm L m.top.proc) a
 rJ:p.globals.length≤m.mem.length
theorem FI.mono {p:Pg} {n n':Nat} {fr:Fr} (h:FI p n fr) (hn:n≤n'):FI p n' fr:=by
 obtain⟨f,h1,h2,h3,h4,h5⟩:=h
 exact⟨f,h1,h2,h3,h4,fun c m=>zaX (h5 c m) hn⟩
theorem D7.ne {L:List Im} {l:List Fr} (h:D7 L l) : ∃ fr r,l=fr::r:=by
 cases l with
 |nil=>exact h.elim
 |cons fr r=>exact⟨fr,r,rfl⟩
theorem Mc.ac7 {L:List Im} {m:Mc} (h:D7 L m.st):m.top∈m.st:=by
 obtain⟨fr,r,e⟩:=h.ne
 simp[Mc.top,e]
theorem mS.of {p:Pg} {L:List Im} {a a':Int} {m m':Mc} (h:mS p L a m) (h1:m'.st=m.st) (h2:m.mem.length≤m'.mem.length) (h3:AtR (Hm L m.top.proc) a'):mS p L a' m':=by
 have ht:m'.top=m.top:=by unfold Mc.top;rw[h1]
 exact⟨by rw[h1];exact h.st,fun fr hf=>(h.fr fr (by rw[← h1];exact hf)).mono h2,by rw[ht];exact h3,zaW h.rJ h2⟩
section
variable {p:Pg} {L:List Im} {m:Mc}
theorem ac8 {n:aF} {k:Nat} (h:FI p k m.top) (hn:n∈m.top.names):m.cell n<k∧∃ j:Nat,fS n 0 m.top.names=(j:Int)∧m.top.vars[j]? = some (m.cell n):=by
 obtain⟨f,h1,h2,h3,h4,h5⟩:=h
 obtain⟨j,e1,e2⟩:=Nz (k:=0) hn
 have e3:fS n 0 m.top.names=(j:Int):=by simpa using e1
 have e4:m.top.vars[j]? = some (m.cell n):=by
  unfold Mc.cell
  rw[e3,zaQ,zay,zah (by omega)];rfl
 exact⟨h5 _ (zad e4),j,e3,e4⟩
theorem IV {k:Nat} (hk:p.globals.length≤k) : ∀ (l:List Ar) (m:Mc) (out:List Nat),FI p m.mem.length m.top→(∀ a∈l,a.ref=true→a.name∈m.top.names)→(∀ c∈out,c<m.mem.length)→
 m.mem.length≤(Mc.args l m out).2.mem.length∧∀ o,(Mc.args l m out).1=some o→o.length=out.length+l.length∧∀ c∈o,c<(Mc.args l m out).2.mem.length
 | [],m,out,h,_,ho=>⟨zal _,fun o e=>by cases e;exact⟨rfl,ho⟩⟩
 | a::l,m,out,h,hn,ho=>by
  simp only[Mc.args]
  by_cases c:a.ref=true
  ·rw [if_pos c]
   obtain⟨g1,g2⟩:=IV hk l m (out++ [m.cell a.name]) h (fun b mb=>hn b (zan _ mb)) fun x mx=>by
    rcases zaq.1 mx with mx|mx
    ·exact ho x mx
    ·rw[zaG.1 mx];exact(ac8 h (hn a (zaA ..) c)).1
   exact⟨g1,fun o e=>⟨by rw[(g2 o e).1];simp;omega,(g2 o e).2⟩⟩
  ·rw [if_neg c]
   have he:=gL m a.x
   by_cases c2:(m.bA a.x).1.2=true
   ·rw [if_pos c2]
    have ht:({(m.bA a.x).2 with mem:=(m.bA a.x).2.mem++ [(m.bA a.x).1.1]} : Mc).top=m.top:=by unfold Mc.top;rw[he.1]
    have hl:(m.bA a.x).2.mem.length=m.mem.length:=by rw[he.2.1]
    obtain⟨g1,g2⟩:=IV hk l {(m.bA a.x).2 with mem:=(m.bA a.x).2.mem++ [(m.bA a.x).1.1]} (out++ [(m.bA a.x).2.mem.length]) (by rw[ht];exact h.mono (by simp[hl])) (by rw[ht];exact fun b mb=>hn b (zan _ mb)) fun x mx=>by
     rcases zaq.1 mx with mx|mx
     ·have:=ho x mx;simp[hl];omega
     ·rw[zaG.1 mx];simp
    exact⟨zaW (by simp[hl]) g1,fun o e=>⟨by rw[(g2 o e).1];simp;omega,(g2 o e).2⟩⟩
   ·rw [if_neg c2]
    exact⟨by rw[he.2.1];exact zal _,fun o e=>by cases e⟩
theorem IW (hP:POk p L) {i:Nat} {f:Pc} (hf:p.procs[i]? = some f) {l:List Nat} {call:Int} (hl:l.length=f.params.length) (hc : ∀ c∈l,c<m.mem.length) (hg:p.globals.length≤m.mem.length)
 (BS : ∀ fr∈m.st,FI p m.mem.length fr) (gd:(m.st = []∧call=0)∨(D7 L m.st∧Hm L m.top.proc call∧(ff L call).s.kind=4)):mS p L (m.open p (i:Int) l call).1 (m.open p (i:Int) l call).2:=by
 unfold Mc.open
 rw[zaQ,hf]
 dsimp only
 refine⟨?_,fun fr h=>?_,by exact hP.head i f hf,by simp;omega⟩
 ·rcases gd with ⟨h1,h2⟩ | ⟨h1,h2⟩
  ·rw[h1];exact h2
  ·obtain⟨fr,r,e⟩:=h1.ne
   dsimp only
   rw[e]at h1 ⊢
   have:m.top=fr:=by simp[Mc.top,e]
   rw[this]at h2
   exact⟨h2,h1⟩
 ·rcases zap.1 h with rfl | h
  ·refine⟨f,by rw [zaQ];exact hf,zbR _,rfl,by simp [Pc.own,Pc.lx,hl],fun c m=> ?_⟩
   simp only[zaq,zbN,zaF]at m
   simp only[zaj,List.length_replicate]
   rcases m with (m|m)|⟨x,m,rfl⟩
   ·omega
   ·have:=hc c m;omega
   ·omega
  ·exact(BS fr h).mono (by simp)
theorem PU (hP:POk p L) {a:Int} (h:mS p L a m) {g:Int} {a':Int} {m':Mc} (e:m.back L g=(some a',m')):mS p L a' m':=by
 have hs:=h.st
 unfold Mc.back Mc.close at e
 dsimp only at e
 obtain⟨fr,r,es⟩:=hs.ne
 have ht:m.top=fr:=by simp[Mc.top,es]
 by_cases c:(m.top.call==0)=true
 ·rw[if_pos c]at e;cases e
 ·rw [if_neg c]at e
  rw[es]at hs
  cases r with
  |nil=>rw[ht]at c;exact absurd (beq_iff_eq.2 (show fr.call=0 from hs)) c
  | cons jK r=>
   obtain⟨⟨h1,_⟩,h2⟩:=hs
   have ij:ff L m.top.call∈L:=Bj (.inr (by rw[ht];exact⟨h1.1,h1.2.1⟩)) (by have:=h1.1;rw[ht];omega)
   obtain⟨f,o⟩:=hP.im _ ij
   have ho:=o.next
   rw[show(ff L m.top.call).proc=jK.proc by rw[ht];exact h1.2.2]at ho
   rw[ht]at ho
   split at e<;>(dsimp only at e;split at e)<;>first|(cases e;done)|skip
   all_goals
    cases e
    refine⟨by simp only[Mc.set,es,List.tail_cons];exact h2,fun q hq=>?_,by simp only[Mc.set,Mc.top,es,List.tail_cons,List.headD_cons];exact ho,by simp only[Mc.set,zbr];exact h.rJ⟩
    simp only[Mc.set,zbr]at hq ⊢
    exact h.fr q (by rw[es]at hq ⊢;exact zan _ hq)
end
theorem uH {p:Pg} (hR:p.Right) {x:Im} {f:Pc} (h:xp p p.aR.L x f) {n:aF} (m:n∈x.s.said):n∈p.globals++f.own:=
 Zf (hR.known f (zad h.proc.1) x.s h.mem) m
theorem PV {p:Pg} (hR:p.Right) {x:Im} {f:Pc} (h:xp p p.aR.L x f) (hk:x.s.kind=4) : ∃ (j:Nat) (q:Pc),p.at x.s.proc=(j:Int)∧p.procs[j]? = some q∧x.s.args.length=q.params.length:=by
 have kj:x.s∈p.pre:=by
  simp only[Pg.pre,zbE,zaF];exact⟨_,⟨f,zad h.proc.1,rfl⟩,h.mem⟩
 have hf:=hR.fits x.s kj (by simp[hk])
 unfold Sm.lH at hf
 simp only[zar]at hf
 cases e:p.find x.s.proc with
 |none=>rw[e]at hf;cases hf.2
 |some q=>
  rw[e]at hf
  obtain⟨j,h1,h2⟩:=Bo (k:=0) e
  refine⟨j,q,by simpa[Pg.at]using h1,h2, ?_⟩
  have:=hf.2
  simp only[wD]at this
  split at this
  ·rename_i h3;have:=(beq_iff_eq.1 h3);omega
  ·cases this
theorem PW {p:Pg} (hR:p.Right) {m:Mc} {W:List Int} {x:Im} {f:Pc} {a a':Int} {m':Mc} (h:mS p p.aR.L a m) (hx:xp p p.aR.L x f) (hk:x.s.kind=4) (hp:x.proc=m.top.proc) (NA:(m.call p W x.s).2.fin=0)
 (e:m.call p W x.s=(a',m')) (h0:m.fin=0):mS p p.aR.L a' m':=by
 have hP:=pe hR
 have jN:=h.fr _ (Mc.ac7 h.st)
 obtain⟨f',t1,t2,t3,t4,t5⟩:=jN
 have ef:f'=f:=by have:=hx.proc.1;rw[hp,t1]at this;exact Option.some.inj this
 subst ef
 have agy : ∀ b∈x.s.args,b.ref=true→b.name∈m.top.names:=fun b mb hb=>by
  rw[t3];exact uH hR hx (tT (.inr ⟨b,mb,hb,rfl⟩))
 obtain⟨j,q,c1,c2,c3⟩:=PV hR hx hk
 have g1:=IV h.rJ x.s.args m [] ⟨f',t1,t2,t3,t4,t5⟩ agy (by simp)
 have g2:=Am x.s.args m []
 have g3:=FE x.s.args m [] h0
 unfold Mc.call at e NA
 generalize Mc.args x.s.args m [] = r at *
 obtain⟨o,m1⟩:=r
 cases o with
 |none=>
  dsimp only at NA g3
  rw[g3.2]at NA;cases NA
 | some l=>
  dsimp only at e NA g1 g2 g3
  by_cases c:m1.st.length > 100
  ·rw[if_pos c]at NA;cases NA
  ·rw [if_neg c]at e
   have he:=dL W m1 x.s.id []
   have ht:(m1.event W x.s.id []).top=m.top:=by unfold Mc.top;rw[he.1,g2.1]
   have:=IW (m:=m1.event W x.s.id []) hP c2 (l:=l) (call:=x.s.id) (by rw[(g1.2 l rfl).1,c3];simp) (by rw[he.2.1];exact(g1.2 l rfl).2) (by rw[he.2.1];exact zaW h.rJ g1.1)
    (by rw[he.1,he.2.1,g2.1];exact fun fr BS=>(h.fr fr BS).mono g1.1) (.inr ⟨by rw[he.1,g2.1];exact h.st,by rw[ht];exact⟨hx.self.2.1,hx.self.2.2,by rw[hx.self.1];exact hp⟩,by rw[hx.self.1];exact hk⟩)
   rw[← c1,e]at this
   exact this
theorem aa7 {p:Pg} (hR:p.Right) {m:Mc} {T W:List Int} {x:Im} {f:Pc} {a:Int} (h:mS p p.aR.L a m) (hx:xp p p.aR.L x f) (hp:x.proc=m.top.proc) :
 ((m.do p p.aR.L T W x).2.fin=0→mS p p.aR.L (m.do p p.aR.L T W x).1 (m.do p p.aR.L T W x).2):=by
 intro h0
 have ev : ∀ (m1:Mc) (id:Int) (bu:List Int),(m1.event W id bu).st=m1.st∧(m1.event W id bu).mem=m1.mem:=fun m1 id bu=>⟨(dL W m1 id bu).1,(dL W m1 id bu).2.1⟩
 have key : ∀ (m1:Mc) (b:Int),m1.st=m.st→m1.mem.length=m.mem.length→AtR (Hm p.aR.L x.proc) b→mS p p.aR.L b m1:=fun m1 b h1 h2 h3=>h.of h1 (Nat.le_of_eq h2.symm) (by rw[← hp];exact h3)
 have hw:=gL m x.s.x
 unfold Mc.do at h0 ⊢
 dsimp only at h0 ⊢
 by_cases c7:(x.s.kind==7)=true
 ·rw [if_pos c7]
  have hk:x.s.kind=7:=by simpa using c7
  have hl:=hx.loop (.inl hk)
  have ij:=Bj (L:=p.aR.L) (a:=x.loop) (.inr ⟨hl.1,hl.2.1⟩) (by have:=hl.1;omega)
  obtain⟨g,o⟩:=(pe hR).im _ ij
  refine key _ _ (ev _ _ _).1 (by rw[(ev _ _ _).2]) ?_
  have:=o.next
  rw[hl.2.2]at this;exact this
 rw[if_neg c7]at h0 ⊢
 by_cases c8:(x.s.kind==8)=true
 ·rw [if_pos c8]
  exact key _ _ (ev _ _ _).1 (by rw[(ev _ _ _).2]) (.inr (hx.loop (.inr (by simpa using c8))))
 rw[if_neg c8]at h0 ⊢
 by_cases c10:(x.s.kind==10)=true
 ·rw [if_pos c10]
  refine key _ _ (ev _ _ _).1 (by rw[(ev _ _ _).2]) ?_
  have:=hx.S5 (by simpa using c10)
  rw[hx.proc.1];exact this
 rw[if_neg c10]at h0 ⊢
 by_cases c2:(x.s.kind==2)=true
 ·rw [if_pos c2]at h0 ⊢
  split at h0
  ·cases h0
  ·rename_i n e
   exact key _ _ (ev _ _ _).1 (by rw[(ev _ _ _).2];simp[Mc.set]) hx.next
 rw[if_neg c2]at h0 ⊢
 by_cases cw:(m.bA x.s.x).1.2=true
 ·rw [if_pos cw]at h0 ⊢
  have e1:((m.bA x.s.x).2.event W x.s.id [(m.bA x.s.x).1.1]).st=m.st:=(ev _ _ _).1.trans hw.1
  have e2:((m.bA x.s.x).2.event W x.s.id [(m.bA x.s.x).1.1]).mem.length=m.mem.length:=by rw[(ev _ _ _).2,hw.2.1]
  have fo : ∀ (l:List Sm) (b:Int),AtR (Hm p.aR.L x.proc) (eD l (-1))→AtR (Hm p.aR.L x.proc) b→AtR (Hm p.aR.L x.proc) (firstM l b):=fun l b h1 h2=>by
   cases l with
   |nil=>exact h2
   |cons s l=>exact h1
  split
  ·exact key _ _ e1 (by simp only[Mc.set,zbr];exact e2) hx.next
  split
  ·exact key _ _ e1 e2 hx.next
  split
  ·refine key _ _ e1 e2 ?_
   split
   ·exact fo _ _ hx.aK hx.next
   ·exact fo _ _ hx.a8 hx.next
  split
  ·refine key _ _ e1 e2 ?_
   split
   ·exact hx.next
   ·exact fo _ _ hx.a8 (.inr ⟨hx.self.2.1,hx.self.2.2,by rw[hx.self.1]⟩)
  ·exact key _ _ e1 e2 hx.next
 ·rw [if_neg cw]at h0
  have:(m.bA x.s.x).2.fin=4:=by unfold Mc.bA;dsimp only;rw[if_neg (show ¬ (x.s.x.bA m.top.names m.bu).2=true from cw)]
  rw[this]at h0;cases h0
end Go.Abs
namespace Go.Abs
structure Lay where
 κ:List Nat
 φ:List Nat
 sd:D
 vd:D
def D.arr:D→List Nat
 | .dM _ o _ _=> [o]
 |_=> []
def Lay.own (y:Lay):List Nat:=0::(y.κ++(y.sd.arr++y.vd.arr))
def fZ (o:Nat):List D:= [.ptr o 0]
def qR (κ:List Nat) (f:Fr):List D:= [.int .i64 f.proc, .slice .shared 1 (f.names.map encStr), .slice .shared 1 (f.vars.map fun c=>fZ (κ.getD c 0)), .int .i64 f.call]
def gT (e:Int×List Int):List D:= [.int .i64 e.1, .slice .shared 1 (e.2.map bD)]
abbrev fO (p:Pg) (T W:List Int) (y:Lay) (m:Mc):List D:=
 [.dO (fU p) 0, .slice .shared 1 ((y.κ.take p.globals.length).map fZ), .slice .shared 1 (T.map bD), .slice .shared 1 (W.map bD),y.sd,y.vd,
  .int .i64 m.fin, .int .i64 m.steps, .int .i64 m.reads, .slice (.tok 0) 1 (m.out.map bD), .slice (.tok 1) 2 (m.trace.map gT)]
def kl (n:Int):D:= .int .i64 n
def yZ (o:Nat):D:= .ptr o 0
def kG (s:St) (d:D) (cs:List D):Prop:=(d = .ek 1∧cs = [])∨∃ o g more,d = .dM 1 o g cs.length∧s.aq[o]? = some (.int .i64 ((g:Nat):Int)::(cs++more))
structure Inv (p:Pg) (T W:List Int) (y:Lay) (m:Mc) (loc:List (Nat×List D)) (s:St):Prop where
 eW:s.aq[0]? = some (fO p T W y m)
 t0:s.ay[0]? = some (some m.out.length)
 t1:s.ay[1]? = some (some m.trace.length)
 len:y.κ.length=m.mem.length
 cell : ∀ (i c:Nat) (v:Int),y.κ[i]? = some c→m.mem[i]? = some v→s.aq[c]? = some [.int .i64 v]
 uI:y.φ.length=m.st.length
 frame : ∀ (i o:Nat) (fr:Fr),y.φ[i]? = some o→m.st[i]? = some fr→s.aq[o]? = some (qR y.κ fr)∧o∉y.own∧∀ c∈fr.vars,c<m.mem.length
 stack:kG s y.sd (y.φ.reverse.map yZ)
 bu : ∃ l:List Int,kG s y.vd (l.map kl)
 own:y.own.Nodup
 loc : ∀ q∈loc,s.aq[q.1]? = some q.2∧q.1∉y.own
theorem kG.lt {s:St} {d:D} {cs:List D} (h:kG s d cs) : ∀ o∈d.arr,o<s.aq.length:=by
 rcases h with ⟨rfl,_⟩|⟨o,g,more,rfl,h⟩
 ·intro o m;simp[D.arr]at m
 ·intro o' m
  have:o'=o:=by simpa[D.arr]using m
  subst this;exact df h
theorem kG.keep {s s':St} {d:D} {cs:List D} (h:kG s d cs) (k : ∀ o∈d.arr,s'.aq[o]? = s.aq[o]?):kG s' d cs:=by
 rcases h with h|⟨o,g,more,rfl,h⟩
 ·exact .inl h
 ·exact .inr ⟨o,g,more,rfl,by rw[k o (by simp[D.arr])];exact h⟩
theorem Kd {κ e:List Nat} {fr:Fr} (h : ∀ c∈fr.vars,c<κ.length):qR (κ++e) fr=qR κ fr:=by
 unfold qR
 rw[zbo (g:=fun c=>fZ (κ.getD c 0)) fun c m=>by rw[zay,zay,zak (h c m)]]
section
variable {p:Pg} {T W:List Int} {y:Lay} {m:Mc} {loc:List (Nat×List D)} {s:St}
theorem Inv.rZ (h:Inv p T W y m loc s) : ∀ o∈y.own,o<s.aq.length:=by
 intro o mo
 simp only[Lay.own,zap,zaq]at mo
 rcases mo with rfl|mo|mo|mo
 ·exact df h.eW
 ·obtain⟨i,hi⟩:=List.getElem?_of_mem mo
  have hD:=(zac.1 hi).1
  exact df (h.cell i o _ hi (zah (by rw[← h.len];exact hD)))
 ·exact h.stack.lt o mo
 ·obtain⟨l,hl⟩:=h.bu
  exact hl.lt o mo
theorem Inv.wk (h:Inv p T W y m loc s):0<s.aq.length:=df h.eW
theorem Inv.sub (h:Inv p T W y m loc s) {NB:List (Nat×List D)} (hl : ∀ q∈NB,q∈loc):Inv p T W y m NB s:= {h with loc:=fun q m=>h.loc q (hl q m)}
theorem Inv.keep (h:Inv p T W y m loc s) {s':St} (k : ∀ (o:Nat) (r:List D),s.aq[o]? = some r→s'.aq[o]? = some r) (k0:s'.ay[0]? = s.ay[0]?) (k1:s'.ay[1]? = s.ay[1]?):Inv p T W y m loc s':=by
 have ka : ∀ {d:D} {cs:List D},kG s d cs→kG s' d cs:=fun ha=>ha.keep fun o mo=>by
  rw[zah (ha.lt o mo)];exact k o _ (zah _)
 obtain⟨l,hl⟩:=h.bu
 exact⟨k _ _ h.eW,by rw[k0];exact h.t0,by rw[k1];exact h.t1,h.len,fun i c v h1 h2=>k _ _ (h.cell i c v h1 h2),h.uI,fun i o fr h1 h2=>⟨k _ _ (h.frame i o fr h1 h2).1,(h.frame i o fr h1 h2).2⟩,
  ka h.stack,⟨l,ka hl⟩,h.own,fun q m=>⟨k _ _ (h.loc q m).1,(h.loc q m).2⟩⟩
theorem Inv.new (h:Inv p T W y m loc s) (row:List D):Inv p T W y m ((s.aq.length,row)::loc) ⟨s.aq++ [row],s.ay⟩:=by
 have h':=h.keep (s':=⟨s.aq++ [row],s.ay⟩) (fun o r e=>by rw[zak (df e)];exact e) rfl rfl
 refine {h' with loc:=fun q mq=>?_}
 rcases zap.1 mq with rfl|mq
 ·exact⟨by simp,fun mo=>zbY _ (h.rZ _ mo)⟩
 ·exact h'.loc q mq
theorem Inv.ay (h:Inv p T W y m loc s) (ts:List (Option Nat)):Inv p T W y m loc ⟨s.aq,s.ay++ts⟩:=
 h.keep (fun _ _ e=>e) (zak (zac.1 h.t0).1) (zak (zac.1 h.t1).1)
theorem Inv.Qx (h:Inv p T W y m loc s) {o:Nat} (ho:o∈y.own) (row:List D) {q:Nat} {r:List D} (hq:s.aq[q]? = some r) (hn:q≠o):(s.aq.set o row)[q]? = some r:=by
 rw[zam (Ne.symm hn)];exact hq
theorem Inv.xq (h:Inv p T W y m loc s) {o:Nat} (ho:o∈y.κ++(y.sd.arr++y.vd.arr)):o≠0:=fun e=>by
 have:=h.own
 rw[Lay.own,za4]at this
 exact this.1 (e ▸ ho)
theorem Inv.lT (h:Inv p T W y m loc s) {m':Mc} (h1:m'.st=m.st) (h2:m'.mem=m.mem) {ts:List (Option Nat)} (k0:ts[0]? = some (some m'.out.length)) (k1:ts[1]? = some (some m'.trace.length)) :
 Inv p T W y m' loc ⟨s.aq.set 0 (fO p T W y m'),ts⟩:=by
 have ne : ∀ {q:Nat} {r:List D},s.aq[q]? = some r→q≠0→(s.aq.set 0 (fO p T W y m'))[q]? = some r:=fun e hn=>h.Qx (by simp[Lay.own]) _ e hn
 have nf : ∀ {q:Nat},q∉y.own→q≠0:=fun hq e=>hq (by rw[e];simp[Lay.own])
 have ka : ∀ {d:D} {cs:List D},(∀ o∈d.arr,o∈y.κ++(y.sd.arr++y.vd.arr))→kG s d cs→kG ⟨s.aq.set 0 (fO p T W y m'),ts⟩ d cs:=fun hd ha=>ha.keep fun o mo=>by
  show(s.aq.set 0 _)[o]? = _
  rw[zam (Ne.symm (h.xq (hd o mo)))]
 obtain⟨l,hl⟩:=h.bu
 refine⟨by simp[h.wk],k0,k1,by rw[h2];exact h.len,fun i c v e1 e2=>ne (h.cell i c v e1 (by rw[← h2];exact e2)) (h.xq (zaJ _ (zad e1))),by rw[h1];exact h.uI,fun i o fr e1 e2=>?_,
  ka (fun o m=>by simp[m]) h.stack,⟨l,ka (fun o m=>by simp[m]) hl⟩,h.own,fun q mq=>⟨ne (h.loc q mq).1 (nf (h.loc q mq).2),(h.loc q mq).2⟩⟩
 rw[h1]at e2
 obtain⟨g1,g2,g3⟩:=h.frame i o fr e1 e2
 exact⟨ne g1 (nf g2),g2,by rw[h2];exact g3⟩
theorem Inv.IX (h:Inv p T W y m loc s) {i c:Nat} (hc:y.κ[i]? = some c) (v:Int):Inv p T W y {m with mem:=m.mem.set i v} loc ⟨s.aq.set c [.int .i64 v],s.ay⟩:=by
 have ij:c∈y.κ:=zad hc
 have ko:c<s.aq.length:=h.rZ c (by simp[Lay.own,ij])
 have zN:=h.own
 rw[Lay.own,za4,zba]at zN
 have hκ : ∀ i',y.κ[i']? = some c→i'=i:=fun i' e=>(List.getElem?_inj (zac.1 e).1 zN.2.1).1 (e.trans hc.symm)
 have ne : ∀ {q:Nat} {r:List D},s.aq[q]? = some r→q≠c→(s.aq.set c [.int .i64 v])[q]? = some r:=fun e hn=>h.Qx (o:=c) (by simp[Lay.own,ij]) _ e hn
 have nf : ∀ {q:Nat},q∉y.own→q≠c:=fun hq e=>hq (by rw[e];simp[Lay.own,ij])
 have ka : ∀ {d:D} {cs:List D},(∀ o∈d.arr,o∈y.sd.arr++y.vd.arr)→kG s d cs→kG ⟨s.aq.set c [.int .i64 v],s.ay⟩ d cs:=fun hd ha=>ha.keep fun o mo=>by
  show(s.aq.set c _)[o]? = _
  rw[zam (fun e=>zN.2.2.2 c ij o (hd o mo) e)]
 obtain⟨l,hl⟩:=h.bu
 refine⟨ne h.eW (fun e=>h.xq (zaJ _ ij) e.symm),h.t0,h.t1,by rw[h.len,zbr],fun i' c' v' e1 e2=>?_,h.uI,fun i' o fr e1 e2=>?_,
  ka (fun o m=>by simp[m]) h.stack,⟨l,ka (fun o m=>by simp[m]) hl⟩,h.own,fun q mq=>⟨ne (h.loc q mq).1 (nf (h.loc q mq).2),(h.loc q mq).2⟩⟩
 ·show(s.aq.set c _)[c']? = _
  simp only[zaL]at e2
  by_cases e:i=i'
  ·subst e
   rw[hc]at e1;cases e1
   rw[if_pos rfl]at e2
   split at e2
   ·cases e2;simp[ko]
   ·cases e2
  ·rw [if_neg e]at e2
   have:c'≠c:=fun ec=>e (hκ i' (by rw[e1,ec])).symm
   exact ne (h.cell i' c' v' e1 e2) this
 ·obtain⟨g1,g2,g3⟩:=h.frame i' o fr e1 e2
  exact⟨ne g1 (nf g2),g2,by simpa using g3⟩
theorem Inv.IY (h:Inv p T W y m loc s) (v:Int) (hg:p.globals.length≤m.mem.length):Inv p T W {y with κ:=y.κ++ [s.aq.length]} {m with mem:=m.mem++ [v]} loc ⟨s.aq++ [[.int .i64 v]],s.ay⟩:=by
 have h':=h.keep (s':=⟨s.aq++ [[.int .i64 v]],s.ay⟩) (fun o r e=>by rw[zak (df e)];exact e) rfl rfl
 have py:s.aq.length∉y.own:=fun mo=>zbY _ (h.rZ _ mo)
 have zN:=h.own
 have ho : ∀ o,o∈Lay.own {y with κ:=y.κ++ [s.aq.length]}→o∈y.own∨o=s.aq.length:=fun o mo=>by
  simp only[Lay.own,zap,zaq]at mo ⊢
  rcases mo with rfl|(mo|rfl|mo)|mo|mo
  ·exact .inl (.inl rfl)
  ·exact .inl (.inr (.inl mo))
  ·exact .inr rfl
  ·cases mo
  ·exact .inl (.inr (.inr (.inl mo)))
  ·exact .inl (.inr (.inr (.inr mo)))
 refine⟨by rw[h'.eW];simp only[fO];rw[zbL (by rw[h.len];exact hg)],h'.t0,h'.t1,by simp[h.len],fun i c v' e1 e2=>?_,h'.uI,fun i o fr e1 e2=>?_,h'.stack,h'.bu, ?_,fun q mq=>⟨(h'.loc q mq).1,fun mo=>?_⟩⟩
 ·rcases zaE i y.κ.length with hi | hi
  ·rw [zak hi]at e1
   rw[zak (by rw[← h.len];exact hi)]at e2
   exact h'.cell i c v' e1 e2
  ·have jf:i=y.κ.length:=by
    have:=(zac.1 e1).1
    simp at this;omega
   subst jf
   rw[zas (zal _)]at e1
   rw[zas (by rw[h.len];exact zal _)]at e2
   simp at e1;subst e1
   simp[h.len]at e2;subst e2
   simp
 ·obtain⟨g1,g2,g3⟩:=h'.frame i o fr e1 e2
  refine⟨by rw[Kd (by rw[h.len];exact g3)];exact g1,fun mo=>?_,fun c mc=>by simp only[zaj];have:=g3 c mc;omega⟩
  rcases ho o mo with mo|rfl
  ·exact g2 mo
  ·exact absurd (df (h.frame i _ fr e1 e2).1) (zbY _)
 ·have:(Lay.own {y with κ:=y.κ++ [s.aq.length]}).Perm (s.aq.length::y.own):=by
   simp only[Lay.own,zaB,List.singleton_append]
   exact(List.Perm.cons _ List.perm_middle).trans (List.Perm.swap _ _ _)
  rw[this.nodup_iff,za4]
  exact⟨py,zN⟩
 ·rcases ho _ mo with mo | e
  ·exact(h'.loc q mq).2 mo
  ·exact absurd (df (h.loc q mq).1) (by rw[e];exact zbY _)
theorem Inv.S8 (h:Inv p T W y m loc s) {vd:D} {s1:St} (k : ∀ (o:Nat) (r:List D),s.aq[o]? = some r→o∉y.vd.arr→s1.aq[o]? = some r) (hv : ∃ l:List Int,kG s1 vd (l.map kl)) (hn:vd.arr=y.vd.arr∨vd.arr = []∨vd.arr = [s.aq.length]) (ht:s1.ay=s.ay) :
 Inv p T W {y with vd:=vd} m loc ⟨s1.aq.set 0 (fO p T W {y with vd:=vd} m),s1.ay⟩:=by
 have zN:=h.own
 have agB:=zN
 rw[Lay.own,za4,zba,zba]at agB
 obtain⟨n0,nκ,⟨ns,nv,nsv⟩,ND⟩:=agB
 have v0 : ∀ o∈y.vd.arr,o≠0:=fun o mo=>h.xq (by simp[mo])
 have vZ:0<s1.aq.length:=df (k 0 _ h.eW fun mo=>v0 0 mo rfl)
 have g : ∀ {o:Nat} {r:List D},s.aq[o]? = some r→o∉y.vd.arr→o≠0→(s1.aq.set 0 (fO p T W {y with vd:=vd} m))[o]? = some r:=fun e hv hn=>by
  rw[zam (Ne.symm hn)];exact k _ _ e hv
 have NF : ∀ o,o∈Lay.own {y with vd:=vd}→o∈y.own∨o=s.aq.length:=fun o mo=>by
  simp only[Lay.own,zap,zaq]at mo ⊢
  rcases mo with rfl|mo|mo|mo
  ·exact .inl (.inl rfl)
  ·exact .inl (.inr (.inl mo))
  ·exact .inl (.inr (.inr (.inl mo)))
  ·rcases hn with e | e | e
   ·rw[e]at mo;exact .inl (.inr (.inr (.inr mo)))
   ·rw[e]at mo;cases mo
   ·rw[e]at mo;exact .inr (zaG.1 mo)
 have nk : ∀ o∈y.κ,o∉y.vd.arr:=fun o mo mv=>ND o mo o (za7 _ mv) rfl
 have nsd : ∀ o∈y.sd.arr,o∉y.vd.arr:=fun o mo mv=>nsv o mo o mv rfl
 have nfr : ∀ {o:Nat},o∉y.own→o∉y.vd.arr∧o≠0:=fun ho=>⟨fun mv=>ho (by simp[Lay.own,mv]),fun e=>ho (by rw[e];simp[Lay.own])⟩
 obtain⟨l,hl⟩:=hv
 refine⟨by simp[vZ],by rw[ht];exact h.t0,by rw[ht];exact h.t1,h.len,fun i c v e1 e2=>g (h.cell i c v e1 e2) (nk c (zad e1)) (h.xq (by simp[zad e1])),h.uI,fun i o fr e1 e2=>?_, ?_,⟨l, ?_⟩, ?_,fun q mq=>?_⟩
 ·obtain⟨f1,f2,f3⟩:=h.frame i o fr e1 e2
  refine⟨g f1 (nfr f2).1 (nfr f2).2,fun mo=>?_,f3⟩
  rcases NF o mo with mo|e
  ·exact f2 mo
  ·exact absurd (df f1) (by rw[e];exact zbY _)
 ·refine h.stack.keep fun o mo=> ?_
  rw[zah (h.stack.lt o mo)]
  exact g (zah _) (nsd o mo) (h.xq (by simp[mo]))
 ·refine hl.keep fun o mo=> ?_
  have:o≠0:=by
   rcases hn with e|e|e
   ·rw[e]at mo;exact v0 o mo
   ·rw[e]at mo;cases mo
   ·rw[e]at mo;rw[zaG.1 mo];have:=h.wk;omega
  show(s1.aq.set 0 _)[o]? = _
  rw[zam (Ne.symm this)]
 ·rcases hn with e | e | e
  ·simp only[Lay.own,e];exact zN
  ·simp only [Lay.own,e,zaI]
   rw[za4,zba]
   exact⟨fun m=>n0 (by rcases zaq.1 m with m|m<;>simp[m]),nκ,ns,fun a ma b mb=>ND a ma b (zaJ _ mb)⟩
  ·simp only [Lay.own,e]
   have du : ∀ o∈y.own,o≠s.aq.length:=fun o mo e=>by have:=h.rZ o mo;omega
   rw[za4,zba,zba]
   refine⟨fun m=>?_,nκ,⟨ns,by simp,fun a ma b mb=>?_⟩,fun a ma b mb=>?_⟩
   ·rcases zaq.1 m with m | m
    ·exact n0 (by simp[m])
    ·rcases zaq.1 m with m | m
     ·exact n0 (by simp[m])
     ·have:=zaG.1 m;have:=h.wk;omega
   ·rw[zaG.1 mb];exact du a (by simp[Lay.own,ma])
   ·rcases zaq.1 mb with mb | mb
    ·exact ND a ma b (zaJ _ mb)
    ·rw[zaG.1 mb];exact du a (by simp[Lay.own,ma])
 ·obtain⟨f1,f2⟩:=h.loc q mq
  refine⟨g f1 (nfr f2).1 (nfr f2).2,fun mo=>?_⟩
  rcases NF q.1 mo with mo|e
  ·exact f2 mo
  ·exact absurd (df f1) (by rw[e];exact zbY _)
end
end Go.Abs
