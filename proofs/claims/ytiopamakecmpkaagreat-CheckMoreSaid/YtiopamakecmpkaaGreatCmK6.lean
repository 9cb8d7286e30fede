/-
  What is proved here: part 6 of the road to the claim (CmB, MirNum, Nb1, CmC, Swap0, MayEq2, Rng, FineM, Swap2p, Nm2, Nm3, Tree1, Tree2, Sc1, Sc2, Sc3, ScP, Sc4, Sc5, Ar1, Ar2, Ar3, Srt1, Shelf, SortR, SrtP, Tc1, Tc2, Tc3, Bsl, Tc4, Tc5, Tc6, ToP, FlP, JmpP, Al1, Al2, Al3, Prs3).
  No conditions.
-/
import Derived.Test.YtiopamakecmpkaaGreatCmK5
import Derived.Shelf.Small.Bits
import Derived.Shelf.Strconv.Itoa0
import Derived.Shelf.Sort.Plain
import Derived.Shelf.Slices.Turned
import Derived.Ground.Names2Prog
import Derived.Shelf.Slices.Clone
import Derived.Shelf.Slices.CompactS
import Derived.Shelf.Slices.Cells
import Derived.Shelf.Slices.In.SortNone
import Derived.Ground.SlgnProg
import Derived.Shelf.SlicesE.Clone
import Derived.Test.YtiopamakecmpkaaGreatProg
import Derived.Sort.Walk0

set_option linter.unusedSimpArgs false
set_option linter.unusedVariables false
namespace Go.Abs
set_option maxRecDepth 8000
set_option maxHeartbeats 4000000
open Go.Proofs
def pP (f:Pc) (d:D):List D:= [.str f.name, .slice .shared 2 (f.params.map df), .slice .shared 1 (f.vars.map encStr),d, .slice .shared 1 (f.fin.map encStr)]
def b8 (A:List Pc) (f:Pc) (d:D) (C:List Pc):List D:=(A.map bn).flatten++(pP f d++(C.map bn).flatten)
theorem SP (A:List Pc) (f:Pc) (d:D) (C:List Pc):(b8 A f d C).length=(A.length+1+C.length)*5:=by
 simp only[b8,zai,nr,pP,zal,zaE];omega
theorem Ab (A:List Pc) (f:Pc) (d:D) (C:List Pc) (g:Pc):b8 A f d (C++ [g])=b8 A f d C++bn g:=by
 simp[b8,zaC]
theorem wL (os ts:List Nat) (a b:List D):D.ct os ts (a++b)=D.ct os ts a++D.ct os ts b:=by simp[fb]
theorem zp (n m:Nat) (a b:List D):D.bg n m (a++b)=(D.bg n m a && D.bg n m b):=by simp[pz]
theorem SQ (os ts:List Nat) (l:List Pm):D.kb os ts (l.map df)=l.map df:=BU _ _ _ (wu l)
theorem Wt (n m:Nat) (l:List Pm):D.fu n m (l.map df)=true:=Fy _ _ _ (wu l)
theorem jj (os ts:List Nat) (A:List Pc) (f:Pc) (d:D) (C:List Pc):D.ct os ts (b8 A f d C)=b8 A f (d.bw os ts) C:=by
 simp[b8,wL,lX,pP,D.ct,D.bw,Tag.bw,dQ,SQ]
theorem lY (n m:Nat) (A:List Pc) (f:Pc) (d:D) (C:List Pc):D.bg n m (b8 A f d C)=d.ok n m:=by
 simp[b8,zp,nP,pP,D.bg,D.ok,Tag.ok,fh,Wt]
theorem FA (n m:Nat) (A:List Pc) (f:Pc) (d:D) (C:List Pc):D.eI n m (b8 A f d C)=b8 A f (d.fg n m) C:=by
 have app : ∀ a b:List D,D.eI n m (a++b)=D.eI n m a++D.eI n m b:=fun a b=>by simp[jF]
 have e1:D.iI n m (f.params.map df)=f.params.map df:=rh _ _ _ (wu f.params)
 have e2 : ∀ l:List aA,D.iI n m (l.map encStr)=l.map encStr:=fun l=>rh _ _ _ (dd l)
 simp[b8,app,JA,pP,D.eI,D.fg,Tag.fg,e1,e2]
attribute [go_sem] jj lY FA
theorem ab7 {globals:List aA} {procs A C:List Pc} {y:Pc} (hp:(⟨globals,procs⟩:Pg).size<1000000) {t:Sm} (ht:t.oA<10000000) (hs:procs=A++y::C) (h0:y.body≠ []) {b:List Sm} (hb:Sm.dK (bL t) y.body=b) :
 ay Tryz.prog 85 [.agg (bf ⟨globals,procs⟩), .agg (aH t)] S0 (.agg [.slice .shared 1 (globals.map encStr), .bX 5 4 (procs.length - 1) procs.length])
  ⟨[bf ⟨globals,procs⟩,aH t,[.junk, .junk],[.junk, .junk], .int .i64 ((procs.length - 1:Nat):Int)::b8 (A.map (Pc.cw (bL t))) y (.bX 13 5 (b.length - 1) b.length) (C.map (Pc.cw (bL t))),jq b],[]⟩:=by
 simp only[Pg.size]at hp
 have hlen:procs.length<1000000:=by have:=Pc.cd procs;omega
 have oS:procs.length=A.length+1+C.length:=by rw[hs];simp;omega
 have hG:=fun s=>fk (l:=globals) (by omega) s
 obtain⟨A',BY⟩ : ∃ A',A.map (Pc.cw (bL t))=A':=⟨_,rfl⟩
 have vM:A'.length=A.length:=by rw[← BY,zat]
 rw[BY]
 unfold S0
 refine ay.DX 6 0 (zar _) (zar _) ni.h rfl fun B Q hB hQ=>?_
 have⟨hF,hP,hZ,gA⟩:=bD
 have de:(1:Nat)*113≤aT:=by simp only[aT];omega
 have cY:=fun(tg:Tag) (r:List D) (s:St)=>sW (z:=5) (bytes:=112) tg r s (by simp only[aT];omega)
 have Zf:=Pc.bC (show y∈procs by rw[hs];simp)
 -- behind the one
 have B0:aY Tryz.prog B 47 rV (dF 0 (eK (eo Tryz.prog B 47 rW Q) Q)) (iN procs ((A.length+1:Nat):Int)) ⟨[bf ⟨globals,procs⟩,aH t,[.junk, .junk],[.slice .shared 1 (globals.map encStr), .bX 5 4 (A.length+1 - 1) (A.length+1)], .int .i64 ((A.length+1 - 1:Nat):Int)::b8 A' y (.bX 13 5 (b.length - 1) b.length) [],jq b],[]⟩:=by
  refine aY.ind (ι:=List Pc×Nat×List Pc) (fun i=>procs.drop i.2.1=i.1∧i.2.1=A.length+1+i.2.2.length∧i.2.2++i.1.map (Pc.cw (bL t))=C.map (Pc.cw (bL t))) (fun i=>i.1.length)
   (fun i=>iN procs (i.2.1:Int)) (fun i=>⟨[bf ⟨globals,procs⟩,aH t,[.junk, .junk],[.slice .shared 1 (globals.map encStr), .bX 5 4 (i.2.1 - 1) i.2.1], .int .i64 ((i.2.1 - 1:Nat):Int)::b8 A' y (.bX 13 5 (b.length - 1) b.length) i.2.2,jq b],[]⟩) ?_ (C,A.length+1,[]) ⟨by rw[hs];simp,rfl,rfl⟩
  rintro⟨rest,k,acc⟩ ⟨h1,h2,h4⟩ IH
  dsimp only at h1 h2 h4
  cases rest with
  |nil=>
   have hF:=drop_nil h1
   simp only[zaj,zaA]at h4
   subst h4
   have hk:k=procs.length:=by rw[h2,oS,zat]
   subst hk
   repeat' (first
 |simp only[go_sem,hF,hP,hZ,gA]
 |(with_reducible first|refine bj fun hc=>?_|refine bk fun hc=>?_|refine bl (fun hc=>?_) fun hc=>?_)<;>(try simp only[hc,bs,↓reduceIte]at h)<;>try simp only[hc]
 |((with_reducible refine az hQ ?_);exact dv)
 | (cases h;done))
  | cons z rest=>
   obtain⟨hP,g2,hF,g4⟩:=drop_cons h1
   have cV:=Pc.bC (zac hP)
   obtain⟨name,params,vars,body,fin⟩:=z
   simp only[Pc.size]at cV
   have hk:k<4611686018427387904:=by omega
   have c1:=fun s=>fk (l:=vars) (by omega) s
   have c2:=fun s=>fk (l:=fin) (by omega) s
   have c3:=fun s=>me ht (l:=body) (by omega) s
   have e2:Pc.cw (bL t) ⟨name,params,vars,body,fin⟩ = ⟨name,params,vars,Sm.dK (bL t) body,fin⟩:=rfl
   have vN:(b8 A' y (.bX 13 5 (b.length - 1) b.length) acc).length=k*5:=by rw[SP,vM,h2]
   have B1:D.eI 6 0 (b8 A' y (.bX 13 5 (b.length - 1) b.length) acc)=b8 A' y (.bX 13 5 (b.length - 1) b.length) acc:=by rw[FA];simp[D.fg]
   generalize hX:b8 A' y (.bX 13 5 (b.length - 1) b.length) acc=X at *
   have gv:=fun(tg:Tag) (r a b' c d q e f:List D) (T:List (Option Nat))=>mq (s:=⟨[a,b',c,d, .int .i64 ((k - 1:Nat):Int)::X,q,e,f],T⟩) (o:=4) (g:=k - 1) (len:=k) (z:=5) (bytes:=112) (t:=tg) (r:=r) rfl vN (by unfold aT;omega)
   have e3:k - 1+1=k:=by omega
   have e6 : ∀ f:Pc,b8 A' y (.bX 13 5 (b.length - 1) b.length) (acc++ [f])=X++bn f:=fun f=>by rw[Ab,hX]
   cases params with
   |nil=>
    have ha:=fun o T=>iV (size:=2) (bytes:=24) (z:=0) (z':=2) (g:= .shared) o T
    repeat' (first
 |simp only[go_sem,hF,hP,hZ,gA,ha,gv,e3]
 |(with_reducible refine CU (c1 _) ?_)
 |(with_reducible refine CU (c2 _) ?_)
 |(with_reducible refine CU (c3 _) ?_)
 |(with_reducible first|refine bj fun hc=>?_|refine bk fun hc=>?_|refine bl (fun hc=>?_) fun hc=>?_)<;>(try simp only[hc,bs,↓reduceIte]at h)<;>try simp only[hc]
 |((with_reducible refine az hQ ?_);(try cases h);simp only[bt,bx,bY,bZ,go_sem,hF,hP,hZ,gA,ha,gv,e3];try exact cB)
 | (cases h;done))
    refine cD 6 0 ?_ ?_ (IH (rest,k+1,acc++ [Pc.cw (bL t) ⟨name,[],vars,body,fin⟩]) ⟨g2,by rw[h2];simp;omega,by rw[← h4];simp⟩ (zaa _))
    ·(simp only[go_sem,hF,hP,hZ,gA,aC hk,e2,e3,e6,B1,zaz];try exact bd)
    ·(simp only[go_sem,hF,hP,hZ,gA,aC hk,e2,e3,e6,B1,zaz];try exact bd)
   |cons q params=>
    have ha:=fun o T=>iU (size:=2) (bytes:=24) (rows:=(q::params).map df) (by simp) (by simp only[zat];unfold aT;omega) (z:=0) (g:= .shared) o T
    generalize q::params=ps at *
    repeat' (first
 |simp only[go_sem,hF,hP,hZ,gA,ha,gv,e3]
 |(with_reducible refine CU (c1 _) ?_)
 |(with_reducible refine CU (c2 _) ?_)
 |(with_reducible refine CU (c3 _) ?_)
 |(with_reducible first|refine bj fun hc=>?_|refine bk fun hc=>?_|refine bl (fun hc=>?_) fun hc=>?_)<;>(try simp only[hc,bs,↓reduceIte]at h)<;>try simp only[hc]
 |((with_reducible refine az hQ ?_);(try cases h);simp only[bt,bx,bY,bZ,go_sem,hF,hP,hZ,gA,ha,gv,e3];try exact cB)
 | (cases h;done))
    refine cD 6 0 ?_ ?_ (IH (rest,k+1,acc++ [Pc.cw (bL t) ⟨name,ps,vars,body,fin⟩]) ⟨g2,by rw[h2];simp;omega,by rw[← h4];simp⟩ (zaa _))
    ·(simp only[go_sem,hF,hP,hZ,gA,aC hk,e2,e3,e6,B1,zaz];try exact bd)
    ·(simp only[go_sem,hF,hP,hZ,gA,aC hk,e2,e3,e6,B1,zaz];try exact bd)
 -- the one
 obtain⟨jb,fc,iA,qN,ke⟩:=y
 simp only[Pc.size]at Zf
 dsimp only at h0 hb
 have d1:=fun s=>fk (l:=iA) (by omega) s
 have d2:=fun s=>fk (l:=ke) (by omega) s
 have hbl:b.length=qN.length:=by rw[← hb];exact D8 _ _
 have d3:=fun s=>ab5 ht (l:=qN) (by omega) h0 s
 rw[hb]at d3
 simp only[← hbl]at d3
 have yB:procs[A.length]? = some ⟨jb,fc,iA,qN,ke⟩:=by rw[hs];simp
 have yC:decide ((A.length:Int)<(procs.length:Int))=true:=by rw[decide_eq_true_eq];omega
 have qc:A.length<4611686018427387904:=by omega
 have e5:b8 A' ⟨jb,fc,iA,qN,ke⟩ (.bX 13 5 (b.length - 1) b.length) [] = (A'.map bn).flatten++ [.str jb, .slice .shared 2 (fc.map df), .slice .shared 1 (iA.map encStr), .bX 13 5 (b.length - 1) b.length, .slice .shared 1 (ke.map encStr)]:=by simp[b8,pP]
 have B3:A'≠ []→eo Tryz.prog B 47 rV (eK (aY Tryz.prog B 47 rV (dF 0 (eK (eo Tryz.prog B 47 rW Q) Q))) (dF 0 (eK (eo Tryz.prog B 47 rW Q) Q))) (iN procs (A.length:Int)) ⟨[bf ⟨globals,procs⟩,aH t,[.junk, .junk],[.slice .shared 1 (globals.map encStr), .bX 5 4 (A'.length - 1) A'.length],fI A'],[]⟩:=by
  intro dL
  have mW:0<A'.length:=zbf.2 dL
  have iu:=aY.oN (P:=Tryz.prog) (a:=rV) (Q:=dF 0 (eK (eo Tryz.prog B 47 rW Q) Q)) (nt:=47) (tm:=iN procs ((A.length+1:Nat):Int)) (s:=⟨[bf ⟨globals,procs⟩,aH t,[.junk, .junk],[.slice .shared 1 (globals.map encStr), .bX 5 4 (A.length+1 - 1) (A.length+1)], .int .i64 ((A.length+1 - 1:Nat):Int)::b8 A' ⟨jb,fc,iA,qN,ke⟩ (.bX 13 6 (b.length - 1) b.length) [],ei,jq b,ei],[]⟩)
   hB [0,1,2,3,4,6] _ _ (by decide) (by simp) (by simp[kq,D.ct,D.bw,D.bg,D.ok,Tag.bw,Tag.ok,mr,nN,nO,pN,dQ,oo,pO,fh,jj,lY,jw,my]) (by simp[mf,Tm.get,D.bw,D.ok,Tag.bw,Tag.ok,iW,jY]) B0
  have B4:b8 A' ⟨jb,fc,iA,qN,ke⟩ (.bX 13 6 (b.length - 1) b.length) [] = (A'.map bn).flatten++ [.str jb, .slice .shared 2 (fc.map df), .slice .shared 1 (iA.map encStr), .bX 13 6 (b.length - 1) b.length, .slice .shared 1 (ke.map encStr)]:=by simp[b8,pP]
  have gv:=fun(tg:Tag) (r a b' c d e q f:List D) (T:List (Option Nat))=>mq (s:=⟨[a,b',c,d,fI A',e,q,f],T⟩) (o:=4) (g:=A'.length - 1) (len:=A'.length) (z:=5) (bytes:=112) (t:=tg) (r:=r) rfl (nr A') (by unfold aT;omega)
  have e3:A'.length - 1+1=A'.length:=by omega
  cases fc with
  |nil=>
   have ha:=fun o T=>iV (size:=2) (bytes:=24) (z:=0) (z':=2) (g:= .shared) o T
   repeat' (first
 |simp only[go_sem,hF,hP,hZ,gA,yB,yC,ha,gv,e3]
 |(with_reducible refine CU (d1 _) ?_)
 |(with_reducible refine CU (d2 _) ?_)
 |(with_reducible refine CU (d3 _) ?_)
 |(with_reducible first|refine bj fun hc=>?_|refine bk fun hc=>?_|refine bl (fun hc=>?_) fun hc=>?_)<;>(try simp only[hc,bs,↓reduceIte]at h)<;>try simp only[hc]
 |((with_reducible refine az hQ ?_);(try cases h);simp only[bt,bx,bY,bZ,go_sem,hF,hP,hZ,gA,yB,yC,ha,gv,e3];try exact cB)
 | (cases h;done))
   refine cD 8 0 ?_ ?_ (iu)
   ·(simp only[go_sem,hF,hP,hZ,gA,aC qc,e3,B4,vM,zaz,ei];try exact bd)
   ·(simp only[go_sem,hF,hP,hZ,gA,aC qc,e3,B4,vM,zaz,ei];try exact bd)
  |cons q params=>
   have ha:=fun o T=>iU (size:=2) (bytes:=24) (rows:=(q::params).map df) (by simp) (by simp only[zat];unfold aT;omega) (z:=0) (g:= .shared) o T
   generalize q::params=ps at *
   repeat' (first
 |simp only[go_sem,hF,hP,hZ,gA,yB,yC,ha,gv,e3]
 |(with_reducible refine CU (d1 _) ?_)
 |(with_reducible refine CU (d2 _) ?_)
 |(with_reducible refine CU (d3 _) ?_)
 |(with_reducible first|refine bj fun hc=>?_|refine bk fun hc=>?_|refine bl (fun hc=>?_) fun hc=>?_)<;>(try simp only[hc,bs,↓reduceIte]at h)<;>try simp only[hc]
 |((with_reducible refine az hQ ?_);(try cases h);simp only[bt,bx,bY,bZ,go_sem,hF,hP,hZ,gA,yB,yC,ha,gv,e3];try exact cB)
 | (cases h;done))
   refine cD 8 0 ?_ ?_ (iu)
   ·(simp only[go_sem,hF,hP,hZ,gA,aC qc,e3,B4,vM,zaz,ei];try exact bd)
   ·(simp only[go_sem,hF,hP,hZ,gA,aC qc,e3,B4,vM,zaz,ei];try exact bd)
 repeat' (first
 |simp only[go_sem,hF,hP,hZ,gA]
 |(with_reducible refine CU (hG _) ?_)
 |(with_reducible first|refine bj fun hc=>?_|refine bk fun hc=>?_|refine bl (fun hc=>?_) fun hc=>?_)<;>(try simp only[hc,bs,↓reduceIte]at h)<;>try simp only[hc]
 |((with_reducible refine az hQ ?_);exact dv)
 |(cases h;done))
 refine cr 4 0 (aY.kF (tm:=iN procs 0) (s:=⟨[bf ⟨globals,procs⟩,aH t,[.junk, .junk],[.slice .shared 1 (globals.map encStr), .dj 5]],[]⟩) ?_)
 have w1:IntKind.wrap .i64 ((0:Int)+1)=((1:Nat):Int):=rfl
 cases A with
 | nil=>
  -- the one is the first
  have Hj:A' = []:=by rw[← BY];rfl
  subst Hj
  clear B3
  have iu:=aY.oN (P:=Tryz.prog) (a:=rV) (Q:=dF 0 (eK (eo Tryz.prog B 47 rW Q) Q)) (nt:=47) (tm:=iN procs ((1:Nat):Int)) (s:=⟨[bf ⟨globals,procs⟩,aH t,[.junk, .junk],[.slice .shared 1 (globals.map encStr), .bX 5 7 0 1],ei,jq b,ei, .int .i64 ((0:Nat):Int)::b8 [] ⟨jb,fc,iA,qN,ke⟩ (.bX 13 5 (b.length - 1) b.length) []],[]⟩)
   hB [0,1,2,3,7,5] _ _ (by decide) (by simp) (by simp[kq,D.ct,D.bw,D.bg,D.ok,Tag.bw,Tag.ok,mr,nN,nO,pN,dQ,oo,pO,fh,jj,lY,jw,my]) (by simp[mf,Tm.get,D.bw,D.ok,Tag.bw,Tag.ok,iW,jY]) B0
  have e4:b8 [] ⟨jb,fc,iA,qN,ke⟩ (.bX 13 5 (b.length - 1) b.length) [] = [.str jb, .slice .shared 2 (fc.map df), .slice .shared 1 (iA.map encStr), .bX 13 5 (b.length - 1) b.length, .slice .shared 1 (ke.map encStr)]:=by simp[b8,pP]
  have wM:procs[0]? = some ⟨jb,fc,iA,qN,ke⟩:=yB
  have rL:decide ((0:Int)<(procs.length:Int))=true:=yC
  cases fc with
  |nil=>
   have ha:=fun o T=>iV (size:=2) (bytes:=24) (z:=0) (z':=2) (g:= .shared) o T
   repeat' (first
 |simp only[go_sem,hF,hP,hZ,gA,wM,rL,de,ha,cY]
 |(with_reducible refine CU (d1 _) ?_)
 |(with_reducible refine CU (d2 _) ?_)
 |(with_reducible refine CU (d3 _) ?_)
 |(with_reducible first|refine bj fun hc=>?_|refine bk fun hc=>?_|refine bl (fun hc=>?_) fun hc=>?_)<;>(try simp only[hc,bs,↓reduceIte]at h)<;>try simp only[hc]
 |((with_reducible refine az hQ ?_);(try cases h);simp only[bt,bx,bY,bZ,go_sem,hF,hP,hZ,gA,wM,rL,de,ha,cY];try exact cB)
 | (cases h;done))
   refine cD 8 0 ?_ ?_ (iu)
   ·(simp only[go_sem,hF,hP,hZ,gA,w1,e4,ei];try exact bd)
   ·(simp only[go_sem,hF,hP,hZ,gA,w1,e4,ei];try exact bd)
  |cons q params=>
   have ha:=fun o T=>iU (size:=2) (bytes:=24) (rows:=(q::params).map df) (by simp) (by simp only[zat];unfold aT;omega) (z:=0) (g:= .shared) o T
   generalize q::params=ps at *
   repeat' (first
 |simp only[go_sem,hF,hP,hZ,gA,wM,rL,de,ha,cY]
 |(with_reducible refine CU (d1 _) ?_)
 |(with_reducible refine CU (d2 _) ?_)
 |(with_reducible refine CU (d3 _) ?_)
 |(with_reducible first|refine bj fun hc=>?_|refine bk fun hc=>?_|refine bl (fun hc=>?_) fun hc=>?_)<;>(try simp only[hc,bs,↓reduceIte]at h)<;>try simp only[hc]
 |((with_reducible refine az hQ ?_);(try cases h);simp only[bt,bx,bY,bZ,go_sem,hF,hP,hZ,gA,wM,rL,de,ha,cY];try exact cB)
 | (cases h;done))
   refine cD 8 0 ?_ ?_ (iu)
   ·(simp only[go_sem,hF,hP,hZ,gA,w1,e4,ei];try exact bd)
   ·(simp only[go_sem,hF,hP,hZ,gA,w1,e4,ei];try exact bd)
 | cons x A=>
  -- another one is the first
  have Pj:Pc.cw (bL t) x::A.map (Pc.cw (bL t))=A':=BY
  have MB:aY Tryz.prog B 47 rV (dF 0 (eK (eo Tryz.prog B 47 rW Q) Q)) (iN procs ((1:Nat):Int)) ⟨[bf ⟨globals,procs⟩,aH t,[.junk, .junk],[.slice .shared 1 (globals.map encStr), .bX 5 4 0 1],fI [Pc.cw (bL t) x]],[]⟩:=by
   refine aY.ind (ι:=List Pc×Nat×List Pc) (fun i=>(x::A).drop i.2.1=i.1∧i.2.1=i.2.2.length∧0<i.2.2.length∧i.2.2++i.1.map (Pc.cw (bL t))=A') (fun i=>i.1.length)
    (fun i=>iN procs (i.2.1:Int)) (fun i=>⟨[bf ⟨globals,procs⟩,aH t,[.junk, .junk],[.slice .shared 1 (globals.map encStr), .bX 5 4 (i.2.2.length - 1) i.2.2.length],fI i.2.2],[]⟩) ?_ (A,1,[Pc.cw (bL t) x]) ⟨rfl,rfl,zaS,Pj⟩
   rintro⟨rest,k,acc⟩ ⟨h1,h2,h3,h4⟩ IH
   dsimp only at h1 h2 h3 h4
   subst h2
   cases rest with
   |nil=>
    simp only[zaj,zaA]at h4
    subst h4
    have:=B3 (List.ne_nil_of_length_pos h3)
    rw[← vM]at this
    exact this
   | cons z rest=>
    obtain⟨Zg,g2,xi,Zh⟩:=drop_cons h1
    have hP:procs[acc.length]? = some z:=by rw[hs,zao Zh];exact Zg
    have hF:decide ((acc.length:Int)<(procs.length:Int))=true:=by rw[decide_eq_true_eq];omega
    have cV:=Pc.bC (zac hP)
    obtain⟨name,params,vars,body,fin⟩:=z
    simp only[Pc.size]at cV
    have hk:acc.length<4611686018427387904:=by omega
    have c1:=fun s=>fk (l:=vars) (by omega) s
    have c2:=fun s=>fk (l:=fin) (by omega) s
    have c3:=fun s=>me ht (l:=body) (by omega) s
    have e2:Pc.cw (bL t) ⟨name,params,vars,body,fin⟩ = ⟨name,params,vars,Sm.dK (bL t) body,fin⟩:=rfl
    have gv:=fun(tg:Tag) (r a b' c d e f:List D) (T:List (Option Nat))=>mq (s:=⟨[a,b',c,d,fI acc,e,f],T⟩) (o:=4) (g:=acc.length - 1) (len:=acc.length) (z:=5) (bytes:=112) (t:=tg) (r:=r) rfl (nr acc) (by unfold aT;omega)
    have e3:acc.length - 1+1=acc.length:=by omega
    have e6 : ∀ f:Pc,fI (acc++ [f]) = .int .i64 (acc.length:Int)::((acc.map bn).flatten++bn f):=fun f=>by simp
    have e7 : ∀ f:Pc,(acc++ [f]).length=acc.length+1:=fun f=>by simp
    cases params with
    |nil=>
     have ha:=fun o T=>iV (size:=2) (bytes:=24) (z:=0) (z':=2) (g:= .shared) o T
     repeat' (first
 |simp only[go_sem,hF,hP,hZ,gA,ha,gv,e3]
 |(with_reducible refine CU (c1 _) ?_)
 |(with_reducible refine CU (c2 _) ?_)
 |(with_reducible refine CU (c3 _) ?_)
 |(with_reducible first|refine bj fun hc=>?_|refine bk fun hc=>?_|refine bl (fun hc=>?_) fun hc=>?_)<;>(try simp only[hc,bs,↓reduceIte]at h)<;>try simp only[hc]
 |((with_reducible refine az hQ ?_);(try cases h);simp only[bt,bx,bY,bZ,go_sem,hF,hP,hZ,gA,ha,gv,e3];try exact cB)
 | (cases h;done))
     refine cD 5 0 ?_ ?_ (IH (rest,acc.length+1,acc++ [Pc.cw (bL t) ⟨name,[],vars,body,fin⟩]) ⟨g2,by simp,by simp,by rw[← h4];simp⟩ (zaa _))
     ·(simp only[go_sem,hF,hP,hZ,gA,aC hk,e2,e3,e6,e7,zaz];try exact bd)
     ·(simp only[go_sem,hF,hP,hZ,gA,aC hk,e2,e3,e6,e7,zaz];try exact bd)
    |cons q params=>
     have ha:=fun o T=>iU (size:=2) (bytes:=24) (rows:=(q::params).map df) (by simp) (by simp only[zat];unfold aT;omega) (z:=0) (g:= .shared) o T
     generalize q::params=ps at *
     repeat' (first
 |simp only[go_sem,hF,hP,hZ,gA,ha,gv,e3]
 |(with_reducible refine CU (c1 _) ?_)
 |(with_reducible refine CU (c2 _) ?_)
 |(with_reducible refine CU (c3 _) ?_)
 |(with_reducible first|refine bj fun hc=>?_|refine bk fun hc=>?_|refine bl (fun hc=>?_) fun hc=>?_)<;>(try simp only[hc,bs,↓reduceIte]at h)<;>try simp only[hc]
 |((with_reducible refine az hQ ?_);(try cases h);simp only[bt,bx,bY,bZ,go_sem,hF,hP,hZ,gA,ha,gv,e3];try exact cB)
 | (cases h;done))
     refine cD 5 0 ?_ ?_ (IH (rest,acc.length+1,acc++ [Pc.cw (bL t) ⟨name,ps,vars,body,fin⟩]) ⟨g2,by simp,by simp,by rw[← h4];simp⟩ (zaa _))
     ·(simp only[go_sem,hF,hP,hZ,gA,aC hk,e2,e3,e6,e7,zaz];try exact bd)
     ·(simp only[go_sem,hF,hP,hZ,gA,aC hk,e2,e3,e6,e7,zaz];try exact bd)
  have iy:procs[0]? = some x:=by rw[hs];rfl
  have nu:decide ((0:Int)<(procs.length:Int))=true:=by rw[decide_eq_true_eq];omega
  have cV:=Pc.bC (zac iy)
  obtain⟨name,params,vars,body,fin⟩:=x
  simp only[Pc.size]at cV
  have c1:=fun s=>fk (l:=vars) (by omega) s
  have c2:=fun s=>fk (l:=fin) (by omega) s
  have c3:=fun s=>me ht (l:=body) (by omega) s
  have iu:=aY.oN (P:=Tryz.prog) (a:=rV) (Q:=dF 0 (eK (eo Tryz.prog B 47 rW Q) Q)) (nt:=47) (tm:=iN procs ((1:Nat):Int)) (s:=⟨[bf ⟨globals,procs⟩,aH t,[.junk, .junk],[.slice .shared 1 (globals.map encStr), .bX 5 6 0 1],ei,ei,fI [Pc.cw (bL t) ⟨name,params,vars,body,fin⟩]],[]⟩)
   hB [0,1,2,3,6] _ _ (by decide) (by simp) (by simp[kq,D.ct,D.bw,D.bg,D.ok,Tag.bw,Tag.ok,mr,nN,nO,pN,dQ,oo,pO,fh,lX,nP]) (by simp[mf,Tm.get,D.bw,D.ok,Tag.bw,Tag.ok,iW,jY]) MB
  have e4:fI [Pc.cw (bL t) ⟨name,params,vars,body,fin⟩] = [.int .i64 0, .str name, .slice .shared 2 (params.map df), .slice .shared 1 (vars.map encStr), .slice .shared 13 ((Sm.dK (bL t) body).map aH), .slice .shared 1 (fin.map encStr)]:=rfl
  cases params with
  |nil=>
   have ha:=fun o T=>iV (size:=2) (bytes:=24) (z:=0) (z':=2) (g:= .shared) o T
   repeat' (first
 |simp only[go_sem,hF,hP,hZ,gA,iy,nu,de,ha,cY]
 |(with_reducible refine CU (c1 _) ?_)
 |(with_reducible refine CU (c2 _) ?_)
 |(with_reducible refine CU (c3 _) ?_)
 |(with_reducible first|refine bj fun hc=>?_|refine bk fun hc=>?_|refine bl (fun hc=>?_) fun hc=>?_)<;>(try simp only[hc,bs,↓reduceIte]at h)<;>try simp only[hc]
 |((with_reducible refine az hQ ?_);(try cases h);simp only[bt,bx,bY,bZ,go_sem,hF,hP,hZ,gA,iy,nu,de,ha,cY];try exact cB)
 | (cases h;done))
   refine cD 7 0 ?_ ?_ (iu)
   ·(simp only[go_sem,hF,hP,hZ,gA,w1,e4,ei];try exact bd)
   ·(simp only[go_sem,hF,hP,hZ,gA,w1,e4,ei];try exact bd)
  |cons q params=>
   have ha:=fun o T=>iU (size:=2) (bytes:=24) (rows:=(q::params).map df) (by simp) (by simp only[zat];unfold aT;omega) (z:=0) (g:= .shared) o T
   generalize q::params=ps at *
   repeat' (first
 |simp only[go_sem,hF,hP,hZ,gA,iy,nu,de,ha,cY]
 |(with_reducible refine CU (c1 _) ?_)
 |(with_reducible refine CU (c2 _) ?_)
 |(with_reducible refine CU (c3 _) ?_)
 |(with_reducible first|refine bj fun hc=>?_|refine bk fun hc=>?_|refine bl (fun hc=>?_) fun hc=>?_)<;>(try simp only[hc,bs,↓reduceIte]at h)<;>try simp only[hc]
 |((with_reducible refine az hQ ?_);(try cases h);simp only[bt,bx,bY,bZ,go_sem,hF,hP,hZ,gA,iy,nu,de,ha,cY];try exact cB)
 | (cases h;done))
   refine cD 7 0 ?_ ?_ (iu)
   ·(simp only[go_sem,hF,hP,hZ,gA,w1,e4,ei];try exact bd)
   ·(simp only[go_sem,hF,hP,hZ,gA,w1,e4,ei];try exact bd)
theorem ab8 {globals:List aA} {procs A C:List Pc} {y:Pc} (hp:(⟨globals,procs⟩:Pg).size<1000000) {t:Sm} (ht:t.oA<10000000) (hs:procs=A++y::C) (h0:y.body = []) {b:List Sm} (hb:Sm.dK (bL t) y.body=b) :
 ay Tryz.prog 85 [.agg (bf ⟨globals,procs⟩), .agg (aH t)] S0 (.agg [.slice .shared 1 (globals.map encStr), .bX 5 4 (procs.length - 1) procs.length])
  ⟨[bf ⟨globals,procs⟩,aH t,[.junk, .junk],[.junk, .junk], .int .i64 ((procs.length - 1:Nat):Int)::b8 (A.map (Pc.cw (bL t))) y (.dj 13) (C.map (Pc.cw (bL t)))],[]⟩:=by
 simp only[Pg.size]at hp
 have hlen:procs.length<1000000:=by have:=Pc.cd procs;omega
 have oS:procs.length=A.length+1+C.length:=by rw[hs];simp;omega
 have hG:=fun s=>fk (l:=globals) (by omega) s
 obtain⟨A',BY⟩ : ∃ A',A.map (Pc.cw (bL t))=A':=⟨_,rfl⟩
 have vM:A'.length=A.length:=by rw[← BY,zat]
 rw[BY]
 unfold S0
 refine ay.DX 5 0 (zar _) (zar _) ni.h rfl fun B Q hB hQ=>?_
 have⟨hF,hP,hZ,gA⟩:=bD
 have de:(1:Nat)*113≤aT:=by simp only[aT];omega
 have cY:=fun(tg:Tag) (r:List D) (s:St)=>sW (z:=5) (bytes:=112) tg r s (by simp only[aT];omega)
 have Zf:=Pc.bC (show y∈procs by rw[hs];simp)
 -- behind the one
 have B0:aY Tryz.prog B 47 rV (dF 0 (eK (eo Tryz.prog B 47 rW Q) Q)) (iN procs ((A.length+1:Nat):Int)) ⟨[bf ⟨globals,procs⟩,aH t,[.junk, .junk],[.slice .shared 1 (globals.map encStr), .bX 5 4 (A.length+1 - 1) (A.length+1)], .int .i64 ((A.length+1 - 1:Nat):Int)::b8 A' y (.dj 13) []],[]⟩:=by
  refine aY.ind (ι:=List Pc×Nat×List Pc) (fun i=>procs.drop i.2.1=i.1∧i.2.1=A.length+1+i.2.2.length∧i.2.2++i.1.map (Pc.cw (bL t))=C.map (Pc.cw (bL t))) (fun i=>i.1.length)
   (fun i=>iN procs (i.2.1:Int)) (fun i=>⟨[bf ⟨globals,procs⟩,aH t,[.junk, .junk],[.slice .shared 1 (globals.map encStr), .bX 5 4 (i.2.1 - 1) i.2.1], .int .i64 ((i.2.1 - 1:Nat):Int)::b8 A' y (.dj 13) i.2.2],[]⟩) ?_ (C,A.length+1,[]) ⟨by rw[hs];simp,rfl,rfl⟩
  rintro⟨rest,k,acc⟩ ⟨h1,h2,h4⟩ IH
  dsimp only at h1 h2 h4
  cases rest with
  |nil=>
   have hF:=drop_nil h1
   simp only[zaj,zaA]at h4
   subst h4
   have hk:k=procs.length:=by rw[h2,oS,zat]
   subst hk
   repeat' (first
 |simp only[go_sem,hF,hP,hZ,gA]
 |(with_reducible first|refine bj fun hc=>?_|refine bk fun hc=>?_|refine bl (fun hc=>?_) fun hc=>?_)<;>(try simp only[hc,bs,↓reduceIte]at h)<;>try simp only[hc]
 |((with_reducible refine az hQ ?_);exact dv)
 | (cases h;done))
  | cons z rest=>
   obtain⟨hP,g2,hF,g4⟩:=drop_cons h1
   have cV:=Pc.bC (zac hP)
   obtain⟨name,params,vars,body,fin⟩:=z
   simp only[Pc.size]at cV
   have hk:k<4611686018427387904:=by omega
   have c1:=fun s=>fk (l:=vars) (by omega) s
   have c2:=fun s=>fk (l:=fin) (by omega) s
   have c3:=fun s=>me ht (l:=body) (by omega) s
   have e2:Pc.cw (bL t) ⟨name,params,vars,body,fin⟩ = ⟨name,params,vars,Sm.dK (bL t) body,fin⟩:=rfl
   have vN:(b8 A' y (.dj 13) acc).length=k*5:=by rw[SP,vM,h2]
   have B1:D.eI 5 0 (b8 A' y (.dj 13) acc)=b8 A' y (.dj 13) acc:=by rw[FA];simp[D.fg]
   generalize hX:b8 A' y (.dj 13) acc=X at *
   have gv:=fun(tg:Tag) (r a b' c d e f:List D) (T:List (Option Nat))=>mq (s:=⟨[a,b',c,d, .int .i64 ((k - 1:Nat):Int)::X,e,f],T⟩) (o:=4) (g:=k - 1) (len:=k) (z:=5) (bytes:=112) (t:=tg) (r:=r) rfl vN (by unfold aT;omega)
   have e3:k - 1+1=k:=by omega
   have e6 : ∀ f:Pc,b8 A' y (.dj 13) (acc++ [f])=X++bn f:=fun f=>by rw[Ab,hX]
   cases params with
   |nil=>
    have ha:=fun o T=>iV (size:=2) (bytes:=24) (z:=0) (z':=2) (g:= .shared) o T
    repeat' (first
 |simp only[go_sem,hF,hP,hZ,gA,ha,gv,e3]
 |(with_reducible refine CU (c1 _) ?_)
 |(with_reducible refine CU (c2 _) ?_)
 |(with_reducible refine CU (c3 _) ?_)
 |(with_reducible first|refine bj fun hc=>?_|refine bk fun hc=>?_|refine bl (fun hc=>?_) fun hc=>?_)<;>(try simp only[hc,bs,↓reduceIte]at h)<;>try simp only[hc]
 |((with_reducible refine az hQ ?_);(try cases h);simp only[bt,bx,bY,bZ,go_sem,hF,hP,hZ,gA,ha,gv,e3];try exact cB)
 | (cases h;done))
    refine cD 5 0 ?_ ?_ (IH (rest,k+1,acc++ [Pc.cw (bL t) ⟨name,[],vars,body,fin⟩]) ⟨g2,by rw[h2];simp;omega,by rw[← h4];simp⟩ (zaa _))
    ·(simp only[go_sem,hF,hP,hZ,gA,aC hk,e2,e3,e6,B1,zaz];try exact bd)
    ·(simp only[go_sem,hF,hP,hZ,gA,aC hk,e2,e3,e6,B1,zaz];try exact bd)
   |cons q params=>
    have ha:=fun o T=>iU (size:=2) (bytes:=24) (rows:=(q::params).map df) (by simp) (by simp only[zat];unfold aT;omega) (z:=0) (g:= .shared) o T
    generalize q::params=ps at *
    repeat' (first
 |simp only[go_sem,hF,hP,hZ,gA,ha,gv,e3]
 |(with_reducible refine CU (c1 _) ?_)
 |(with_reducible refine CU (c2 _) ?_)
 |(with_reducible refine CU (c3 _) ?_)
 |(with_reducible first|refine bj fun hc=>?_|refine bk fun hc=>?_|refine bl (fun hc=>?_) fun hc=>?_)<;>(try simp only[hc,bs,↓reduceIte]at h)<;>try simp only[hc]
 |((with_reducible refine az hQ ?_);(try cases h);simp only[bt,bx,bY,bZ,go_sem,hF,hP,hZ,gA,ha,gv,e3];try exact cB)
 | (cases h;done))
    refine cD 5 0 ?_ ?_ (IH (rest,k+1,acc++ [Pc.cw (bL t) ⟨name,ps,vars,body,fin⟩]) ⟨g2,by rw[h2];simp;omega,by rw[← h4];simp⟩ (zaa _))
    ·(simp only[go_sem,hF,hP,hZ,gA,aC hk,e2,e3,e6,B1,zaz];try exact bd)
    ·(simp only[go_sem,hF,hP,hZ,gA,aC hk,e2,e3,e6,B1,zaz];try exact bd)
 -- the one
 obtain⟨jb,fc,iA,qN,ke⟩:=y
 simp only[Pc.size]at Zf
 dsimp only at h0 hb
 have d1:=fun s=>fk (l:=iA) (by omega) s
 have d2:=fun s=>fk (l:=ke) (by omega) s
 subst h0
 have hbn:b = []:=by rw[← hb];rfl
 have d3 : ∀ s:St,ay Tryz.prog 145 [.slice .shared 13 [], .agg (aH t)] s (.dj 13) s:=fun s=>ab6 t s
 have yB:procs[A.length]? = some ⟨jb,fc,iA,[],ke⟩:=by rw[hs];simp
 have yC:decide ((A.length:Int)<(procs.length:Int))=true:=by rw[decide_eq_true_eq];omega
 have qc:A.length<4611686018427387904:=by omega
 have e5:b8 A' ⟨jb,fc,iA,[],ke⟩ (.dj 13) [] = (A'.map bn).flatten++ [.str jb, .slice .shared 2 (fc.map df), .slice .shared 1 (iA.map encStr), .dj 13, .slice .shared 1 (ke.map encStr)]:=by simp[b8,pP]
 have B3:A'≠ []→eo Tryz.prog B 47 rV (eK (aY Tryz.prog B 47 rV (dF 0 (eK (eo Tryz.prog B 47 rW Q) Q))) (dF 0 (eK (eo Tryz.prog B 47 rW Q) Q))) (iN procs (A.length:Int)) ⟨[bf ⟨globals,procs⟩,aH t,[.junk, .junk],[.slice .shared 1 (globals.map encStr), .bX 5 4 (A'.length - 1) A'.length],fI A'],[]⟩:=by
  intro dL
  have mW:0<A'.length:=zbf.2 dL
  have iu:=aY.oN (P:=Tryz.prog) (a:=rV) (Q:=dF 0 (eK (eo Tryz.prog B 47 rW Q) Q)) (nt:=47) (tm:=iN procs ((A.length+1:Nat):Int)) (s:=⟨[bf ⟨globals,procs⟩,aH t,[.junk, .junk],[.slice .shared 1 (globals.map encStr), .bX 5 4 (A.length+1 - 1) (A.length+1)], .int .i64 ((A.length+1 - 1:Nat):Int)::b8 A' ⟨jb,fc,iA,[],ke⟩ (.dj 13) [],ei,ei],[]⟩)
   hB [0,1,2,3,4] _ _ (by decide) (by simp) (by simp[kq,D.ct,D.bw,D.bg,D.ok,Tag.bw,Tag.ok,mr,nN,nO,pN,dQ,oo,pO,fh,jj,lY,jw,my]) (by simp[mf,Tm.get,D.bw,D.ok,Tag.bw,Tag.ok,iW,jY]) B0
  have B4:b8 A' ⟨jb,fc,iA,[],ke⟩ (.dj 13) [] = (A'.map bn).flatten++ [.str jb, .slice .shared 2 (fc.map df), .slice .shared 1 (iA.map encStr), .dj 13, .slice .shared 1 (ke.map encStr)]:=by simp[b8,pP]
  have gv:=fun(tg:Tag) (r a b' c d e f:List D) (T:List (Option Nat))=>mq (s:=⟨[a,b',c,d,fI A',e,f],T⟩) (o:=4) (g:=A'.length - 1) (len:=A'.length) (z:=5) (bytes:=112) (t:=tg) (r:=r) rfl (nr A') (by unfold aT;omega)
  have e3:A'.length - 1+1=A'.length:=by omega
  cases fc with
  |nil=>
   have ha:=fun o T=>iV (size:=2) (bytes:=24) (z:=0) (z':=2) (g:= .shared) o T
   repeat' (first
 |simp only[go_sem,hF,hP,hZ,gA,yB,yC,ha,gv,e3]
 |(with_reducible refine CU (d1 _) ?_)
 |(with_reducible refine CU (d2 _) ?_)
 |(with_reducible refine CU (d3 _) ?_)
 |(with_reducible first|refine bj fun hc=>?_|refine bk fun hc=>?_|refine bl (fun hc=>?_) fun hc=>?_)<;>(try simp only[hc,bs,↓reduceIte]at h)<;>try simp only[hc]
 |((with_reducible refine az hQ ?_);(try cases h);simp only[bt,bx,bY,bZ,go_sem,hF,hP,hZ,gA,yB,yC,ha,gv,e3];try exact cB)
 | (cases h;done))
   refine cD 7 0 ?_ ?_ (iu)
   ·(simp only[go_sem,hF,hP,hZ,gA,aC qc,e3,B4,vM,zaz,ei];try exact bd)
   ·(simp only[go_sem,hF,hP,hZ,gA,aC qc,e3,B4,vM,zaz,ei];try exact bd)
  |cons q params=>
   have ha:=fun o T=>iU (size:=2) (bytes:=24) (rows:=(q::params).map df) (by simp) (by simp only[zat];unfold aT;omega) (z:=0) (g:= .shared) o T
   generalize q::params=ps at *
   repeat' (first
 |simp only[go_sem,hF,hP,hZ,gA,yB,yC,ha,gv,e3]
 |(with_reducible refine CU (d1 _) ?_)
 |(with_reducible refine CU (d2 _) ?_)
 |(with_reducible refine CU (d3 _) ?_)
 |(with_reducible first|refine bj fun hc=>?_|refine bk fun hc=>?_|refine bl (fun hc=>?_) fun hc=>?_)<;>(try simp only[hc,bs,↓reduceIte]at h)<;>try simp only[hc]
 |((with_reducible refine az hQ ?_);(try cases h);simp only[bt,bx,bY,bZ,go_sem,hF,hP,hZ,gA,yB,yC,ha,gv,e3];try exact cB)
 | (cases h;done))
   refine cD 7 0 ?_ ?_ (iu)
   ·(simp only[go_sem,hF,hP,hZ,gA,aC qc,e3,B4,vM,zaz,ei];try exact bd)
   ·(simp only[go_sem,hF,hP,hZ,gA,aC qc,e3,B4,vM,zaz,ei];try exact bd)
 repeat' (first
 |simp only[go_sem,hF,hP,hZ,gA]
 |(with_reducible refine CU (hG _) ?_)
 |(with_reducible first|refine bj fun hc=>?_|refine bk fun hc=>?_|refine bl (fun hc=>?_) fun hc=>?_)<;>(try simp only[hc,bs,↓reduceIte]at h)<;>try simp only[hc]
 |((with_reducible refine az hQ ?_);exact dv)
 |(cases h;done))
 refine cr 4 0 (aY.kF (tm:=iN procs 0) (s:=⟨[bf ⟨globals,procs⟩,aH t,[.junk, .junk],[.slice .shared 1 (globals.map encStr), .dj 5]],[]⟩) ?_)
 have w1:IntKind.wrap .i64 ((0:Int)+1)=((1:Nat):Int):=rfl
 cases A with
 | nil=>
  -- the one is the first
  have Hj:A' = []:=by rw[← BY];rfl
  subst Hj
  clear B3
  have iu:=aY.oN (P:=Tryz.prog) (a:=rV) (Q:=dF 0 (eK (eo Tryz.prog B 47 rW Q) Q)) (nt:=47) (tm:=iN procs ((1:Nat):Int)) (s:=⟨[bf ⟨globals,procs⟩,aH t,[.junk, .junk],[.slice .shared 1 (globals.map encStr), .bX 5 6 0 1],ei,ei, .int .i64 ((0:Nat):Int)::b8 [] ⟨jb,fc,iA,[],ke⟩ (.dj 13) []],[]⟩)
   hB [0,1,2,3,6] _ _ (by decide) (by simp) (by simp[kq,D.ct,D.bw,D.bg,D.ok,Tag.bw,Tag.ok,mr,nN,nO,pN,dQ,oo,pO,fh,jj,lY,jw,my]) (by simp[mf,Tm.get,D.bw,D.ok,Tag.bw,Tag.ok,iW,jY]) B0
  have e4:b8 [] ⟨jb,fc,iA,[],ke⟩ (.dj 13) [] = [.str jb, .slice .shared 2 (fc.map df), .slice .shared 1 (iA.map encStr), .dj 13, .slice .shared 1 (ke.map encStr)]:=by simp[b8,pP]
  have wM:procs[0]? = some ⟨jb,fc,iA,[],ke⟩:=yB
  have rL:decide ((0:Int)<(procs.length:Int))=true:=yC
  cases fc with
  |nil=>
   have ha:=fun o T=>iV (size:=2) (bytes:=24) (z:=0) (z':=2) (g:= .shared) o T
   repeat' (first
 |simp only[go_sem,hF,hP,hZ,gA,wM,rL,de,ha,cY]
 |(with_reducible refine CU (d1 _) ?_)
 |(with_reducible refine CU (d2 _) ?_)
 |(with_reducible refine CU (d3 _) ?_)
 |(with_reducible first|refine bj fun hc=>?_|refine bk fun hc=>?_|refine bl (fun hc=>?_) fun hc=>?_)<;>(try simp only[hc,bs,↓reduceIte]at h)<;>try simp only[hc]
 |((with_reducible refine az hQ ?_);(try cases h);simp only[bt,bx,bY,bZ,go_sem,hF,hP,hZ,gA,wM,rL,de,ha,cY];try exact cB)
 | (cases h;done))
   refine cD 7 0 ?_ ?_ (iu)
   ·(simp only[go_sem,hF,hP,hZ,gA,w1,e4,ei];try exact bd)
   ·(simp only[go_sem,hF,hP,hZ,gA,w1,e4,ei];try exact bd)
  |cons q params=>
   have ha:=fun o T=>iU (size:=2) (bytes:=24) (rows:=(q::params).map df) (by simp) (by simp only[zat];unfold aT;omega) (z:=0) (g:= .shared) o T
   generalize q::params=ps at *
   repeat' (first
 |simp only[go_sem,hF,hP,hZ,gA,wM,rL,de,ha,cY]
 |(with_reducible refine CU (d1 _) ?_)
 |(with_reducible refine CU (d2 _) ?_)
 |(with_reducible refine CU (d3 _) ?_)
 |(with_reducible first|refine bj fun hc=>?_|refine bk fun hc=>?_|refine bl (fun hc=>?_) fun hc=>?_)<;>(try simp only[hc,bs,↓reduceIte]at h)<;>try simp only[hc]
 |((with_reducible refine az hQ ?_);(try cases h);simp only[bt,bx,bY,bZ,go_sem,hF,hP,hZ,gA,wM,rL,de,ha,cY];try exact cB)
 | (cases h;done))
   refine cD 7 0 ?_ ?_ (iu)
   ·(simp only[go_sem,hF,hP,hZ,gA,w1,e4,ei];try exact bd)
   ·(simp only[go_sem,hF,hP,hZ,gA,w1,e4,ei];try exact bd)
 | cons x A=>
  -- another one is the first
  have Pj:Pc.cw (bL t) x::A.map (Pc.cw (bL t))=A':=BY
  have MB:aY Tryz.prog B 47 rV (dF 0 (eK (eo Tryz.prog B 47 rW Q) Q)) (iN procs ((1:Nat):Int)) ⟨[bf ⟨globals,procs⟩,aH t,[.junk, .junk],[.slice .shared 1 (globals.map encStr), .bX 5 4 0 1],fI [Pc.cw (bL t) x]],[]⟩:=by
   refine aY.ind (ι:=List Pc×Nat×List Pc) (fun i=>(x::A).drop i.2.1=i.1∧i.2.1=i.2.2.length∧0<i.2.2.length∧i.2.2++i.1.map (Pc.cw (bL t))=A') (fun i=>i.1.length)
    (fun i=>iN procs (i.2.1:Int)) (fun i=>⟨[bf ⟨globals,procs⟩,aH t,[.junk, .junk],[.slice .shared 1 (globals.map encStr), .bX 5 4 (i.2.2.length - 1) i.2.2.length],fI i.2.2],[]⟩) ?_ (A,1,[Pc.cw (bL t) x]) ⟨rfl,rfl,zaS,Pj⟩
   rintro⟨rest,k,acc⟩ ⟨h1,h2,h3,h4⟩ IH
   dsimp only at h1 h2 h3 h4
   subst h2
   cases rest with
   |nil=>
    simp only[zaj,zaA]at h4
    subst h4
    have:=B3 (List.ne_nil_of_length_pos h3)
    rw[← vM]at this
    exact this
   | cons z rest=>
    obtain⟨Zg,g2,xi,Zh⟩:=drop_cons h1
    have hP:procs[acc.length]? = some z:=by rw[hs,zao Zh];exact Zg
    have hF:decide ((acc.length:Int)<(procs.length:Int))=true:=by rw[decide_eq_true_eq];omega
    have cV:=Pc.bC (zac hP)
    obtain⟨name,params,vars,body,fin⟩:=z
    simp only[Pc.size]at cV
    have hk:acc.length<4611686018427387904:=by omega
    have c1:=fun s=>fk (l:=vars) (by omega) s
    have c2:=fun s=>fk (l:=fin) (by omega) s
    have c3:=fun s=>me ht (l:=body) (by omega) s
    have e2:Pc.cw (bL t) ⟨name,params,vars,body,fin⟩ = ⟨name,params,vars,Sm.dK (bL t) body,fin⟩:=rfl
    have gv:=fun(tg:Tag) (r a b' c d e f:List D) (T:List (Option Nat))=>mq (s:=⟨[a,b',c,d,fI acc,e,f],T⟩) (o:=4) (g:=acc.length - 1) (len:=acc.length) (z:=5) (bytes:=112) (t:=tg) (r:=r) rfl (nr acc) (by unfold aT;omega)
    have e3:acc.length - 1+1=acc.length:=by omega
    have e6 : ∀ f:Pc,fI (acc++ [f]) = .int .i64 (acc.length:Int)::((acc.map bn).flatten++bn f):=fun f=>by simp
    have e7 : ∀ f:Pc,(acc++ [f]).length=acc.length+1:=fun f=>by simp
    cases params with
    |nil=>
     have ha:=fun o T=>iV (size:=2) (bytes:=24) (z:=0) (z':=2) (g:= .shared) o T
     repeat' (first
 |simp only[go_sem,hF,hP,hZ,gA,ha,gv,e3]
 |(with_reducible refine CU (c1 _) ?_)
 |(with_reducible refine CU (c2 _) ?_)
 |(with_reducible refine CU (c3 _) ?_)
 |(with_reducible first|refine bj fun hc=>?_|refine bk fun hc=>?_|refine bl (fun hc=>?_) fun hc=>?_)<;>(try simp only[hc,bs,↓reduceIte]at h)<;>try simp only[hc]
 |((with_reducible refine az hQ ?_);(try cases h);simp only[bt,bx,bY,bZ,go_sem,hF,hP,hZ,gA,ha,gv,e3];try exact cB)
 | (cases h;done))
     refine cD 5 0 ?_ ?_ (IH (rest,acc.length+1,acc++ [Pc.cw (bL t) ⟨name,[],vars,body,fin⟩]) ⟨g2,by simp,by simp,by rw[← h4];simp⟩ (zaa _))
     ·(simp only[go_sem,hF,hP,hZ,gA,aC hk,e2,e3,e6,e7,zaz];try exact bd)
     ·(simp only[go_sem,hF,hP,hZ,gA,aC hk,e2,e3,e6,e7,zaz];try exact bd)
    |cons q params=>
     have ha:=fun o T=>iU (size:=2) (bytes:=24) (rows:=(q::params).map df) (by simp) (by simp only[zat];unfold aT;omega) (z:=0) (g:= .shared) o T
     generalize q::params=ps at *
     repeat' (first
 |simp only[go_sem,hF,hP,hZ,gA,ha,gv,e3]
 |(with_reducible refine CU (c1 _) ?_)
 |(with_reducible refine CU (c2 _) ?_)
 |(with_reducible refine CU (c3 _) ?_)
 |(with_reducible first|refine bj fun hc=>?_|refine bk fun hc=>?_|refine bl (fun hc=>?_) fun hc=>?_)<;>(try simp only[hc,bs,↓reduceIte]at h)<;>try simp only[hc]
 |((with_reducible refine az hQ ?_);(try cases h);simp only[bt,bx,bY,bZ,go_sem,hF,hP,hZ,gA,ha,gv,e3];try exact cB)
 | (cases h;done))
     refine cD 5 0 ?_ ?_ (IH (rest,acc.length+1,acc++ [Pc.cw (bL t) ⟨name,ps,vars,body,fin⟩]) ⟨g2,by simp,by simp,by rw[← h4];simp⟩ (zaa _))
     ·(simp only[go_sem,hF,hP,hZ,gA,aC hk,e2,e3,e6,e7,zaz];try exact bd)
     ·(simp only[go_sem,hF,hP,hZ,gA,aC hk,e2,e3,e6,e7,zaz];try exact bd)
  have iy:procs[0]? = some x:=by rw[hs];rfl
  have nu:decide ((0:Int)<(procs.length:Int))=true:=by rw[decide_eq_true_eq];omega
  have cV:=Pc.bC (zac iy)
  obtain⟨name,params,vars,body,fin⟩:=x
  simp only[Pc.size]at cV
  have c1:=fun s=>fk (l:=vars) (by omega) s
  have c2:=fun s=>fk (l:=fin) (by omega) s
  have c3:=fun s=>me ht (l:=body) (by omega) s
  have iu:=aY.oN (P:=Tryz.prog) (a:=rV) (Q:=dF 0 (eK (eo Tryz.prog B 47 rW Q) Q)) (nt:=47) (tm:=iN procs ((1:Nat):Int)) (s:=⟨[bf ⟨globals,procs⟩,aH t,[.junk, .junk],[.slice .shared 1 (globals.map encStr), .bX 5 6 0 1],ei,ei,fI [Pc.cw (bL t) ⟨name,params,vars,body,fin⟩]],[]⟩)
   hB [0,1,2,3,6] _ _ (by decide) (by simp) (by simp[kq,D.ct,D.bw,D.bg,D.ok,Tag.bw,Tag.ok,mr,nN,nO,pN,dQ,oo,pO,fh,lX,nP]) (by simp[mf,Tm.get,D.bw,D.ok,Tag.bw,Tag.ok,iW,jY]) MB
  have e4:fI [Pc.cw (bL t) ⟨name,params,vars,body,fin⟩] = [.int .i64 0, .str name, .slice .shared 2 (params.map df), .slice .shared 1 (vars.map encStr), .slice .shared 13 ((Sm.dK (bL t) body).map aH), .slice .shared 1 (fin.map encStr)]:=rfl
  cases params with
  |nil=>
   have ha:=fun o T=>iV (size:=2) (bytes:=24) (z:=0) (z':=2) (g:= .shared) o T
   repeat' (first
 |simp only[go_sem,hF,hP,hZ,gA,iy,nu,de,ha,cY]
 |(with_reducible refine CU (c1 _) ?_)
 |(with_reducible refine CU (c2 _) ?_)
 |(with_reducible refine CU (c3 _) ?_)
 |(with_reducible first|refine bj fun hc=>?_|refine bk fun hc=>?_|refine bl (fun hc=>?_) fun hc=>?_)<;>(try simp only[hc,bs,↓reduceIte]at h)<;>try simp only[hc]
 |((with_reducible refine az hQ ?_);(try cases h);simp only[bt,bx,bY,bZ,go_sem,hF,hP,hZ,gA,iy,nu,de,ha,cY];try exact cB)
 | (cases h;done))
   refine cD 7 0 ?_ ?_ (iu)
   ·(simp only[go_sem,hF,hP,hZ,gA,w1,e4,ei];try exact bd)
   ·(simp only[go_sem,hF,hP,hZ,gA,w1,e4,ei];try exact bd)
  |cons q params=>
   have ha:=fun o T=>iU (size:=2) (bytes:=24) (rows:=(q::params).map df) (by simp) (by simp only[zat];unfold aT;omega) (z:=0) (g:= .shared) o T
   generalize q::params=ps at *
   repeat' (first
 |simp only[go_sem,hF,hP,hZ,gA,iy,nu,de,ha,cY]
 |(with_reducible refine CU (c1 _) ?_)
 |(with_reducible refine CU (c2 _) ?_)
 |(with_reducible refine CU (c3 _) ?_)
 |(with_reducible first|refine bj fun hc=>?_|refine bk fun hc=>?_|refine bl (fun hc=>?_) fun hc=>?_)<;>(try simp only[hc,bs,↓reduceIte]at h)<;>try simp only[hc]
 |((with_reducible refine az hQ ?_);(try cases h);simp only[bt,bx,bY,bZ,go_sem,hF,hP,hZ,gA,iy,nu,de,ha,cY];try exact cB)
 | (cases h;done))
   refine cD 7 0 ?_ ?_ (iu)
   ·(simp only[go_sem,hF,hP,hZ,gA,w1,e4,ei];try exact bd)
   ·(simp only[go_sem,hF,hP,hZ,gA,w1,e4,ei];try exact bd)
end Go.Abs
namespace Go.Abs
def Pt {α:Type} (o:Option α) (Q:α→Prop):Prop:=∀ a,o=some a→Q a
structure aeB (a b:Rd):Prop where
 l:b.l=a.l
 n:b.n=a.n
 g:b.good=true→a.good=true
def SmK (r0:Rd) (p:Sm×Rd):Prop:=aeB r0 p.2∧p.1.aV = []∧p.1.aN = []
structure Num (r:Rd) (k:Nat) (r':Rd):Prop where
 l:r'.l=r.l
 g:r'.good=true→r.good=true
 n:r'.good=true→k=r'.n
 le:r'.good=true→r.n≤200→r'.n≤200
set_option maxRecDepth 8000
open Go.Proofs
theorem MC:(⟨-1,0,[],[],[],lN,false,[],[],[]⟩:Sm).oA<10000000:=by decide
def ep:Sm:=⟨-1,0,[],[],[],lN,false,[],[],[]⟩
theorem Pk:aH ep = [.int .i64 (-1), .int .i64 0, .slice .shared 1 [], .str [], .str [], .int .i64 0, .int .i64 0, .str [], .slice .shared 4 [], .bool false, .slice .shared 6 [], .slice .shared 13 [], .slice .shared 13 []]:=rfl
theorem ab9 {p:Pg} (hp:p.size<1000000) (h0:p.procs≠ []) {t:Sm} (ht:t.oA<10000000) (st:St) :
 ay Tryz.prog 85 [.agg (bf p), .agg (aH t)] st (.agg [.slice .shared 1 (p.globals.map encStr), .bX 5 st.av.length (p.procs.length - 1) p.procs.length]) ⟨st.av++ [fI (p.put t).procs],st.aw⟩:=by
 obtain⟨globals,procs⟩:=p
 show ay _ _ _ _ _ ⟨st.av++ [fI (procs.map (Pc.cw (bL t)))],st.aw⟩
 have h1:=ab3 hp h0 ht (R:=procs.map (Pc.cw (bL t))) rfl
 have hl:(procs.map (Pc.cw (bL t))).length=procs.length:=zat ..
 generalize procs.map (Pc.cw (bL t))=R at *
 rw[hl]at h1
 have h2:=ay.iu (d':= .agg [.slice .shared 1 (globals.map encStr), .bX 5 0 (procs.length - 1) procs.length]) (cU:= [fI R]) [4] h1 (by decide) (by simp) rfl (fun i o ds e1 e2=>by
  cases i with
  |zero=>
   simp only[zaK,Option.some.injEq]at e1 e2
   subst e1 e2
   exact⟨by simp[D.ct,D.bw,lX,hl],by simp[D.bg,D.ok,nP]⟩
  |succ i=>simp at e1) (by simp[D.bw,D.ct,Tag.bw,dQ]) (by simp[D.ok,D.bg,Tag.ok,fh])
 have h3:=h2.BW (by simp[D.bg,D.ok,fm,il]) (by simp[D.bg,D.ok,zo]) st
 simpa[D.bw,D.ct,Tag.bw,dQ]using h3
theorem Pl {p:Pg} (hp:p.size<1000000) (h0:p.procs≠ []) (st:St) :
 ay Tryz.prog 31 [.agg (bf p)] st (.agg [.slice .shared 1 (p.globals.map encStr), .bX 5 st.av.length (p.procs.length - 1) p.procs.length]) ⟨st.av++ [fI (p.put ep).procs],st.aw⟩:=by
 have h1:=fun s=>ab9 hp h0 (t:=ep) MC s
 have h2 : ∀ s:St,ay Tryz.prog 85 [.agg (bf p), .agg [.int .i64 (-1), .int .i64 0, .slice .full 0 [], .str [], .str [], .int .i64 0, .int .i64 0, .str [], .slice .full 0 [], .bool false, .slice .full 0 [], .slice .full 0 [], .slice .full 0 []]] s
  (.agg [.slice .shared 1 (p.globals.map encStr), .bX 5 s.av.length (p.procs.length - 1) p.procs.length]) ⟨s.av++ [fI (p.put ep).procs],s.aw⟩:=
  fun s=>dt.wk (.cons (Wk.refl _) (.cons (by rw[Pk];exact Wk.agg (.cons (Wk.refl _) (.cons (Wk.refl _) (.cons (Wk.nil _ _ _) (.cons (Wk.refl _) (.cons (Wk.refl _) (.cons (Wk.refl _) (.cons (Wk.refl _) (.cons (Wk.refl _) (.cons (Wk.nil _ _ _) (.cons (Wk.refl _) (.cons (Wk.nil _ _ _) (.cons (Wk.nil _ _ _) (.cons (Wk.nil _ _ _) .nil)))))))))))))) .nil)) (h1 s)
 have key:ay Tryz.prog 31 [.agg (bf p)] S0 (.agg [.slice .shared 1 (p.globals.map encStr), .bX 5 2 (p.procs.length - 1) p.procs.length]) ⟨[bf p,[.junk, .junk],fI (p.put ep).procs],[]⟩:=by
  unfold S0
  refine ay.DX 3 0 (zar _) (zar _) rF.h rfl fun B Q hB hQ=>?_
  have⟨hF,hP,hZ,gA⟩:=bD
  generalize (p.put ep).procs=R at *
  repeat' (first
 |simp only[go_sem,hF,hP,hZ,gA]
 |(with_reducible refine CU (h2 _) ?_)
 |(with_reducible refine az hQ ?_;exact aR))
 generalize (p.put ep).procs=R at *
 have h3:=ay.iu (d':= .agg [.slice .shared 1 (p.globals.map encStr), .bX 5 0 (p.procs.length - 1) p.procs.length]) (cU:= [fI R]) [2] key (by decide) (by simp) rfl (fun i o ds e1 e2=>by
  cases i with
  |zero=>
   simp only[zaK,Option.some.injEq]at e1 e2
   subst e1 e2
   exact⟨by simp[D.ct,D.bw,lX],by simp[D.bg,D.ok,nP]⟩
  |succ i=>simp at e1) (by simp[D.bw,D.ct,Tag.bw,dQ]) (by simp[D.ok,D.bg,Tag.ok,fh])
 have h4:=h3.BW (by simp[D.bg,D.ok,fm]) (by simp[D.bg,D.ok,zo]) st
 simpa[D.bw,D.ct,Tag.bw,dQ]using h4
set_option maxHeartbeats 4000000
open Go.Proofs
theorem ay.Pn {P:Program} {f:FuncId} {args row Zi:List D} {d:D} (h:ay P f args S0 d ⟨[row,Zi],[]⟩) (ha:D.bg 0 0 args=true) (s:St) :
 ay P f args s (d.bw [s.av.length,s.av.length+1] []) ⟨s.av++ [D.ct [s.av.length,s.av.length+1] [] row,D.ct [s.av.length,s.av.length+1] [] Zi],s.aw⟩:=by
 refine dt.frame [] [] h zbq zbq (by simp) (by simp) rfl (by simp) rfl (by simp) (by rw[dV _ _ _ ha]) ha ?_
 rintro _ _ ⟨rfl,rfl⟩
 have e:(List.range 2).map (s.av.length + ·) = [s.av.length,s.av.length+1]:=rfl
 refine⟨by simp[D.back,gM,List.range_succ], ?_⟩
 simp[St.back,iS,gM,List.range_succ]
section
variable {globals:List aA} {procs A C:List Pc} {y:Pc}
theorem aca (hp:(⟨globals,procs⟩:Pg).size<1000000) {t:Sm} (ht:t.oA<10000000) (hs:procs=A++y::C) (h0:y.body≠ []) {b:List Sm} (hb:Sm.dK (bL t) y.body=b) (st:St) :
 ay Tryz.prog 85 [.agg (bf ⟨globals,procs⟩), .agg (aH t)] st (.agg [.slice .shared 1 (globals.map encStr), .bX 5 st.av.length (procs.length - 1) procs.length])
  ⟨st.av++ [.int .i64 ((procs.length - 1:Nat):Int)::b8 (A.map (Pc.cw (bL t))) y (.bX 13 (st.av.length+1) (b.length - 1) b.length) (C.map (Pc.cw (bL t))),jq b],st.aw⟩:=by
 have h1:=ab7 hp ht hs h0 hb
 generalize A.map (Pc.cw (bL t))=A' at *
 generalize C.map (Pc.cw (bL t))=C' at *
 have h2:=ay.iu (d':= .agg [.slice .shared 1 (globals.map encStr), .bX 5 0 (procs.length - 1) procs.length]) (cU:= [.int .i64 ((procs.length - 1:Nat):Int)::b8 A' y (.bX 13 1 (b.length - 1) b.length) C',jq b]) [4,5] h1 (by decide) (by simp) rfl (fun i o ds e1 e2=>by
  match i with
  | 0=>
   simp only[zaK,Option.some.injEq]at e1 e2
   subst e1 e2
   exact⟨by simp[D.ct,D.bw,jj],by simp[D.bg,D.ok,lY]⟩
  | 1=>
   simp only[zaW,zaK,Option.some.injEq]at e1 e2
   subst e1 e2
   exact⟨by simp[D.ct,D.bw,jw],by simp[D.bg,D.ok,my]⟩
  |_+2=>simp at e1) (by simp[D.bw,D.ct,Tag.bw,dQ]) (by simp[D.ok,D.bg,Tag.ok,fh])
 have h3:=h2.Pn (by simp[D.bg,D.ok,fm,il]) st
 simpa[D.bw,D.ct,Tag.bw,dQ,jj,jw]using h3
theorem acb (hp:(⟨globals,procs⟩:Pg).size<1000000) {t:Sm} (ht:t.oA<10000000) (hs:procs=A++y::C) (h0:y.body = []) (st:St) :
 ay Tryz.prog 85 [.agg (bf ⟨globals,procs⟩), .agg (aH t)] st (.agg [.slice .shared 1 (globals.map encStr), .bX 5 st.av.length (procs.length - 1) procs.length])
  ⟨st.av++ [.int .i64 ((procs.length - 1:Nat):Int)::b8 (A.map (Pc.cw (bL t))) y (.dj 13) (C.map (Pc.cw (bL t)))],st.aw⟩:=by
 have h1:=ab8 hp ht hs h0 (b:= []) (by rw[h0];rfl)
 generalize A.map (Pc.cw (bL t))=A' at *
 generalize C.map (Pc.cw (bL t))=C' at *
 have h2:=ay.iu (d':= .agg [.slice .shared 1 (globals.map encStr), .bX 5 0 (procs.length - 1) procs.length]) (cU:= [.int .i64 ((procs.length - 1:Nat):Int)::b8 A' y (.dj 13) C']) [4] h1 (by decide) (by simp) rfl (fun i o ds e1 e2=>by
  match i with
  | 0=>
   simp only[zaK,Option.some.injEq]at e1 e2
   subst e1 e2
   exact⟨by simp[D.ct,D.bw,jj],by simp[D.bg,D.ok,lY]⟩
  |_+1=>simp at e1) (by simp[D.bw,D.ct,Tag.bw,dQ]) (by simp[D.ok,D.bg,Tag.ok,fh])
 have h3:=h2.BW (by simp[D.bg,D.ok,fm,il]) (by simp[D.bg,D.ok,lY]) st
 simpa[D.bw,D.ct,Tag.bw,dQ,jj]using h3
theorem Hk {x:D} {st s':St} {p:Pg} (h:ay Tryz.prog 85 [.agg (bf p), .agg (aH ep)] st x s') :
 ay Tryz.prog 85 [.agg (bf p), .agg [.int .i64 (-1), .int .i64 0, .slice .full 0 [], .str [], .str [], .int .i64 0, .int .i64 0, .str [], .slice .full 0 [], .bool false, .slice .full 0 [], .slice .full 0 [], .slice .full 0 []]] st x s':=
 dt.wk (.cons (Wk.refl _) (.cons (by rw[Pk];exact Wk.agg (.cons (Wk.refl _) (.cons (Wk.refl _) (.cons (Wk.nil _ _ _) (.cons (Wk.refl _) (.cons (Wk.refl _) (.cons (Wk.refl _) (.cons (Wk.refl _) (.cons (Wk.refl _) (.cons (Wk.nil _ _ _) (.cons (Wk.refl _) (.cons (Wk.nil _ _ _) (.cons (Wk.nil _ _ _) (.cons (Wk.nil _ _ _) .nil)))))))))))))) .nil)) h
theorem Zj (hp:(⟨globals,procs⟩:Pg).size<1000000) (hs:procs=A++y::C) (h0:y.body≠ []) (hA:A.map (Pc.cw (bL ep))=A) (hC:C.map (Pc.cw (bL ep))=C) (hy:Sm.dK (bL ep) y.body=y.body) (st:St) :
 ay Tryz.prog 31 [.agg (bf ⟨globals,procs⟩)] st (.agg [.slice .shared 1 (globals.map encStr), .bX 5 st.av.length (procs.length - 1) procs.length])
  ⟨st.av++ [.int .i64 ((procs.length - 1:Nat):Int)::b8 A y (.bX 13 (st.av.length+1) (y.body.length - 1) y.body.length) C,jq y.body],st.aw⟩:=by
 have h2:=fun s=>Hk (aca hp (t:=ep) MC hs h0 hy s)
 rw[hA,hC]at h2
 have xx:bf (⟨globals,procs⟩:Pg) = [.slice .shared 1 (globals.map encStr), .slice .shared 5 (procs.map bn)]:=rfl
 simp only[xx]at h2
 generalize y.body=b at *
 have key:ay Tryz.prog 31 [.agg (bf ⟨globals,procs⟩)] S0 (.agg [.slice .shared 1 (globals.map encStr), .bX 5 2 (procs.length - 1) procs.length])
  ⟨[bf ⟨globals,procs⟩,[.junk, .junk], .int .i64 ((procs.length - 1:Nat):Int)::b8 A y (.bX 13 3 (b.length - 1) b.length) C,jq b],[]⟩:=by
  unfold S0
  refine ay.DX 4 0 (zar _) (zar _) rF.h rfl fun B Q hB hQ=>?_
  have⟨hF,hP,hZ,gA⟩:=bD
  repeat' (first
 |simp only[go_sem,hF,hP,hZ,gA]
 |(with_reducible refine CU (h2 _) ?_)
 |(with_reducible first|refine bj fun hc=>?_|refine bk fun hc=>?_|refine bl (fun hc=>?_) fun hc=>?_)<;>(try simp only[hc,bs,↓reduceIte]at h)<;>try simp only[hc]
 |((with_reducible refine az hQ ?_);exact dv)
 |(cases h;done))
 have h3:=ay.iu (d':= .agg [.slice .shared 1 (globals.map encStr), .bX 5 0 (procs.length - 1) procs.length]) (cU:= [.int .i64 ((procs.length - 1:Nat):Int)::b8 A y (.bX 13 1 (b.length - 1) b.length) C,jq b]) [2,3] key (by decide) (by simp) rfl (fun i o ds e1 e2=>by
  match i with
  | 0=>
   simp only[zaK,Option.some.injEq]at e1 e2
   subst e1 e2
   exact⟨by simp[D.ct,D.bw,jj],by simp[D.bg,D.ok,lY]⟩
  | 1=>
   simp only[zaW,zaK,Option.some.injEq]at e1 e2
   subst e1 e2
   exact⟨by simp[D.ct,D.bw,jw],by simp[D.bg,D.ok,my]⟩
  |_+2=>simp at e1) (by simp[D.bw,D.ct,Tag.bw,dQ]) (by simp[D.ok,D.bg,Tag.ok,fh])
 have h4:=h3.Pn (by simp[D.bg,D.ok,fm]) st
 simpa[D.bw,D.ct,Tag.bw,dQ,jj,jw]using h4
theorem Zk (hp:(⟨globals,procs⟩:Pg).size<1000000) (hs:procs=A++y::C) (h0:y.body = []) (hA:A.map (Pc.cw (bL ep))=A) (hC:C.map (Pc.cw (bL ep))=C) (st:St) :
 ay Tryz.prog 31 [.agg (bf ⟨globals,procs⟩)] st (.agg [.slice .shared 1 (globals.map encStr), .bX 5 st.av.length (procs.length - 1) procs.length])
  ⟨st.av++ [.int .i64 ((procs.length - 1:Nat):Int)::b8 A y (.dj 13) C],st.aw⟩:=by
 have h2:=fun s=>Hk (acb hp (t:=ep) MC hs h0 s)
 rw[hA,hC]at h2
 have xx:bf (⟨globals,procs⟩:Pg) = [.slice .shared 1 (globals.map encStr), .slice .shared 5 (procs.map bn)]:=rfl
 simp only[xx]at h2
 have key:ay Tryz.prog 31 [.agg (bf ⟨globals,procs⟩)] S0 (.agg [.slice .shared 1 (globals.map encStr), .bX 5 2 (procs.length - 1) procs.length])
  ⟨[bf ⟨globals,procs⟩,[.junk, .junk], .int .i64 ((procs.length - 1:Nat):Int)::b8 A y (.dj 13) C],[]⟩:=by
  unfold S0
  refine ay.DX 3 0 (zar _) (zar _) rF.h rfl fun B Q hB hQ=>?_
  have⟨hF,hP,hZ,gA⟩:=bD
  repeat' (first
 |simp only[go_sem,hF,hP,hZ,gA]
 |(with_reducible refine CU (h2 _) ?_)
 |(with_reducible first|refine bj fun hc=>?_|refine bk fun hc=>?_|refine bl (fun hc=>?_) fun hc=>?_)<;>(try simp only[hc,bs,↓reduceIte]at h)<;>try simp only[hc]
 |((with_reducible refine az hQ ?_);exact dv)
 |(cases h;done))
 have h3:=ay.iu (d':= .agg [.slice .shared 1 (globals.map encStr), .bX 5 0 (procs.length - 1) procs.length]) (cU:= [.int .i64 ((procs.length - 1:Nat):Int)::b8 A y (.dj 13) C]) [2] key (by decide) (by simp) rfl (fun i o ds e1 e2=>by
  match i with
  | 0=>
   simp only[zaK,Option.some.injEq]at e1 e2
   subst e1 e2
   exact⟨by simp[D.ct,D.bw,jj],by simp[D.bg,D.ok,lY]⟩
  |_+1=>simp at e1) (by simp[D.bw,D.ct,Tag.bw,dQ]) (by simp[D.ok,D.bg,Tag.ok,fh])
 have h4:=h3.BW (by simp[D.bg,D.ok,fm]) (by simp[D.bg,D.ok,lY]) st
 simpa[D.bw,D.ct,Tag.bw,dQ,jj]using h4
end
end Go.Abs
namespace Go.Abs
def Ac (a b t:aA):aA:=if t==a then b else if t==b then a else t
mutual
def Ex.swap (a b:aA):Ex→Ex
 |⟨op,n,name,kids⟩=>⟨op,n,Ac a b name,Ex.wN a b kids⟩
def Ex.wN (a b:aA):List Ex→List Ex
 | []=> []
 |x::l=>x.swap a b::Ex.wN a b l
end
def Ar.swap (a b:aA) (x:Ar):Ar:=⟨x.ref,Ac a b x.name,x.x.swap a b⟩
mutual
def Sm.swap (a b:aA):Sm→Sm
 |⟨id,kind,labels,name,proc,x,has,args,aV,aN⟩=>⟨id,kind,labels.map (Ac a b),Ac a b name,Ac a b proc,x.swap a b,has,args.map (Ar.swap a b),Sm.wN a b aV,Sm.wN a b aN⟩
def Sm.wN (a b:aA):List Sm→List Sm
 | []=> []
 |s::l=>s.swap a b::Sm.wN a b l
end
def Pm.swap (a b:aA) (x:Pm):Pm:=⟨Ac a b x.name,x.ref⟩
def Pc.swap (a b:aA) (f:Pc):Pc:=⟨Ac a b f.name,f.params.map (Pm.swap a b),f.vars.map (Ac a b),Sm.wN a b f.body,f.fin.map (Ac a b)⟩
def Pg.swap (a b:aA) (p:Pg):Pg:=⟨p.globals.map (Ac a b),p.procs.map (Pc.swap a b)⟩
theorem jL : ∀ (a b:List It) (n:Nat),It.dR n (a++b)=(It.dR n a && It.dR (n+a.length) b)
 | [],b,n=>by simp[It.dR]
 |i::a,b,n=>by
  simp only[zaJ,It.dR,jL a b (n+1),zal]
  have:n+1+a.length=n+(a.length+1):=by omega
  rw[this]
  split<;>simp
theorem B5 (n:Nat) (i:It):It.dR n [i] = true↔i.s.id=((n+1:Nat):Int)∧i.deep≤12∧i.s.one=true:=by
 simp only[It.dR]
 split
 ·rename_i h
  simp only[zay,bne_iff_ne,ne_eq,decide_eq_true_eq,zaF]at h
  refine⟨fun h=>(Bool.false_ne_true h).elim,fun⟨h1,h2,h3⟩=>?_⟩
  rcases h with (h|h)|h
  ·exact(h h1).elim
  ·omega
  ·rw[h]at h3;cases h3
 ·rename_i h
  simp only[zay,bne_iff_ne,ne_eq,decide_eq_true_eq,zaF,not_or,Decidable.not_not,zaV]at h
  exact⟨fun _=>⟨h.1.1,by omega,h.2⟩,fun _=>rfl⟩
mutual
theorem yD (deep bM:Int) (aN:Bool) : ∀ (s:Sm) (out:List It),∃ new,fj deep bM aN out s=out++(⟨s,deep,bM,aN⟩::new)
 | ⟨id,kind,labels,name,proc,x,has,args,aV,e⟩,out=>by
  simp only[fj]
  split
  ·obtain⟨n1,h1⟩:=o8 (deep+1) id false aV (out++ [⟨⟨id,kind,labels,name,proc,x,has,args,aV,e⟩,deep,bM,aN⟩])
   obtain⟨n2,h2⟩:=o8 (deep+1) id true e (dc (deep+1) id false (out++ [⟨⟨id,kind,labels,name,proc,x,has,args,aV,e⟩,deep,bM,aN⟩]) aV)
   rw[h2,h1]
   exact⟨n1++n2,by simp⟩
  ·exact⟨[],rfl⟩
theorem o8 (deep bM:Int) (aN:Bool) : ∀ (l:List Sm) (out:List It),∃ new,dc deep bM aN out l=out++new
 | [],out=>⟨[],by simp[dc]⟩
 | s::l,out=>by
  simp only[dc]
  split
  ·obtain⟨n1,h1⟩:=yD deep bM aN s out
   obtain⟨n2,h2⟩:=o8 deep bM aN l (fj deep bM aN out s)
   rw[h2,h1]
   exact⟨⟨s,deep,bM,aN⟩::n1++n2,by simp⟩
  ·exact⟨[],by simp⟩
end
theorem D9 {nest:Int} {n:Nat} {s:Sm} (h:(Sm.oa nest n s).1=true) :
 n+1≤200∧s.id=((n+1:Nat):Int)∧s.one=true∧(Sm.fV (nest+1) (n+1) s.aV).1=true∧(Sm.fV (nest+1) (Sm.fV (nest+1) (n+1) s.aV).2 s.aN).1=true∧
 (Sm.oa nest n s).2=(Sm.fV (nest+1) (Sm.fV (nest+1) (n+1) s.aV).2 s.aN).2:=by
 rw[Dm]at h ⊢
 split at h
 ·cases h
 rename_i h1
 simp only[zay,bne_iff_ne,ne_eq,decide_eq_true_eq,zaF,not_or,Decidable.not_not,zaV]at h1
 split at h
 ·cases h
 rename_i h2
 have vh:(Sm.fV (nest+1) (n+1) s.aV).1=true:=by simpa using h2
 refine⟨by omega,h1.1.1.2, ?_,vh,h, ?_⟩
 ·rw[BQ,h1.1.2,h1.2];rfl
 ·rw[if_neg (by simp only[zay,bne_iff_ne,ne_eq,decide_eq_true_eq,zaF,not_or,Decidable.not_not,zaV];exact h1),if_neg h2]
theorem rn {nest:Int} {n:Nat} {l:List Sm} (h:(Sm.fV nest n l).1=true):(l = []∨nest≤12)∧Sm.fV nest n l=Sm.ez nest n l:=by
 unfold Sm.fV gate at *
 split at h
 ·cases h
 ·rename_i hc
  rw[if_neg hc]
  refine⟨?_,rfl⟩
  simp only[zam,decide_eq_true_eq,not_and]at hc
  cases l with
  |nil=>exact .inl rfl
  |cons s l=>right;simp only[zal]at hc;omega
mutual
theorem Po : ∀ (s:Sm) (nest bM:Int) (aN:Bool) (n:Nat) (out:List It),nest≤12→out.length≤n→n≤200→(Sm.oa nest n s).1=true→
 ∃ new,fj nest bM aN out s=out++new∧It.dR n new=true∧n+new.length=(Sm.oa nest n s).2∧(Sm.oa nest n s).2≤200
 | ⟨id,kind,labels,name,proc,x,has,args,aV,e⟩,nest,bM,aN,n,out,Pp,ho,hn,h=>by
  obtain⟨h1,h2,h3,h4,h5,h6⟩:=D9 h
  dsimp only at h2 h4 h5 h6
  rw[h6]
  obtain⟨g1,e1⟩:=rn h4
  rw[e1]at h4 h5 ⊢
  obtain⟨g2,e2⟩:=rn h5
  rw[e2]at h5 ⊢
  have vO:It.dR n [(⟨⟨id,kind,labels,name,proc,x,has,args,aV,e⟩,nest,bM,aN⟩:It)] = true:=(B5 _ _).2 ⟨h2,Pp,h3⟩
  obtain⟨n1,k1,k2,k3,k4⟩:=tY aV (nest+1) id false (n+1) (out++ [⟨⟨id,kind,labels,name,proc,x,has,args,aV,e⟩,nest,bM,aN⟩]) g1 (by simp;omega) h1 h4
  obtain⟨n2,j1,j2,j3,j4⟩:=tY e (nest+1) id true _ (out++ [⟨⟨id,kind,labels,name,proc,x,has,args,aV,e⟩,nest,bM,aN⟩]++n1) g2 (by simp;omega) k4 h5
  simp only[fj]
  rw[if_pos (by simpa using Pp),k1,j1]
  refine⟨⟨⟨id,kind,labels,name,proc,x,has,args,aV,e⟩,nest,bM,aN⟩::(n1++n2),by simp, ?_, ?_,j4⟩
  ·have:(⟨⟨id,kind,labels,name,proc,x,has,args,aV,e⟩,nest,bM,aN⟩:It)::(n1++n2) = [⟨⟨id,kind,labels,name,proc,x,has,args,aV,e⟩,nest,bM,aN⟩]++n1++n2:=by simp
   rw[this,jL,jL,vO,zbz]
   have e3:n+([(⟨⟨id,kind,labels,name,proc,x,has,args,aV,e⟩,nest,bM,aN⟩:It)]++n1).length=(Sm.ez (nest+1) (n+1) aV).2:=by simp;omega
   rw[e3,j2]
   have e4:n + [(⟨⟨id,kind,labels,name,proc,x,has,args,aV,e⟩,nest,bM,aN⟩:It)].length=n+1:=rfl
   rw[e4,k2];rfl
  ·simp only[zal,zai];omega
theorem tY : ∀ (l:List Sm) (nest bM:Int) (aN:Bool) (n:Nat) (out:List It),(l = []∨nest≤12)→out.length≤n→n≤200→(Sm.ez nest n l).1=true→
 ∃ new,dc nest bM aN out l=out++new∧It.dR n new=true∧n+new.length=(Sm.ez nest n l).2∧(Sm.ez nest n l).2≤200
 | [],nest,bM,aN,n,out,Pp,ho,hn,h=>⟨[],by simp[dc],rfl,by simp[Sm.ez],by simpa[Sm.ez]using hn⟩
 |s::l,nest,bM,aN,n,out,Pp,ho,hn,h=>by
  have Zl:nest≤12:=Pp.resolve_left (by simp)
  simp only[Sm.ez]at h ⊢
  split at h
  ·cases h
  rename_i hc
  rw[if_neg hc]
  obtain⟨n1,k1,k2,k3,k4⟩:=Po s nest bM aN n out Zl ho hn (by simpa using hc)
  obtain⟨n2,j1,j2,j3,j4⟩:=tY l nest bM aN _ (out++n1) (.inr Zl) (by simp;omega) k4 h
  simp only[dc]
  rw[if_pos (by simp only[decide_eq_true_eq];omega),k1,j1]
  refine⟨n1++n2,by simp, ?_,by simp;omega,j4⟩
  rw[jL,k2,k3,j2];rfl
end
mutual
theorem Pq : ∀ (s:Sm) (nest bM:Int) (aN:Bool) (n:Nat) (out new:List It),fj nest bM aN out s=out++new→It.dR n new=true→out.length≤n→n+new.length≤200→
 Sm.oa nest n s=(true,n+new.length)∧nest≤12
 | ⟨id,kind,labels,name,proc,x,has,args,aV,e⟩,nest,bM,aN,n,out,new,ib,hm,ho,hn=>by
  obtain⟨n0,h0⟩:=yD nest bM aN ⟨id,kind,labels,name,proc,x,has,args,aV,e⟩ out
  have e0:new = ⟨⟨id,kind,labels,name,proc,x,has,args,aV,e⟩,nest,bM,aN⟩::n0:=List.append_cancel_left (ib.symm.trans h0)
  subst e0
  have acd:(⟨⟨id,kind,labels,name,proc,x,has,args,aV,e⟩,nest,bM,aN⟩:It)::n0 = [⟨⟨id,kind,labels,name,proc,x,has,args,aV,e⟩,nest,bM,aN⟩]++n0:=rfl
  rw[acd,jL,zam]at hm
  obtain⟨Hl,hm2⟩:=hm
  obtain⟨c1,c2,c3⟩:=(B5 _ _).1 Hl
  dsimp only at c1 c2 c3
  simp only[zal]at hn ⊢
  have SR:dc (nest+1) id true (dc (nest+1) id false (out++ [⟨⟨id,kind,labels,name,proc,x,has,args,aV,e⟩,nest,bM,aN⟩]) aV) e=out++([⟨⟨id,kind,labels,name,proc,x,has,args,aV,e⟩,nest,bM,aN⟩]++n0):=by
   simp only[fj]at ib
   rw[if_pos (by simpa using c2)]at ib
   exact ib
  obtain⟨n1,g1⟩:=o8 (nest+1) id false aV (out++ [⟨⟨id,kind,labels,name,proc,x,has,args,aV,e⟩,nest,bM,aN⟩])
  obtain⟨n2,g2⟩:=o8 (nest+1) id true e (dc (nest+1) id false (out++ [⟨⟨id,kind,labels,name,proc,x,has,args,aV,e⟩,nest,bM,aN⟩]) aV)
  have en:n0=n1++n2:=by
   rw[g2,g1]at SR
   simp only[zaC,List.append_cancel_left_eq]at SR
   exact SR.symm
  subst en
  have SS:It.dR (n+1) (n1++n2)=true:=hm2
  rw[jL,zam]at SS
  simp only[zai]at hn ⊢
  obtain⟨r1,r2⟩:=tZ aV (nest+1) id false (n+1) _ n1 g1 SS.1 (by simp;omega) (by omega)
  obtain⟨q1,q2⟩:=tZ e (nest+1) id true (n+1+n1.length) _ n2 g2 SS.2 (by rw[g1];simp;omega) (by omega)
  refine⟨?_,c2⟩
  have gg : ∀ {l:List Sm} {m:Nat} {r:Bool×Nat},Sm.ez (nest+1) m l=r→(l = []∨nest+1≤12)→Sm.fV (nest+1) m l=r:=by
   intro l m r h1 h2
   unfold Sm.fV gate
   rw[if_neg]
   ·exact h1
   ·simp only [zam,decide_eq_true_eq,not_and]
    rcases h2 with h2|h2
    ·subst h2;simp
    ·omega
  have t1:=gg r1 r2
  have t2:=gg q1 q2
  rw[Dm]
  dsimp only
  rw[t1]
  dsimp only
  rw[t2]
  rw[BQ,zam]at c3
  rw[if_neg]
  ·simp;omega
  ·simp only [zay,bne_iff_ne,ne_eq,decide_eq_true_eq,zaF,not_or,Decidable.not_not,zaV]
   exact⟨⟨⟨by omega,c1⟩,c3.1⟩,c3.2⟩
theorem tZ : ∀ (l:List Sm) (nest bM:Int) (aN:Bool) (n:Nat) (out new:List It),dc nest bM aN out l=out++new→It.dR n new=true→out.length≤n→n+new.length≤200→
 Sm.ez nest n l=(true,n+new.length)∧(l = []∨nest≤12)
 | [],nest,bM,aN,n,out,new,ib,hm,ho,hn=>by
  simp only[dc]at ib
  have:new = []:=by simpa using ib
  subst this
  exact⟨by simp[Sm.ez], .inl rfl⟩
 | s::l,nest,bM,aN,n,out,new,ib,hm,ho,hn=>by
  simp only[dc]at ib
  rw[if_pos (by simp only[decide_eq_true_eq];omega)]at ib
  obtain⟨n1,g1⟩:=yD nest bM aN s out
  obtain⟨n2,g2⟩:=o8 nest bM aN l (fj nest bM aN out s)
  have en:new=(⟨s,nest,bM,aN⟩::n1)++n2:=by
   rw[g2,g1,zaC,List.append_cancel_left_eq]at ib
   exact ib.symm
  subst en
  rw[jL,zam]at hm
  rw[zai]at hn ⊢
  obtain⟨r1,r2⟩:=Pq s nest bM aN n out _ g1 hm.1 ho (by omega)
  obtain⟨q1,q2⟩:=tZ l nest bM aN (n+(⟨s,nest,bM,aN⟩::n1:List It).length) _ n2 g2 hm.2 (by rw[g1,zai];omega) (by omega)
  refine⟨?_, .inr r2⟩
  simp only[Sm.ez,r1,zax,zab,↓reduceIte,q1]
  congr 1;omega
end
theorem yE : ∀ (l:List Pc) (out:List It),out.length≤200→(Pc.ez out.length l=true↔Pc.ie l=true∧∃ new,allM out l=out++new∧(out++new).length≤200∧It.dR out.length new=true)
 | [],out,ho=>by simp[Pc.ez,Pc.ie,allM,It.dR];exact ho
 | f::l,out,ho=>by
  have qq : ∀ (l:List Pc) (out:List It),∃ new,allM out l=out++new:=by
   intro l
   induction l with
   |nil=>intro out;exact⟨[],by simp[allM]⟩
   | cons f l ih=>
    intro out
    simp only[allM]
    split
    ·exact⟨_,rfl⟩
    ·obtain⟨n1,h1⟩:=ih (out++f.flat)
     exact⟨f.flat++n1,by rw[h1,zaC]⟩
  simp only[Pc.ez,Pc.ie]
  have ace:(decide ((f.params.length:Int) > 8) ||decide ((f.vars.length:Int) > 16) || !(isName f.name) || !(cL f.vars) || !(cL f.fin))=(!(isName f.name) ||decide ((f.params.length:Int) > 8) ||decide ((f.vars.length:Int) > 16) || !(cL f.vars) || !(cL f.fin)):=by
   cases isName f.name<;>simp
  rw[ace]
  split
  ·simp
  split
  ·simp
  have hg:Sm.fV 1 out.length f.body=Sm.ez 1 out.length f.body:=by unfold Sm.fV gate;rw[if_neg (by simp)]
  rw[hg]
  constructor
  ·intro h
   split at h
   ·cases h
   rename_i hc
   obtain⟨n1,k1,k2,k3,k4⟩:=tY f.body 1 0 false out.length [] (.inr (by omega)) (by simp) ho (by simpa using hc)
   have ib:f.flat=n1:=by unfold Pc.flat;rw[k1];rfl
   rw[← k3, ← zai]at h
   obtain⟨hh,n2,j1,j2,j3⟩:=(yE l (out++n1) (by rw[zai];omega)).1 h
   refine⟨hh,n1++n2, ?_,by simpa using j2, ?_⟩
   ·simp only [allM,ib]
    rw[if_neg (by simp only[zai,decide_eq_true_eq];omega),j1,zaC]
   ·rw[jL,k2, ← zai,j3];rfl
  ·rintro⟨hh,new,j1,j2,j3⟩
   simp only[allM]at j1
   split at j1
   ·rename_i hc
    have:new=f.flat:=(List.append_cancel_left j1).symm
    subst this
    simp only[decide_eq_true_eq]at hc
    omega
   rename_i hc
   simp only[decide_eq_true_eq]at hc
   obtain⟨n2,g2⟩:=qq l (out++f.flat)
   have en:new=f.flat++n2:=by
    rw[g2,zaC]at j1
    exact(List.append_cancel_left j1).symm
   subst en
   rw[jL,zam]at j3
   rw[zai,zai]at j2
   obtain⟨r1,_⟩:=tZ f.body 1 0 false out.length [] f.flat (by unfold Pc.flat;rfl) j3.1 (by simp) (by omega)
   rw[r1]
   simp only[zax,zab,↓reduceIte]
   rw[← zai]
   exact(yE l (out++f.flat) (by rw[zai];omega)).2 ⟨hh,n2,g2,by simp;omega,by rw[zai];exact j3.2⟩
theorem Dr (p:Pg):p.Dp=p.may:=by
 have h:=yE p.procs [] (by simp)
 unfold Pg.Dp Pg.may
 split
 ·rfl
 ·have e:Pc.ez 0 p.procs=(if !(Pc.ie p.procs)then false else if decide ((p.all.length:Int) > 200)then false else It.dR 0 p.all):=by
   rw[Bool.eq_iff_iff]
   have h':Pc.ez 0 p.procs=true↔_:=h
   rw[h']
   have ha:p.all=allM [] p.procs:=rfl
   constructor
   ·rintro⟨h1,new,h2,h3,h4⟩
    rw[ha,h2,h1]
    simp only[zaR]at h3 ⊢
    simp only[zax,zab,↓reduceIte]
    rw[if_neg (by simp only[decide_eq_true_eq];omega)]
    exact h4
   ·intro h1
    cases hh:Pc.ie p.procs
    ·rw[hh]at h1;simp at h1
    ·rw [hh]at h1
     simp only[zax,zab,↓reduceIte]at h1
     split at h1
     ·cases h1
     ·rename_i hc
      simp only[decide_eq_true_eq]at hc
      exact⟨rfl,p.all,by rw[ha];rfl,by simp;omega,h1⟩
  exact e
mutual
def Ex.pQ:Ex→Prop
 |⟨_,n,_,kids⟩=>n≤9223372036854775807∧Ex.uM kids
def Ex.uM:List Ex→Prop
 | []=>True
 |x::l=>x.pQ∧Ex.uM l
end
mutual
def Sm.pQ:Sm→Prop
 |⟨_,_,_,_,_,x,_,args,aV,aN⟩=>x.pQ∧(∀ a∈args,a.x.pQ)∧Sm.uM aV∧Sm.uM aN
def Sm.uM:List Sm→Prop
 | []=>True
 |s::l=>s.pQ∧Sm.uM l
end
def Pg.pQ (p:Pg):Prop:=∀ f∈p.procs,Sm.uM f.body
theorem Ea {f:Pc} : ∀ {l:List Pc} {n:Nat},Pc.ez n l=true→f∈l→(isName f.name=true∧cL f.vars=true∧cL f.fin=true∧Pm.dR f.params=true)∧∃ n,(Sm.fV 1 n f.body).1=true
 |g::l,n,h,m=>by
  simp only[Pc.ez]at h
  split at h
  ·cases h
  rename_i c1
  split at h
  ·cases h
  rename_i c2
  split at h
  ·cases h
  rename_i c3
  simp only[zay,zaF,not_or,zaV]at c1 c2 c3
  rcases zan.1 m with rfl|m
  ·exact⟨⟨c1.1.1.2,c1.1.2,c1.2,c2⟩,n,c3⟩
  ·exact Ea h m
mutual
theorem MD : ∀ (s:Sm) (nest:Int) (n:Nat),(Sm.oa nest n s).1=true→s.size<4611686018427387000→s.tV
 |⟨id,kind,labels,name,proc,x,has,args,aV,aN⟩,nest,n,hm,hs=>by
  obtain⟨_,_,h1,h2,h3,_⟩:=D9 hm
  rw[AN]
  rw[(rn h2).2]at h2
  rw[(rn h3).2]at h3
  refine⟨Hf h1 hs,si aV _ _ h2 ?_,si aN _ _ h3 ?_⟩<;>simp only[Sm.size]at hs<;>omega
theorem si : ∀ (l:List Sm) (nest:Int) (n:Nat),(Sm.ez nest n l).1=true→Sm.aM l<4611686018427387000→Sm.ji l
 | [],_,_,_,_=>by simp only[Sm.ji]
 |s::l,nest,n,hm,hs=>by
  simp only[Sm.ez]at hm
  simp only[Sm.aM]at hs
  split at hm
  ·cases hm
  rename_i hc
  simp only[zaF,zaV]at hc
  exact⟨MD s nest n hc (by omega),si l nest _ hm (by omega)⟩
end
theorem nz {p:Pg} (h:p.may=true) (hs:p.size<4611686018427387000):p.Fx:=by
 have hf:=SB h hs
 rw[← Dr]at h
 unfold Pg.Dp at h
 split at h
 ·cases h
 refine⟨hf.sz,hf.uK,hf.ie,fun f m=>?_⟩
 obtain⟨_,n,e⟩:=Ea h m
 rw[(rn e).2]at e
 have:=Pc.bC m
 simp only[Pg.size]at hs
 exact si f.body 1 n e (by unfold Pc.size at this;omega)
def It.swap (a b:aA) (i:It):It:=⟨i.s.swap a b,i.deep,i.bM,i.aN⟩
set_option maxRecDepth 8000
open Go.Proofs
theorem ME (x:aA) (s:St):ay Tryz.prog 208 [.slice .full 0 [], .str x] s (.slice .shared 1 [[.str x]]) s:=by
 refine ay.pure ?_ rfl rfl s
 unfold S0
 refine ay.go tO.h rfl fun B Q hB hQ=>?_
 have⟨hF,hP,hZ,gA⟩:=bD
 have hZ:17≤aT:=by unfold aT;omega
 repeat' (first
 |simp only[go_sem,hF,hP,hZ,gA,Int.lt_irrefl,decide_false]
 |(with_reducible refine aY.kF ?_)
 |(with_reducible refine az hQ ?_;exact aR))
theorem Eb {op m:Int} {name:aA} {kids:List Ex} (h:Ex.form ⟨op,m,name,kids⟩=true) (h2:(op==2)=true):kids = []:=by
 have e:op=2:=by simpa using h2
 subst e
 simp only[Ex.form]at h
 split at h
 ·cases h
 ·rename_i hh
  simp only[zay,not_or,bne_iff_ne,ne_eq,Decidable.not_not]at hh
  have:=hh.1.1.1.1
  have e:lr 2=0:=rfl
  rw[e]at this
  exact List.length_eq_zero_iff.1 (by omega)
theorem SU {op m:Int} {name:aA} {kids:List Ex} (hf:(op==2)=true→kids = []) (ho:Ex.size ⟨op,m,name,kids⟩≤1000000000) (s:St) :
 ay Tryz.prog 192 [.agg (bA ⟨op,m,name,kids⟩), .slice .full 0 []] s (.slice .shared 1 ((Ex.gG [] ⟨op,m,name,kids⟩).map encStr)) s:=by
 refine ay.pure ?_ (by simp only[D.bg,D.ok,fK];rfl) (by simp only[D.ok,Tag.ok,dd];rfl) s
 obtain⟨R,hG⟩ : ∃ R,Ex.gG [] ⟨op,m,name,kids⟩=R:=⟨_,rfl⟩
 rw[hG]
 simp only[Ex.gG]at hG
 simp only[Ex.size]at ho
 have hlen:kids.length<1000000000:=by have:=Ex.cd kids;omega
 have hk : ∀ y∈kids,∀ out:List aA,out.length+y.size≤1000000000→∀ {s:St} {t:Nat},s.aw[t]? = some (some out.length)→
  ay Tryz.prog 192 [.agg (bA y), .slice (.tok t) 1 (out.map encStr)] s (.slice (.tok t) 1 ((y.gG out).map encStr)) ⟨s.av,s.aw.set t (some (y.gG out).length)⟩:=fun y hy out ho=>
  SF y.size y (zag _) out ho
 unfold S0
 rcases zad (op==2)with b1|b1
 ·have Pr:=hf b1
  subst Pr
  have e:dg [] name=false:=rfl
  simp only[b1,e,zaB,zbu,if_true,Ex.fR,zaR]at hG
  subst hG
  refine ay.go pG.h rfl fun B Q hB hQ=>?_
  have⟨hF,hP,hZ,gA⟩:=bD
  have hZ:17≤aT:=by unfold aT;omega
  repeat' (first
 |simp only[go_sem,hF,hP,hZ,gA,b1,zaj,zaf,zaE,encStr,Int.natCast_zero,Int.lt_irrefl,decide_false]
 |(with_reducible refine CU (Ha name _ _ _) ?_)
 |(with_reducible refine aY.kF ?_)
 |(with_reducible refine az hQ ?_;exact aR))
 ·simp only [b1,zbi,zab,if_false]at hG
  refine ay.go pG.h rfl fun B Q hB hQ=>?_
  have⟨hF,hP,hZ,gA⟩:=bD
  repeat' (first
 |simp only[go_sem,hF,hP,hZ,gA,b1]
 | (with_reducible refine az hQ ?_;exact aR))
  refine aY.ko 1 1 rfl ?_
  simp only[go_sem,hF,hP,hZ,gA]
  refine cr 1 1 (aY.ind (ι:=List Ex×Nat×List aA×Nat) (fun i=>kids.drop i.2.1=i.1∧Ex.fR i.2.2.1 i.1=R∧i.2.2.1.length+Ex.aM i.1≤1000000000∧i.2.2.2=i.2.2.1.length) (fun i=>i.1.length)
   (fun i=> [(1, .slice (.tok 0) 1 (i.2.2.1.map encStr)),(2, .ptr 0 0),(23, .slice .shared 4 (kids.map bA)),(24, .int .i64 (kids.length:Int)),(25, .int .i64 (i.2.1:Int))]) (fun i=>⟨[bA ⟨op,m,name,kids⟩],[some i.2.2.2]⟩) ?_ (kids,0,[],0) ⟨rfl,hG,by simp;omega,by simp⟩)
  rintro⟨rest,k,bV,n'⟩ ⟨h1,h2,h3,h4⟩ IH
  dsimp only at h1 h2 h3 h4
  subst h4
  cases rest with
  |nil=>
   have hF:=drop_nil h1
   simp only[Ex.fR]at h2
   subst h2
   repeat' (first
 |simp only[go_sem,hF,hP,hZ,gA]
 | (with_reducible refine az hQ ?_;exact aR))
  |cons y rest=>
   obtain⟨hP,g2,hF,g4⟩:=drop_cons h1
   have bH:k<4611686018427387904:=by omega
   simp only[Ex.fR]at h2
   simp only[Ex.aM]at h3
   have hy:=fun {s:St} {t:Nat} (ht:s.aw[t]? = some (some bV.length))=>hk y (zac hP) bV (by omega) ht
   have hl:=kY bV y
   repeat' (first
 |simp only[go_sem,hF,hP,hZ,gA]
 |(with_reducible refine CU (hy (by with_unfolding_all rfl)) ?_)
 | (with_reducible refine az hQ ?_;exact aR))
   refine cD 1 1 ?_ ?_ (IH (rest,k+1,_,_) ⟨g2,h2,by dsimp only;omega,rfl⟩ (zaa _))
   ·(simp only[go_sem,hF,hP,hZ,gA,aC bH];try exact bd)
   ·(simp only[go_sem,hF,hP,hZ,gA,aC bH];try exact bd)
theorem Ps {op m:Int} {name:aA} {kids:List Ex} (hf:(op==2)=true→kids = []) (ho:Ex.size ⟨op,m,name,kids⟩≤1000000000) (s:St) :
 ay Tryz.prog 175 [.agg (bA ⟨op,m,name,kids⟩), .slice .full 0 []] s (.slice .shared 1 ((Ex.gG [] ⟨op,m,name,kids⟩).map encStr)) s:=by
 refine ay.pure ?_ (by simp only[D.bg,D.ok,fK];rfl) (by simp only[D.ok,Tag.ok,dd];rfl) s
 obtain⟨R,hG⟩ : ∃ R,Ex.gG [] ⟨op,m,name,kids⟩=R:=⟨_,rfl⟩
 rw[hG]
 simp only[Ex.gG]at hG
 simp only[Ex.size]at ho
 have hlen:kids.length<1000000000:=by have:=Ex.cd kids;omega
 have hk : ∀ y∈kids,∀ out:List aA,out.length+y.size≤1000000000→∀ {s:St} {t:Nat},s.aw[t]? = some (some out.length)→
  ay Tryz.prog 175 [.agg (bA y), .slice (.tok t) 1 (out.map encStr)] s (.slice (.tok t) 1 ((y.gG out).map encStr)) ⟨s.av,s.aw.set t (some (y.gG out).length)⟩:=fun y hy out ho=>
  Pb y.size y (zag _) out ho
 unfold S0
 rcases zad (op==2)with b1|b1
 ·have Pr:=hf b1
  subst Pr
  have e:dg [] name=false:=rfl
  simp only[b1,e,zaB,zbu,if_true,Ex.fR,zaR]at hG
  subst hG
  refine ay.go rH.h rfl fun B Q hB hQ=>?_
  have⟨hF,hP,hZ,gA⟩:=bD
  have hZ:17≤aT:=by unfold aT;omega
  repeat' (first
 |simp only[go_sem,hF,hP,hZ,gA,b1,zaj,zaf,zaE,encStr,Int.natCast_zero,Int.lt_irrefl,decide_false]
 |(with_reducible refine CU (ME name _) ?_)
 |(with_reducible refine aY.kF ?_)
 |(with_reducible refine az hQ ?_;exact aR))
 ·simp only [b1,zbi,zab,if_false]at hG
  refine ay.go rH.h rfl fun B Q hB hQ=>?_
  have⟨hF,hP,hZ,gA⟩:=bD
  repeat' (first
 |simp only[go_sem,hF,hP,hZ,gA,b1]
 | (with_reducible refine az hQ ?_;exact aR))
  refine aY.ko 1 1 rfl ?_
  simp only[go_sem,hF,hP,hZ,gA]
  refine cr 1 1 (aY.ind (ι:=List Ex×Nat×List aA×Nat) (fun i=>kids.drop i.2.1=i.1∧Ex.fR i.2.2.1 i.1=R∧i.2.2.1.length+Ex.aM i.1≤1000000000∧i.2.2.2=i.2.2.1.length) (fun i=>i.1.length)
   (fun i=> [(1, .slice (.tok 0) 1 (i.2.2.1.map encStr)),(2, .ptr 0 0),(15, .int .i64 (kids.length:Int)),(16, .int .i64 (i.2.1:Int))]) (fun i=>⟨[bA ⟨op,m,name,kids⟩],[some i.2.2.2]⟩) ?_ (kids,0,[],0) ⟨rfl,hG,by simp;omega,by simp⟩)
  rintro⟨rest,k,bV,n'⟩ ⟨h1,h2,h3,h4⟩ IH
  dsimp only at h1 h2 h3 h4
  subst h4
  cases rest with
  |nil=>
   have hF:=drop_nil h1
   simp only[Ex.fR]at h2
   subst h2
   repeat' (first
 |simp only[go_sem,hF,hP,hZ,gA]
 | (with_reducible refine az hQ ?_;exact aR))
  |cons y rest=>
   obtain⟨hP,g2,hF,g4⟩:=drop_cons h1
   have bH:k<4611686018427387904:=by omega
   simp only[Ex.fR]at h2
   simp only[Ex.aM]at h3
   have hy:=fun {s:St} {t:Nat} (ht:s.aw[t]? = some (some bV.length))=>hk y (zac hP) bV (by omega) ht
   have hl:=kY bV y
   repeat' (first
 |simp only[go_sem,hF,hP,hZ,gA]
 |(with_reducible refine CU (hy (by with_unfolding_all rfl)) ?_)
 | (with_reducible refine az hQ ?_;exact aR))
   refine cD 1 1 ?_ ?_ (IH (rest,k+1,_,_) ⟨g2,h2,by dsimp only;omega,rfl⟩ (zaa _))
   ·(simp only[go_sem,hF,hP,hZ,gA,aC bH];try exact bd)
   ·(simp only[go_sem,hF,hP,hZ,gA,aC bH];try exact bd)
theorem lz {x:Ex} (hx:x.size≤1000000000) (ht:x.texts) (s:St):ay Tryz.prog 162 [.agg (bA x)] s (.slice .shared 1 (x.names.map encStr)) s:=by
 refine ay.pure ?_ (by simp only[D.bg,D.ok,fK];rfl) (by simp only[D.ok,Tag.ok,dd];rfl) s
 have hm:=fun s=>BJ (x:=x) (by omega) ht s
 simp only[O9]at hm
 unfold Ex.names
 unfold S0
 cases hb:x.may
 ·simp only [hb]at hm
  simp only[zab,if_false,zaj]
  refine ay.go vE.h rfl fun B Q hB hQ=>?_
  have⟨hF,hP,hZ,gA⟩:=bD
  repeat' (first
 |simp only[go_sem,hF,hP,hZ,gA]
 |(with_reducible refine CU (hm _) ?_)
 |(with_reducible refine az hQ ?_;exact aR))
 ·simp only [hb]at hm
  simp only[if_true]
  have hg : ∀ s,ay Tryz.prog 192 [.agg (bA x), .slice .full 0 []] s (.slice .shared 1 ((x.gG []).map encStr)) s:=by
   intro s
   obtain⟨op,m,name,kids⟩:=x
   exact SU (fun h2=>Eb (by simp only[Ex.may,zam]at hb;exact hb.2) h2) hx s
  refine ay.go vE.h rfl fun B Q hB hQ=>?_
  have⟨hF,hP,hZ,gA⟩:=bD
  repeat' (first
 |simp only[go_sem,hF,hP,hZ,gA]
 |(with_reducible refine CU (hm _) ?_)
 |(with_reducible refine CU (hg _) ?_)
 |(with_reducible refine az hQ ?_;exact aR))
theorem lA {x:Ex} (hx:x.size≤1000000000) (ht:x.texts) (s:St):ay Tryz.prog 143 [.agg (bA x)] s (.slice .shared 1 (x.names.map encStr)) s:=by
 refine ay.pure ?_ (by simp only[D.bg,D.ok,fK];rfl) (by simp only[D.ok,Tag.ok,dd];rfl) s
 have hm:=fun s=>yr (x:=x) (by omega) ht s
 unfold Ex.names
 unfold S0
 cases hb:x.may
 ·simp only [hb]at hm
  simp only[zab,if_false,zaj]
  refine ay.go vC.h rfl fun B Q hB hQ=>?_
  have⟨hF,hP,hZ,gA⟩:=bD
  repeat' (first
 |simp only[go_sem,hF,hP,hZ,gA]
 |(with_reducible refine CU (hm _) ?_)
 |(with_reducible refine az hQ ?_;exact aR))
 ·simp only [hb]at hm
  simp only[if_true]
  have hg : ∀ s,ay Tryz.prog 175 [.agg (bA x), .slice .full 0 []] s (.slice .shared 1 ((x.gG []).map encStr)) s:=by
   intro s
   obtain⟨op,m,name,kids⟩:=x
   exact Ps (fun h2=>Eb (by simp only[Ex.may,zam]at hb;exact hb.2) h2) hx s
  refine ay.go vC.h rfl fun B Q hB hQ=>?_
  have⟨hF,hP,hZ,gA⟩:=bD
  repeat' (first
 |simp only[go_sem,hF,hP,hZ,gA]
 |(with_reducible refine CU (hm _) ?_)
 |(with_reducible refine CU (hg _) ?_)
 |(with_reducible refine az hQ ?_;exact aR))
def Ar.said (out:List aA):List Ar→List aA
 | []=>out
 |a::l=>Ar.said ((if a.ref then out++ [a.name]else out)++a.x.names) l
def Sm.pR (v:Sm):List aA:=if v.kind != 10 && v.name != []then [v.name]else []
def Sm.said (v:Sm):List aA:=Ar.said (v.pR++v.x.names) v.args
theorem fW (x:Ex):x.names.length≤x.size:=by
 unfold Ex.names
 split
 ·simpa using kY [] x
 ·exact zar _
def Ar.sO:List Ar→Prop
 | []=>True
 |a::l=>a.x.texts∧Ar.sO l
def Sm.mg (v:Sm):Prop:=v.x.texts∧(∀ a∈v.args,a.x.texts)∧v.x.size+Ar.aM v.args<1000000
theorem eU {l nx:List aA} {n:Nat} (hn:n=l.length) (h:l.length+nx.length≤1000000000) {g:Tag} (o:List (List D)) :
 gV 1 16 (.slice (.tok 0) 1 (l.map encStr)) (.slice g 1 (nx.map encStr)) ⟨o,[some n]⟩=some (.slice (.tok 0) 1 ((l++nx).map encStr),⟨o,[some (l++nx).length]⟩):=by
 subst hn
 have:=Rs (size:=1) (bytes:=16) (t:=0) (rows:=l.map encStr) (new:=nx.map encStr) (g:=g) (s:=⟨o,[some l.length]⟩) (by simp only[zat];unfold aT;omega) (by simp)
 rw[this]
 simp
theorem yF {v:Sm} (hv:v.mg) (s:St):ay Tryz.prog 119 [.agg (aH v)] s (.slice .shared 1 (v.said.map encStr)) s:=by
 refine ay.pure ?_ (by simp only[D.bg,D.ok,il];rfl) (by simp only[D.ok,Tag.ok,dd];rfl) s
 obtain⟨YtiopamakecmpkaaGreat,yG,cV⟩:=hv
 obtain⟨R,hG⟩ : ∃ R,v.said=R:=⟨_,rfl⟩
 rw[hG]
 simp only[Sm.said]at hG
 have hlen:v.args.length<1000000000:=by have:=Ar.cd v.args;omega
 have hx:=fun s=>lz (x:=v.x) (by omega) YtiopamakecmpkaaGreat s
 have vP:=fW v.x
 unfold S0
 refine ay.go C7.h rfl fun B Q hB hQ=>?_
 have⟨hF,hP,hZ,gA⟩:=bD
 have hZ:17≤aT:=by unfold aT;omega
 by_cases hb:(v.kind != 10 && v.name != [])=true
 ·simp only [Sm.pR,hb,if_true]at hG
  rw[zam]at hb
  obtain⟨b1,b2⟩:=hb
  have cY:=eU (l:= [v.name]) (nx:=v.x.names) (n:=1) rfl (by simp;omega) (g:= .shared)
  simp only[zah,zaf,zaj,encStr]at cY
  have b3:(v.name == [])=false:=by simpa using b2
  repeat' (first
 |simp only[go_sem,hF,hP,hZ,gA,b1,b2,b3,cY]
 |(with_reducible refine CU (hx _) ?_)
 | (with_reducible refine az hQ ?_;exact aR))
  refine cD 1 1 ?_ ?_ (aY.ind (ι:=List Ar×Nat×List aA×Nat) (fun i=>v.args.drop i.2.1=i.1∧Ar.said i.2.2.1 i.1=R∧i.2.2.1.length+Ar.aM i.1≤2000000∧i.2.2.2=i.2.2.1.length) (fun i=>i.1.length)
   (fun i=> [(3, .slice (.tok 0) 1 (i.2.2.1.map encStr)),(1, .ptr 0 0),(25, .slice .shared 6 (v.args.map dz)),(26, .int .i64 (v.args.length:Int)),(27, .int .i64 (i.2.1:Int))]) (fun i=>⟨[aH v],[some i.2.2.2]⟩) ?_ (v.args,0,([v.name]++v.x.names),(v.x.names.length+1)) ⟨rfl,hG,by simp at vP ⊢;omega,by simp⟩)
  ·(simp only[go_sem,hF,hP,hZ,gA,zah,zaf,zaj,encStr];try exact bd)
  ·(simp only[go_sem,hF,hP,hZ,gA,zah,zaf,zaj,encStr];try exact bd)
  rintro⟨rest,k,out,n'⟩ ⟨h1,h2,h3,h4⟩ IH
  dsimp only at h1 h2 h3 h4
  subst h4
  cases rest with
  |nil=>
   have hF:=drop_nil h1
   simp only[Ar.said]at h2
   subst h2
   repeat' (first
 |simp only[go_sem,hF,hP,hZ,gA]
 | (with_reducible refine az hQ ?_;exact aR))
  | cons a rest=>
   obtain⟨hP,g2,hF,g4⟩:=drop_cons h1
   have bH:k<4611686018427387904:=by omega
   simp only[Ar.said]at h2
   simp only[Ar.aM]at h3
   have kK:=fun s=>lz (x:=a.x) (by have:=Ar.bC (zac hP);omega) (yG a (zac hP)) s
   have hl:=fW a.x
   have hZ:(out.length+1)*17≤aT:=by unfold aT;omega
   rcases zad a.ref with b1|b1
   ·simp only [b1,if_true]at h2
    have cY:=eU (l:=out++ [a.name]) (nx:=a.x.names) (n:=out.length+1) (by simp) (by simp;omega) (g:= .shared)
    simp only[zah,zaf,zaj,encStr]at cY
    repeat' (first
 |simp only[go_sem,hF,hP,hZ,gA,b1,cY]
 |(with_reducible refine CU (kK _) ?_)
 | (with_reducible refine az hQ ?_;exact aR))
    refine cD 1 1 ?_ ?_ (IH (rest,k+1,out++ [a.name]++a.x.names,_) ⟨g2,h2,by simp;omega,by simp<;>omega⟩ (zaa _))
    ·(simp only[go_sem,hF,hP,hZ,gA,aC bH,zah,zaf,zaj,encStr];try exact bd)
    ·(simp only[go_sem,hF,hP,hZ,gA,aC bH,zah,zaf,zaj,encStr];try exact bd)
   ·simp only [b1,zab,if_false]at h2
    have cY:=eU (l:=out) (nx:=a.x.names) rfl (by omega) (g:= .shared)
    repeat' (first
 |simp only[go_sem,hF,hP,hZ,gA,b1,cY]
 |(with_reducible refine CU (kK _) ?_)
 | (with_reducible refine az hQ ?_;exact aR))
    refine cD 1 1 ?_ ?_ (IH (rest,k+1,out++a.x.names,_) ⟨g2,h2,by simp;omega,by simp<;>omega⟩ (zaa _))
    ·(simp only[go_sem,hF,hP,hZ,gA,aC bH];try exact bd)
    ·(simp only[go_sem,hF,hP,hZ,gA,aC bH];try exact bd)
 ·simp only [Sm.pR,hb,zab,if_false,zaR]at hG
  have l8:(v.kind != 10 && v.name != [])=false:=by simpa using hb
  obtain⟨nx,Pu⟩ : ∃ nx,nx=v.x.names:=⟨_,rfl⟩
  rw[← Pu]at hG vP
  simp only[← Pu]at hx
  by_cases zS:nx = []
  ·subst zS
   simp only[zaj]at hx
   have cY : ∀ o:List (List D),gV 1 16 (.slice .full 0 []) (.slice .shared 1 []) ⟨o,[]⟩=some (.slice .full 0 [],⟨o,[]⟩):=fun o=>by simp[gV,aT]
   have HB:(v.kind != 10)=false∨(v.kind != 10)=true∧(v.name != [])=false:=by
    cases h1:(v.kind != 10)
    ·exact .inl rfl
    ·rw[h1]at l8;exact .inr ⟨rfl,by simpa using l8⟩
   rcases HB with b1|⟨b1,b2⟩
   ·rcases zad (v.name != [])with b2 | b2
    all_goals
     have b3:(v.name == []) = !(v.name != []):=by simp only[bne,Bool.not_not]
     rw[b2]at b3
     repeat' (first
 |simp only[go_sem,hF,hP,hZ,gA,b1,b2,b3,zax,zaB,cY]
 |(with_reducible refine CU (hx _) ?_)
 | (with_reducible refine az hQ ?_;simp only [bt,bx,bY,bZ,go_sem,hF,hP,hZ,gA];repeat' (first | exact Ok.out | with_reducible refine dZ ?_ ?_ | (simp;done))))
    all_goals
     refine aY.ko 3 1 rfl ?_
     simp only[go_sem,hF,hP,hZ,gA]
     refine cr 1 1 (aY.ind (ι:=List Ar×Nat×List aA×Nat) (fun i=>v.args.drop i.2.1=i.1∧Ar.said i.2.2.1 i.1=R∧i.2.2.1.length+Ar.aM i.1≤2000000∧i.2.2.2=i.2.2.1.length) (fun i=>i.1.length)
      (fun i=> [(3, .slice (.tok 0) 1 (i.2.2.1.map encStr)),(1, .ptr 0 0),(25, .slice .shared 6 (v.args.map dz)),(26, .int .i64 (v.args.length:Int)),(27, .int .i64 (i.2.1:Int))]) (fun i=>⟨[aH v],[some i.2.2.2]⟩) ?_ (v.args,0,[],0) ⟨rfl,hG,by simp at vP ⊢;omega,by simp⟩)
     rintro⟨rest,k,out,n'⟩ ⟨h1,h2,h3,h4⟩ IH
     dsimp only at h1 h2 h3 h4
     subst h4
     cases rest with
     |nil=>
      have hF:=drop_nil h1
      simp only[Ar.said]at h2
      subst h2
      repeat' (first
 |simp only[go_sem,hF,hP,hZ,gA]
 |(with_reducible refine az hQ ?_;exact aR))
     | cons a rest=>
      obtain⟨hP,g2,hF,g4⟩:=drop_cons h1
      have bH:k<4611686018427387904:=by omega
      simp only[Ar.said]at h2
      simp only[Ar.aM]at h3
      have kK:=fun s=>lz (x:=a.x) (by have:=Ar.bC (zac hP);omega) (yG a (zac hP)) s
      have hl:=fW a.x
      have hZ:(out.length+1)*17≤aT:=by unfold aT;omega
      rcases zad a.ref with b1|b1
      ·simp only [b1,if_true]at h2
       have cY:=eU (l:=out++ [a.name]) (nx:=a.x.names) (n:=out.length+1) (by simp) (by simp;omega) (g:= .shared)
       simp only[zah,zaf,zaj,encStr]at cY
       repeat' (first
 |simp only[go_sem,hF,hP,hZ,gA,b1,cY]
 |(with_reducible refine CU (kK _) ?_)
 |(with_reducible refine az hQ ?_;exact aR))
       refine cD 1 1 ?_ ?_ (IH (rest,k+1,out++ [a.name]++a.x.names,_) ⟨g2,h2,by simp;omega,by simp<;>omega⟩ (zaa _))
       ·(simp only[go_sem,hF,hP,hZ,gA,aC bH,zah,zaf,zaj,encStr];try exact bd)
       ·(simp only[go_sem,hF,hP,hZ,gA,aC bH,zah,zaf,zaj,encStr];try exact bd)
      ·simp only [b1,zab,if_false]at h2
       have cY:=eU (l:=out) (nx:=a.x.names) rfl (by omega) (g:= .shared)
       repeat' (first
 |simp only[go_sem,hF,hP,hZ,gA,b1,cY]
 |(with_reducible refine CU (kK _) ?_)
 | (with_reducible refine az hQ ?_;exact aR))
       refine cD 1 1 ?_ ?_ (IH (rest,k+1,out++a.x.names,_) ⟨g2,h2,by simp;omega,by simp<;>omega⟩ (zaa _))
       ·(simp only[go_sem,hF,hP,hZ,gA,aC bH];try exact bd)
       ·(simp only[go_sem,hF,hP,hZ,gA,aC bH];try exact bd)
   ·have b3:(v.name == [])=true:=by simpa using b2
    repeat' (first
 |simp only[go_sem,hF,hP,hZ,gA,b1,b2,b3,cY]
 |(with_reducible refine CU (hx _) ?_)
 | (with_reducible refine az hQ ?_;exact aR))
    refine aY.ko 3 1 rfl ?_
    simp only[go_sem,hF,hP,hZ,gA]
    refine cr 1 1 (aY.ind (ι:=List Ar×Nat×List aA×Nat) (fun i=>v.args.drop i.2.1=i.1∧Ar.said i.2.2.1 i.1=R∧i.2.2.1.length+Ar.aM i.1≤2000000∧i.2.2.2=i.2.2.1.length) (fun i=>i.1.length)
     (fun i=> [(3, .slice (.tok 0) 1 (i.2.2.1.map encStr)),(1, .ptr 0 0),(25, .slice .shared 6 (v.args.map dz)),(26, .int .i64 (v.args.length:Int)),(27, .int .i64 (i.2.1:Int))]) (fun i=>⟨[aH v],[some i.2.2.2]⟩) ?_ (v.args,0,[],0) ⟨rfl,hG,by simp at vP ⊢;omega,by simp⟩)
    rintro⟨rest,k,out,n'⟩ ⟨h1,h2,h3,h4⟩ IH
    dsimp only at h1 h2 h3 h4
    subst h4
    cases rest with
    |nil=>
     have hF:=drop_nil h1
     simp only[Ar.said]at h2
     subst h2
     repeat' (first
 |simp only[go_sem,hF,hP,hZ,gA]
 | (with_reducible refine az hQ ?_;exact aR))
    | cons a rest=>
     obtain⟨hP,g2,hF,g4⟩:=drop_cons h1
     have bH:k<4611686018427387904:=by omega
     simp only[Ar.said]at h2
     simp only[Ar.aM]at h3
     have kK:=fun s=>lz (x:=a.x) (by have:=Ar.bC (zac hP);omega) (yG a (zac hP)) s
     have hl:=fW a.x
     have hZ:(out.length+1)*17≤aT:=by unfold aT;omega
     rcases zad a.ref with b1|b1
     ·simp only [b1,if_true]at h2
      have cY:=eU (l:=out++ [a.name]) (nx:=a.x.names) (n:=out.length+1) (by simp) (by simp;omega) (g:= .shared)
      simp only[zah,zaf,zaj,encStr]at cY
      repeat' (first
 |simp only[go_sem,hF,hP,hZ,gA,b1,cY]
 |(with_reducible refine CU (kK _) ?_)
 |(with_reducible refine az hQ ?_;exact aR))
      refine cD 1 1 ?_ ?_ (IH (rest,k+1,out++ [a.name]++a.x.names,_) ⟨g2,h2,by simp;omega,by simp<;>omega⟩ (zaa _))
      ·(simp only[go_sem,hF,hP,hZ,gA,aC bH,zah,zaf,zaj,encStr];try exact bd)
      ·(simp only[go_sem,hF,hP,hZ,gA,aC bH,zah,zaf,zaj,encStr];try exact bd)
     ·simp only [b1,zab,if_false]at h2
      have cY:=eU (l:=out) (nx:=a.x.names) rfl (by omega) (g:= .shared)
      repeat' (first
 |simp only[go_sem,hF,hP,hZ,gA,b1,cY]
 |(with_reducible refine CU (kK _) ?_)
 | (with_reducible refine az hQ ?_;exact aR))
      refine cD 1 1 ?_ ?_ (IH (rest,k+1,out++a.x.names,_) ⟨g2,h2,by simp;omega,by simp<;>omega⟩ (zaa _))
      ·(simp only[go_sem,hF,hP,hZ,gA,aC bH];try exact bd)
      ·(simp only[go_sem,hF,hP,hZ,gA,aC bH];try exact bd)
  ·have cY : ∀ o:List (List D),gV 1 16 (.slice .full 0 []) (.slice .shared 1 (nx.map encStr)) ⟨o,[]⟩=some (.slice (.tok 0) 1 (nx.map encStr),⟨o,[some nx.length]⟩):=fun o=>by
    have:nx.length*17≤aT:=by unfold aT;omega
    cases nx with
    |nil=>exact absurd rfl zS
    |cons a r=>simp only[zal]at this;simp[gV,this]
   have HB:(v.kind != 10)=false∨(v.kind != 10)=true∧(v.name != [])=false:=by
    cases h1:(v.kind != 10)
    ·exact .inl rfl
    ·rw[h1]at l8;exact .inr ⟨rfl,by simpa using l8⟩
   rcases HB with b1|⟨b1,b2⟩
   ·rcases zad (v.name != [])with b2 | b2
    all_goals
     have b3:(v.name == []) = !(v.name != []):=by simp only[bne,Bool.not_not]
     rw[b2]at b3
     repeat' (first
 |simp only[go_sem,hF,hP,hZ,gA,b1,b2,b3,zax,zaB,cY]
 |(with_reducible refine CU (hx _) ?_)
 | (with_reducible refine az hQ ?_;simp only [bt,bx,bY,bZ,go_sem,hF,hP,hZ,gA];repeat' (first | exact Ok.out | with_reducible refine dZ ?_ ?_ | (simp;done))))
    all_goals
     refine cr 1 1 (aY.ind (ι:=List Ar×Nat×List aA×Nat) (fun i=>v.args.drop i.2.1=i.1∧Ar.said i.2.2.1 i.1=R∧i.2.2.1.length+Ar.aM i.1≤2000000∧i.2.2.2=i.2.2.1.length) (fun i=>i.1.length)
      (fun i=> [(3, .slice (.tok 0) 1 (i.2.2.1.map encStr)),(1, .ptr 0 0),(25, .slice .shared 6 (v.args.map dz)),(26, .int .i64 (v.args.length:Int)),(27, .int .i64 (i.2.1:Int))]) (fun i=>⟨[aH v],[some i.2.2.2]⟩) ?_ (v.args,0,nx,_) ⟨rfl,hG,by simp at vP ⊢;omega,by simp⟩)
     rintro⟨rest,k,out,n'⟩ ⟨h1,h2,h3,h4⟩ IH
     dsimp only at h1 h2 h3 h4
     subst h4
     cases rest with
     |nil=>
      have hF:=drop_nil h1
      simp only[Ar.said]at h2
      subst h2
      repeat' (first
 |simp only[go_sem,hF,hP,hZ,gA]
 |(with_reducible refine az hQ ?_;exact aR))
     | cons a rest=>
      obtain⟨hP,g2,hF,g4⟩:=drop_cons h1
      have bH:k<4611686018427387904:=by omega
      simp only[Ar.said]at h2
      simp only[Ar.aM]at h3
      have kK:=fun s=>lz (x:=a.x) (by have:=Ar.bC (zac hP);omega) (yG a (zac hP)) s
      have hl:=fW a.x
      have hZ:(out.length+1)*17≤aT:=by unfold aT;omega
      rcases zad a.ref with b1|b1
      ·simp only [b1,if_true]at h2
       have cY:=eU (l:=out++ [a.name]) (nx:=a.x.names) (n:=out.length+1) (by simp) (by simp;omega) (g:= .shared)
       simp only[zah,zaf,zaj,encStr]at cY
       repeat' (first
 |simp only[go_sem,hF,hP,hZ,gA,b1,cY]
 |(with_reducible refine CU (kK _) ?_)
 |(with_reducible refine az hQ ?_;exact aR))
       refine cD 1 1 ?_ ?_ (IH (rest,k+1,out++ [a.name]++a.x.names,_) ⟨g2,h2,by simp;omega,by simp<;>omega⟩ (zaa _))
       ·(simp only[go_sem,hF,hP,hZ,gA,aC bH,zah,zaf,zaj,encStr];try exact bd)
       ·(simp only[go_sem,hF,hP,hZ,gA,aC bH,zah,zaf,zaj,encStr];try exact bd)
      ·simp only [b1,zab,if_false]at h2
       have cY:=eU (l:=out) (nx:=a.x.names) rfl (by omega) (g:= .shared)
       repeat' (first
 |simp only[go_sem,hF,hP,hZ,gA,b1,cY]
 |(with_reducible refine CU (kK _) ?_)
 | (with_reducible refine az hQ ?_;exact aR))
       refine cD 1 1 ?_ ?_ (IH (rest,k+1,out++a.x.names,_) ⟨g2,h2,by simp;omega,by simp<;>omega⟩ (zaa _))
       ·(simp only[go_sem,hF,hP,hZ,gA,aC bH];try exact bd)
       ·(simp only[go_sem,hF,hP,hZ,gA,aC bH];try exact bd)
   ·have b3:(v.name == [])=true:=by simpa using b2
    repeat' (first
 |simp only[go_sem,hF,hP,hZ,gA,b1,b2,b3,cY]
 |(with_reducible refine CU (hx _) ?_)
 | (with_reducible refine az hQ ?_;exact aR))
    refine cr 1 1 (aY.ind (ι:=List Ar×Nat×List aA×Nat) (fun i=>v.args.drop i.2.1=i.1∧Ar.said i.2.2.1 i.1=R∧i.2.2.1.length+Ar.aM i.1≤2000000∧i.2.2.2=i.2.2.1.length) (fun i=>i.1.length)
     (fun i=> [(3, .slice (.tok 0) 1 (i.2.2.1.map encStr)),(1, .ptr 0 0),(25, .slice .shared 6 (v.args.map dz)),(26, .int .i64 (v.args.length:Int)),(27, .int .i64 (i.2.1:Int))]) (fun i=>⟨[aH v],[some i.2.2.2]⟩) ?_ (v.args,0,nx,_) ⟨rfl,hG,by simp at vP ⊢;omega,by simp⟩)
    rintro⟨rest,k,out,n'⟩ ⟨h1,h2,h3,h4⟩ IH
    dsimp only at h1 h2 h3 h4
    subst h4
    cases rest with
    |nil=>
     have hF:=drop_nil h1
     simp only[Ar.said]at h2
     subst h2
     repeat' (first
 |simp only[go_sem,hF,hP,hZ,gA]
 | (with_reducible refine az hQ ?_;exact aR))
    | cons a rest=>
     obtain⟨hP,g2,hF,g4⟩:=drop_cons h1
     have bH:k<4611686018427387904:=by omega
     simp only[Ar.said]at h2
     simp only[Ar.aM]at h3
     have kK:=fun s=>lz (x:=a.x) (by have:=Ar.bC (zac hP);omega) (yG a (zac hP)) s
     have hl:=fW a.x
     have hZ:(out.length+1)*17≤aT:=by unfold aT;omega
     rcases zad a.ref with b1|b1
     ·simp only [b1,if_true]at h2
      have cY:=eU (l:=out++ [a.name]) (nx:=a.x.names) (n:=out.length+1) (by simp) (by simp;omega) (g:= .shared)
      simp only[zah,zaf,zaj,encStr]at cY
      repeat' (first
 |simp only[go_sem,hF,hP,hZ,gA,b1,cY]
 |(with_reducible refine CU (kK _) ?_)
 |(with_reducible refine az hQ ?_;exact aR))
      refine cD 1 1 ?_ ?_ (IH (rest,k+1,out++ [a.name]++a.x.names,_) ⟨g2,h2,by simp;omega,by simp<;>omega⟩ (zaa _))
      ·(simp only[go_sem,hF,hP,hZ,gA,aC bH,zah,zaf,zaj,encStr];try exact bd)
      ·(simp only[go_sem,hF,hP,hZ,gA,aC bH,zah,zaf,zaj,encStr];try exact bd)
     ·simp only [b1,zab,if_false]at h2
      have cY:=eU (l:=out) (nx:=a.x.names) rfl (by omega) (g:= .shared)
      repeat' (first
 |simp only[go_sem,hF,hP,hZ,gA,b1,cY]
 |(with_reducible refine CU (kK _) ?_)
 |(with_reducible refine az hQ ?_;exact aR))
      refine cD 1 1 ?_ ?_ (IH (rest,k+1,out++a.x.names,_) ⟨g2,h2,by simp;omega,by simp<;>omega⟩ (zaa _))
      ·(simp only[go_sem,hF,hP,hZ,gA,aC bH];try exact bd)
      ·(simp only[go_sem,hF,hP,hZ,gA,aC bH];try exact bd)
theorem IW {v:Sm} (hv:v.mg) (s:St):ay Tryz.prog 84 [.agg (aH v)] s (.slice .shared 1 (v.said.map encStr)) s:=by
 refine ay.pure ?_ (by simp only[D.bg,D.ok,il];rfl) (by simp only[D.ok,Tag.ok,dd];rfl) s
 obtain⟨YtiopamakecmpkaaGreat,yG,cV⟩:=hv
 obtain⟨R,hG⟩ : ∃ R,v.said=R:=⟨_,rfl⟩
 rw[hG]
 simp only[Sm.said]at hG
 have hlen:v.args.length<1000000000:=by have:=Ar.cd v.args;omega
 have hx:=fun s=>lA (x:=v.x) (by omega) YtiopamakecmpkaaGreat s
 have vP:=fW v.x
 unfold S0
 refine ay.go EY.h rfl fun B Q hB hQ=>?_
 have⟨hF,hP,hZ,gA⟩:=bD
 have hZ:17≤aT:=by unfold aT;omega
 by_cases hb:(v.kind != 10 && v.name != [])=true
 ·simp only [Sm.pR,hb,if_true]at hG
  rw[zam]at hb
  obtain⟨b1,b2⟩:=hb
  have cY:=eU (l:= [v.name]) (nx:=v.x.names) (n:=1) rfl (by simp;omega) (g:= .shared)
  simp only[zah,zaf,zaj,encStr]at cY
  have b3:(v.name == [])=false:=by simpa using b2
  repeat' (first
 |simp only[go_sem,hF,hP,hZ,gA,b1,b2,b3,cY]
 |(with_reducible refine CU (hx _) ?_)
 | (with_reducible refine az hQ ?_;exact aR))
  refine cD 1 1 ?_ ?_ (aY.ind (ι:=List Ar×Nat×List aA×Nat) (fun i=>v.args.drop i.2.1=i.1∧Ar.said i.2.2.1 i.1=R∧i.2.2.1.length+Ar.aM i.1≤2000000∧i.2.2.2=i.2.2.1.length) (fun i=>i.1.length)
   (fun i=> [(3, .slice (.tok 0) 1 (i.2.2.1.map encStr)),(1, .ptr 0 0),(25, .slice .shared 6 (v.args.map dz)),(26, .int .i64 (v.args.length:Int)),(27, .int .i64 (i.2.1:Int))]) (fun i=>⟨[aH v],[some i.2.2.2]⟩) ?_ (v.args,0,([v.name]++v.x.names),(v.x.names.length+1)) ⟨rfl,hG,by simp at vP ⊢;omega,by simp⟩)
  ·(simp only[go_sem,hF,hP,hZ,gA,zah,zaf,zaj,encStr];try exact bd)
  ·(simp only[go_sem,hF,hP,hZ,gA,zah,zaf,zaj,encStr];try exact bd)
  rintro⟨rest,k,out,n'⟩ ⟨h1,h2,h3,h4⟩ IH
  dsimp only at h1 h2 h3 h4
  subst h4
  cases rest with
  |nil=>
   have hF:=drop_nil h1
   simp only[Ar.said]at h2
   subst h2
   repeat' (first
 |simp only[go_sem,hF,hP,hZ,gA]
 | (with_reducible refine az hQ ?_;exact aR))
  | cons a rest=>
   obtain⟨hP,g2,hF,g4⟩:=drop_cons h1
   have bH:k<4611686018427387904:=by omega
   simp only[Ar.said]at h2
   simp only[Ar.aM]at h3
   have kK:=fun s=>lA (x:=a.x) (by have:=Ar.bC (zac hP);omega) (yG a (zac hP)) s
   have hl:=fW a.x
   have hZ:(out.length+1)*17≤aT:=by unfold aT;omega
   rcases zad a.ref with b1|b1
   ·simp only [b1,if_true]at h2
    have cY:=eU (l:=out++ [a.name]) (nx:=a.x.names) (n:=out.length+1) (by simp) (by simp;omega) (g:= .shared)
    simp only[zah,zaf,zaj,encStr]at cY
    repeat' (first
 |simp only[go_sem,hF,hP,hZ,gA,b1,cY]
 |(with_reducible refine CU (kK _) ?_)
 | (with_reducible refine az hQ ?_;exact aR))
    refine cD 1 1 ?_ ?_ (IH (rest,k+1,out++ [a.name]++a.x.names,_) ⟨g2,h2,by simp;omega,by simp<;>omega⟩ (zaa _))
    ·(simp only[go_sem,hF,hP,hZ,gA,aC bH,zah,zaf,zaj,encStr];try exact bd)
    ·(simp only[go_sem,hF,hP,hZ,gA,aC bH,zah,zaf,zaj,encStr];try exact bd)
   ·simp only [b1,zab,if_false]at h2
    have cY:=eU (l:=out) (nx:=a.x.names) rfl (by omega) (g:= .shared)
    repeat' (first
 |simp only[go_sem,hF,hP,hZ,gA,b1,cY]
 |(with_reducible refine CU (kK _) ?_)
 | (with_reducible refine az hQ ?_;exact aR))
    refine cD 1 1 ?_ ?_ (IH (rest,k+1,out++a.x.names,_) ⟨g2,h2,by simp;omega,by simp<;>omega⟩ (zaa _))
    ·(simp only[go_sem,hF,hP,hZ,gA,aC bH];try exact bd)
    ·(simp only[go_sem,hF,hP,hZ,gA,aC bH];try exact bd)
 ·simp only [Sm.pR,hb,zab,if_false,zaR]at hG
  have l8:(v.kind != 10 && v.name != [])=false:=by simpa using hb
  obtain⟨nx,Pu⟩ : ∃ nx,nx=v.x.names:=⟨_,rfl⟩
  rw[← Pu]at hG vP
  simp only[← Pu]at hx
  by_cases zS:nx = []
  ·subst zS
   simp only[zaj]at hx
   have cY : ∀ o:List (List D),gV 1 16 (.slice .full 0 []) (.slice .shared 1 []) ⟨o,[]⟩=some (.slice .full 0 [],⟨o,[]⟩):=fun o=>by simp[gV,aT]
   have HB:(v.kind != 10)=false∨(v.kind != 10)=true∧(v.name != [])=false:=by
    cases h1:(v.kind != 10)
    ·exact .inl rfl
    ·rw[h1]at l8;exact .inr ⟨rfl,by simpa using l8⟩
   rcases HB with b1|⟨b1,b2⟩
   ·rcases zad (v.name != [])with b2 | b2
    all_goals
     have b3:(v.name == []) = !(v.name != []):=by simp only[bne,Bool.not_not]
     rw[b2]at b3
     repeat' (first
 |simp only[go_sem,hF,hP,hZ,gA,b1,b2,b3,zax,zaB,cY]
 |(with_reducible refine CU (hx _) ?_)
 | (with_reducible refine az hQ ?_;simp only [bt,bx,bY,bZ,go_sem,hF,hP,hZ,gA];repeat' (first | exact Ok.out | with_reducible refine dZ ?_ ?_ | (simp;done))))
    all_goals
     refine aY.ko 3 1 rfl ?_
     simp only[go_sem,hF,hP,hZ,gA]
     refine cr 1 1 (aY.ind (ι:=List Ar×Nat×List aA×Nat) (fun i=>v.args.drop i.2.1=i.1∧Ar.said i.2.2.1 i.1=R∧i.2.2.1.length+Ar.aM i.1≤2000000∧i.2.2.2=i.2.2.1.length) (fun i=>i.1.length)
      (fun i=> [(3, .slice (.tok 0) 1 (i.2.2.1.map encStr)),(1, .ptr 0 0),(25, .slice .shared 6 (v.args.map dz)),(26, .int .i64 (v.args.length:Int)),(27, .int .i64 (i.2.1:Int))]) (fun i=>⟨[aH v],[some i.2.2.2]⟩) ?_ (v.args,0,[],0) ⟨rfl,hG,by simp at vP ⊢;omega,by simp⟩)
     rintro⟨rest,k,out,n'⟩ ⟨h1,h2,h3,h4⟩ IH
     dsimp only at h1 h2 h3 h4
     subst h4
     cases rest with
     |nil=>
      have hF:=drop_nil h1
      simp only[Ar.said]at h2
      subst h2
      repeat' (first
 |simp only[go_sem,hF,hP,hZ,gA]
 |(with_reducible refine az hQ ?_;exact aR))
     | cons a rest=>
      obtain⟨hP,g2,hF,g4⟩:=drop_cons h1
      have bH:k<4611686018427387904:=by omega
      simp only[Ar.said]at h2
      simp only[Ar.aM]at h3
      have kK:=fun s=>lA (x:=a.x) (by have:=Ar.bC (zac hP);omega) (yG a (zac hP)) s
      have hl:=fW a.x
      have hZ:(out.length+1)*17≤aT:=by unfold aT;omega
      rcases zad a.ref with b1|b1
      ·simp only [b1,if_true]at h2
       have cY:=eU (l:=out++ [a.name]) (nx:=a.x.names) (n:=out.length+1) (by simp) (by simp;omega) (g:= .shared)
       simp only[zah,zaf,zaj,encStr]at cY
       repeat' (first
 |simp only[go_sem,hF,hP,hZ,gA,b1,cY]
 |(with_reducible refine CU (kK _) ?_)
 |(with_reducible refine az hQ ?_;exact aR))
       refine cD 1 1 ?_ ?_ (IH (rest,k+1,out++ [a.name]++a.x.names,_) ⟨g2,h2,by simp;omega,by simp<;>omega⟩ (zaa _))
       ·(simp only[go_sem,hF,hP,hZ,gA,aC bH,zah,zaf,zaj,encStr];try exact bd)
       ·(simp only[go_sem,hF,hP,hZ,gA,aC bH,zah,zaf,zaj,encStr];try exact bd)
      ·simp only [b1,zab,if_false]at h2
       have cY:=eU (l:=out) (nx:=a.x.names) rfl (by omega) (g:= .shared)
       repeat' (first
 |simp only[go_sem,hF,hP,hZ,gA,b1,cY]
 |(with_reducible refine CU (kK _) ?_)
 | (with_reducible refine az hQ ?_;exact aR))
       refine cD 1 1 ?_ ?_ (IH (rest,k+1,out++a.x.names,_) ⟨g2,h2,by simp;omega,by simp<;>omega⟩ (zaa _))
       ·(simp only[go_sem,hF,hP,hZ,gA,aC bH];try exact bd)
       ·(simp only[go_sem,hF,hP,hZ,gA,aC bH];try exact bd)
   ·have b3:(v.name == [])=true:=by simpa using b2
    repeat' (first
 |simp only[go_sem,hF,hP,hZ,gA,b1,b2,b3,cY]
 |(with_reducible refine CU (hx _) ?_)
 | (with_reducible refine az hQ ?_;exact aR))
    refine aY.ko 3 1 rfl ?_
    simp only[go_sem,hF,hP,hZ,gA]
    refine cr 1 1 (aY.ind (ι:=List Ar×Nat×List aA×Nat) (fun i=>v.args.drop i.2.1=i.1∧Ar.said i.2.2.1 i.1=R∧i.2.2.1.length+Ar.aM i.1≤2000000∧i.2.2.2=i.2.2.1.length) (fun i=>i.1.length)
     (fun i=> [(3, .slice (.tok 0) 1 (i.2.2.1.map encStr)),(1, .ptr 0 0),(25, .slice .shared 6 (v.args.map dz)),(26, .int .i64 (v.args.length:Int)),(27, .int .i64 (i.2.1:Int))]) (fun i=>⟨[aH v],[some i.2.2.2]⟩) ?_ (v.args,0,[],0) ⟨rfl,hG,by simp at vP ⊢;omega,by simp⟩)
    rintro⟨rest,k,out,n'⟩ ⟨h1,h2,h3,h4⟩ IH
    dsimp only at h1 h2 h3 h4
    subst h4
    cases rest with
    |nil=>
     have hF:=drop_nil h1
     simp only[Ar.said]at h2
     subst h2
     repeat' (first
 |simp only[go_sem,hF,hP,hZ,gA]
 | (with_reducible refine az hQ ?_;exact aR))
    | cons a rest=>
     obtain⟨hP,g2,hF,g4⟩:=drop_cons h1
     have bH:k<4611686018427387904:=by omega
     simp only[Ar.said]at h2
     simp only[Ar.aM]at h3
     have kK:=fun s=>lA (x:=a.x) (by have:=Ar.bC (zac hP);omega) (yG a (zac hP)) s
     have hl:=fW a.x
     have hZ:(out.length+1)*17≤aT:=by unfold aT;omega
     rcases zad a.ref with b1|b1
     ·simp only [b1,if_true]at h2
      have cY:=eU (l:=out++ [a.name]) (nx:=a.x.names) (n:=out.length+1) (by simp) (by simp;omega) (g:= .shared)
      simp only[zah,zaf,zaj,encStr]at cY
      repeat' (first
 |simp only[go_sem,hF,hP,hZ,gA,b1,cY]
 |(with_reducible refine CU (kK _) ?_)
 |(with_reducible refine az hQ ?_;exact aR))
      refine cD 1 1 ?_ ?_ (IH (rest,k+1,out++ [a.name]++a.x.names,_) ⟨g2,h2,by simp;omega,by simp<;>omega⟩ (zaa _))
      ·(simp only[go_sem,hF,hP,hZ,gA,aC bH,zah,zaf,zaj,encStr];try exact bd)
      ·(simp only[go_sem,hF,hP,hZ,gA,aC bH,zah,zaf,zaj,encStr];try exact bd)
     ·simp only [b1,zab,if_false]at h2
      have cY:=eU (l:=out) (nx:=a.x.names) rfl (by omega) (g:= .shared)
      repeat' (first
 |simp only[go_sem,hF,hP,hZ,gA,b1,cY]
 |(with_reducible refine CU (kK _) ?_)
 | (with_reducible refine az hQ ?_;exact aR))
      refine cD 1 1 ?_ ?_ (IH (rest,k+1,out++a.x.names,_) ⟨g2,h2,by simp;omega,by simp<;>omega⟩ (zaa _))
      ·(simp only[go_sem,hF,hP,hZ,gA,aC bH];try exact bd)
      ·(simp only[go_sem,hF,hP,hZ,gA,aC bH];try exact bd)
  ·have cY : ∀ o:List (List D),gV 1 16 (.slice .full 0 []) (.slice .shared 1 (nx.map encStr)) ⟨o,[]⟩=some (.slice (.tok 0) 1 (nx.map encStr),⟨o,[some nx.length]⟩):=fun o=>by
    have:nx.length*17≤aT:=by unfold aT;omega
    cases nx with
    |nil=>exact absurd rfl zS
    |cons a r=>simp only[zal]at this;simp[gV,this]
   have HB:(v.kind != 10)=false∨(v.kind != 10)=true∧(v.name != [])=false:=by
    cases h1:(v.kind != 10)
    ·exact .inl rfl
    ·rw[h1]at l8;exact .inr ⟨rfl,by simpa using l8⟩
   rcases HB with b1|⟨b1,b2⟩
   ·rcases zad (v.name != [])with b2 | b2
    all_goals
     have b3:(v.name == []) = !(v.name != []):=by simp only[bne,Bool.not_not]
     rw[b2]at b3
     repeat' (first
 |simp only[go_sem,hF,hP,hZ,gA,b1,b2,b3,zax,zaB,cY]
 |(with_reducible refine CU (hx _) ?_)
 | (with_reducible refine az hQ ?_;simp only [bt,bx,bY,bZ,go_sem,hF,hP,hZ,gA];repeat' (first | exact Ok.out | with_reducible refine dZ ?_ ?_ | (simp;done))))
    all_goals
     refine cr 1 1 (aY.ind (ι:=List Ar×Nat×List aA×Nat) (fun i=>v.args.drop i.2.1=i.1∧Ar.said i.2.2.1 i.1=R∧i.2.2.1.length+Ar.aM i.1≤2000000∧i.2.2.2=i.2.2.1.length) (fun i=>i.1.length)
      (fun i=> [(3, .slice (.tok 0) 1 (i.2.2.1.map encStr)),(1, .ptr 0 0),(25, .slice .shared 6 (v.args.map dz)),(26, .int .i64 (v.args.length:Int)),(27, .int .i64 (i.2.1:Int))]) (fun i=>⟨[aH v],[some i.2.2.2]⟩) ?_ (v.args,0,nx,_) ⟨rfl,hG,by simp at vP ⊢;omega,by simp⟩)
     rintro⟨rest,k,out,n'⟩ ⟨h1,h2,h3,h4⟩ IH
     dsimp only at h1 h2 h3 h4
     subst h4
     cases rest with
     |nil=>
      have hF:=drop_nil h1
      simp only[Ar.said]at h2
      subst h2
      repeat' (first
 |simp only[go_sem,hF,hP,hZ,gA]
 |(with_reducible refine az hQ ?_;exact aR))
     | cons a rest=>
      obtain⟨hP,g2,hF,g4⟩:=drop_cons h1
      have bH:k<4611686018427387904:=by omega
      simp only[Ar.said]at h2
      simp only[Ar.aM]at h3
      have kK:=fun s=>lA (x:=a.x) (by have:=Ar.bC (zac hP);omega) (yG a (zac hP)) s
      have hl:=fW a.x
      have hZ:(out.length+1)*17≤aT:=by unfold aT;omega
      rcases zad a.ref with b1|b1
      ·simp only [b1,if_true]at h2
       have cY:=eU (l:=out++ [a.name]) (nx:=a.x.names) (n:=out.length+1) (by simp) (by simp;omega) (g:= .shared)
       simp only[zah,zaf,zaj,encStr]at cY
       repeat' (first
 |simp only[go_sem,hF,hP,hZ,gA,b1,cY]
 |(with_reducible refine CU (kK _) ?_)
 |(with_reducible refine az hQ ?_;exact aR))
       refine cD 1 1 ?_ ?_ (IH (rest,k+1,out++ [a.name]++a.x.names,_) ⟨g2,h2,by simp;omega,by simp<;>omega⟩ (zaa _))
       ·(simp only[go_sem,hF,hP,hZ,gA,aC bH,zah,zaf,zaj,encStr];try exact bd)
       ·(simp only[go_sem,hF,hP,hZ,gA,aC bH,zah,zaf,zaj,encStr];try exact bd)
      ·simp only [b1,zab,if_false]at h2
       have cY:=eU (l:=out) (nx:=a.x.names) rfl (by omega) (g:= .shared)
       repeat' (first
 |simp only[go_sem,hF,hP,hZ,gA,b1,cY]
 |(with_reducible refine CU (kK _) ?_)
 | (with_reducible refine az hQ ?_;exact aR))
       refine cD 1 1 ?_ ?_ (IH (rest,k+1,out++a.x.names,_) ⟨g2,h2,by simp;omega,by simp<;>omega⟩ (zaa _))
       ·(simp only[go_sem,hF,hP,hZ,gA,aC bH];try exact bd)
       ·(simp only[go_sem,hF,hP,hZ,gA,aC bH];try exact bd)
   ·have b3:(v.name == [])=true:=by simpa using b2
    repeat' (first
 |simp only[go_sem,hF,hP,hZ,gA,b1,b2,b3,cY]
 |(with_reducible refine CU (hx _) ?_)
 | (with_reducible refine az hQ ?_;exact aR))
    refine cr 1 1 (aY.ind (ι:=List Ar×Nat×List aA×Nat) (fun i=>v.args.drop i.2.1=i.1∧Ar.said i.2.2.1 i.1=R∧i.2.2.1.length+Ar.aM i.1≤2000000∧i.2.2.2=i.2.2.1.length) (fun i=>i.1.length)
     (fun i=> [(3, .slice (.tok 0) 1 (i.2.2.1.map encStr)),(1, .ptr 0 0),(25, .slice .shared 6 (v.args.map dz)),(26, .int .i64 (v.args.length:Int)),(27, .int .i64 (i.2.1:Int))]) (fun i=>⟨[aH v],[some i.2.2.2]⟩) ?_ (v.args,0,nx,_) ⟨rfl,hG,by simp at vP ⊢;omega,by simp⟩)
    rintro⟨rest,k,out,n'⟩ ⟨h1,h2,h3,h4⟩ IH
    dsimp only at h1 h2 h3 h4
    subst h4
    cases rest with
    |nil=>
     have hF:=drop_nil h1
     simp only[Ar.said]at h2
     subst h2
     repeat' (first
 |simp only[go_sem,hF,hP,hZ,gA]
 | (with_reducible refine az hQ ?_;exact aR))
    | cons a rest=>
     obtain⟨hP,g2,hF,g4⟩:=drop_cons h1
     have bH:k<4611686018427387904:=by omega
     simp only[Ar.said]at h2
     simp only[Ar.aM]at h3
     have kK:=fun s=>lA (x:=a.x) (by have:=Ar.bC (zac hP);omega) (yG a (zac hP)) s
     have hl:=fW a.x
     have hZ:(out.length+1)*17≤aT:=by unfold aT;omega
     rcases zad a.ref with b1|b1
     ·simp only [b1,if_true]at h2
      have cY:=eU (l:=out++ [a.name]) (nx:=a.x.names) (n:=out.length+1) (by simp) (by simp;omega) (g:= .shared)
      simp only[zah,zaf,zaj,encStr]at cY
      repeat' (first
 |simp only[go_sem,hF,hP,hZ,gA,b1,cY]
 |(with_reducible refine CU (kK _) ?_)
 |(with_reducible refine az hQ ?_;exact aR))
      refine cD 1 1 ?_ ?_ (IH (rest,k+1,out++ [a.name]++a.x.names,_) ⟨g2,h2,by simp;omega,by simp<;>omega⟩ (zaa _))
      ·(simp only[go_sem,hF,hP,hZ,gA,aC bH,zah,zaf,zaj,encStr];try exact bd)
      ·(simp only[go_sem,hF,hP,hZ,gA,aC bH,zah,zaf,zaj,encStr];try exact bd)
     ·simp only [b1,zab,if_false]at h2
      have cY:=eU (l:=out) (nx:=a.x.names) rfl (by omega) (g:= .shared)
      repeat' (first
 |simp only[go_sem,hF,hP,hZ,gA,b1,cY]
 |(with_reducible refine CU (kK _) ?_)
 |(with_reducible refine az hQ ?_;exact aR))
      refine cD 1 1 ?_ ?_ (IH (rest,k+1,out++a.x.names,_) ⟨g2,h2,by simp;omega,by simp<;>omega⟩ (zaa _))
      ·(simp only[go_sem,hF,hP,hZ,gA,aC bH];try exact bd)
      ·(simp only[go_sem,hF,hP,hZ,gA,aC bH];try exact bd)
theorem B7 {size bytes z:Nat} {g:Tag} {rows:List (List D)} {s:St} (h:rows.length*(bytes+1)≤aT) (hr:rows≠ []) :
 gV size bytes (.slice .full z []) (.slice g size rows) s=some (.slice (.tok s.aw.length) size rows,⟨s.av,s.aw++ [some rows.length]⟩):=by
 cases rows with
 |nil=>exact absurd rfl hr
 |cons r l=>simp only[gV];simp at h ⊢;exact h
theorem ub {l:List aA} (hl:l.length<1073741824) (g:Tag) (s:St):ay Tryz.prog 138 [.slice g 1 (l.map encStr)] s (.slice .shared 1 (l.map encStr)) s:=by
 refine dt.wk (.cons (Wk.shared _ _ _) .nil) (ay.pure ?_ (by simp[D.bg,D.ok,Tag.ok,dd]) (by simp[D.ok,Tag.ok,dd]) s)
 unfold S0
 refine ay.go ti.h rfl fun B Q hB hQ=>?_
 have⟨hF,hP,hZ,gA⟩:=bD
 cases l with
 |nil=>
  repeat' (first
 |simp only[go_sem,hF,hP,hZ,gA]
 |(with_reducible refine az hQ ?_;exact aR))
  refine GG (fun _=>?_) ?_
  ·repeat' (first
 |simp only[go_sem,hF,hP,hZ,gA,gV,true_or,zar]
 |(with_reducible refine az hQ ?_;exact aR))
  ·repeat' (first
 |simp only[go_sem,hF,hP,hZ,gA,gV,true_or,zar]
 |(with_reducible refine az hQ ?_;exact aR))
 |cons x l=>
  have e:((x::l).map encStr).length*(16+1)≤aT:=by simp only[zat,aT];omega
  have e2:=fun s=>B7 (size:=1) (z:=1) (g:= .shared) (s:=s) e (by simp)
  simp only[zaf,encStr]at e2
  repeat' (first
 |simp only[go_sem,hF,hP,hZ,gA,e2]
 |(with_reducible refine az hQ ?_;exact aR))
theorem SW {l:List Pm} (hl:l.length<1073741824) (g:Tag) (s:St):ay Tryz.prog 139 [.slice g 2 (l.map df)] s (.slice .shared 2 (l.map df)) s:=by
 refine dt.wk (.cons (Wk.shared _ _ _) .nil) (ay.pure ?_ (by simp[D.bg,D.ok,Tag.ok,wu]) (by simp[D.ok,Tag.ok,wu]) s)
 unfold S0
 refine ay.go rI.h rfl fun B Q hB hQ=>?_
 have⟨hF,hP,hZ,gA⟩:=bD
 cases l with
 |nil=>
  repeat' (first
 |simp only[go_sem,hF,hP,hZ,gA]
 |(with_reducible refine az hQ ?_;exact aR))
  refine GG (fun _=>?_) ?_
  ·repeat' (first
 |simp only[go_sem,hF,hP,hZ,gA,gV,true_or,zar]
 |(with_reducible refine az hQ ?_;exact aR))
  ·repeat' (first
 |simp only[go_sem,hF,hP,hZ,gA,gV,true_or,zar]
 |(with_reducible refine az hQ ?_;exact aR))
 |cons x l=>
  have e:((x::l).map df).length*(24+1)≤aT:=by simp only[zat,aT];omega
  have e2:=fun s=>B7 (size:=2) (z:=2) (g:= .shared) (s:=s) e (by simp)
  simp only[zaf,encStr]at e2
  repeat' (first
 |simp only[go_sem,hF,hP,hZ,gA,e2]
 |(with_reducible refine az hQ ?_;exact aR))
theorem Zn : ∀ n,n<1073741824→∀ x:Ex,x.size≤n→ay Tryz.prog 173 [.agg (bA x)] S0 (.agg (bA x)) S0:=by
 intro n
 induction n with
 |zero=>rintro _ ⟨op,m,name,kids⟩ h;simp only[Ex.size]at h;omega
 |succ n OP=>
 rintro hn ⟨op,m,name,kids⟩ hx
 have hk : ∀ y∈kids,∀ s,ay Tryz.prog 173 [.agg (bA y)] s (.agg (bA y)) s:=fun y hy s=>
  (OP (by omega) y (by simp only[Ex.size]at hx;have:=Ex.bC hy;omega)).pure (by simp[D.bg,D.ok,fK]) (by simp[D.ok,fK]) s
 have hlen:kids.length<1073741824:=by simp only[Ex.size]at hx;have:=Ex.cd kids;omega
 unfold S0
 refine ay.go E1.h rfl fun B Q hB hQ=>?_
 have⟨hF,hP,hZ,gA⟩:=bD
 repeat' (first
 |simp only[go_sem,hF,hP,hZ,gA]
 |(with_reducible refine az hQ ?_;exact aR))
 refine aY.qk 0 3 4 rfl rfl ?_
 simp only[go_sem,hF,hP,hZ,gA]
 refine cr 2 1 (aY.ind (ι:=List Ex×Nat×List Ex) (fun i=>kids.drop i.2.1=i.1∧i.2.1=i.2.2.length∧i.2.2++i.1=kids) (fun i=>i.1.length)
  (fun i=> [(1, .ptr 0 0),(2, .ptr 1 0),(9, .slice .shared 4 (kids.map bA)),(10, .int .i64 (kids.length:Int)),(11, .int .i64 (i.2.1:Int))])
  (fun i=>⟨[[.int .i64 op, .int .i64 m, .str name, .slice (.tok 0) 4 (i.2.2.map bA)],bA lN],[some i.2.1]⟩) ?_ (kids,0,[]) ⟨rfl,rfl,rfl⟩)
 rintro⟨rest,k,acc⟩ ⟨h1,h2,h3⟩ IH
 dsimp only at h1 h2 h3
 subst h2
 cases rest with
 |nil=>
  have hF:=drop_nil h1
  rw[zaA]at h3
  subst h3
  repeat' (first
 |simp only[go_sem,hF,hP,hZ,gA]
 |(with_reducible refine az hQ ?_;exact aR))
 |cons y rest=>
  obtain⟨hP,g2,hF,g4⟩:=drop_cons h1
  have hZ:acc.length<4611686018427387904:=by omega
  have de:(acc.length+1)*57≤aT:=by simp only[aT];omega
  have hy:=hk y (zac hP)
  repeat' (first
 |simp only[go_sem,hF,hP,hZ,gA,de]
 |(with_reducible refine CU (hy _) ?_)
 |(with_reducible refine az hQ ?_;exact aR))
  refine cr 2 1 (IH (rest,acc.length+1,acc++ [y]) ⟨g2,by simp,by simp only[zaC,zaJ,zaR];exact h3⟩ (zaa _))
theorem Pv {x:Ex} (h:x.size<1073741824) (s:St):ay Tryz.prog 173 [.agg (bA x)] s (.agg (bA x)) s:=
 (Zn x.size h x (zag _)).pure (by simp[D.bg,D.ok,fK]) (by simp[D.ok,fK]) s
abbrev UD (b:Bool) (N:Nat):Prop:=∀ l:List Sm,Sm.aM l<N→∀ n:Nat,n+Sm.aM l<1073741824→∀ s:St,
 ay Tryz.prog 140 [.slice .shared 13 (l.map aH), .int .i64 (n:Int), .bool b] s (.tuple [.slice .shared 13 ((Sm.cv b n l).1.map aH), .int .i64 ((Sm.cv b n l).2:Int)]) s
theorem SX {N:Nat} (ih:UD true N) (l:List Sm) (hl:Sm.aM l<N+1) (n:Nat) (hn:n+Sm.aM l<1073741824) :
 ay Tryz.prog 140 [.slice .shared 13 (l.map aH), .int .i64 (n:Int), .bool true] S0 (.tuple [.slice .shared 13 ((Sm.cv true n l).1.map aH), .int .i64 ((Sm.cv true n l).2:Int)]) S0:=by
 unfold S0
 refine ay.go Bz.h rfl fun B Q hB hQ=>?_
 have⟨hF,hP,hZ,gA⟩:=bD
 repeat' (first
 |simp only[go_sem,hF,hP,hZ,gA]
 |(with_reducible refine az hQ ?_;exact aR))
 have hlen:l.length<1073741824:=by have:=Sm.cd l;omega
 refine aY.ko 8 13 rfl ?_
 simp only[go_sem,hF,hP,hZ,gA]
 refine cr 0 1 (aY.ind (ι:=List Sm×Nat×List Sm×Nat) (fun i=>l.drop i.2.1=i.1∧i.2.1=i.2.2.1.length∧Sm.cv true n l=(i.2.2.1++(Sm.cv true i.2.2.2 i.1).1,(Sm.cv true i.2.2.2 i.1).2)∧i.2.2.2+Sm.aM i.1≤n+Sm.aM l) (fun i=>i.1.length)
  (fun i=> [(1, .int .i64 (i.2.2.2:Int)),(2, .bool true),(8, .slice (.tok 0) 13 (i.2.2.1.map aH)),(14, .slice .shared 13 (l.map aH)),(15, .int .i64 (l.length:Int)),(16, .int .i64 (i.2.1:Int))])
  (fun i=>⟨[],[some i.2.1]⟩) ?_ (l,0,[],n) ⟨rfl,rfl,rfl,zag _⟩)
 rintro⟨rest,k,acc,m⟩ ⟨h1,h2,h3,h4⟩ IH
 dsimp only at h1 h2 h3 h4
 subst h2
 cases rest with
 |nil=>
  have hF:=drop_nil h1
  simp only[Sm.cv,zaA]at h3
  rw[h3]at hQ
  repeat' (first
 |simp only[go_sem,hF,hP,hZ,gA]
 |(with_reducible refine az hQ ?_;exact aR))
 |cons y rest=>
  obtain⟨hP,g2,hF,g4⟩:=drop_cons h1
  simp only[Sm.aM]at h4 hl
  have hm:m<4611686018427387904:=by omega
  have hk:acc.length<4611686018427387904:=by omega
  have cV:y.size≤N:=by have:=Sm.bC (zac hP);omega
  obtain⟨id,kind,labels,name,proc,x,has,args,aV,aN⟩:=y
  simp only[Sm.size]at cV h4
  have de:(acc.length+1)*209≤aT:=by simp only[aT];omega
  have hx:=fun s=>Pv (x:=x) (by omega) s
  simp only[fO]at hx
  have rN:=fun g s=>ub (l:=labels) (by omega) g s
  have rS:=Ar.cd args
  repeat' (first
 |simp only[go_sem,hF,hP,hZ,gA,aC hm]
 |(with_reducible refine CU (rN _ _) ?_)
 |(with_reducible refine CU (hx _) ?_)
 | (with_reducible refine az hQ ?_;exact aR))
  refine aY.qk 1 10 6 rfl rfl ?_
  simp only[go_sem,hF,hP,hZ,gA]
  refine cr 2 2 (aY.ind (ι:=List Ar×Nat×List Ar) (fun i=>args.drop i.2.1=i.1∧i.2.1=i.2.2.length∧i.2.2++i.1=args) (fun i=>i.1.length)
   (fun i=> [(1, .int .i64 ((m+1:Nat):Int)),(2, .bool true),(8, .slice (.tok 0) 13 (acc.map aH)),(10, .ptr 0 0),(11, .ptr 1 0),(14, .slice .shared 13 (l.map aH)),(15, .int .i64 (l.length:Int)),(16, .int .i64 (acc.length:Int)),
    (36, .slice .shared 6 (args.map dz)),(37, .int .i64 (args.length:Int)),(38, .int .i64 (i.2.1:Int))])
   (fun i=>⟨[aH ⟨id,kind,labels,name,proc,x,has,args,aV,aN⟩,[.int .i64 ((m+1:Nat):Int), .int .i64 kind, .slice .shared 1 (labels.map encStr), .str name, .str proc, .int .i64 x.op, .int .i64 x.n, .str x.name, .slice .shared 4 (x.kids.map bA), .bool has, .slice (.tok 1) 6 (i.2.2.map dz), .slice .shared 13 (aV.map aH), .slice .shared 13 (aN.map aH)]],[some acc.length,some i.2.1]⟩) ?_ (args,0,[]) ⟨rfl,rfl,rfl⟩)
  rintro⟨wI,ka,sV⟩ ⟨j1,j2,j3⟩ YP
  dsimp only at j1 j2 j3
  subst j2
  cases wI with
  |nil=>
   have hF:=drop_nil j1
   rw[zaA]at j3
   subst j3
   have b1:=Sm.mn true (m+1) aV
   have b2:=Sm.mn true (Sm.cv true (m+1) aV).2 aN
   have c1:=ih aV (by omega) (m+1) (by omega)
   have c2:=ih aN (by omega) (Sm.cv true (m+1) aV).2 (by omega)
   repeat' (first
 |simp only[go_sem,hF,hP,hZ,gA,de]
 |(with_reducible refine CU (c1 _) ?_)
 |(with_reducible refine CU (c2 _) ?_)
 | (with_reducible refine az hQ ?_;exact aR))
   refine cD 0 1 ?_ ?_ (IH (rest,acc.length+1,acc++ [(Sm.num true m ⟨id,kind,labels,name,proc,x,has,sV,aV,aN⟩).1],(Sm.num true m ⟨id,kind,labels,name,proc,x,has,sV,aV,aN⟩).2) ⟨g2,by simp,by rw[h3];simp[Sm.cv],by simp only[Sm.num];omega⟩ (zaa _))
   ·(simp only[go_sem,hF,hP,hZ,gA,aC hk,Sm.num];try exact bd)
   ·(simp only[go_sem,hF,hP,hZ,gA,aC hk,Sm.num];try exact bd)
  |cons a wI=>
   obtain⟨hP,g2,hF,g4⟩:=drop_cons j1
   have ha:a.x.size<1073741824:=by have:=Ar.bC (zac hP);omega
   have x7:sV.length<4611686018427387904:=by omega
   have Hg:(sV.length+1)*81≤aT:=by simp only[aT];omega
   have tX:=fun s=>Pv ha s
   simp only[fO]at tX
   obtain⟨SG,My,ax⟩:=a
   repeat' (first
 |simp only[go_sem,hF,hP,hZ,gA,Hg]
 |(with_reducible refine CU (tX _) ?_)
 | (with_reducible refine az hQ ?_;exact aR))
   refine cD 2 2 ?_ ?_ (YP (wI,sV.length+1,sV++ [⟨SG,My,ax⟩]) ⟨g2,by simp,by simp only[zaC,zaJ,zaR];exact j3⟩ (zaa _))
   ·(simp only[go_sem,hF,hP,hZ,gA,aC x7];try exact bd)
   ·(simp only[go_sem,hF,hP,hZ,gA,aC x7];try exact bd)
theorem Wu : ∀ N,UD true N:=by
 intro N
 induction N with
 |zero=>intro l hl;exact absurd hl (zaG _)
 |succ N ih=>
  intro l hl n hn s
  exact(SX ih l hl n hn).pure (by simp[D.bg,D.ok,Tag.ok,gR]) (by simp[D.bg,D.ok,Tag.ok,gR]) s
theorem acf {l:List Sm} {n:Nat} (h:n+Sm.aM l<1073741824) (s:St) :
 ay Tryz.prog 140 [.slice .shared 13 (l.map aH), .int .i64 (n:Int), .bool true] s (.tuple [.slice .shared 13 ((Sm.cv true n l).1.map aH), .int .i64 ((Sm.cv true n l).2:Int)]) s:=
 Wu _ l (zaa _) n h s
theorem SY {p:Pg} (hp:p.size<1073741824):ay Tryz.prog 75 [.agg (bf p)] S0 (.agg (bf p.number)) S0:=by
 obtain⟨globals,procs⟩:=p
 simp only[Pg.size]at hp
 have hlen:procs.length<1073741824:=by have:=Pc.cd procs;omega
 have UE:=fun g s=>ub (l:=globals) (by omega) g s
 unfold S0
 refine ay.go Bw.h rfl fun B Q hB hQ=>?_
 have⟨hF,hP,hZ,gA⟩:=bD
 repeat' (first
 |simp only[go_sem,hF,hP,hZ,gA]
 |(with_reducible refine CU (UE _ _) ?_)
 |(with_reducible first|refine bj fun hc=>?_|refine bk fun hc=>?_|refine bl (fun hc=>?_) fun hc=>?_)<;>(try simp only[hc,bs,↓reduceIte]at h)<;>try simp only[hc]
 |(with_reducible refine az hQ ?_;exact aR))
 refine aY.qk 2 1 5 rfl rfl ?_
 simp only[go_sem,hF,hP,hZ,gA]
 refine cr 3 1 (aY.ind (ι:=List Pc×Nat×List Pc×Nat) (fun i=>procs.drop i.2.1=i.1∧i.2.1=i.2.2.1.length∧Pc.cv 0 procs=i.2.2.1++Pc.cv i.2.2.2 i.1∧i.2.2.2+Pc.aM i.1≤Pc.aM procs) (fun i=>i.1.length)
  (fun i=> [(2, .ptr 1 0),(3, .int .i64 (i.2.2.2:Int)),(4, .ptr 2 0),(13, .slice .shared 5 (procs.map bn)),(14, .int .i64 (procs.length:Int)),(15, .int .i64 (i.2.1:Int))])
  (fun i=>⟨[bf ⟨globals,procs⟩,bf Bp,[.slice .shared 1 (globals.map encStr), .slice (.tok 0) 5 (i.2.2.1.map bn)]],[some i.2.1]⟩) ?_ (procs,0,[],0) ⟨rfl,rfl,rfl,by dsimp only;omega⟩)
 rintro⟨rest,k,acc,m⟩ ⟨h1,h2,h3,h4⟩ IH
 dsimp only at h1 h2 h3 h4
 subst h2
 cases rest with
 |nil=>
  have hF:=drop_nil h1
  simp only[Pc.cv,zaA]at h3
  subst h3
  repeat' (first
 |simp only[go_sem,hF,hP,hZ,gA,Pg.number]
 |(with_reducible first|refine bj fun hc=>?_|refine bk fun hc=>?_|refine bl (fun hc=>?_) fun hc=>?_)<;>(try simp only[hc,bs,↓reduceIte]at h)<;>try simp only[hc]
 |(with_reducible refine az hQ ?_;simp only[bt,bx,bY,bZ,go_sem,hF,hP,hZ,gA,Pg.number];try exact cB))
 |cons y rest=>
  obtain⟨hP,g2,hF,g4⟩:=drop_cons h1
  simp only[Pc.aM]at h4
  have cV:=Pc.bC (zac hP)
  obtain⟨name,params,vars,body,fin⟩:=y
  simp only[Pc.size]at cV h4
  have hk:acc.length<4611686018427387904:=by omega
  have de:(acc.length+1)*113≤aT:=by simp only[aT];omega
  have c1:=fun g s=>SW (l:=params) (by omega) g s
  have c2:=fun g s=>ub (l:=vars) (by omega) g s
  have c3:=fun g s=>ub (l:=fin) (by omega) g s
  have c4:=fun s=>acf (l:=body) (n:=m) (by omega) s
  have b1:=Sm.mn true m body
  repeat' (first
 |simp only[go_sem,hF,hP,hZ,gA,de]
 |(with_reducible refine CU (c1 _ _) ?_)
 |(with_reducible refine CU (c2 _ _) ?_)
 |(with_reducible refine CU (c3 _ _) ?_)
 |(with_reducible refine CU (c4 _) ?_)
 |(with_reducible refine az hQ ?_;exact aR))
  refine cD 3 1 ?_ ?_ (IH (rest,acc.length+1,acc++ [⟨name,params,vars,(Sm.cv true m body).1,fin⟩],(Sm.cv true m body).2) ⟨g2,by simp,by rw[h3];simp[Pc.cv],by dsimp only;omega⟩ (zaa _))
  ·(simp only[go_sem,hF,hP,hZ,gA,aC hk];try exact bd)
  ·(simp only[go_sem,hF,hP,hZ,gA,aC hk];try exact bd)
theorem SZ {p q:Pg} (h:p.C2=some q) (s:St):ay Tryz.prog 75 [.agg (bf p)] s (.agg (bf q)) s:=by
 unfold Pg.C2 at h
 split at h
 ·cases h;exact(SY ‹_›).pure (by simp[D.bg,D.ok,fm]) (by simp[D.ok,fm]) s
 ·cases h
def aeC (x:aA):List aA→Bool
 | []=>false
 |s::l=>if x==s then true else aeC x l
def oq (pre:List aA):List aA→Bool
 | []=>false
 |s::l=>if dg pre s then true else oq (pre++ [s]) l
def dG (l:List aA):Bool:=oq [] l
theorem Pw {l:List aA} {k:Nat} {a:aA} (h:l[k]? = some a):l.take (k+1)=l.take k++ [a]:=by rw[List.take_add_one,h];rfl
theorem Ds {l:List aA} (hl:l.length<4611686018427387904) (x:aA) (g:Tag) (s:St):ay Tryz.prog 39 [.slice g 1 (l.map encStr), .str x] s (.bool (dg l x)) s:=by
 refine ay.Jt (d':= .slice .shared 1 (l.map encStr)) ?_ (Wk.shared _ _ _)
 refine ay.pure ?_ (by simp[D.bg,D.ok,Tag.ok,dd]) rfl s
 rw[← yy]
 generalize h:pL x l=p
 unfold S0
 refine ay.go IT.h rfl fun B Q hB hQ=>?_
 have⟨hF,hP,hZ,gA⟩:=bD
 repeat' (first
 |simp only[go_sem,hF,hP,hZ,gA]
 |(with_reducible first|refine bj fun hc=>?_|refine bk fun hc=>?_|refine bl (fun hc=>?_) fun hc=>?_)<;>(try simp only[hc,bs,↓reduceIte]at h)<;>try simp only[hc]
 |((with_reducible refine az hQ ?_);exact dv))
 refine cr 0 0 (aY.ind (ι:=List aA×Nat) (fun i=>l.drop i.2=i.1∧pL x i.1=p) (fun i=>i.1.length)
  (fun i=> [(0, .slice .shared 1 (l.map encStr)),(1, .str x),(7, .int .i64 (l.length:Int)),(8, .int .i64 (i.2:Int))]) (fun i=>⟨[],[]⟩) ?_ (l,0) ⟨rfl,h⟩)
 rintro⟨rest,k⟩ ⟨h1,h⟩ IH
 dsimp only at h1 h
 cases rest with
 |nil=>
  have hF:=drop_nil h1
  simp only[pL]at h
  repeat' (first
 |simp only[go_sem,hF,hP,hZ,gA]
 |(with_reducible first|refine bj fun hc=>?_|refine bk fun hc=>?_|refine bl (fun hc=>?_) fun hc=>?_)<;>(try simp only[hc,bs,↓reduceIte]at h)<;>try simp only[hc]
 |((with_reducible refine az hQ ?_);exact dv))
 |cons a rest=>
  obtain⟨hP,g2,hF,g4⟩:=drop_cons h1
  have bH:k<4611686018427387904:=by omega
  simp only[pL]at h
  repeat' (first
 |simp only[go_sem,hF,hP,hZ,gA]
 |(with_reducible first|refine bj fun hc=>?_|refine bk fun hc=>?_|refine bl (fun hc=>?_) fun hc=>?_)<;>(try simp only[hc,bs,↓reduceIte]at h)<;>try simp only[hc]
 |((with_reducible refine az hQ ?_);exact dv))
  refine cD 0 0 ?_ ?_ (IH (rest,k+1) ⟨g2,h⟩ (zaa _))
  ·(simp only[go_sem,hF,hP,hZ,gA,aC bH];try exact bd)
  ·(simp only[go_sem,hF,hP,hZ,gA,aC bH];try exact bd)
theorem AP {l:List aA} (hl:l.length<4611686018427387904) (g:Tag) (s:St):ay Tryz.prog 59 [.slice g 1 (l.map encStr)] s (.bool (dG l)) s:=by
 refine ay.Jt (d':= .slice .shared 1 (l.map encStr)) ?_ (Wk.shared _ _ _)
 refine ay.pure ?_ (by simp[D.bg,D.ok,Tag.ok,dd]) rfl s
 generalize h:dG l=p
 simp only[dG]at h
 unfold S0
 refine ay.go Bu.h rfl fun B Q hB hQ=>?_
 have⟨hF,hP,hZ,gA⟩:=bD
 repeat' (first
 |simp only[go_sem,hF,hP,hZ,gA]
 |(with_reducible first|refine bj fun hc=>?_|refine bk fun hc=>?_|refine bl (fun hc=>?_) fun hc=>?_)<;>(try simp only[hc,bs,↓reduceIte]at h)<;>try simp only[hc]
 |((with_reducible refine az hQ ?_);exact dv))
 refine cr 0 0 (aY.ind (ι:=List aA×Nat) (fun i=>l.drop i.2=i.1∧oq (l.take i.2) i.1=p) (fun i=>i.1.length)
  (fun i=> [(0, .slice .shared 1 (l.map encStr)),(5, .slice .shared 1 (l.map encStr)),(6, .int .i64 (l.length:Int)),(7, .int .i64 (i.2:Int))]) (fun i=>⟨[],[]⟩) ?_ (l,0) ⟨rfl,h⟩)
 rintro⟨rest,k⟩ ⟨h1,h⟩ IH
 dsimp only at h1 h
 cases rest with
 |nil=>
  have hF:=drop_nil h1
  simp only[oq]at h
  repeat' (first
 |simp only[go_sem,hF,hP,hZ,gA]
 |(with_reducible first|refine bj fun hc=>?_|refine bk fun hc=>?_|refine bl (fun hc=>?_) fun hc=>?_)<;>(try simp only[hc,bs,↓reduceIte]at h)<;>try simp only[hc]
 |((with_reducible refine az hQ ?_);exact dv))
 |cons a rest=>
  obtain⟨hP,g2,hF,g4⟩:=drop_cons h1
  have bH:k<4611686018427387904:=by omega
  simp only[oq]at h
  have hc:=iz (l:=l.take k) (by rw[zbw];omega) a
  have e1:List.drop 0 (List.take k (l.map encStr))=(l.take k).map encStr:=by simp[List.map_take]
  have c1:((0:Int)≤(k:Int))=True:=by simp
  have c2:((k:Int)≤(l.length:Int))=True:=by simp only[eq_iff_iff,iff_true];omega
  have e2:List.take k (l.map encStr)=(l.take k).map encStr:=by simp[List.map_take]
  repeat' (first
 |simp only[go_sem,hF,hP,hZ,gA,e1,e2,c1,c2,or_true,true_and,and_self,ite_self,Int.toNat_natCast,List.drop_zero]
 |(with_reducible refine CU (hc _ _) ?_)
 |(with_reducible first|refine bj fun hc=>?_|refine bk fun hc=>?_|refine bl (fun hc=>?_) fun hc=>?_)<;>(try simp only[hc,bs,↓reduceIte]at h)<;>try simp only[hc]
 |((with_reducible refine az hQ ?_);(try cases h);simp only[bt,bx,bY,bZ,go_sem,hF,hP,hZ,gA,e1,e2,c1,c2,or_true,true_and,and_self,ite_self,Int.toNat_natCast,List.drop_zero];try exact cB))
  refine cD 0 0 ?_ ?_ (IH (rest,k+1) ⟨g2,by dsimp only;rw[Pw (by assumption)];exact h⟩ (zaa _))
  ·(simp only[go_sem,hF,hP,hZ,gA,aC bH];try exact bd)
  ·(simp only[go_sem,hF,hP,hZ,gA,aC bH];try exact bd)
def B8 (vars globals:List aA) (name:aA):List Pm→Int
 | []=>if dg vars name then 4 else if dg globals name then 1 else 0
 |a::l=>if a.name==name then(if a.ref then 3 else 2)else B8 vars globals name l
def Pc.jA (p:Pg) (f:Pc) (name:aA):Int:=B8 f.vars p.globals name f.params
theorem Hm {p:Pg} {f:Pc} (hp:f.params.length<1000000000) (hv:f.vars.length<1000000000) (hg:p.globals.length<1000000000) (name:aA) (s:St):ay Tryz.prog 120 [.agg (bf p), .agg (bn f), .str name] s (.int .i64 (f.jA p name)) s:=by
 refine ay.pure ?_ (by simp[D.bg,D.ok,fm,ql]) rfl s
 have qa:=iz (l:=f.vars) (by omega) name
 have vh:=iz (l:=p.globals) (by omega) name
 generalize h:f.jA p name=q
 simp only[Pc.jA]at h
 unfold S0
 refine ay.go Dc.h rfl fun B Q hB hQ=>?_
 have⟨hF,hP,hZ,gA⟩:=bD
 repeat' (first
 |simp only[go_sem,hF,hP,hZ,gA]
 |(with_reducible refine az hQ ?_;exact aR))
 refine cr 2 0 (aY.ind (ι:=List Pm×Nat) (fun i=>f.params.drop i.2=i.1∧B8 f.vars p.globals name i.1=q) (fun i=>i.1.length)
  (fun i=> [(2, .str name),(3, .ptr 0 0),(4, .ptr 1 0),(10, .slice .shared 2 (f.params.map df)),(11, .int .i64 (f.params.length:Int)),(12, .int .i64 (i.2:Int))]) (fun i=>⟨[bf p,bn f],[]⟩) ?_ (f.params,0) ⟨rfl,h⟩)
 rintro⟨rest,k⟩ ⟨h1,h⟩ IH
 dsimp only at h1 h
 cases rest with
 | nil=>
  have hF:=drop_nil h1
  simp only[B8]at h
  rcases zad (dg f.vars name)with b1|b1
  ·simp only [b1,if_true]at h
   subst h
   repeat' (first
 |simp only[go_sem,hF,hP,hZ,gA,b1]
 |(with_reducible refine CU (qa _ _) ?_)
 |(with_reducible refine CU (vh _ _) ?_)
 | (with_reducible refine az hQ ?_;exact aR))
  ·simp only [b1,zab,if_false]at h
   rcases zad (dg p.globals name)with b2|b2
   ·simp only [b2,if_true]at h
    subst h
    repeat' (first
 |simp only[go_sem,hF,hP,hZ,gA,b1,b2]
 |(with_reducible refine CU (qa _ _) ?_)
 |(with_reducible refine CU (vh _ _) ?_)
 | (with_reducible refine az hQ ?_;exact aR))
   ·simp only [b2,zab,if_false]at h
    subst h
    repeat' (first
 |simp only[go_sem,hF,hP,hZ,gA,b1,b2]
 |(with_reducible refine CU (qa _ _) ?_)
 |(with_reducible refine CU (vh _ _) ?_)
 |(with_reducible refine az hQ ?_;exact aR))
 | cons a rest=>
  obtain⟨hP,g2,hF,g4⟩:=drop_cons h1
  have bH:k<4611686018427387904:=by omega
  simp only[B8]at h
  rcases zad (a.name==name)with b1|b1
  ·simp only [b1,if_true]at h
   rcases zad a.ref with b2|b2
   ·simp only [b2,if_true]at h
    subst h
    repeat' (first
 |simp only[go_sem,hF,hP,hZ,gA,b1,b2]
 | (with_reducible refine az hQ ?_;exact aR))
   ·simp only [b2,zab,if_false]at h
    subst h
    repeat' (first
 |simp only[go_sem,hF,hP,hZ,gA,b1,b2]
 | (with_reducible refine az hQ ?_;exact aR))
  ·simp only [b1,zab,if_false]at h
   repeat' (first
 |simp only[go_sem,hF,hP,hZ,gA,b1]
 | (with_reducible refine az hQ ?_;exact aR))
   refine cD 2 0 ?_ ?_ (IH (rest,k+1) ⟨g2,h⟩ (zaa _))
   ·(simp only[go_sem,hF,hP,hZ,gA,aC bH];try exact bd)
   ·(simp only[go_sem,hF,hP,hZ,gA,aC bH];try exact bd)
def iB (name:aA):List Pc→Option Pc
 | []=>none
 |f::l=>if f.name==name then some f else iB name l
def Pg.find (p:Pg) (name:aA):Option Pc:=iB name p.procs
def pc0:Pc:=⟨[],[],[],[],[]⟩
def afb (r:Option Pc):D:= .tuple [.agg (bn (r.getD pc0)), .bool r.isSome]
def Pc.lB (f:Pc):List aA:=f.params.map (·.name)
def Pc.own (f:Pc):List aA:=f.lB++f.vars
theorem acg {f:Pc} (hp:f.params.length<1000000) (hv:f.vars.length<1000000) (s:St):ay Tryz.prog 61 [.agg (bn f)] s (.slice .shared 1 (f.own.map encStr)) s:=by
 refine ay.pure ?_ (by simp[D.bg,D.ok,ql]) (by simp only[D.ok,Tag.ok,dd];rfl) s
 generalize hR:f.own=R
 simp only[Pc.own]at hR
 unfold S0
 refine ay.go EV.h rfl fun B Q hB hQ=>?_
 have⟨hF,hP,hZ,gA⟩:=bD
 repeat' (first
 |simp only[go_sem,hF,hP,hZ,gA]
 |(with_reducible refine az hQ ?_;exact aR))
 refine aY.ko 3 1 rfl ?_
 simp only[go_sem,hF,hP,hZ,gA]
 refine cr 1 1 (aY.ind (ι:=List Pm×Nat×List aA×Nat) (fun i=>f.params.drop i.2.1=i.1∧i.2.2.1++i.1.map (·.name)=f.lB∧i.2.2.2=i.2.2.1.length) (fun i=>i.1.length)
  (fun i=> [(1, .ptr 0 0),(3, .slice (.tok 0) 1 (i.2.2.1.map encStr)),(7, .slice .shared 2 (f.params.map df)),(8, .int .i64 (f.params.length:Int)),(9, .int .i64 (i.2.1:Int))]) (fun i=>⟨[bn f],[some i.2.2.2]⟩) ?_ (f.params,0,[],0) ⟨rfl,rfl,rfl⟩)
 rintro⟨rest,k,out,n⟩ ⟨h1,h2,h3⟩ IH
 dsimp only at h1 h2 h3
 subst h3
 have hlo:out.length+rest.length<1000000:=by
  have:=congrArg List.length h2
  simp only[zai,zat,Pc.lB]at this
  omega
 cases rest with
 |nil=>
  have hF:=drop_nil h1
  simp only[zaj,zaA]at h2
  subst hR
  rw[← h2]at hQ
  have cY:=eU (l:=out) (nx:=f.vars) rfl (by omega) (g:= .shared)
  repeat' (first
 |simp only[go_sem,hF,hP,hZ,gA,cY]
 |(with_reducible refine az hQ ?_;exact aR))
 |cons a rest=>
  obtain⟨hP,g2,hF,g4⟩:=drop_cons h1
  have bH:k<4611686018427387904:=by omega
  have hZ:(out.length+1)*17≤aT:=by unfold aT;omega
  repeat' (first
 |simp only[go_sem,hF,hP,hZ,gA]
 |(with_reducible refine az hQ ?_;exact aR))
  refine cD 1 1 ?_ ?_ (IH (rest,k+1,out++ [a.name],out.length+1) ⟨g2,by rw[← h2];simp,by simp⟩ (zaa _))
  ·(simp only[go_sem,hF,hP,hZ,gA,aC bH,zah,zaf,zaj,encStr];try exact bd)
  ·(simp only[go_sem,hF,hP,hZ,gA,aC bH,zah,zaf,zaj,encStr];try exact bd)
theorem S1 {f:Pc} (hp:f.params.length<1000000) (s:St):ay Tryz.prog 82 [.agg (bn f)] s (.slice .shared 1 (f.lB.map encStr)) s:=by
 refine ay.pure ?_ (by simp[D.bg,D.ok,ql]) (by simp only[D.ok,Tag.ok,dd];rfl) s
 generalize hR:f.lB=R
 unfold S0
 refine ay.go Bx.h rfl fun B Q hB hQ=>?_
 have⟨hF,hP,hZ,gA⟩:=bD
 repeat' (first
 |simp only[go_sem,hF,hP,hZ,gA]
 |(with_reducible refine az hQ ?_;exact aR))
 refine aY.ko 3 1 rfl ?_
 simp only[go_sem,hF,hP,hZ,gA]
 refine cr 1 1 (aY.ind (ι:=List Pm×Nat×List aA×Nat) (fun i=>f.params.drop i.2.1=i.1∧i.2.2.1++i.1.map (·.name)=R∧i.2.2.2=i.2.2.1.length∧i.2.2.1.length+i.1.length=f.params.length) (fun i=>i.1.length)
  (fun i=> [(1, .ptr 0 0),(3, .slice (.tok 0) 1 (i.2.2.1.map encStr)),(7, .slice .shared 2 (f.params.map df)),(8, .int .i64 (f.params.length:Int)),(9, .int .i64 (i.2.1:Int))]) (fun i=>⟨[bn f],[some i.2.2.2]⟩) ?_ (f.params,0,[],0) ⟨rfl,hR,rfl,by simp⟩)
 rintro⟨rest,k,out,n⟩ ⟨h1,h2,h3,h4⟩ IH
 dsimp only at h1 h2 h3 h4
 subst h3
 cases rest with
 |nil=>
  have hF:=drop_nil h1
  simp only[zaj,zaA]at h2
  subst h2
  repeat' (first
 |simp only[go_sem,hF,hP,hZ,gA]
 |(with_reducible refine az hQ ?_;exact aR))
 |cons a rest=>
  obtain⟨hP,g2,hF,g4⟩:=drop_cons h1
  have bH:k<4611686018427387904:=by omega
  simp only[zal]at h4
  have hZ:(out.length+1)*17≤aT:=by unfold aT;omega
  repeat' (first
 |simp only[go_sem,hF,hP,hZ,gA]
 |(with_reducible refine az hQ ?_;exact aR))
  refine cD 1 1 ?_ ?_ (IH (rest,k+1,out++ [a.name],out.length+1) ⟨g2,by rw[← h2];simp,by simp,by simp;omega⟩ (zaa _))
  ·(simp only[go_sem,hF,hP,hZ,gA,aC bH,zah,zaf,zaj,encStr];try exact bd)
  ·(simp only[go_sem,hF,hP,hZ,gA,aC bH,zah,zaf,zaj,encStr];try exact bd)
def oB:aA:= [109,97,105,110]
def Sm.known (p:Pg) (f:Pc) (procs:List aA) (v:Sm):Bool:=
 !(v.said.any fun n=>f.jA p n==0) && (v.kind != 4 ||(v.proc != oB && dg procs v.proc))
structure Pc.Small (p:Pg) (f:Pc):Prop where
 par:f.params.length<1000000
 vars:f.vars.length<1000000
 uK:p.globals.length<1000000
def zr (p:Pg) (f:Pc):List aA→Bool
 | []=>true
 |n::l=>if f.jA p n==0 then false else zr p f l
theorem Ec (p:Pg) (f:Pc) : ∀ l,zr p f l = !(l.any fun n=>f.jA p n==0)
 | []=>rfl
 |n::l=>by
  simp only[zr,List.any_cons,Ec p f l]
  cases (f.jA p n==0)<;>simp
theorem AQ (v:Sm) (h:v.mg):v.said.length<3000000:=by
 have : ∀ (l:List Ar) (out:List aA),(Ar.said out l).length≤out.length+2*Ar.aM l:=by
  intro l
  induction l with
  |nil=>intro out;simp[Ar.said]
  |cons a l ih=>
   intro out
   simp only[Ar.said,Ar.aM]
   refine zbb (ih _) ?_
   have:=fW a.x
   have:1≤a.x.size:=by obtain⟨_,_,_,_⟩:=a.x;simp[Ex.size]
   simp only[zai]
   split<;>simp<;>omega
 have h1:=this v.args (v.pR++v.x.names)
 have h2:=fW v.x
 have h3:=h.2.2
 have h4:v.pR.length≤1:=by unfold Sm.pR;split<;>simp
 simp only[zai]at h1
 unfold Sm.said
 omega
theorem Wv {p:Pg} {f:Pc} {procs:List aA} {v:Sm} (hs:f.Small p) (vQ:procs.length<1000000) (hv:v.mg) (s:St):ay Tryz.prog 66 [.agg (bf p), .agg (bn f), .slice .shared 1 (procs.map encStr), .agg (aH v)] s (.bool (v.known p f procs)) s:=by
 refine ay.pure ?_ (by simp[D.bg,D.ok,fm,ql,il,Tag.ok,dd]) rfl s
 have hn:=fun s=>yF hv s
 have hk:=fun n s=>Hm (p:=p) (f:=f) (by have:=hs.par;omega) (by have:=hs.vars;omega) (by have:=hs.uK;omega) n s
 have Zo:=iz (l:=procs) (by omega) v.proc
 have hl:=AQ v hv
 generalize h:v.known p f procs=q
 simp only[Sm.known, ← Ec]at h
 unfold S0
 refine ay.go Bv.h rfl fun B Q hB hQ=>?_
 have⟨hF,hP,hZ,gA⟩:=bD
 repeat' (first
 |simp only[go_sem,hF,hP,hZ,gA]
 |(with_reducible refine CU (hn _) ?_)
 |(with_reducible refine az hQ ?_;exact aR))
 refine cr 3 0 (aY.ind (ι:=List aA×Nat) (fun i=>v.said.drop i.2=i.1∧(zr p f i.1 && (v.kind != 4 ||(v.proc != oB && dg procs v.proc)))=q) (fun i=>i.1.length)
  (fun i=> [(2, .slice .shared 1 (procs.map encStr)),(4, .ptr 0 0),(5, .ptr 1 0),(7, .ptr 2 0),(12, .slice .shared 1 (v.said.map encStr)),(13, .int .i64 (v.said.length:Int)),(14, .int .i64 (i.2:Int))]) (fun i=>⟨[bf p,bn f,aH v],[]⟩) ?_ (v.said,0) ⟨rfl,h⟩)
 rintro⟨rest,k⟩ ⟨h1,h⟩ IH
 dsimp only at h1 h
 cases rest with
 | nil=>
  have hF:=drop_nil h1
  simp only[zr,zbz]at h
  rcases zad (v.kind != 4)with b1|b1
  ·simp only [b1,za8]at h
   subst h
   repeat' (first
 |simp only[go_sem,hF,hP,hZ,gA,b1]
 | (with_reducible refine az hQ ?_;exact aR))
  ·simp only [b1,za1]at h
   rcases zad (v.proc != oB)with b2|b2
   ·simp only [b2,zbz]at h
    unfold oB at b2
    have b3:(v.proc == [109,97,105,110]) = !(v.proc != [109,97,105,110]):=by simp only[bne,Bool.not_not]
    rw[b2]at b3
    simp only[zax,zaB]at b3
    subst h
    repeat' (first
 |simp only[go_sem,hF,hP,hZ,gA,b1,b2,b3]
 |(with_reducible refine CU (Zo _ _) ?_)
 | (with_reducible refine az hQ ?_;exact aR))
   ·simp only [b2,zbi]at h
    unfold oB at b2
    have b3:(v.proc == [109,97,105,110]) = !(v.proc != [109,97,105,110]):=by simp only[bne,Bool.not_not]
    rw[b2]at b3
    simp only[zax,zaB]at b3
    subst h
    repeat' (first
 |simp only[go_sem,hF,hP,hZ,gA,b1,b2,b3]
 |(with_reducible refine CU (Zo _ _) ?_)
 |(with_reducible refine az hQ ?_;exact aR))
 | cons a rest=>
  obtain⟨hP,g2,hF,g4⟩:=drop_cons h1
  have bH:k<4611686018427387904:=by omega
  simp only[zr]at h
  rcases zad (f.jA p a==0)with b1|b1
  ·simp only [b1,if_true,zbi]at h
   subst h
   repeat' (first
 |simp only[go_sem,hF,hP,hZ,gA,b1]
 |(with_reducible refine CU (hk _ _) ?_)
 | (with_reducible refine az hQ ?_;exact aR))
  ·simp only [b1,zab,if_false]at h
   repeat' (first
 |simp only[go_sem,hF,hP,hZ,gA,b1]
 |(with_reducible refine CU (hk _ _) ?_)
 | (with_reducible refine az hQ ?_;exact aR))
   refine cD 3 0 ?_ ?_ (IH (rest,k+1) ⟨g2,h⟩ (zaa _))
   ·(simp only[go_sem,hF,hP,hZ,gA,aC bH];try exact bd)
   ·(simp only[go_sem,hF,hP,hZ,gA,aC bH];try exact bd)
theorem JC : ∀ (l pre:List aA),oq pre l=true↔(∃ x∈l,x∈pre)∨¬ l.Nodup
 | [],pre=>by simp[oq]
 | s::l,pre=>by
  simp only[oq]
  by_cases h:dg pre s=true
  ·simp only [h,if_true,true_iff]
   exact .inl ⟨s,zaD,(eD _ _).1 h⟩
  ·have h':s∉pre:=fun m=>h ((eD _ _).2 m)
   simp only[h,if_false,zab]
   rw[JC l (pre++ [s])]
   simp only[zaw,zbd,zan,zbD,exists_eq_or_imp]
   constructor
   ·rintro(⟨x,m,h1 | h1⟩ | h1)
    ·exact .inl (.inr ⟨x,m,h1⟩)
    ·have h1:x=s:=by simpa using h1
     subst h1;exact .inr fun h=>h.1 m
    ·exact .inr fun h=>h1 h.2
   ·rintro((h1 | ⟨x,m,h1⟩) | h1)
    ·exact absurd h1 h'
    ·exact .inl ⟨x,m, .inl h1⟩
    ·by_cases m:s∈l
     ·exact .inl ⟨s,m, .inr (.inl rfl)⟩
     ·exact .inr fun h=>h1 ⟨m,h⟩
theorem kL (l:List aA):dG l=true↔¬ l.Nodup:=by
 unfold dG;rw[JC];simp
theorem Px (a b:List aA):dG (a++b)=(dG a ||(dG b ||b.any (dg a))):=by
 have h:dG (a++b)=true↔(dG a ||(dG b ||b.any (dg a)))=true:=by
  rw[kL,zbm]
  simp only[zay,kL,List.any_eq_true,eD]
  constructor
  ·intro h
   by_cases ha:a.Nodup
   ·by_cases hb:b.Nodup
    ·refine .inr (.inr (Classical.byContradiction fun hn=>h ⟨ha,hb,fun x hx y hy e=>hn ⟨y,hy,e ▸ hx⟩⟩))
    ·exact .inr (.inl hb)
   ·exact .inl ha
  ·rintro(h | h | ⟨x,h1,h2⟩) ⟨h3,h4,h5⟩
   ·exact h h3
   ·exact h h4
   ·exact h5 x h2 x h1 rfl
 cases h1:dG (a++b)<;>cases h2:(dG a ||(dG b ||b.any (dg a)))<;>simp_all
theorem Hn (name:aA) : ∀ (l:List Pc) (k:Nat),(iB name l=none∧mD name (k:Int) (l.map (·.name)) = -1)∨∃ f j,iB name l=some f∧l[j]? = some f∧mD name (k:Int) (l.map (·.name))=((k+j:Nat):Int)
 | [],k=> .inl ⟨rfl,rfl⟩
 | f::l,k=>by
  by_cases h:f.name=name
  ·subst h
   refine .inr ⟨f,0,by simp[iB],rfl,by simp[mD]⟩
  ·have h1:(f.name==name)=false:=by simp [h]
   have h2:(name==f.name)=false:=by simp[Ne.symm h]
   simp only[iB,h1,zab,if_false,zaf,mD,h2]
   rcases Hn name l (k+1)with ⟨g1,g2⟩|⟨g,j,g1,g2,g3⟩
   ·exact .inl ⟨g1,by rw[← g2];rfl⟩
   ·refine .inr ⟨g,j+1,g1,by simpa using g2, ?_⟩
    rw[show((k:Int)+1)=((k+1:Nat):Int)from rfl,g3]
    congr 1;omega
theorem oO {name:aA} {f:Pc} : ∀ {l:List Pc},iB name l=some f→f∈l∧f.name=name
 |g::l,h=>by
  simp only[iB]at h
  split at h
  ·rename_i e;cases h;exact⟨zaD,by simpa using e⟩
  ·have:=oO h;exact⟨zav _ this.1,this.2⟩
mutual
theorem Py (deep bM:Int) (aN:Bool) (out:List It) : ∀ s:Sm,∃ e,fj deep bM aN out s=out++e
 | ⟨id,kind,labels,name,proc,x,has,args,aV,e⟩=>by
  simp only[fj]
  split
  ·obtain⟨e1,h1⟩:=nA (deep+1) id false (out++ [⟨⟨id,kind,labels,name,proc,x,has,args,aV,e⟩,deep,bM,aN⟩]) aV
   obtain⟨e2,h2⟩:=nA (deep+1) id true (dc (deep+1) id false (out++ [⟨⟨id,kind,labels,name,proc,x,has,args,aV,e⟩,deep,bM,aN⟩]) aV) e
   rw[h2,h1]
   exact⟨_,by rw[zaC,zaC]⟩
  ·exact⟨_,rfl⟩
theorem nA (deep bM:Int) (aN:Bool) (out:List It) : ∀ l:List Sm,∃ e,dc deep bM aN out l=out++e
 | []=>⟨[],by simp[dc]⟩
 | s::l=>by
  simp only[dc]
  split
  ·obtain⟨e1,h1⟩:=Py deep bM aN out s
   obtain⟨e2,h2⟩:=nA deep bM aN (fj deep bM aN out s) l
   rw[h2,h1]
   exact⟨_,by rw[zaC]⟩
  ·exact⟨[],by simp⟩
end
mutual
theorem Pz (deep bM:Int) (aN:Bool) (out:List It) : ∀ s:Sm,(fj deep bM aN out s).length≤200→(∀ i∈fj deep bM aN out s,i.deep≤12)→(fj deep bM aN out s).map It.s=out.map It.s++s.pre
 | ⟨id,kind,labels,name,proc,x,has,args,aV,e⟩,h1,h2=>by
  simp only[fj,Sm.pre]at h1 h2 ⊢
  by_cases hd:deep≤12
  ·simp only [hd,decide_true,if_true]at h1 h2 ⊢
   obtain⟨e2,g2⟩:=nA (deep+1) id true (dc (deep+1) id false (out++ [⟨⟨id,kind,labels,name,proc,x,has,args,aV,e⟩,deep,bM,aN⟩]) aV) e
   have k1:(dc (deep+1) id false (out++ [⟨⟨id,kind,labels,name,proc,x,has,args,aV,e⟩,deep,bM,aN⟩]) aV).length≤200:=by
    rw[g2,zai]at h1;omega
   have k2 : ∀ i∈dc (deep+1) id false (out++ [⟨⟨id,kind,labels,name,proc,x,has,args,aV,e⟩,deep,bM,aN⟩]) aV,i.deep≤12:=fun i m=>h2 i (by rw[g2];exact zaP _ m)
   rw[uc (deep+1) id true _ e h1 h2,uc (deep+1) id false _ aV k1 k2]
   simp
  ·simp only [hd,decide_false,zab,if_false]at h1 h2
   exact absurd (h2 _ (za3 _ (zbd.2 rfl))) (by simpa using hd)
theorem uc (deep bM:Int) (aN:Bool) (out:List It) : ∀ l:List Sm,(dc deep bM aN out l).length≤200→(∀ i∈dc deep bM aN out l,i.deep≤12)→(dc deep bM aN out l).map It.s=out.map It.s++Sm.cP l
 | [],h1,h2=>by simp[dc,Sm.cP]
 | s::l,h1,h2=>by
  simp only[dc,Sm.cP]at h1 h2 ⊢
  by_cases hc:(out.length:Int)≤200
  ·simp only [hc,decide_true,if_true]at h1 h2 ⊢
   obtain⟨e2,g2⟩:=nA deep bM aN (fj deep bM aN out s) l
   have k1:(fj deep bM aN out s).length≤200:=by rw[g2,zai]at h1;omega
   have k2 : ∀ i∈fj deep bM aN out s,i.deep≤12:=fun i m=>h2 i (by rw[g2];exact zaP _ m)
   rw[uc deep bM aN _ l h1 h2,Pz deep bM aN out s k1 k2]
   simp
  ·simp only [hc,decide_false,zab,if_false]at h1
   omega
end
theorem Ho : ∀ (l:List Pc) (out:List It),(allM out l).length≤200→(∀ i∈allM out l,i.deep≤12)→(∀ f∈l,f.flat.map It.s=Sm.cP f.body)∧(allM out l).map It.s=out.map It.s++(l.map fun f=>Sm.cP f.body).flatten
 | [],out,h1,h2=>⟨fun f m=>(by cases m),by simp[allM]⟩
 | f::l,out,h1,h2=>by
  simp only[allM]at h1 h2 ⊢
  by_cases hc:(((out++f.flat).length:Nat):Int) > 200
  ·simp only[hc,decide_true,if_true]at h1;omega
  ·simp only [hc,decide_false,zab,if_false]at h1 h2 ⊢
   obtain⟨k1,k2⟩:=Ho l (out++f.flat) h1 h2
   have qq : ∀ (l:List Pc) (out:List It),∃ e,allM out l=out++e:=by
    intro l
    induction l with
    |nil=>intro out;exact⟨[],by simp[allM]⟩
    |cons g l ih=>
     intro out
     simp only[allM]
     split
     ·exact⟨_,rfl⟩
     ·obtain⟨e,h⟩:=ih (out++g.flat);exact⟨g.flat++e,by rw[h];simp⟩
   obtain⟨e,he⟩:=qq l (out++f.flat)
   have k3:f.flat.map It.s=Sm.cP f.body:=by
    have:=uc 1 0 false [] f.body (by
     have:f.flat.length≤200:=by simp only[zai]at hc;omega
     exact this) (fun i m=>h2 i (by rw[he];exact zaP _ (za3 _ m)))
    simpa[Pc.flat]using this
   refine⟨fun g m=>?_, ?_⟩
   ·rcases zan.1 m with rfl | m
    ·exact k3
    ·exact k1 g m
   ·rw[k2];simp[k3]
theorem ud : ∀ (l:List It) (n:Nat),It.dR n l=true→(∀ i∈l,i.deep≤12)∧∀ (j:Nat) (i:It),l[j]? = some i→i.s.id=((n+j+1:Nat):Int)
 | [],n,h=>⟨fun i m=>(by cases m),fun j i h=>by simp at h⟩
 | a::l,n,h=>by
  simp only[It.dR]at h
  split at h
  ·cases h
  ·rename_i c
   simp only[zay,not_or,bne_iff_ne,ne_eq,Decidable.not_not,decide_eq_true_eq,Int.not_lt,gt_iff_lt]at c
   obtain⟨k1,k2⟩:=ud l (n+1) h
   refine⟨fun i m=>?_,fun j i hj=>?_⟩
   ·rcases zan.1 m with rfl | m
    ·exact c.1.2
    ·exact k1 i m
   ·cases j with
    |zero=>simp at hj;subst hj;rw[c.1.1]
    |succ j=>simp at hj;rw[k2 j i hj];congr 1;omega
theorem zt {p:Pg} (h:p.may=true):p.all.length≤200∧It.dR 0 p.all=true:=by
 unfold Pg.may at h
 split at h
 ·cases h
 ·split at h
  ·cases h
  ·split at h
   ·cases h
   ·rename_i c
    exact⟨by simp only[decide_eq_true_eq,Int.not_lt,gt_iff_lt]at c;omega,h⟩
theorem AR {p:Pg} (h:p.may=true):(∀ f∈p.procs,f.flat.map It.s=Sm.cP f.body)∧p.all.map It.s=p.pre:=by
 obtain⟨h1,h2⟩:=zt h
 have:=Ho p.procs [] h1 (ud _ 0 h2).1
 simpa[Pg.pre,Pg.all]using this
theorem Hp {p:Pg} (h:p.may=true) {i:Nat} {v:Sm} (hv:p.pre[i]? = some v):v.id=((i+1:Nat):Int):=by
 rw[← (AR h).2,zap,zaq]at hv
 obtain⟨it,h1,rfl⟩:=hv
 have:=(ud _ 0 (zt h).2).2 i it h1
 rw[this];congr 1;omega
structure Pg.iJ (p:Pg):Prop where
 S2:p.Fx
 sz:p.size≤900000
mutual
theorem Zp : ∀ s:Sm,s.tV→s.size<1000000→∀ v∈s.pre,v.mg∧v.lx
 |⟨id,kind,labels,name,proc,x,has,args,aV,aN⟩,h,hs,v,m=>by
  simp only[Sm.tV]at h
  simp only[Sm.size]at hs
  simp only[Sm.pre,zan,zaw]at m
  rcases m with rfl|m|m
  ·exact⟨⟨h.1.xt,fun a ha=>(h.1.arg a ha).2.1,by dsimp only;omega⟩,h.1⟩
  ·exact zu aV h.2.1 (by omega) v m
  ·exact zu aN h.2.2 (by omega) v m
theorem zu : ∀ l:List Sm,Sm.ji l→Sm.aM l<1000000→∀ v∈Sm.cP l,v.mg∧v.lx
 | [],h,hs,v,m=>by simp[Sm.cP]at m
 |s::l,h,hs,v,m=>by
  simp only[Sm.ji]at h
  simp only[Sm.aM]at hs
  simp only[Sm.cP,zaw]at m
  rcases m with m|m
  ·exact Zp s h.1 (by omega) v m
  ·exact zu l h.2 (by omega) v m
end
theorem Pg.iJ.said {p:Pg} (h:p.iJ) {f:Pc} (hf:f∈p.procs) : ∀ v∈Sm.cP f.body,v.mg:=fun v m=>by
 have h1:=Pc.bC hf
 have h2:=h.sz
 simp only[Pg.size]at h2
 simp only[Pc.size]at h1
 exact(zu f.body (h.S2.body f hf) (by omega) v m).1
theorem Pg.iJ.small {p:Pg} (h:p.iJ) {f:Pc} (hf:f∈p.procs):f.Small p:=by
 have h1:=Pc.bC hf
 have h2:=h.sz
 simp only[Pg.size]at h2
 simp only[Pc.size]at h1
 exact⟨by omega,by omega,by omega⟩
theorem Pg.iJ.procs {p:Pg} (h:p.iJ):p.procs.length≤900000∧Pc.aM p.procs≤900000∧p.globals.length≤900000:=by
 have h2:=h.sz
 have h3:=Pc.cd p.procs
 simp only[Pg.size]at h2
 omega
def Pg.pn (p:Pg):List aA:=p.procs.map (·.name)
def uN (p:Pg) (f:Pc) (procs:List aA):List Sm→Option Sm
 | []=>none
 |v::l=>if v.known p f procs then uN p f procs l else some v
def pS (p:Pg) (procs:List aA):List Pc→Int×Int
 | []=>(0,0)
 |f::l=>if dG (p.globals++f.own)then(5,0)else match uN p f procs (Sm.cP f.body)with|some v=>(5,v.id)|none=>pS p procs l
def Pg.nB (p:Pg):Bool:=match p.find oB with|none=>true|some m=>decide ((m.params.length:Int) > 0)
def Pg.scope (p:Pg):Int×Int:=
 if p.may then if dG p.globals ||(dG p.pn ||p.nB)then(5,0)else pS p p.pn p.procs else(1,0)
theorem S3 (p:Pg) (hl:p.globals.length<1000000) (n:aA):ay Tryz.prog 63 ([.str n]++ [.ptr 0 0]) ⟨[bf p],[]⟩ (.bool (dg p.globals n)) ⟨[bf p],[]⟩:=by
 show ay Tryz.prog 63 [.str n, .ptr 0 0] _ _ _
 have rM:=iz (l:=p.globals) (by omega) n
 refine ay.go zE.h rfl fun B Q hB hQ=>?_
 have⟨hF,hP,hZ,gA⟩:=bD
 repeat' (first
 |simp only[go_sem,hF,hP,hZ,gA]
 |(with_reducible refine CU (rM _ _) ?_)
 |(with_reducible refine az hQ ?_;exact aR))
theorem ach (n m:Nat) (p:Pg):D.eI n m (gK p)=gK p:=fU n m _ (wE p)
attribute [go_sem] ach
theorem Ww {p:Pg} {f:Pc} {procs:List aA} {v:Sm} (hs:f.Small p) (vQ:procs.length<1000000) (hv:v.mg) (g:Tag) (s:St):ay Tryz.prog 66 [.agg (bf p), .agg (bn f), .slice g 1 (procs.map encStr), .agg (aH v)] s (.bool (v.known p f procs)) s:=
 dt.wk (.cons (Wk.refl _) (.cons (Wk.refl _) (.cons (Wk.shared g 1 _) (gw.refl _)))) (Wv hs vQ hv s)
theorem sX {p:Pg} (h:p.iJ) (s:St):ay Tryz.prog 23 [.agg (bf p)] s (.agg [.int .i64 p.scope.1, .int .i64 p.scope.2]) s:=by
 refine ay.pure ?_ (by simp[D.bg,D.ok,fm]) rfl s
 have hm:=fun s=>O5 h.S2 s
 simp only[Dr]at hm
 obtain⟨oS,rl,vK⟩:=h.procs
 have dq:=fun s=>BH (p:=p) (by omega) s
 have nZ:=fun s=>AP (l:=p.globals) (by omega) .shared s
 have hpn:p.pn.length=p.procs.length:=by simp[Pg.pn]
 have Bf:=fun g s=>AP (l:=p.pn) (by omega) g s
 have hix:=fun g s=>(Js (l:=p.pn) (by omega) oB s).Jt (Wk.shared g 1 (p.pn.map encStr))
 have AS:=fun g s=>(show ay Tryz.prog 58 [.slice g 1 (p.pn.map encStr), .str [109,97,105,110]] s (.int .i64 (mD oB 0 p.pn)) s from hix g s)
 generalize hR:p.scope=R
 simp only[Pg.scope]at hR
 unfold S0
 rcases zad p.may with hb|hb
 case inr=>
  simp only[hb]at hm
  simp only[hb,zab,if_false]at hR
  subst hR
  refine ay.go tH.h rfl fun B Q hB hQ=>?_
  have⟨hF,hP,hZ,gA⟩:=bD
  repeat' (first
 |simp only[go_sem,hF,hP,hZ,gA]
 |(with_reducible refine CU (hm _) ?_)
 |(with_reducible refine az hQ ?_;exact aR))
 simp only[hb]at hm
 simp only[hb,if_true]at hR
 refine ay.go tH.h rfl fun B Q hB hQ=>?_
 have⟨hF,hP,hZ,gA⟩:=bD
 repeat' (first
 |simp only[go_sem,hF,hP,hZ,gA]
 |(with_reducible refine CU (hm _) ?_)
 |(with_reducible refine az hQ ?_;exact aR))
 refine aY.ko 3 1 rfl ?_
 simp only[go_sem,hF,hP,hZ,gA]
 refine cr 2 1 (aY.ind (ι:=List Pc×Nat×List aA×Nat) (fun i=>p.procs.drop i.2.1=i.1∧i.2.2.1++i.1.map (·.name)=p.pn∧i.2.2.2=i.2.2.1.length) (fun i=>i.1.length)
  (fun i=> [(1, .ptr 0 0),(2, .ptr 1 0),(3, .slice (.tok 0) 1 (i.2.2.1.map encStr)),(18, .slice .shared 5 (p.procs.map bn)),(19, .int .i64 (p.procs.length:Int)),(20, .int .i64 (i.2.1:Int))]) (fun i=>⟨[bf p,[.int .i64 0, .int .i64 0]],[some i.2.2.2]⟩) ?_ (p.procs,0,[],0) ⟨rfl,rfl,rfl⟩)
 rintro⟨rest,k,out,n⟩ ⟨h1,h2,h3⟩ IH
 dsimp only at h1 h2 h3
 subst h3
 have hlo:out.length+rest.length≤900000:=by
  have:=congrArg List.length h2
  simp only[zai,zat]at this
  omega
 cases rest with
 |cons a rest=>
  obtain⟨hP,g2,hF,g4⟩:=drop_cons h1
  have bH:k<4611686018427387904:=by omega
  have hZ:(out.length+1)*17≤aT:=by unfold aT;omega
  repeat' (first
 |simp only[go_sem,hF,hP,hZ,gA]
 |(with_reducible refine az hQ ?_;exact aR))
  refine cD 2 1 ?_ ?_ (IH (rest,k+1,out++ [a.name],out.length+1) ⟨g2,by rw[← h2];simp,by simp⟩ (zaa _))
  ·(simp only[go_sem,hF,hP,hZ,gA,aC bH,zah,zaf,zaj,encStr];try exact bd)
  ·(simp only[go_sem,hF,hP,hZ,gA,aC bH,zah,zaf,zaj,encStr];try exact bd)
 | nil=>
  have hF:=drop_nil h1
  simp only[zaj,zaA]at h2
  subst h2
  rcases zad (dG p.globals)with b1|b1
  ·simp only [b1,za8,if_true]at hR
   subst hR
   repeat' (first
 |simp only[go_sem,hF,hP,hZ,gA,b1]
 |(with_reducible refine CU (AS _ _) ?_)
 |(with_reducible refine CU (nZ _) ?_)
 |(with_reducible refine CU (Bf _ _) ?_)
 | (with_reducible refine az hQ ?_;exact aR))
  rcases zad (dG p.pn)with b2|b2
  ·simp only [b1,b2,za8,Bool.or_true,if_true]at hR
   subst hR
   repeat' (first
 |simp only[go_sem,hF,hP,hZ,gA,b1,b2]
 |(with_reducible refine CU (AS _ _) ?_)
 |(with_reducible refine CU (nZ _) ?_)
 |(with_reducible refine CU (Bf _ _) ?_)
 | (with_reducible refine az hQ ?_;exact aR))
  rcases Hn oB p.procs 0 with ⟨e1,e2⟩|⟨m,j,e1,e2,e3⟩
  ·have b3:p.nB=true:=by unfold Pg.nB Pg.find;rw [e1]
   have hi:mD oB 0 p.pn = -1:=e2
   simp only[b1,b2,b3,Bool.or_true,if_true]at hR
   subst hR
   simp only[hi]at AS
   have d1:decide ((-1:Int)<0)=true:=by decide
   repeat' (first
 |simp only[go_sem,hF,hP,hZ,gA,b1,b2,d1]
 |(with_reducible refine CU (AS _ _) ?_)
 |(with_reducible refine CU (nZ _) ?_)
 |(with_reducible refine CU (Bf _ _) ?_)
 | (with_reducible refine az hQ ?_;exact aR))
  have hi:mD oB 0 p.pn=((j:Nat):Int):=by rw[show p.pn=p.procs.map (·.name)from rfl];simpa using e3
  simp only[hi]at AS
  have d1:decide (((j:Nat):Int)<0)=false:=by simp
  have hj:j<p.procs.length:=(zae.1 e2).1
  have b3:p.nB=decide ((m.params.length:Int) > 0):=by unfold Pg.nB Pg.find;rw[e1]
  rw[b3]at hR
  rcases zad (decide ((m.params.length:Int) > 0))with b4|b4
  ·simp only [b1,b2,b4,Bool.or_true,if_true]at hR
   subst hR
   repeat' (first
 |simp only[go_sem,hF,hP,hZ,gA,b1,b2,d1,e2,b4]
 |(with_reducible refine CU (AS _ _) ?_)
 |(with_reducible refine CU (nZ _) ?_)
 |(with_reducible refine CU (Bf _ _) ?_)
 |(with_reducible refine az hQ ?_;exact aR))
  simp only[b1,b2,b4,Bool.or_false,zab,if_false]at hR
  repeat' (first
 |simp only[go_sem,hF,hP,hZ,gA,b1,b2,d1,e2,b4]
 |(with_reducible refine CU (AS _ _) ?_)
 |(with_reducible refine CU (nZ _) ?_)
 |(with_reducible refine CU (Bf _ _) ?_)
 |(with_reducible refine CU (dq _) ?_)
 | (with_reducible refine az hQ ?_;exact aR))
  refine cr 2 1 (aY.ind (ι:=List Pc×Nat) (fun i=>p.procs.drop i.2=i.1∧pS p p.pn i.1=R) (fun i=>i.1.length)
   (fun i=> [(1, .ptr 0 0),(2, .ptr 1 0),(3, .slice (.tok 0) 1 (p.pn.map encStr)),(7, .dr (gK p) 0),(57, .slice .shared 5 (p.procs.map bn)),(58, .int .i64 (p.procs.length:Int)),(59, .int .i64 (i.2:Int))]) (fun i=>⟨[bf p,[.int .i64 0, .int .i64 0]],[some p.pn.length]⟩) ?_ (p.procs,0) ⟨rfl,hR⟩)
  clear IH h1 hF hR
  rintro⟨rest,k⟩ ⟨h1,hR⟩ IH
  dsimp only at h1 hR
  cases rest with
  |nil=>
   have hF:=drop_nil h1
   simp only[pS]at hR
   subst hR
   repeat' (first
 |simp only[go_sem,hF,hP,hZ,gA]
 | (with_reducible refine az hQ ?_;exact aR))
  | cons f rest=>
   obtain⟨hP,g2,hF,g4⟩:=drop_cons h1
   have bH:k<4611686018427387904:=by omega
   have rZ:=zac hP
   have Ed:=h.small rZ
   have PA:=fun s=>acg (f:=f) Ed.par Ed.vars s
   have je:f.own.length<4611686018427387904:=by have h1:=Ed.par;have h2:=Ed.vars;unfold Pc.own Pc.lB;simp;omega
   have Jy:=fun s=>AP (l:=f.own) je .shared s
   have Ad:=fun {s:St} {o:Nat} (ho:s.av[o]? = some (bf p))=>vI (l:=f.own) je (f:=63) (row:=bf p) (b:=dg p.globals) (fm p) (by with_unfolding_all rfl) (fun x _=>S3 p Ed.uK x) ho
   have S4:=fun {s:St} {o:Nat} (ho:s.av[o]? = some (bf p))=>(show ay Tryz.prog 62 [.slice .shared 1 (f.own.map encStr), .fL 63 [.ptr o 0]] s (.bool (f.own.any (dg p.globals))) s from Ad ho)
   simp only[pS,Px,b1,za1]at hR
   rcases zad (dG f.own)with c1|c1
   ·simp only [c1,za8,if_true]at hR
    subst hR
    repeat' (first
 |simp only[go_sem,hF,hP,hZ,gA,c1]
 |(with_reducible refine CU (PA _) ?_)
 |(with_reducible refine CU (Jy _) ?_)
 |(with_reducible refine CU (S4 (by with_unfolding_all rfl)) ?_)
 | (with_reducible refine az hQ ?_;exact aR))
   rcases zad (f.own.any (dg p.globals))with c2|c2
   ·simp only [c1,c2,za1,if_true]at hR
    subst hR
    repeat' (first
 |simp only[go_sem,hF,hP,hZ,gA,c1,c2]
 |(with_reducible refine CU (PA _) ?_)
 |(with_reducible refine CU (Jy _) ?_)
 |(with_reducible refine CU (S4 (by with_unfolding_all rfl)) ?_)
 | (with_reducible refine az hQ ?_;exact aR))
   simp only[c1,c2,Bool.or_self,zab,if_false]at hR
   obtain⟨it,vO,B9⟩:=Sk hP (by omega)
   rw[← vO]at hR
   have Zq:it.length≤900000:=by
    have e:=congrArg List.length vO
    have e2:=(o5 p).2 k f hP
    obtain⟨a,b,e',_,_,e3,e4⟩:=e2
    have e5:=o6 p
    have e6:=congrArg List.length e3
    rw[e4]at e5
    simp only[zat,zai]at e e5 e6
    omega
   repeat' (first
 |simp only[go_sem,hF,hP,hZ,gA,c1,c2]
 |(with_reducible refine CU (PA _) ?_)
 |(with_reducible refine CU (Jy _) ?_)
 |(with_reducible refine CU (S4 (by with_unfolding_all rfl)) ?_)
 |(with_reducible refine CU (B9 _) ?_)
 | (with_reducible refine az hQ ?_;exact aR))
   obtain⟨q,hq⟩ : ∃ q,uN p f p.pn (it.map Im.s)=q:=⟨_,rfl⟩
   rw[hq]at hR
   refine cr 3 1 (aY.ind (ι:=List Im×Nat) (fun i=>it.drop i.2=i.1∧uN p f p.pn (i.1.map Im.s)=q) (fun i=>i.1.length)
    (fun i=> [(1, .ptr 0 0),(2, .ptr 1 0),(3, .slice (.tok 0) 1 (p.pn.map encStr)),(7, .dr (gK p) 0),(9, .ptr 2 0),(57, .slice .shared 5 (p.procs.map bn)),(58, .int .i64 (p.procs.length:Int)),(59, .int .i64 (k:Int)),(76, .slice .shared 17 (it.map eA)),(77, .int .i64 (it.length:Int)),(78, .int .i64 (i.2:Int))]) (fun i=>⟨[bf p,[.int .i64 0, .int .i64 0],bn f],[some p.pn.length]⟩) ?_ (it,0) ⟨rfl,hq⟩)
   rintro⟨ox,n⟩ ⟨j1,j2⟩ UF
   dsimp only at j1 j2
   have xi:=hF
   cases ox with
   |nil=>
    have aeD:=drop_nil j1
    simp only[zaj,uN]at j2
    subst j2
    simp only at hR
    repeat' (first
 |simp only[go_sem,hF,hP,hZ,gA,aeD]
 | (with_reducible refine az hQ ?_;exact aR))
    refine cD 2 1 ?_ ?_ (IH (rest,k+1) ⟨g2,hR⟩ (zaa _))
    ·(simp only[go_sem,hF,hP,hZ,gA,aC bH];try exact bd)
    ·(simp only[go_sem,hF,hP,hZ,gA,aC bH];try exact bd)
   | cons i ox=>
    obtain⟨iC,JD,mJ,jg4⟩:=drop_cons j1
    have oZ:n<4611686018427387904:=by omega
    have Ee:i.s∈Sm.cP f.body:=by rw[← vO];exact zaL (zac iC)
    have hkn:=Ww (v:=i.s) Ed (procs:=p.pn) (by omega) (h.said rZ _ Ee)
    simp only[zaf,uN]at j2
    rcases zad (i.s.known p f p.pn)with c3|c3
    ·simp only [c3,if_true]at j2
     repeat' (first
 |simp only[go_sem,hF,hP,hZ,gA,mJ,iC,c3]
 |(with_reducible refine CU (hkn _ _) ?_)
 | (with_reducible refine az hQ ?_;exact aR))
     refine cD 3 1 ?_ ?_ (UF (ox,n+1) ⟨JD,j2⟩ (zaa _))
     ·(simp only[go_sem,hF,hP,hZ,gA,aC oZ];try exact bd)
     ·(simp only[go_sem,hF,hP,hZ,gA,aC oZ];try exact bd)
    ·simp only [c3,zab,if_false]at j2
     subst j2
     simp only at hR
     subst hR
     repeat' (first
 |simp only[go_sem,hF,hP,hZ,gA,mJ,iC,c3]
 |(with_reducible refine CU (hkn _ _) ?_)
 |(with_reducible refine az hQ ?_;exact aR))
end Go.Abs
namespace Go.Abs
set_option maxRecDepth 8000
open Go.Proofs
theorem S5 (x:It):(fQ x)[1]? = some (.int .i64 x.s.kind):=nd rfl
theorem S6 (x:It):(fQ x)[3]? = some (.str x.s.name):=nd rfl
theorem S7 (x:It):(fQ x)[4]? = some (.str x.s.proc):=nd rfl
theorem Wx (x:It):List.take 16 (fQ x)=fQ x:=nd rfl
attribute [go_sem] S5 S6 S7 Wx
end Go.Abs
namespace Go.Abs
set_option maxRecDepth 8000
open Go.Proofs
def Ca:List Pm→List Ar→Bool
 | [],_=>true
 |_,[]=>true
 |a::l,b::m=>if a.ref==b.ref then Ca l m else false
def Cb (l:List Pm) (m:List Ar):Bool:=if(l.length:Int)==(m.length:Int)then Ca l m else false
def Sm.kN (p:Pg) (v:Sm):Bool:=v.kind==4 && match p.find v.proc with|none=>false|some q=>Cb q.params v.args
theorem Zr {l:List Pm} {m:List Ar} (hl:l.length<1000000000) (hm:m.length<1000000000) (s:St):ay Tryz.prog 121 [.slice .shared 2 (l.map df), .slice .shared 6 (m.map dz)] s (.bool (Cb l m)) s:=by
 refine ay.pure ?_ (by simp[D.bg,D.ok,Tag.ok,wu,Fl]) rfl s
 generalize h:Cb l m=q
 simp only[Cb]at h
 unfold S0
 have b0:((l.length:Int) != (m.length:Int)) = !((l.length:Int)==(m.length:Int)):=rfl
 rcases zad ((l.length:Int)==(m.length:Int))with b1|b1
 case inr=>
  rw[b1]at b0
  simp only[b1,zab,if_false]at h
  subst h
  refine ay.go vy.h rfl fun B Q hB hQ=>?_
  have⟨hF,hP,hZ,gA⟩:=bD
  repeat' (first
 |simp only[go_sem,hF,hP,hZ,gA,b0,zaB]
 |(with_reducible refine az hQ ?_;exact aR))
 rw[b1]at b0
 simp only[b1,if_true]at h
 have UG:l.length=m.length:=by have:=eq_of_beq b1;omega
 refine ay.go vy.h rfl fun B Q hB hQ=>?_
 have⟨hF,hP,hZ,gA⟩:=bD
 repeat' (first
 |simp only[go_sem,hF,hP,hZ,gA,b0,zax]
 |(with_reducible refine az hQ ?_;exact aR))
 refine cr 0 0 (aY.ind (ι:=List Pm×List Ar×Nat) (fun i=>l.drop i.2.2=i.1∧m.drop i.2.2=i.2.1∧Ca i.1 i.2.1=q) (fun i=>i.1.length)
  (fun i=> [(1, .slice .shared 6 (m.map dz)),(12, .slice .shared 2 (l.map df)),(13, .int .i64 (l.length:Int)),(14, .int .i64 (i.2.2:Int))]) (fun i=>⟨[],[]⟩) ?_ (l,m,0) ⟨rfl,rfl,h⟩)
 rintro⟨r1,r2,k⟩ ⟨h1,h2,h⟩ IH
 dsimp only at h1 h2 h
 cases r1 with
 |nil=>
  have hF:=drop_nil h1
  simp only[Ca]at h
  subst h
  repeat' (first
 |simp only[go_sem,hF,hP,hZ,gA]
 |(with_reducible refine az hQ ?_;exact aR))
 | cons a r1=>
  obtain⟨hP,g2,hF,g4⟩:=drop_cons h1
  cases r2 with
  |nil=>have:=zbA.1 h2;omega
  | cons b r2=>
   obtain⟨UH,b2,MF,_⟩:=drop_cons h2
   have bH:k<4611686018427387904:=by omega
   simp only[Ca]at h
   have w1:(true==true)=true:=rfl
   have w2:(false==false)=true:=rfl
   have w3:(true==false)=false:=rfl
   have w4:(false==true)=false:=rfl
   have v1:(true != true)=false:=rfl
   have v2:(false != false)=false:=rfl
   have v3:(true != false)=true:=rfl
   have v4:(false != true)=true:=rfl
   rcases zad a.ref with ea|ea
   ·rcases zad b.ref with eb | eb
    ·simp only [ea,eb,w1,w2,if_true]at h
     repeat' (first
 |simp only[go_sem,hF,hP,hZ,gA,UH,MF,ea,eb,w1,w2,v1,v2]
 | (with_reducible refine az hQ ?_;exact aR))
     refine cD 0 0 ?_ ?_ (IH (r1,r2,k+1) ⟨g2,b2,h⟩ (zaa _))
     ·(simp only[go_sem,hF,hP,hZ,gA,aC bH];try exact bd)
     ·(simp only[go_sem,hF,hP,hZ,gA,aC bH];try exact bd)
    ·simp only [ea,eb,w3,w4,zab,if_false]at h
     subst h
     repeat' (first
 |simp only[go_sem,hF,hP,hZ,gA,UH,MF,ea,eb,w3,w4,v3,v4]
 | (with_reducible refine az hQ ?_;exact aR))
   ·rcases zad b.ref with eb | eb
    ·simp only [ea,eb,w3,w4,zab,if_false]at h
     subst h
     repeat' (first
 |simp only[go_sem,hF,hP,hZ,gA,UH,MF,ea,eb,w3,w4,v3,v4]
 | (with_reducible refine az hQ ?_;exact aR))
    ·simp only [ea,eb,w1,w2,if_true]at h
     repeat' (first
 |simp only[go_sem,hF,hP,hZ,gA,UH,MF,ea,eb,w1,w2,v1,v2]
 |(with_reducible refine az hQ ?_;exact aR))
     refine cD 0 0 ?_ ?_ (IH (r1,r2,k+1) ⟨g2,b2,h⟩ (zaa _))
     ·(simp only[go_sem,hF,hP,hZ,gA,aC bH];try exact bd)
     ·(simp only[go_sem,hF,hP,hZ,gA,aC bH];try exact bd)
theorem Zs {p:Pg} {v:Sm} (h:p.iJ) (hv:v.mg) (s:St):ay Tryz.prog 67 [.agg (bf p), .agg (aH v)] s (.bool (v.kN p)) s:=by
 refine ay.pure ?_ (by simp[D.bg,D.ok,fm,il]) rfl s
 obtain⟨oS,rl,vK⟩:=h.procs
 have rS:v.args.length<1000000000:=by have:=Ar.cd v.args;have:=hv.2.2;omega
 generalize hR:v.kN p=R
 simp only[Sm.kN]at hR
 unfold S0
 have b0:(v.kind != 4) = !(v.kind==4):=rfl
 rcases zad (v.kind==4)with b1|b1
 case inr=>
  rw[b1]at b0
  simp only[b1,zbi]at hR
  subst hR
  refine ay.go vo.h rfl fun B Q hB hQ=>?_
  have⟨hF,hP,hZ,gA⟩:=bD
  repeat' (first
 |simp only[go_sem,hF,hP,hZ,gA,b0,zaB]
 |(with_reducible refine az hQ ?_;exact aR))
 rw[b1]at b0
 simp only[b1,zbz,Pg.find]at hR
 refine ay.go vo.h rfl fun B Q hB hQ=>?_
 have⟨hF,hP,hZ,gA⟩:=bD
 repeat' (first
 |simp only[go_sem,hF,hP,hZ,gA,b0,zax]
 |(with_reducible refine az hQ ?_;exact aR))
 refine cr 2 0 (aY.ind (ι:=List Pc×Nat) (fun i=>p.procs.drop i.2=i.1∧(match iB v.proc i.1 with|none=>false|some q=>Cb q.params v.args)=R) (fun i=>i.1.length)
  (fun i=> [(3, .ptr 1 0),(11, .slice .shared 5 (p.procs.map bn)),(12, .int .i64 (p.procs.length:Int)),(13, .int .i64 (i.2:Int))]) (fun i=>⟨[bf p,aH v],[]⟩) ?_ (p.procs,0) ⟨rfl,hR⟩)
 clear hR
 rintro⟨rest,k⟩ ⟨h1,hR⟩ IH
 dsimp only at h1 hR
 cases rest with
 |nil=>
  have hF:=drop_nil h1
  simp only[iB]at hR
  subst hR
  repeat' (first
 |simp only[go_sem,hF,hP,hZ,gA]
 |(with_reducible refine az hQ ?_;exact aR))
 | cons a rest=>
  obtain⟨hP,g2,hF,g4⟩:=drop_cons h1
  have bH:k<4611686018427387904:=by omega
  have Ed:=h.small (zac hP)
  have Ux:=fun s=>Zr (l:=a.params) (m:=v.args) (by have:=Ed.par;omega) rS s
  simp only[iB]at hR
  rcases zad (a.name==v.proc)with c1|c1
  ·simp only [c1,if_true]at hR
   subst hR
   repeat' (first
 |simp only[go_sem,hF,hP,hZ,gA,c1]
 |(with_reducible refine CU (Ux _) ?_)
 | (with_reducible refine az hQ ?_;exact aR))
  ·simp only [c1,zab,if_false]at hR
   repeat' (first
 |simp only[go_sem,hF,hP,hZ,gA,c1]
 | (with_reducible refine az hQ ?_;exact aR))
   refine cD 2 0 ?_ ?_ (IH (rest,k+1) ⟨g2,hR⟩ (zaa _))
   ·(simp only[go_sem,hF,hP,hZ,gA,aC bH];try exact bd)
   ·(simp only[go_sem,hF,hP,hZ,gA,aC bH];try exact bd)
def Cc (p:Pg):List Sm→Option Sm
 | []=>none
 |v::l=>if v.kind==4 && !(v.kN p)then some v else Cc p l
def ou (c:Int):Option Sm→Int×Int
 |some v=>(c,v.id)
 |none=>(0,0)
def Pg.arity (p:Pg):Int×Int:=if p.scope.1==0 then ou 6 (Cc p p.pre)else(1,0)
theorem Pg.iJ.pre {p:Pg} (h:p.iJ) : ∀ v∈p.pre,v.mg:=fun v m=>by
 simp only[Pg.pre,zbo,zaH]at m
 obtain⟨l,⟨f,hf,rfl⟩,m⟩:=m
 exact h.said hf v m
theorem Hq {p:Pg} (h:p.iJ) (s:St):ay Tryz.prog 24 [.agg (bf p)] s (.agg [.int .i64 p.arity.1, .int .i64 p.arity.2]) s:=by
 refine ay.pure ?_ (by simp[D.bg,D.ok,fm]) rfl s
 obtain⟨oS,rl,vK⟩:=h.procs
 have rM:=fun s=>sX h s
 have dq:=fun s=>BH (p:=p) (by omega) s
 have hL:=(o5 p).1
 have Ze:=o6 p
 generalize hR:p.arity=R
 simp only[Pg.arity]at hR
 unfold S0
 have b0:(p.scope.1 != 0) = !(p.scope.1==0):=rfl
 rcases zad (p.scope.1==0)with b1|b1
 case inr=>
  rw[b1]at b0
  simp only[b1,zab,if_false]at hR
  subst hR
  refine ay.go tJ.h rfl fun B Q hB hQ=>?_
  have⟨hF,hP,hZ,gA⟩:=bD
  repeat' (first
 |simp only[go_sem,hF,hP,hZ,gA,b0,zaB]
 |(with_reducible refine CU (rM _) ?_)
 |(with_reducible refine az hQ ?_;exact aR))
 rw[b1]at b0
 simp only[b1,if_true, ← hL]at hR
 refine ay.go tJ.h rfl fun B Q hB hQ=>?_
 have⟨hF,hP,hZ,gA⟩:=bD
 repeat' (first
 |simp only[go_sem,hF,hP,hZ,gA,b0,zax,qp]
 |(with_reducible refine CU (rM _) ?_)
 |(with_reducible refine CU (dq _) ?_)
 |(with_reducible refine az hQ ?_;exact aR))
 refine cr 2 0 (aY.ind (ι:=List Im×Nat) (fun i=>p.eO.L.drop i.2=i.1∧ou 6 (Cc p (i.1.map Im.s))=R) (fun i=>i.1.length)
  (fun i=> [(1, .ptr 0 0),(2, .ptr 1 0),(14, .slice .shared 17 (p.eO.L.map eA)),(15, .int .i64 (p.eO.L.length:Int)),(16, .int .i64 (i.2:Int))]) (fun i=>⟨[bf p,[.int .i64 0, .int .i64 0]],[]⟩) ?_ (p.eO.L,0) ⟨rfl,hR⟩)
 clear hR
 rintro⟨rest,k⟩ ⟨h1,hR⟩ IH
 dsimp only at h1 hR
 cases rest with
 |nil=>
  have hF:=drop_nil h1
  simp only[zaj,Cc,ou]at hR
  subst hR
  repeat' (first
 |simp only[go_sem,hF,hP,hZ,gA]
 |(with_reducible refine az hQ ?_;exact aR))
 | cons a rest=>
  obtain⟨hP,g2,hF,g4⟩:=drop_cons h1
  have bH:k<4611686018427387904:=by omega
  have Ee:a.s∈p.pre:=by rw[← hL];exact zaL (zac hP)
  have Zt:=fun s=>Zs h (h.pre _ Ee) s
  simp only[zaf,Cc]at hR
  rcases zad (a.s.kind==4)with c1|c1
  ·rcases zad (a.s.kN p)with c2 | c2
   ·simp only [c1,c2,zax,Bool.and_false,zab,if_false]at hR
    repeat' (first
 |simp only[go_sem,hF,hP,hZ,gA,c1,c2]
 |(with_reducible refine CU (Zt _) ?_)
 | (with_reducible refine az hQ ?_;exact aR))
    refine cD 2 0 ?_ ?_ (IH (rest,k+1) ⟨g2,hR⟩ (zaa _))
    ·(simp only[go_sem,hF,hP,hZ,gA,aC bH];try exact bd)
    ·(simp only[go_sem,hF,hP,hZ,gA,aC bH];try exact bd)
   ·simp only [c1,c2,zaB,zbu,if_true,ou]at hR
    subst hR
    repeat' (first
 |simp only[go_sem,hF,hP,hZ,gA,c1,c2]
 |(with_reducible refine CU (Zt _) ?_)
 | (with_reducible refine az hQ ?_;exact aR))
  ·simp only [c1,zbi,zab,if_false]at hR
   repeat' (first
 |simp only[go_sem,hF,hP,hZ,gA,c1]
 |(with_reducible refine CU (Zt _) ?_)
 | (with_reducible refine az hQ ?_;exact aR))
   refine cD 2 0 ?_ ?_ (IH (rest,k+1) ⟨g2,hR⟩ (zaa _))
   ·(simp only[go_sem,hF,hP,hZ,gA,aC bH];try exact bd)
   ·(simp only[go_sem,hF,hP,hZ,gA,aC bH];try exact bd)
theorem yH {p:Pg} (h:(p.scope.1==0)=true):p.may=true:=by
 unfold Pg.scope at h
 split at h
 ·assumption
 ·cases h
def lC (out:List aA):List aA→aA→Bool→aA×Bool
 | [],c,a=>(c,a)
 |s::l,c,a=>if !(dg out s) && (!a ||bytesLess s c)then lC out l s true else lC out l c a
def PB (l out:List aA):List aA:=if(lC out l [] false).2 then out++ [(lC out l [] false).1]else out
def nR (l:List aA):Nat→List aA→List aA
 | 0,out=>out
 |n+1,out=>nR l n (PB l out)
def jc (l:List aA):List aA:=nR l l.length []
end Go.Abs
namespace Go.Proofs
open Go.Shelf
def Tryz.IX:Go.Shelf.Ren:=⟨fun| 190=>126| 125=>169| 258=>168| 128=>202| 129=>203| 302=>193| 303=>194| 304=>195| 305=>196| 306=>197| 307=>198| 308=>199| 309=>200| 310=>201| 333=>220| 329=>221| 330=>222| 334=>223| 335=>224| 336=>225| 344=>238|n=>n,fun| 31=>22| 9=>9| 3=>3| 46=>177| 0=>0| 51=>194| 53=>196| 4=>4| 183=>187| 182=>186| 131=>131| 5=>5| 218=>209| 222=>213| 228=>221| 229=>218|n=>n,fun|n=>n⟩
theorem Tryz.JE:Go.Proofs.Lays.n190 Tryz.prog Tryz.IX:= {
 mixed:=by kernel_rfl
 f125:=Tryz.func169.trans (congrArg some (by kernel_rfl))
 f128:=Tryz.func202.trans (congrArg some (by kernel_rfl))
 f129:=Tryz.func203.trans (congrArg some (by kernel_rfl))
 f190:=Tryz.func126.trans (congrArg some (by kernel_rfl))
 f258:=Tryz.func168.trans (congrArg some (by kernel_rfl))
 f302:=Tryz.func193.trans (congrArg some (by kernel_rfl))
 f303:=Tryz.func194.trans (congrArg some (by kernel_rfl))
 f304:=Tryz.func195.trans (congrArg some (by kernel_rfl))
 f305:=Tryz.func196.trans (congrArg some (by kernel_rfl))
 f306:=Tryz.func197.trans (congrArg some (by kernel_rfl))
 f307:=Tryz.func198.trans (congrArg some (by kernel_rfl))
 f308:=Tryz.func199.trans (congrArg some (by kernel_rfl))
 f309:=Tryz.func200.trans (congrArg some (by kernel_rfl))
 f310:=Tryz.func201.trans (congrArg some (by kernel_rfl))
 f329:=Tryz.func221.trans (congrArg some (by kernel_rfl))
 f330:=Tryz.func222.trans (congrArg some (by kernel_rfl))
 f333:=Tryz.func220.trans (congrArg some (by kernel_rfl))
 f334:=Tryz.func223.trans (congrArg some (by kernel_rfl))
 f335:=Tryz.func224.trans (congrArg some (by kernel_rfl))
 f336:=Tryz.func225.trans (congrArg some (by kernel_rfl))
 f344:=Tryz.func238.trans (congrArg some (by kernel_rfl))
 t0:=Tryz.underlying0
 a0:=Tryz.isAgg0
 z0:=Tryz.sizeOf0
 v0:=Tryz.zeroValue0
 t3:=Tryz.underlying3
 a3:=Tryz.isAgg3
 z3:=Tryz.sizeOf3
 v3:=Tryz.zeroValue3
 t4:=Tryz.underlying4
 a4:=Tryz.isAgg4
 z4:=Tryz.sizeOf4
 v4:=Tryz.zeroValue4
 t5:=Tryz.underlying5
 a5:=Tryz.isAgg5
 z5:=Tryz.sizeOf5
 v5:=Tryz.zeroValue5
 t9:=Tryz.underlying9
 a9:=Tryz.isAgg9
 z9:=Tryz.sizeOf9
 v9:=Tryz.zeroValue9
 t31:=Tryz.underlying22
 a31:=Tryz.isAgg22
 z31:=Tryz.sizeOf22
 v31:=Tryz.zeroValue22
 t46:=Tryz.underlying177
 a46:=Tryz.isAgg177
 z46:=Tryz.sizeOf177
 v46:=Tryz.zeroValue177
 t51:=Tryz.underlying194
 a51:=Tryz.isAgg194
 z51:=Tryz.sizeOf194
 v51:=Tryz.zeroValue194
 t53:=Tryz.underlying196
 a53:=Tryz.isAgg196
 z53:=Tryz.sizeOf196
 v53:=Tryz.zeroValue196
 t131:=Tryz.underlying131
 a131:=Tryz.isAgg131
 z131:=Tryz.sizeOf131
 v131:=Tryz.zeroValue131
 t182:=Tryz.underlying186
 a182:=Tryz.isAgg186
 z182:=Tryz.sizeOf186
 v182:=Tryz.zeroValue186
 t183:=Tryz.underlying187
 a183:=Tryz.isAgg187
 z183:=Tryz.sizeOf187
 v183:=Tryz.zeroValue187
 t218:=Tryz.underlying209
 a218:=Tryz.isAgg209
 z218:=Tryz.sizeOf209
 v218:=Tryz.zeroValue209
 t222:=Tryz.underlying213
 a222:=Tryz.isAgg213
 z222:=Tryz.sizeOf213
 v222:=Tryz.zeroValue213
 t228:=Tryz.underlying221
 a228:=Tryz.isAgg221
 z228:=Tryz.sizeOf221
 v228:=Tryz.zeroValue221
 t229:=Tryz.underlying218
 a229:=Tryz.isAgg218
 z229:=Tryz.sizeOf218
 v229:=Tryz.zeroValue218}
open Go.Sort Go.RowKit in
theorem Tryz.slices_Sort_string (yI off cap:Nat) (ss:List (List UInt8)) (w:World) (hH:Holds encStr w yI off ss.toArray) (aeE:yI<w.heap.size) (cV:ss.length<4611686018427387904) :
 Calls Tryz.prog 126 #[.slice (some ⟨yI,off,none⟩) ss.length cap] w fun e w'=>
  e = .returned (.tuple #[])∧∃ n os,w'=grow (putRow encStr (Sort.ahead w n) yI off (ss.mergeSort fun x y=>decide (x≤y)).toArray) os:=Any.slices_Sort_string Tryz.JE yI off cap ss w hH aeE cV
def Tryz.IY:Go.Shelf.Ren:=⟨fun| 194=>127|n=>n,fun| 31=>22| 9=>9| 3=>3| 4=>4| 0=>0|n=>n,fun|n=>n⟩
theorem Tryz.JF:Go.Proofs.Lays.n194 Tryz.prog Tryz.IY:= {
 mixed:=by kernel_rfl
 f194:=Tryz.func127.trans (congrArg some (by kernel_rfl))
 t0:=Tryz.underlying0
 a0:=Tryz.isAgg0
 z0:=Tryz.sizeOf0
 v0:=Tryz.zeroValue0
 t3:=Tryz.underlying3
 a3:=Tryz.isAgg3
 z3:=Tryz.sizeOf3
 v3:=Tryz.zeroValue3
 t4:=Tryz.underlying4
 a4:=Tryz.isAgg4
 z4:=Tryz.sizeOf4
 v4:=Tryz.zeroValue4
 t9:=Tryz.underlying9
 a9:=Tryz.isAgg9
 z9:=Tryz.sizeOf9
 v9:=Tryz.zeroValue9
 t31:=Tryz.underlying22
 a31:=Tryz.isAgg22
 z31:=Tryz.sizeOf22
 v31:=Tryz.zeroValue22}
open Go.RowKit Go.Lib Go.Sort in
theorem Tryz.slices_Compact_string (yI off cap:Nat) (zs:List (List UInt8)) (w:World) (hH:Holds encStr w yI off zs.toArray) (cV:zs.length≤9223372036854775807) (rz:zs.length≤cap) :
 Calls Tryz.prog 127 #[.slice (some ⟨yI,off,none⟩) zs.length cap] w fun e w'=>e = .returned (.slice (some ⟨yI,off,none⟩) (Lib.compact zs).length cap)∧∃ q,w'=putRow encStr (Sort.ahead w q) yI off (Lib.compact zs++List.replicate (zs.length - (Lib.compact zs).length) []).toArray:=Any.slices_Compact_string Tryz.JF yI off cap zs w hH cV rz
open Go.RowKit Go.Lib Go.Sort in
theorem Tryz.slices_Compact_string_empty (a:Option Addr) (cap:Nat) (w:World) :
 Calls Tryz.prog 127 #[.slice a 0 cap] w fun e w'=>e = .returned (.slice a 0 cap)∧w'=w:=Any.slices_Compact_string_empty Tryz.JF a cap w
open Go.RowKit Go.Sort in
theorem Tryz.slices_Sort_string_none (p:Option Addr) (cap:Nat) (w:World) :
 Calls Tryz.prog 126 #[.slice p 0 cap] w fun e w'=>e = .returned (.tuple #[])∧w'=w:=Any.slices_Sort_string_none Tryz.JE p cap w
end Go.Proofs
namespace Go.Abs
open Go.Proofs
section
variable {P:Program} {B:ey} {nt:Nat}
theorem Wy {x:Operand} {t:Nat} (h:cX x=some (.s t)):x = .tmp t:=by
 unfold cX at h
 split at h
 ·cases h;rfl
 ·obtain⟨d,_,h⟩:=map_some h;cases h
 ·cases h
 ·cases h
theorem MG {ops:Array Oper} {o:Oper} {g g':Option (Nat×Bool)} {dst:Option Nat} {f:Nat} {xs:List X} (h:qw P ops o g=some (.call dst g' f xs)) :
 g'=g∧∃ args k6,o.op = .call ⟨.value (.func f),args,k6⟩∧enters P f=true∧uX args.toList=some xs:=by
 unfold qw at h
 split at h
 ·rename_i f' args k6 kZ
  split at h
  ·rename_i he
   obtain⟨xs',h1,h2⟩:=map_some h
   cases h2
   exact⟨rfl,args,k6,kZ,he,h1⟩
  ·cases h
 ·obtain⟨_,_,h⟩:=map_some h;cases h
 ·split at h
  ·cases h
  ·split at h<;>cases h
theorem PC {ops:Array Oper} {o:Oper} {tmps:Array Value} (hg:sy ops o.guard=some none):Region.wanted o (yielded ops tmps)=true:=by
 have:o.guard=none:=by
  cases DI:o.guard with
  |none=>rfl
  |some p=>
   obtain⟨j,b⟩:=p
   rw[DI]at hg
   unfold sy at hg
   simp only at hg
   split at hg<;>cases hg
 simp[Region.wanted,this]
theorem Sem.Zv {a k b f:Nat} {is:List AI} {Q:Exit→Tm→St→Prop} {tm:Tm} {s:St}
 (aci : ∀ act w,Holds B nt (tm.put (some a) (tm.get k)) s act w→Calls P f #[act.tmps.getD a Go.undef] w fun e w'=>∃ v,e = .returned v∧∃ bB s',Holds B nt bB s' (act.put (some b) v) w'∧gk P is (Q .normal) bB s') :
 Sem P B nt (.run (.op (some a) none (.mv (.s k)):: .call (some b) none f [.s a]::is)) Q tm s:=by
 intro c hc act w hh
 obtain⟨id,ops,rfl,hi⟩:=jE hc
 refine wp_region ?_
 have key : ∀ (l:List Nat) (ol:List Oper),l.map (ops[·]?)=ol.map some→nY P nt ops ol=some (.op (some a) none (.mv (.s k)):: .call (some b) none f [.s a]::is)→wpOps P ops (km B nt Q) l act w:=by
  intro l ol hl uD
  match ol,l,hl with
  | [],_,_=>simp[nY]at uD
  |o0::ol,[],hl=>simp at hl
  | o0::ol,j0::l,hl=>
   simp only[zaf,List.cons.injEq]at hl
   obtain⟨hj0,hl⟩:=hl
   unfold nY at uD
   split at uD
   ·rename_i i0 is0 h1 h2
    cases uD
    match ol,l,hl,h2 with
    | [],_,_,h2=>simp[nY]at h2
    |o1::ol,[],hl,_=>simp at hl
    | o1::ol,j1::l,hl,h2=>
     simp only[zaf,List.cons.injEq]at hl
     obtain⟨hj1,hl⟩:=hl
     unfold nY at h2
     split at h2
     ·rename_i i1 is1 h3 h4
      cases h2
      obtain⟨M,e,r,ht,hn,hd⟩:=hh
      have tU:=oX h1
      have Hh:=oX h3
      simp only[AI.dst]at tU Hh
      refine qF (K':=fun bB s'=>bB=tm.put (some a) (tm.get k)∧s'=s) hj0 h1 r (B.laid.ext e) ht (by simp only[gk,guarded,aU,X.ev,and_self]) (fun d v s1 w1 M1 hk e1 r1 hv=>?_)
      obtain⟨sA,rfl⟩:=hk
      have hH:=Holds.put e ht hn hd (sF h1) e1 r1 hv
      simp only[AI.dst]at sA
      rw[← tU]at hH ⊢
      rw[sA]at hH
      obtain⟨g,hg,_,hb⟩:=yg h3
      obtain⟨rfl,args,k6,kZ,wi,jD⟩:=MG hb
      simp only[wpOps,hj1,PC hg,if_true]
      left
      have Se:args.map (act.put (some a) v).eval = #[(act.put (some a) v).tmps.getD a Go.undef]:=by
       have:args.toList = [.tmp a]:=by
        match hA:args.toList with
        | []=>rw[hA]at jD;simp[uX]at jD
        | [x]=>
         rw[hA]at jD
         simp only[uX]at jD
         split at jD
         ·rename_i x' r' hx hr
          cases jD
          rw[Wy hx]
         ·cases jD
        | x::y::z=>
         rw[hA]at jD
         simp only[uX]at jD
         split at jD
         ·rename_i x' r' hx hr
          cases jD
          split at hr
          ·cases hr
          ·cases hr
         ·cases jD
       have:args = #[.tmp a]:=by rw[← zaU (xs:=args),this]
       rw[this]
       simp only[List.map_toArray,zaf,zaj]
       rfl
      have hex:(execOp (act.put (some a) v).eval o1).run P w1 = .ok (.enter f #[(act.put (some a) v).tmps.getD a Go.undef]) w1:=by
       obtain⟨dst,op,type,pos,after,guard⟩:=o1
       simp only at kZ
       subst kZ
       rw[← Se]
       exact uz (act.put (some a) v).eval dst f args k6 type pos after guard rfl wi w1
      unfold Oper.wp
      rw[hex,Oper.upon_enter]
      refine(aci _ _ hH).mono ?_
      rintro en w' ⟨v',rfl,bB,s',hH',hvc⟩
      rw[← Hh]
      exact yc (Q:=Q) l ol _ hl h4 bB s' _ w' hvc hH'
     ·cases h2
   ·cases uD
 exact key _ _ (yd ops) hi
theorem Ef (hB:B.s = ⟨[],[]⟩) {tm:Tm} {s:St} {act:Act} {w:World} (h:Holds B nt tm s act w) {t:Nat} {l:List aA} (ht:s.aw[t]? = some (some l.length)) {k0:Nat} (Pr:tm.get k0 = .slice (.tok t) 1 (l.map encStr)) :
 (l = []∧∀ k,tm.get k = .slice (.tok t) 1 (l.map encStr)→(act.tmps.getD k Go.undef = .slice none 0 0∨∃ b q,act.tmps.getD k Go.undef = .slice (some ⟨b,q,none⟩) 0 0))∨
 ∃ (b cap:Nat) (vs:Array Value) (T:TypeId),(∀ k,tm.get k = .slice (.tok t) 1 (l.map encStr)→act.tmps.getD k Go.undef = .slice (some ⟨b,0,none⟩) l.length cap)∧l.length≤cap∧w.heap[b]? = some (.cells vs T (0,0))∧vs.size=cap∧B.w.heap.size≤b∧
  ∀ j (hj:j<l.length),vs[j]? = some (.string ⟨⟨l[j]⟩⟩):=by
 obtain⟨M,e,r,hr,_,_⟩:=h
 rcases r.tok t _ ht with ⟨h3,h4⟩|⟨b,cap,z,vs,T,h3,h4,h5,h6,h7⟩
 ·have hl:l = []:=zbe h4
  subst hl
  refine .inl ⟨rfl,fun k hk=>?_⟩
  have hv:=hr k
  rw[hk]at hv
  generalize act.tmps.getD k Go.undef=v at hv
  cases hv with
  |ig _ _ cap hc nZ=>subst hc;exact .inl rfl
  |slice _ _ _ b q cap hl hs h1 h2 nZ=>
   rcases(nZ.2 _ ht).2 rfl with ⟨_,h0,_⟩|⟨b',_,jB⟩
   ·subst h0;exact .inr ⟨b,q,rfl⟩
   ·rw[h3]at jB;cases jB
 ·right
  have each : ∀ k,tm.get k = .slice (.tok t) 1 (l.map encStr)→z=1∧act.tmps.getD k Go.undef = .slice (some ⟨b,0,none⟩) l.length cap∧l.length≤cap∧∀ j (hj:j<l.length),∃ u,M.G b j=some u∧RD M s (.str l[j]) u:=by
   intro k hk
   have hv:=hr k
   rw[hk]at hv
   generalize act.tmps.getD k Go.undef=v at hv
   generalize kh:l.map encStr=rows at hv
   cases hv with
   |ig _ _ cap hc nZ=>
    have hl:l = []:=by cases l<;>simp at kh;rfl
    subst hl
    rcases(nZ.2 _ ht).2 rfl with ⟨h0,_⟩|⟨b',h0,_⟩
    ·rw[h3]at h0;cases h0
    ·cases h0
   | slice _ _ _ b2 q aid hl hs h1 h2 nZ=>
    subst kh
    rw[zat]at hl nZ
    rcases(nZ.2 _ ht).2 rfl with ⟨h0,_⟩|⟨b',hb,jB⟩
    ·rw[h3]at h0;cases h0
    ·cases hb
     rw[h3]at jB
     cases jB
     refine⟨rfl,by rw[zat],hl,fun j hj=>?_⟩
     have e1:(l.map encStr)[j]? = some [.str l[j]]:=by rw[zap,zak hj];rfl
     obtain⟨u,hu⟩:=h1 j _ 0 _ e1 rfl
     refine⟨u,by simpa using hu,h2 j _ 0 _ u e1 rfl hu⟩
  obtain⟨rfl,_,rz,kD⟩:=each k0 Pr
  have dq:B.w.heap.size≤b:=by
   rcases e.mR t b cap 1 ⟨_,ht⟩ h3 with ⟨⟨n,hn⟩,_⟩|h
   ·rw[hB]at hn;simp at hn
   ·exact h
  refine⟨b,cap,vs,T,fun k hk=>(each k hk).2.1,rz,h4,by simpa[zs]using h5,dq,fun j hj=>?_⟩
  obtain⟨u,hu,gZ⟩:=kD j hj
  have:=(r.comm _ _ _ hu).1
  rw[gY h4,gZ.jU]at this
  exact this
theorem Hr (hB:B.s = ⟨[],[]⟩) {tm:Tm} {s:St} {act rJ:Act} {w w':World} (h:Holds B nt tm s act w) {b cap:Nat} {vs:Array Value} {T:TypeId} (cV:vs.size=cap) (qK:B.w.heap.size≤b)
 (kz : ∀ q,q<B.w.heap.size→w'.heap[q]? = w.heap[q]?) (dN:w'.heap[b]? = some (.cells vs T (0,0))) (dU:w.heap.size≤w'.heap.size) (oU:w'.os=w.os) (Bf:w'.tape=w.tape) (QI:w'.output=w.output)
 {l:List aA} (hl:l.length≤cap) (kD : ∀ j (hj:j<l.length),vs[j]? = some (.string ⟨⟨l[j]⟩⟩)) {k:Nat} (MH:rJ.tmps.getD k Go.undef = .slice (some ⟨b,0,none⟩) l.length cap) (hn:rJ.tmps.size=nt) (hd:rJ.defers = []) :
 Holds B nt [(k, .slice (.tok 0) 1 (l.map encStr))] ⟨[],[some l.length]⟩ rJ w':=by
 obtain⟨M,e,r,hr,_,_⟩:=h
 let M':Map:=⟨fun q o=>if q=b then(if o<l.length then(l[o]?).map fun x=>Value.string ⟨⟨x⟩⟩else none)else B.M.G q o,B.M.loc,fun _=>some (b,cap,1)⟩
 have hGb : ∀ q o v,B.M.G q o=some v→q<B.w.heap.size∧w'.cell? ⟨q,o,none⟩=some v∧v.oneCell'=true:=by
  intro q o v hq
  obtain⟨h1,h2⟩:=r.comm q o v (e.le.G q o v hq)
  have hF:=B.old q o v hq
  refine⟨hF, ?_,h2⟩
  rw[← h1]
  simp[World.cell?,kz q hF]
 have ph : ∀ j (hj:j<l.length),w'.cell? ⟨b,j,none⟩=some (.string ⟨⟨l[j]⟩⟩):=fun j hj=>by rw[gY dN];exact kD j hj
 have hP : ∀ (j:Nat) v,(if j<l.length then(l[j]?).map fun x=>Value.string ⟨⟨x⟩⟩else none)=some v→∃ hj:j<l.length,v = .string ⟨⟨l[j]⟩⟩:=by
  intro j v hv
  split at hv
  ·rename_i hj
   rw[zak hj]at hv
   exact⟨hj,by simpa using hv.symm⟩
  ·cases hv
 refine⟨M',⟨⟨fun q o v hq=>?_,by simp[hB],fun o ho=> .refl _,by rw[hB];exact zar _,fun t n' ht _=>by rw[hB]at ht;exact absurd ht (zaG _)⟩,fun q hq _ _=>?_,fun o _ h2=>absurd h2 (zaG _),fun t q c z _ hb=>?_,fun q o dL=>?_,zbb e.size dU,oU.trans e.os,Bf.trans e.tape,QI.trans e.output⟩,
  ⟨fun q o v hq=>?_,fun o ds ho=>by simp at ho,fun o ho=>absurd ho (zaG _),fun o o' ho=>absurd ho (zaG _),fun t n ht=>?_,fun t q c z o _ _ ho=>absurd ho (zaG _),fun t t' q c z c' z' zZ jZ _ _=>?_⟩,fun u=>?_,hn,hd⟩
 ·show(if q=b then _ else B.M.G q o)=some v
  rw[if_neg (by have:=(hGb q o v hq).1;omega)]
  exact hq
 ·rw [kz q hq]
  exact e.kept q hq (fun o ho=>by rw[hB]at ho;exact absurd ho (zaG _)) (fun t c z jZ=>by rw[hB]at jZ;obtain⟨n,sT⟩:=jZ;simp at sT)
 ·cases hb;exact .inr qK
 ·by_cases hq:q=b
  ·subst hq;exact .inl qK
  ·exact absurd (show(if q=b then _ else B.M.G q o)=B.M.G q o from if_neg hq) dL
 ·have ki:(if q=b then(if o<l.length then(l[o]?).map fun x=>Value.string ⟨⟨x⟩⟩else none)else B.M.G q o)=some v:=hq
  by_cases Zw:q=b
  ·rw [if_pos Zw]at ki
   obtain⟨hj,rfl⟩:=hP o v ki
   rw[Zw]
   exact⟨ph o hj,rfl⟩
  ·rw [if_neg Zw]at ki
   exact(hGb q o v ki).2
 ·match t with
  | 0=>
   simp at ht
   subst ht
   refine .inr ⟨b,cap,1,vs,T,rfl,dN,by simp[zs,cV],hl,fun off ho=>?_,fun h=>by cases h⟩
   show(if b=b then(if off<l.length then _ else none)else B.M.G b off)=none
   rw[if_pos rfl,if_neg (by simp[zs]at ho;omega)]
  |t+1=>simp at ht
 ·obtain⟨n1,h1⟩:=zZ
  obtain⟨n2,h2⟩:=jZ
  have a1:=(zae.1 h1).1
  have a2:=(zae.1 h2).1
  simp at a1 a2
  omega
 ·simp only [Tm.get]
  split
  ·rename_i Zx
   subst Zx
   rw[MH]
   have:=RD.slice (M:=M') (s:=⟨[],[some l.length]⟩) (.tok 0) 1 (l.map encStr) b 0 cap (by simpa using hl) (fun row hr=>by
    obtain⟨x,_,rfl⟩:=zaH.1 hr;rfl) (fun i row j d e1 e2=>?_) (fun i row j d u e1 e2 eu=>?_) ⟨by simp,fun n sT=>by
    simp at sT
    subst sT
    exact⟨by simp,fun _=> .inr ⟨b,rfl,rfl⟩⟩⟩
   ·simpa using this
   ·rw [zap]at e1
    cases xk:l[i]? with
    |none=>rw[xk]at e1;cases e1
    |some x=>
     have oV:=(zae.1 xk).1
     rw[xk]at e1
     cases e1
     have hj:j=0:=by cases j with|zero=>rfl|succ j=>simp[encStr]at e2
     subst hj
     refine⟨.string ⟨⟨x⟩⟩, ?_⟩
     show(if b=b then(if 0+(i*1+0)<l.length then _ else none)else _)=_
     rw[if_pos rfl,if_pos (by omega)]
     simp[xk]
   ·rw [zap]at e1
    cases xk:l[i]? with
    |none=>rw[xk]at e1;cases e1
    |some x=>
     have oV:=(zae.1 xk).1
     rw[xk]at e1
     cases e1
     have hj:j=0:=by cases j with|zero=>rfl|succ j=>simp[encStr]at e2
     subst hj
     have BD:(if b=b then(if 0+(i*1+0)<l.length then(l[0+(i*1+0)]?).map fun x=>Value.string ⟨⟨x⟩⟩else none)else B.M.G b (0+(i*1+0)))=some u:=eu
     rw[if_pos rfl,if_pos (by omega)]at BD
     simp[xk]at BD
     subst BD
     simp[encStr]at e2
     subst e2
     exact .str x
  ·exact .junk _
theorem JG (hB:B.s = ⟨[],[]⟩) {tm:Tm} {s:St} {act rJ:Act} {w:World} (h:Holds B nt tm s act w) {k:Nat} (MH:rJ.tmps.getD k Go.undef = .slice none 0 0∨∃ b q,rJ.tmps.getD k Go.undef = .slice (some ⟨b,q,none⟩) 0 0) (hn:rJ.tmps.size=nt) (hd:rJ.defers = []) :
 Holds B nt [(k, .slice (.tok 0) 1 (([] : List aA).map encStr))] ⟨[],[some 0]⟩ rJ w:=by
 obtain⟨M,e,r,hr,_,_⟩:=h
 let M':Map:=⟨B.M.G,B.M.loc,fun _=>none⟩
 refine⟨M',⟨⟨fun q o v hq=>hq,by simp[hB],fun o ho=> .refl _,by rw[hB];exact zar _,fun t n' ht _=>by rw[hB]at ht;exact absurd ht (zaG _)⟩,fun q hq _ _=>?_,fun o _ h2=>absurd h2 (zaG _),fun t q c z _ hb=>(by cases hb),fun q o dL=>absurd rfl dL,e.size,e.os,e.tape,e.output⟩,
  ⟨fun q o v hq=>r.comm q o v (e.le.G q o v hq),fun o ds ho=>by simp at ho,fun o ho=>absurd ho (zaG _),fun o o' ho=>absurd ho (zaG _),fun t n ht=>?_,fun t q c z o _ _ ho=>absurd ho (zaG _),fun t t' q c z c' z' zZ jZ h1 _=>by cases h1⟩,fun u=>?_,hn,hd⟩
 ·exact e.kept q hq (fun o ho=>by rw[hB]at ho;exact absurd ho (zaG _)) (fun t c z jZ=>by rw[hB]at jZ;obtain⟨n,sT⟩:=jZ;simp at sT)
 ·match t with
  | 0=>simp at ht;subst ht;exact .inl ⟨rfl,rfl⟩
  |t+1=>simp at ht
 ·simp only [Tm.get]
  split
  ·rename_i Zx
   subst Zx
   have nZ : ∀ base,gO M' ⟨[],[some 0]⟩ (.tok 0) 1 0 base 0:=fun base=>⟨by simp,fun n sT=>by
    simp at sT
    subst sT
    exact⟨zag _,fun _=> .inl ⟨rfl,rfl,fun h=>by cases h⟩⟩⟩
   rcases MH with h|⟨b,q,h⟩
   ·rw[h];exact .ig _ _ 0 rfl (nZ none)
   ·rw[h];exact .slice (.tok 0) 1 [] b q 0 (zag _) (by simp) (by simp) (by simp) (nZ _)
  ·exact .junk _
theorem Hs {α:Type} [Inhabited α] (enc:α→Value) (d:Array α) (c:Array Value) (j:Nat):(Sort.putCells enc 0 d c)[j]? = if j<d.size then(c[j]?).map fun _=>enc d[j]! else c[j]? :=by
 simp only[Sort.putCells,Array.getElem?_mapIdx]
 cases h:c[j]? with
 |none=>simp
 |some x=>by_cases hj:j<d.size<;>simp[hj]
theorem Eg {w:World} {b n cap:Nat} {vs:Array Value} {T:TypeId} (dN:w.heap[b]? = some (.cells vs T (0,0))) (cV:vs.size=cap) (l:List aA) (hl:l.length≤cap) (os:Array Obj) :
 (∀ q,q≠b→q<w.heap.size→(Sort.grow (Sort.putRow Go.Proofs.encStr (Sort.ahead w n) b 0 l.toArray) os).heap[q]? = w.heap[q]?)∧
 (Sort.grow (Sort.putRow Go.Proofs.encStr (Sort.ahead w n) b 0 l.toArray) os).heap[b]? = some (.cells (Sort.putCells Go.Proofs.encStr 0 l.toArray vs) T (0,0))∧w.heap.size≤(Sort.grow (Sort.putRow Go.Proofs.encStr (Sort.ahead w n) b 0 l.toArray) os).heap.size∧
 (Sort.putCells Go.Proofs.encStr 0 l.toArray vs).size=cap∧∀ j (hj:j<l.length),(Sort.putCells Go.Proofs.encStr 0 l.toArray vs)[j]? = some (.string ⟨⟨l[j]⟩⟩):=by
 have hb:b<w.heap.size:=(zaN.1 dN).1
 refine⟨fun q hq hF=>?_, ?_, ?_, ?_,fun j hj=>?_⟩
 ·simp only [Sort.grow,Sort.putRow,Sort.mapBlock,Sort.ahead]
  rw[za0 (by simpa using hF),zbx]
  simp[Ne.symm hq]
 ·simp only [Sort.grow,Sort.putRow,Sort.mapBlock,Sort.ahead]
  rw[za0 (by simpa using hb),zbx]
  simp[dN,Sort.onCells]
 ·simp[Sort.grow,Sort.putRow,Sort.mapBlock,Sort.ahead]
 ·simp[Sort.putCells,cV]
 ·rw [Hs]
  have h1:j<l.toArray.size:=by simpa using hj
  have h2:vs[j]? = some vs[j]:=za9 (by omega)
  rw[if_pos h1,h2]
  simp[hj]
def kO (l:List aA):List aA:=l.mergeSort fun x y=>decide (x≤y)
theorem Ht {act:Act} {b:Nat} {v:Value} {u:Nat} (h:u≠b):(act.put (some b) v).tmps.getD u Go.undef=act.tmps.getD u Go.undef:=by
 simp only[Act.put,zbg]
 rw[zbr (fun e=>h e.symm)]
theorem Eh {act:Act} {b:Nat} {v:Value} (h:b<act.tmps.size):(act.put (some b) v).tmps.getD b Go.undef=v:=by
 simp only[Act.put,zbg]
 simp[h]
theorem Sem.sort (hB:B.s = ⟨[],[]⟩) {a k b t:Nat} {l:List aA} {is:List AI} {Q:Exit→Tm→St→Prop} {tm:Tm} {s:St} (hak:a≠k) (hbk:b≠k) (Uw:a≠b)
 (hk:tm.get k = .slice (.tok t) 1 (l.map encStr)) (ht:s.aw[t]? = some (some l.length)) (hl:l.length<4611686018427387904)
 (h:gk Tryz.prog is (Q .normal) [(k, .slice (.tok 0) 1 ((kO l).map encStr))] ⟨[],[some l.length]⟩) :
 Sem Tryz.prog B nt (.run (.op (some a) none (.mv (.s k)):: .call (some b) none 126 [.s a]::is)) Q tm s:=by
 refine Sem.Zv fun act w hh=>?_
 have xg:(tm.put (some a) (tm.get k)).get k = .slice (.tok t) 1 (l.map encStr):=by rw[Tm.jX,if_neg (by simpa using hak)];exact hk
 have Hu:(tm.put (some a) (tm.get k)).get a = .slice (.tok t) 1 (l.map encStr):=by rw[Tm.jX,if_pos rfl];exact hk
 have Cd:(kO l).length=l.length:=List.length_mergeSort l
 have hn:(act.put (some b) (.tuple #[])).tmps.size=nt:=by obtain⟨_,_,_,_,h1,_⟩:=hh;simpa[Act.put]using h1
 have hd:(act.put (some b) (.tuple #[])).defers = []:=by obtain⟨_,_,_,_,_,h1⟩:=hh;simpa[Act.put]using h1
 have cV:(act.tmps).size=nt:=by obtain⟨_,_,_,_,h1,_⟩:=hh;exact h1
 rcases Ef hB hh ht Hu with ⟨rfl,hv⟩|⟨b',cap,vs,T,hv,rz,dN,mZ,qK,kD⟩
 ·rw [show kO [] = [] by simp [kO]]at h
  have call : ∀ p,act.tmps.getD a Go.undef = .slice p 0 0→Calls Tryz.prog 126 #[act.tmps.getD a Go.undef] w fun e w'=>∃ v,e = .returned v∧∃ bB s',Holds B nt bB s' (act.put (some b) v) w'∧gk Tryz.prog is (Q .normal) bB s':=by
   intro p hp
   rw[hp]
   refine(Tryz.slices_Sort_string_none p 0 w).mono ?_
   rintro e w' ⟨rfl,rfl⟩
   refine⟨_,rfl,_,_,JG hB hh (k:=k) ?_ hn hd,h⟩
   rw[Ht (Ne.symm hbk)]
   exact hv k xg
  rcases hv a Hu with h1|⟨b',q,h1⟩
  ·exact call _ h1
  ·exact call _ h1
 ·rw [hv a Hu]
  have hF:b'<w.heap.size:=(zaN.1 dN).1
  refine(Tryz.slices_Sort_string b' 0 cap l w (fun j hj=>?_) hF hl).mono ?_
  ·have PD:j<l.length:=by simpa using hj
   refine⟨?_,by simp[World.frozen?,dN]⟩
   rw[za6,gY dN,kD j PD]
   simp[PD]
  ·rintro e w' ⟨rfl,n,os,rfl⟩
   obtain⟨p1,p2,p3,p4,p5⟩:=Eg (n:=n) dN mZ (kO l) (by omega) os
   have hH:=Hr hB hh (rJ:=act.put (some b) (.tuple #[])) (l:=kO l) (k:=k) p4 qK (fun q hq=>p1 q (by omega) (by obtain⟨M,e,_⟩:=hh;exact Nat.lt_of_lt_of_le hq e.size)) p2 p3 rfl rfl rfl (by omega) p5 (by rw[Ht (Ne.symm hbk),hv k xg,Cd]) hn hd
   rw[Cd]at hH
   exact⟨_,rfl,_,_,hH,h⟩
theorem IZ (l:List aA):(Lib.compact l).length≤l.length:=by
 unfold Lib.compact Lib.compactUpTo
 rw[zat]
 exact zbb (List.length_filter_le _ _) (by simp)
theorem Sem.compact (hB:B.s = ⟨[],[]⟩) {a k b t:Nat} {l:List aA} {is:List AI} {Q:Exit→Tm→St→Prop} {tm:Tm} {s:St} (UA:b<nt)
 (hk:tm.get k = .slice (.tok t) 1 (l.map encStr)) (ht:s.aw[t]? = some (some l.length)) (hl:l.length<4611686018427387904)
 (h:gk Tryz.prog is (Q .normal) [(b, .slice (.tok 0) 1 ((Lib.compact l).map encStr))] ⟨[],[some (Lib.compact l).length]⟩) :
 Sem Tryz.prog B nt (.run (.op (some a) none (.mv (.s k)):: .call (some b) none 127 [.s a]::is)) Q tm s:=by
 refine Sem.Zv fun act w hh=>?_
 have Hu:(tm.put (some a) (tm.get k)).get a = .slice (.tok t) 1 (l.map encStr):=by rw[Tm.jX,if_pos rfl];exact hk
 have cV:(act.tmps).size=nt:=by obtain⟨_,_,_,_,h1,_⟩:=hh;exact h1
 have hn : ∀ v,(act.put (some b) v).tmps.size=nt:=fun v=>by simpa[Act.put]using cV
 have hd : ∀ v,(act.put (some b) v).defers = []:=by obtain⟨_,_,_,_,_,h1⟩:=hh;intro v;simpa[Act.put]using h1
 rcases Ef hB hh ht Hu with ⟨rfl,hv⟩|⟨b',cap,vs,T,hv,rz,dN,mZ,qK,kD⟩
 ·rw [show Lib.compact ([] : List aA) = []from rfl]at h
  have call : ∀ p,act.tmps.getD a Go.undef = .slice p 0 0→(p=none∨∃ b q,p=some ⟨b,q,none⟩)→Calls Tryz.prog 127 #[act.tmps.getD a Go.undef] w fun e w'=>∃ v,e = .returned v∧∃ bB s',Holds B nt bB s' (act.put (some b) v) w'∧gk Tryz.prog is (Q .normal) bB s':=by
   intro p hp hq
   rw[hp]
   refine(Tryz.slices_Compact_string_empty p 0 w).mono ?_
   rintro e w' ⟨rfl,rfl⟩
   refine⟨_,rfl,_,_,JG hB hh (k:=b) ?_ (hn _) (hd _),h⟩
   rw[Eh (by omega)]
   rcases hq with rfl|⟨x,y,rfl⟩
   ·exact .inl rfl
   ·exact .inr ⟨x,y,rfl⟩
  rcases hv a Hu with h1|⟨b',q,h1⟩
  ·exact call _ h1 (.inl rfl)
  ·exact call _ h1 (.inr ⟨b',q,rfl⟩)
 ·rw [hv a Hu]
  have rN:(Lib.compact l).length≤l.length:=IZ l
  refine(Tryz.slices_Compact_string b' 0 cap l w (fun j hj=>?_) (by omega) rz).mono ?_
  ·have PD:j<l.length:=by simpa using hj
   refine⟨?_,by simp[World.frozen?,dN]⟩
   rw[za6,gY dN,kD j PD]
   simp[PD]
  ·rintro e w' ⟨rfl,q,rfl⟩
   obtain⟨p1,p2,p3,p4,p5⟩:=Eg (n:=q) dN mZ (Lib.compact l++List.replicate (l.length - (Lib.compact l).length) []) (by simp;omega) #[]
   rw[Sort.grow_empty]at p1 p2 p3
   have hH:=Hr hB hh (rJ:=act.put (some b) (.slice (some ⟨b',0,none⟩) (Lib.compact l).length cap)) (l:=Lib.compact l) (k:=b) p4 qK (fun q hq=>p1 q (by omega) (by obtain⟨M,e,_⟩:=hh;exact Nat.lt_of_lt_of_le hq e.size)) p2 p3 rfl rfl rfl (by omega)
    (fun j hj=>by
     have:=p5 j (by simp;omega)
     rw[List.getElem_append_left hj]at this
     exact this) (Eh (by omega)) (hn _) (hd _)
   exact⟨_,rfl,_,_,hH,h⟩
end
end Go.Abs
namespace Go.Abs
theorem Ce {a b:UInt8} : a<b↔a.toNat<b.toNat:=UInt8.lt_iff_toNat_lt
theorem vR : ∀ a:aA,bytesLess a a=false
 | []=>rfl
 |x::a=>by
  show Go.Op.bytesLess (x::a) (x::a)=false
  have h:=vR a
  have h:Go.Op.bytesLess a a=false:=h
  simp[Go.Op.bytesLess,h]
theorem vS : ∀ a b:aA,bytesLess a b=true∨a=b∨bytesLess b a=true
 | [],[]=> .inr (.inl rfl)
 | [],y::b=> .inl rfl
 |x::a,[]=> .inr (.inr rfl)
 | x::a,y::b=>by
  show Go.Op.bytesLess (x::a) (y::b)=true∨_∨Go.Op.bytesLess (y::b) (x::a)=true
  have h:Go.Op.bytesLess a b=true∨a=b∨Go.Op.bytesLess b a=true:=vS a b
  simp only[Go.Op.bytesLess,zay,zam,decide_eq_true_eq,beq_iff_eq,List.cons.injEq]
  by_cases e:x=y
  ·subst e
   rcases h with h|h|h
   ·exact .inl (.inr ⟨rfl,h⟩)
   ·exact .inr (.inl ⟨rfl,h⟩)
   ·exact .inr (.inr (.inr ⟨rfl,h⟩))
  ·have:x.toNat≠y.toNat:=fun h=>e (UInt8.toNat_inj.1 h)
   rcases Nat.lt_or_gt_of_ne this with h|h
   ·exact .inl (.inl (Ce.2 h))
   ·exact .inr (.inr (.inl (Ce.2 h)))
theorem Cf : ∀ a b c:aA,bytesLess a b=true→bytesLess b c=true→bytesLess a c=true
 |a,b,[],h1,h2=>by cases b<;>cases h2
 |a,[],z::c,h1,h2=>by cases a<;>cases h1
 | [],y::b,z::c,h1,h2=>rfl
 | x::a,y::b,z::c,h1,h2=>by
  have h1:Go.Op.bytesLess (x::a) (y::b)=true:=h1
  have h2:Go.Op.bytesLess (y::b) (z::c)=true:=h2
  show Go.Op.bytesLess (x::a) (z::c)=true
  simp only[Go.Op.bytesLess,zay,zam,decide_eq_true_eq,beq_iff_eq]at h1 h2 ⊢
  rcases h1 with e1|⟨i1,e1⟩
  ·rcases h2 with e2 | ⟨i2,e2⟩
   ·exact .inl (Ce.2 (Nat.lt_trans (Ce.1 e1) (Ce.1 e2)))
   ·exact .inl (i2 ▸ e1)
  ·rcases h2 with e2 | ⟨i2,e2⟩
   ·exact .inl (i1 ▸ e2)
   ·exact .inr ⟨i1.trans i2,Cf a b c e1 e2⟩
def yJ (l:List aA):Prop:=l.Pairwise fun a b=>bytesLess a b=true
theorem uO : ∀ {a b:List aA},yJ a→yJ b→(∀ x,x∈a↔x∈b)→a=b
 | [],[],_,_,_=>rfl
 | [],y::b,_,_,h=>absurd ((h y).2 zaD) (by simp)
 |x::a,[],_,_,h=>absurd ((h x).1 zaD) (by simp)
 | x::a,y::b,h1,h2,h=>by
  obtain⟨g1,g2⟩:=List.pairwise_cons.1 h1
  obtain⟨g3,g4⟩:=List.pairwise_cons.1 h2
  have e:x=y:=by
   rcases zan.1 ((h x).1 zaD)with e|m
   ·exact e
   ·rcases zan.1 ((h y).2 zaD)with e | m'
    ·exact e.symm
    ·have:=Cf _ _ _ (g3 x m) (g1 y m');rw[vR]at this;cases this
  subst e
  rw[uO g2 g4 fun z=>?_]
  constructor
  ·intro m
   rcases zan.1 ((h z).1 (zav _ m))with e|m'
   ·subst e;have:=g1 z m;rw[vR]at this;cases this
   ·exact m'
  ·intro m
   rcases zan.1 ((h z).2 (zav _ m))with e|m'
   ·subst e;have:=g3 z m;rw[vR]at this;cases this
   ·exact m'
theorem sj (out:List aA) : ∀ (l:List aA) (c:aA) (a:Bool),
 let q:=lC out l c a
 (q.2=false↔a=false∧∀ x∈l,x∈out)∧(q.2=true→((a=true∧q.1=c)∨(q.1∈l∧q.1∉out))∧(a=true→bytesLess c q.1=false)∧∀ x∈l,x∉out→bytesLess x q.1=false)
 | [],c,a=>by
  simp only[lC]
  refine⟨by simp,fun h=>⟨.inl ⟨h,by trivial⟩,fun _=>vR c,fun x m=>(by cases m)⟩⟩
 | s::l,c,a=>by
  simp only[lC]
  by_cases h1:dg out s=true
  ·have m:=(eD _ _).1 h1
   simp only[h1,zax,zbi,zab,if_false]
   obtain⟨k1,k2⟩:=sj out l c a
   refine⟨k1.trans ⟨fun h=>⟨h.1,fun x hx=>?_⟩,fun h=>⟨h.1,fun x hx=>h.2 x (zav _ hx)⟩⟩,fun h=>?_⟩
   ·rcases zan.1 hx with rfl | hx
    ·exact m
    ·exact h.2 x hx
   ·obtain⟨g1,g2,g3⟩:=k2 h
    refine⟨g1.imp_right fun h=>⟨zav _ h.1,h.2⟩,g2,fun x hx hn=>?_⟩
    rcases zan.1 hx with rfl|hx
    ·exact absurd m hn
    ·exact g3 x hx hn
  ·have m:s∉out:=fun m=>h1 ((eD _ _).2 m)
   have qa:dg out s=false:=by simpa using h1
   by_cases h2:(!a ||bytesLess s c)=true
   ·simp only [qa,h2,zaB,Bool.and_self,if_true]
    obtain⟨k1,k2⟩:=sj out l s true
    refine⟨⟨fun h=>absurd (k1.1 h).1 (by simp),fun h=>absurd (h.2 s zaD) m⟩,fun h=>?_⟩
    obtain⟨g1,g2,g3⟩:=k2 h
    have g4:=g2 rfl
    refine⟨.inr ?_,fun ha=>?_,fun x hx hn=>?_⟩
    ·rcases g1 with ⟨_,e⟩ | g1
     ·rw[e];exact⟨zaD,m⟩
     ·exact⟨zav _ g1.1,g1.2⟩
    ·have h3:bytesLess s c=true:=by simpa [ha]using h2
     cases hh:bytesLess c (lC out l s true).1
     ·rfl
     ·have:=Cf _ _ _ h3 hh;rw[g4]at this;cases this
    ·rcases zan.1 hx with rfl | hx
     ·exact g4
     ·exact g3 x hx hn
   ·have vh:(!a || bytesLess s c)=false:=by simpa using h2
    have ha:a=true:=by cases a<;>simp_all
    have h3:bytesLess s c=false:=by cases a<;>simp_all
    simp only[qa,vh,zaB,Bool.and_false,zab,if_false]
    obtain⟨k1,k2⟩:=sj out l c a
    refine⟨⟨fun h=>absurd (k1.1 h).1 (by simp[ha]),fun h=>absurd h.1 (by simp[ha])⟩,fun h=>?_⟩
    obtain⟨g1,g2,g3⟩:=k2 h
    refine⟨g1.imp_right fun h=>⟨zav _ h.1,h.2⟩,g2,fun x hx hn=>?_⟩
    rcases zan.1 hx with rfl|hx
    ·cases hh:bytesLess x (lC out l c a).1
     ·rfl
     ·have g4:=g2 ha
      rcases vS x c with e|e|e
      ·rw[h3]at e;cases e
      ·subst e;rw[g4]at hh;cases hh
      ·have:=Cf _ _ _ e hh;rw[g4]at this;cases this
    ·exact g3 x hx hn
theorem uP (l:List aA) : ∀ (n:Nat) (out:List aA),yJ out→(∀ x∈out,x∈l)→(∀ x∈out,∀ y∈l,y∉out→bytesLess x y=true)→
 yJ (nR l n out)∧(∀ x∈nR l n out,x∈l)∧(∀ x∈out,x∈nR l n out)∧((∀ x∈l,x∈nR l n out)∨(nR l n out).length=out.length+n)
 | 0,out,h1,h2,h3=>⟨h1,h2,fun x m=>m, .inr rfl⟩
 | n+1,out,h1,h2,h3=>by
  simp only[nR,PB]
  obtain⟨k1,k2⟩:=sj out l [] false
  cases hq:(lC out l [] false).2
  ·simp only [zab,if_false]
   obtain⟨g1,g2,g3,g4⟩:=uP l n out h1 h2 h3
   exact⟨g1,g2,g3, .inl fun x m=>g3 x ((k1.1 hq).2 x m)⟩
  ·simp only [if_true]
   obtain⟨g1,_,g3⟩:=k2 hq
   have g1:(lC out l [] false).1∈l∧(lC out l [] false).1∉out:=by
    rcases g1 with ⟨h,_⟩|g1
    ·cases h
    ·exact g1
   generalize (lC out l [] false).1=c at g1 g3
   obtain⟨r1,r2,r3,r4⟩:=uP l n (out++ [c])
    (by
     refine List.pairwise_append.2 ⟨h1,by simp,fun x hx y hy=>?_⟩
     have:y=c:=by simpa using hy
     subst this
     exact h3 x hx y g1.1 g1.2)
    (fun x hx=>by
     rcases zaw.1 hx with hx|hx
     ·exact h2 x hx
     ·have:x=c:=by simpa using hx
      subst this;exact g1.1)
    (fun x hx y hy hn=>by
     have hyo:y∉out:=fun m=>hn (zaP _ m)
     have hyc:y≠c:=fun e=>hn (za3 _ (by simp[e]))
     rcases zaw.1 hx with hx|hx
     ·exact h3 x hx y hy hyo
     ·have:x=c:=by simpa using hx
      subst this
      rcases vS x y with h|h|h
      ·exact h
      ·exact absurd h.symm hyc
      ·rw[g3 y hy hyo]at h;cases h)
   refine⟨r1,r2,fun x m=>r3 x (zaP _ m),r4.imp_right fun h=>?_⟩
   rw[h];simp;omega
theorem uf : ∀ (a l:List aA),a.Nodup→(∀ x∈a,x∈l)→a.length≤l.length
 | [],l,_,_=>zar _
 |x::a,l,h,hm=>by
  obtain⟨h1,h2⟩:=zbD.1 h
  have m:=hm x zaD
  have:=uf a (l.erase x) h2 fun y hy=>(List.mem_erase_of_ne (fun e=>h1 (by rw[← e];exact hy))).2 (hm y (zav _ hy))
  rw[List.length_erase_of_mem m]at this
  have:0<l.length:=List.length_pos_of_mem m
  simp only[zal];omega
theorem sk {l:List aA} (h:yJ l):l.Nodup:=h.imp fun {a b} h e=>by subst e;rw[vR]at h;cases h
theorem jk (l:List aA):yJ (jc l)∧∀ x,x∈jc l↔x∈l:=by
 obtain⟨h1,h2,h3,h4⟩:=uP l l.length [] List.Pairwise.nil (fun x m=>(by cases m)) (fun x m=>(by cases m))
 refine⟨h1,fun x=>⟨h2 x,fun m=>?_⟩⟩
 rcases h4 with h4|h4
 ·exact h4 x m
 ·refine Classical.byContradiction fun hn=> ?_
  have:=uf (x::nR l l.length []) l (zbD.2 ⟨hn,sk h1⟩) fun y hy=>by
   rcases zan.1 hy with rfl|hy
   ·exact m
   ·exact h2 y hy
  simp only[zal,h4,zaE]at this
  omega
theorem I1 (zs:List aA) (hs:zs.Pairwise fun a b=>bytesLess b a=false) : ∀ m,m≤zs.length→
 yJ (Lib.compactUpTo zs.toArray m)∧(∀ x,x∈Lib.compactUpTo zs.toArray m↔x∈zs.take m):=by
 intro m
 induction m with
 |zero=>intro _;exact⟨by simp[Lib.compactUpTo,yJ],fun x=>by simp[Lib.compactUpTo]⟩
 | succ m ih=>
  intro hm
  obtain⟨h1,h2⟩:=ih (by omega)
  have hz:zs[m]? = some zs[m]:=zak (by omega)
  have e1:zs.toArray[m]! = zs[m]:=by simp[hm,Nat.lt_of_succ_le hm]
  have et:zs.take (m+1)=zs.take m++ [zs[m]]:=by rw[List.take_add_one,hz];rfl
  rw[Lib.compactUpTo_succ,e1,et]
  by_cases hk:Lib.keeps zs.toArray m=true
  ·rw [if_pos hk]
   refine⟨List.pairwise_append.2 ⟨h1,by simp,fun x hx y hy=>?_⟩,fun x=>by rw[zaw,zaw,h2]⟩
   have hy:y=zs[m]:=by simpa using hy
   subst hy
   have hx:=(h2 x).1 hx
   simp only[Lib.keeps,decide_eq_true_eq]at hk
   rcases hk with rfl|hk
   ·simp at hx
   ·have Hl:m - 1<zs.length:=by omega
    have e2:zs.toArray[m - 1]! = zs[m - 1]:=by simp[Hl]
    rw[e1,e2]at hk
    have h0:0<m:=by
     cases m with
     |zero=>simp at hx
     |succ m=>omega
    have hle : ∀ i j (hi:i<zs.length) (hj:j<zs.length),i<j→bytesLess zs[j] zs[i] = false:=fun i j hi hj TR=>List.pairwise_iff_getElem.1 hs i j hi hj TR
    have g1:bytesLess zs[m] zs[m - 1] = false:=hle (m - 1) m Hl (by omega) (by omega)
    have g2:bytesLess zs[m - 1] zs[m] = true:=by
     rcases vS zs[m - 1] zs[m]with h|h|h
     ·exact h
     ·exact absurd h.symm hk
     ·rw[g1]at h;cases h
    obtain⟨i,hi,rfl⟩:=List.mem_iff_getElem.1 hx
    rw[zbw]at hi
    rw[List.getElem_take]
    by_cases rP:i=m - 1
    ·subst rP;exact g2
    ·have g3:=hle i (m - 1) (by omega) Hl (by omega)
     rcases vS zs[i] zs[m - 1]with h|h|h
     ·exact Cf _ _ _ h g2
     ·rw[h];exact g2
     ·rw[g3]at h;cases h
  ·rw [if_neg hk]
   simp only[zaA]
   refine⟨h1,fun x=>?_⟩
   rw[h2]
   simp only[Lib.keeps,decide_eq_true_eq,not_or,ne_eq,Decidable.not_not]at hk
   obtain⟨k1,k2⟩:=hk
   have Hl:m - 1<zs.length:=by omega
   have e2:zs.toArray[m - 1]! = zs[m - 1]:=by simp[Hl]
   rw[e1,e2]at k2
   simp only[zaw,zbd]
   constructor
   ·exact .inl
   ·rintro(h | rfl)
    ·exact h
    ·rw [k2]
     exact List.mem_iff_getElem.2 ⟨m - 1,by rw[zbw];omega,by rw[List.getElem_take]⟩
theorem Ei (l:List aA):(kO l).Pairwise fun a b=>bytesLess b a=false:=by
 have h:=List.pairwise_mergeSort (le:=fun x y:aA=>decide (x≤y)) (fun a b c h1 h2=>?_) (fun a b=>?_) l
 ·refine h.imp fun {a b} h=> ?_
  rw[decide_eq_true_eq]at h
  show Go.Op.bytesLess b a=false
  rw[Go.Proofs.bytesLess_eq]
  simpa using h
 ·rw [decide_eq_true_eq]at h1 h2 ⊢
  exact List.le_trans h1 h2
 ·have:=List.le_total a b
  simpa using this
theorem yK (l:List aA):Lib.compact (kO l)=jc l:=by
 obtain⟨h1,h2⟩:=I1 (kO l) (Ei l) (kO l).length (zag _)
 obtain⟨h3,h4⟩:=jk l
 refine uO h1 h3 fun x=>?_
 rw[h4]
 refine(h2 x).trans ?_
 rw[List.take_length]
 exact(List.mergeSort_perm _ _).mem_iff
set_option maxRecDepth 8000
open Go.Proofs
def kr:List Sm→List aA
 | []=> []
 |v::l=>if v.kind==4 then v.proc::kr l else kr l
theorem Ae : ∀ l:List Sm,(kr l).length≤l.length
 | []=>zag _
 |v::l=>by
  simp only[kr]
  have:=Ae l
  split<;>simp<;>omega
def Pc.calls (f:Pc):List aA:=jc (kr (Sm.cP f.body))
theorem yL {name:aA} : ∀ {l:List Pc} {k:Nat} {f:Pc},iB name l=some f→∃ j,l[j]? = some f∧kX (fun f:Pc=>f.name==name) (k:Int) l=((k+j:Nat):Int)
 | g::l,k,f,h=>by
  simp only[iB]at h
  cases e:(g.name==name)
  ·rw [e]at h
   simp only[zab,if_false]at h
   obtain⟨j,h1,h2⟩:=yL (k:=k+1) h
   refine⟨j+1,by simpa using h1, ?_⟩
   simp only[kX,e,zab,if_false]
   rw[show((k:Int)+1)=((k+1:Nat):Int)from rfl,h2]
   congr 1;omega
  ·rw [e]at h
   simp only[if_true,Option.some.injEq]at h
   exact⟨0,by simpa using h,by simp[kX,e]⟩
theorem Wz {p:Pg} (h:p.iJ) {name:aA} {f:Pc} (hf:p.find name=some f) (s:St):ay Tryz.prog 165 [.dr (gK p) 0, .str name] s (.slice .shared 1 (f.calls.map encStr)) s:=by
 refine ay.pure ?_ (by simp[D.bg,D.ok,wE]) (by simp only[D.ok,Tag.ok,dd];rfl) s
 obtain⟨oS,rl,vK⟩:=h.procs
 obtain⟨j,hj,rO⟩:=yL (k:=0) hf
 have rO:p.at name=((j:Nat):Int):=by unfold Pg.at;simpa using rO
 have vQ:=fun s=>OZ (p:=p) (by omega) name s
 rw[rO]at vQ
 obtain⟨it,vO,B9⟩:=Sk hj (by omega)
 have Zq:it.length≤900000:=by
  have e:=congrArg List.length vO
  obtain⟨a,b,e',_,_,e3,e4⟩:=(o5 p).2 j f hj
  have e5:=o6 p
  have e6:=congrArg List.length e3
  rw[e4]at e5
  simp only[zat,zai]at e e5 e6
  omega
 unfold S0
 obtain⟨fn,xw,Ad⟩:=BB.h
 refine ay.intro ⟨fn,xw,Ad⟩ (za7 rfl) fun B hB=>?_
 generalize hQ:gy (⟨[],[]⟩:St).av.length (⟨[],[]⟩:St).aw.length _ _ (⟨[],[]⟩:St)=Q
 have⟨hF,hP,hZ,gA⟩:=bD
 refine Sem.fY ?_
 repeat' (first
 |simp only[go_sem,hF,hP,hZ,gA]
 |(with_reducible refine az hQ ?_;exact aR))
 refine Sem.fY ?_
 repeat' (first
 |simp only[go_sem,hF,hP,hZ,gA]
 |(with_reducible refine az hQ ?_;exact aR))
 refine Sem.fY ?_
 repeat' (first
 |simp only[go_sem,hF,hP,hZ,gA]
 |(with_reducible refine CU (vQ _) ?_)
 |(with_reducible refine CU (B9 _) ?_)
 |(with_reducible refine az hQ ?_;exact aR))
 refine aY.ko 5 1 rfl ?_
 simp only[go_sem,hF,hP,hZ,gA]
 obtain⟨R,hR⟩ : ∃ R,R=kr (Sm.cP f.body):=⟨_,rfl⟩
 have hRl:R.length≤900000:=by rw[hR, ← vO];have:=Ae (it.map Im.s);rw[zat]at this;omega
 refine cr 0 1 (aY.ind (ι:=List Im×Nat×List aA×Nat) (fun i=>it.drop i.2.1=i.1∧i.2.2.1++kr (i.1.map Im.s)=R∧i.2.2.2=i.2.2.1.length) (fun i=>i.1.length)
  (fun i=> [(5, .slice (.tok 0) 1 (i.2.2.1.map encStr)),(12, .slice .shared 17 (it.map eA)),(13, .int .i64 (it.length:Int)),(14, .int .i64 (i.2.1:Int))]) (fun i=>⟨[],[some i.2.2.2]⟩) ?_ (it,0,[],0) ⟨rfl,by rw[hR,vO];rfl,rfl⟩)
 rintro⟨rest,k,out,n⟩ ⟨h1,h2,h3⟩ IH
 dsimp only at h1 h2 h3
 subst h3
 have je:out.length≤900000:=by have:=congrArg List.length h2;rw[zai]at this;omega
 cases rest with
 | cons a rest=>
  obtain⟨hP,g2,hF,g4⟩:=drop_cons h1
  have bH:k<4611686018427387904:=by omega
  have hZ:(out.length+1)*17≤aT:=by unfold aT;omega
  simp only[zaf,kr]at h2
  rcases zad (a.s.kind==4)with c1|c1
  ·simp only [c1,if_true]at h2
   repeat' (first
 |simp only[go_sem,hF,hP,hZ,gA,c1]
 | (with_reducible refine az hQ ?_;exact aR))
   refine cD 0 1 ?_ ?_ (IH (rest,k+1,out++ [a.s.proc],out.length+1) ⟨g2,by rw[← h2];simp,by simp⟩ (zaa _))
   ·(simp only[go_sem,hF,hP,hZ,gA,aC bH,zah,zaf,zaj,encStr];try exact bd)
   ·(simp only[go_sem,hF,hP,hZ,gA,aC bH,zah,zaf,zaj,encStr];try exact bd)
  ·simp only [c1,zab,if_false]at h2
   repeat' (first
 |simp only[go_sem,hF,hP,hZ,gA,c1]
 | (with_reducible refine az hQ ?_;exact aR))
   refine cD 0 1 ?_ ?_ (IH (rest,k+1,out,_) ⟨g2,h2,rfl⟩ (zaa _))
   ·(simp only[go_sem,hF,hP,hZ,gA,aC bH];try exact bd)
   ·(simp only[go_sem,hF,hP,hZ,gA,aC bH];try exact bd)
 |nil=>
  have hF:=drop_nil h1
  simp only[zaj,kr,zaA]at h2
  subst h2
  have Cd:(kO out).length=out.length:=List.length_mergeSort out
  repeat' (first
 |simp only[go_sem,hF,hP,hZ,gA]
 |(with_reducible refine az hQ ?_;exact aR))
  refine Sem.seq (Sem.sort (k:=5) (t:=0) (l:=out) hB (by decide) (by decide) (by decide) rfl rfl (by omega) ?_)
  show Sem _ _ _ _ _ _ _
  refine Sem.seq (Sem.compact (k:=5) (t:=0) (l:=kO out) hB (by decide) rfl (by rw[Cd];rfl) (by rw[Cd];omega) ?_)
  rw[yK]
  have aeH:f.calls=jc out:=by unfold Pc.calls;rw[hR]
  rw[aeH]at hQ
  refine gu (ac:= .ret) (Q:=Q) (tm:= [(32, .slice (.tok 0) 1 ((jc out).map encStr)),(4, .slice (.tok 0) 1 ((jc out).map encStr))]) (s:=⟨[],[some (jc out).length]⟩) ?_
  repeat' (first
 |simp only[go_sem,hF,hP,hZ,gA]
 |(with_reducible refine az hQ ?_;exact aR))
theorem Ej {name:aA} : ∀ {l:List Pc},name∈l.map (·.name)→∃ f,iB name l=some f
 | f::l,h=>by
  simp only[iB]
  cases e:(f.name==name)
  ·simp only [zab,if_false]
   refine Ej ?_
   rcases zan.1 h with h|h
   ·rw[h]at e;simp at e
   ·exact h
  ·exact⟨f,rfl⟩
theorem Ek {p:Pg} {f:Pc} {procs:List aA} : ∀ {l:List Sm},uN p f procs l=none→∀ v∈l,v.known p f procs=true
 | v::l,h,w,m=>by
  simp only[uN]at h
  split at h
  ·rename_i e
   rcases zan.1 m with rfl|m
   ·exact e
   ·exact Ek h w m
  ·cases h
theorem El {p:Pg} {procs:List aA} : ∀ {l:List Pc},((pS p procs l).1==0)=true→∀ f∈l,dG (p.globals++f.own)=false∧∀ v∈Sm.cP f.body,v.known p f procs=true
 | g::l,h,f,m=>by
  simp only[pS]at h
  split at h
  ·cases h
  ·rename_i e
   split at h
   ·cases h
   ·rename_i e2
    rcases zan.1 m with rfl|m
    ·exact⟨by simpa using e,Ek e2⟩
    ·exact El h f m
theorem AT {p:Pg} (h:(p.scope.1==0)=true):dG p.globals=false∧dG p.pn=false∧p.nB=false∧∀ f∈p.procs,dG (p.globals++f.own)=false∧∀ v∈Sm.cP f.body,v.known p f p.pn=true:=by
 unfold Pg.scope at h
 split at h
 ·split at h
  ·cases h
  ·rename_i e
   simp only[zay,not_or,zbk]at e
   exact⟨e.1,e.2.1,e.2.2,El h⟩
 ·cases h
theorem uQ {x:aA} : ∀ {l:List Sm},x∈kr l↔∃ v∈l,v.kind=4∧v.proc=x
 | []=>by simp[kr]
 | v::l=>by
  simp only[kr]
  cases e:(v.kind==4)
  ·have:v.kind≠4:=by simpa using e
   simp[this,uQ (l:=l)]
  ·have:v.kind=4:=by simpa using e
   simp only[if_true,zan,uQ (l:=l),exists_eq_or_imp,this,true_and]
   constructor
   ·rintro(h | h)
    ·exact .inl h.symm
    ·exact .inr h
   ·rintro(h | h)
    ·exact .inl h.symm
    ·exact .inr h
theorem yM {f:Pc} {x:aA} : x∈f.calls↔∃ v∈Sm.cP f.body,v.kind=4∧v.proc=x:=by
 unfold Pc.calls;rw[(jk _).2,uQ]
theorem uR {p:Pg} (h:(p.scope.1==0)=true) {f:Pc} (hf:f∈p.procs) {x:aA} (m:x∈f.calls) : ∃ g,p.find x=some g:=by
 obtain⟨v,hv,h4,rfl⟩:=yM.1 m
 have hk:=((AT h).2.2.2 f hf).2 v hv
 simp only[Sm.known,h4,zam,zay]at hk
 rcases hk.2 with h|⟨_,h⟩
 ·simp at h
 ·exact Ej ((eD _ _).1 h)
def mh (p:Pg) (x:aA):List aA:=match p.find x with|some f=>f.calls|none=> []
def qs (out:List aA):List aA→List aA
 | []=>out
 |x::l=>qs (kI out x) l
def k8 (p:Pg):Nat→Nat→List aA→List aA
 | 0,_,out=>out
 |n+1,i,out=>match out[i]? with
  |some x=>k8 p n (i+1) (qs out (mh p x))
  |none=>out
def Pg.work (p:Pg) (name:aA):List aA:=k8 p (p.procs.length+1) 0 [name]
def Good (p:Pg) (out:List aA):Prop:=out.Nodup∧∀ x∈out,∃ f,p.find x=some f
theorem Good.len {p:Pg} {out:List aA} (h:Good p out):out.length≤p.procs.length:=by
 have:=uf out p.pn h.1 fun x m=>by
  obtain⟨f,hf⟩:=h.2 x m
  obtain⟨h1,h2⟩:=oO hf
  rw[← h2];exact zaL h1
 simpa[Pg.pn]using this
theorem Good.spk {p:Pg} {out:List aA} (h:Good p out) {x:aA} (hx : ∃ f,p.find x=some f):Good p (kI out x):=by
 unfold kI
 split
 ·exact h
 ·rename_i e
  have:x∉out:=fun m=>e ((eD _ _).2 m)
  refine⟨zbm.2 ⟨h.1,by simp,fun a ha b hb e'=>?_⟩,fun y hy=>?_⟩
  ·have hbx:b=x:=by simpa using hb
   rw[e',hbx]at ha;exact this ha
  ·rcases zaw.1 hy with hy | hy
   ·exact h.2 y hy
   ·have:y=x:=by simpa using hy
    subst this;exact hx
theorem Good.add {p:Pg} : ∀ {l out:List aA},Good p out→(∀ x∈l,∃ f,p.find x=some f)→Good p (qs out l)
 | [],out,h,_=>h
 |x::l,out,h,hx=>Good.add (l:=l) (out:=kI out x) (Good.spk h (hx x zaD)) fun y m=>hx y (zav _ m)
def tgB:Bool→Tag
 |true=> .tok 0
 |false=> .full
def tkB:Bool→Nat→List (Option Nat)
 |true,n=> [some n]
 |false,_=> []
def wO:AI→AI
 | .op d g (.mS z k n ps)=> .op d g (.sv z k n ps)
 |a=>a
section
variable {P:Program}
theorem I2 {nt:Nat} {ops:Array Oper} {i:Nat} {o:Oper} {ai:AI} (hi:ops[i]? = some o) (hc:cI P nt ops o=some ai)
 {M:Map} {s:St} {w:World} {tm:Tm} {act:Act} (r:Rel M s w) (iM:Laid M s w) (ht:kA M s tm act.tmps) {K':Tm→St→Prop} (h:gk P [wO ai] K' tm s)
 {K:Act→World→Prop} {Q:Exit→Act→World→Prop}
 (hK : ∀ d v s1 w1 M1,K' (tm.put ai.dst d) s1→Ext M s w M1 s1 w1→Rel M1 s1 w1→RD M1 s1 d v→K (act.put o.dst v) w1):wpOp P ops Q i K act w:=by
 by_cases hb : ∃ d g z k n ps,ai = .op d g (.mS z k n ps)
 ·obtain⟨d0,g0,z,k,n,ps,rfl⟩:=hb
  obtain⟨g,hg,_,hb⟩:=yg hc
  rw[q7 hb]at hK
  simp only[wpOp,hi]
  have skip:K' (tm.put o.dst (.tuple [])) s→K (act.put o.dst Go.undef) w:=fun hk=>hK _ _ _ _ _ hk (Ext.refl M s w) r .undef
  have hd:=q7 hb
  simp only[AI.dst]at hd
  subst hd
  have l9:A7 P o=some (.mS z k n ps)∧g0=g:=by
   unfold qw at hb
   split at hb
   ·split at hb
    ·obtain⟨xs,_,h⟩:=map_some hb;cases h
    ·cases hb
   ·obtain⟨xs,_,h⟩:=map_some hb;cases h
   ·split at hb
    ·cases hb
    ·split at hb
     ·rename_i l9
      simp only[Option.some.injEq,AI.op.injEq,true_and]at hb
      obtain⟨h1,h2⟩:=hb
      split at h2
      ·cases h2
      ·cases h2;exact⟨l9,h1.symm⟩
     ·rename_i ao dL l9
      simp only[Option.some.injEq,AI.op.injEq,true_and]at hb
      obtain⟨h1,h2⟩:=hb
      subst h2
      exact⟨l9,h1.symm⟩
     ·cases hb
  obtain⟨l9,rfl⟩:=l9
  simp only[wO,gk]at h
  rcases iZ hg ht h with ⟨hw,hA⟩|⟨hw,hB⟩
  ·simp only [hw,if_true]
   left
   split at hA
   ·rename_i d s' oT
    obtain⟨v,w',M',da,r',hv,e'⟩:=wh l9 r ht oT
    unfold Oper.wp
    rcases da with da|⟨da,rfl⟩
    ·rw [da,Oper.upon_value]
     exact hK _ _ _ _ _ hA e' r' hv
    ·rw [da,Oper.upon_skip]
     exact hK _ _ _ _ _ hA e' r' hv
   ·exact hA.elim
  ·simp only [hw]
   exact skip hB
 ·have hs:wO ai=ai:=by
   unfold wO
   split
   ·rename_i d g z k n ps;exact absurd ⟨d,g,z,k,n,ps,rfl⟩ hb
   ·rfl
  rw[hs]at h
  exact qF hi hc r iM ht h hK
theorem WA {a:AI} {r:List AI} {K:Tm→St→Prop} {tm:Tm} {s:St} (h:gk P (a::r) K tm s):gk P [a] (gk P r K) tm s:=by
 cases a<;>exact h
theorem Em {B:ey} {nt:Nat} {ops:Array Oper} {Q:Exit→Tm→St→Prop} : ∀ (l:List Nat) (ol:List Oper) (is:List AI),l.map (ops[·]?)=ol.map some→nY P nt ops ol=some is→
 ∀ (tm:Tm) (s:St) (act:Act) (w:World),gk P (is.map wO) (Q .normal) tm s→Holds B nt tm s act w→wpOps P ops (km B nt Q) l act w
 | [],[],is,_,hc,tm,s,act,w,h,hh=>by cases hc;exact⟨tm,s,h,hh⟩
 | [],_::_,_,hl,_,_,_,_,_,_,_=>by simp at hl
 |_::_,[],_,hl,_,_,_,_,_,_,_=>by simp at hl
 | i::l,o::ol,is,hl,hc,tm,s,act,w,h,hh=>by
  simp only[zaf,List.cons.injEq]at hl
  obtain⟨hi,hl⟩:=hl
  unfold nY at hc
  split at hc
  ·rename_i ai Ny h1 h2
   cases hc
   obtain⟨M,e,r,ht,hn,hd⟩:=hh
   have oK:=sF h1
   have hdd:=oX h1
   rw[zaf]at h
   have key:=I2 (K:=fun act w=>wpOps P ops (km B nt Q) l act w) (Q:=km B nt Q) hi h1 r (B.laid.ext e) ht (WA h) (fun d v s1 w1 M1 hk e1 r1 hv=>
    Em (Q:=Q) l ol Ny hl h2 _ _ _ _ hk (hdd ▸ Holds.put e ht hn hd oK e1 r1 hv))
   simpa only[wpOps,wpOp,hi]using key
  ·cases hc
theorem Sem.swap {B:ey} {nt:Nat} {is:List AI} {Q:Exit→Tm→St→Prop} {tm:Tm} {s:St} (h:eo P B nt (.run (is.map wO)) Q tm s):Sem P B nt (.run is) Q tm s:=by
 intro c hc act w hh
 obtain⟨id,ops,rfl,hi⟩:=jE hc
 refine wp_region ?_
 exact Em _ _ is (yd ops) hi tm s act w (ml h) hh
end
end Go.Abs
namespace Go.Abs
set_option maxRecDepth 8000
open Go.Proofs
theorem MI {l:List aA} (h:l.Nodup):kO l=jc l:=by
 refine uO ?_ (jk l).1 fun x=>?_
 ·have h1:=Ei l
  have h2:(kO l).Nodup:=(List.mergeSort_perm l _).nodup_iff.2 h
  refine(List.pairwise_and_iff.2 ⟨h1,h2⟩).imp fun {a b} Uw=>?_
  rcases vS a b with e|e|e
  ·exact e
  ·exact absurd e Uw.2
  ·rw[Uw.1]at e;cases e
 ·rw[(jk l).2];exact(List.mergeSort_perm l _).mem_iff
theorem yN {p:Pg} (kP:(p.scope.1==0)=true) : ∀ (n i:Nat) (out:List aA),Good p out→Good p (k8 p n i out)
 | 0,i,out,h=>h
 | n+1,i,out,h=>by
  simp only[k8]
  split
  ·rename_i x hx
   obtain⟨g,hg⟩:=h.2 x (zac hx)
   refine yN kP n _ _ (h.add fun y m=>?_)
   unfold mh at m
   rw[hg]at m
   exact uR kP (oO hg).1 m
  ·exact h
theorem wP {p:Pg} {name:aA} {f:Pc} (hf:p.find name=some f):Good p [name]:=
 ⟨by simp,fun x m=>by
  have:x=name:=by simpa using m
  subst this;exact⟨f,hf⟩⟩
theorem WB {p:Pg} (h:p.iJ) (kP:(p.scope.1==0)=true) {name:aA} {f:Pc} (hf:p.find name=some f) (s:St):ay Tryz.prog 124 [.dr (gK p) 0, .str name] s (.slice .shared 1 ((jc (p.work name)).map encStr)) s:=by
 refine ay.pure ?_ (by simp[D.bg,D.ok,wE]) (by simp only[D.ok,Tag.ok,dd];rfl) s
 obtain⟨oS,rl,vK⟩:=h.procs
 obtain⟨R,hR⟩ : ∃ R,p.work name=R:=⟨_,rfl⟩
 have hgR:Good p R:=hR ▸ yN kP _ _ _ (wP hf)
 rw[hR, ← MI hgR.1]
 unfold Pg.work at hR
 have hg0:Good p [name]:=wP hf
 have hRl:=hgR.len
 unfold S0
 obtain⟨fn,xw,Ad⟩:=xq.h
 refine ay.intro ⟨fn,xw,Ad⟩ (za7 rfl) fun B hB=>?_
 generalize hQ:gy (⟨[],[]⟩:St).av.length (⟨[],[]⟩:St).aw.length _ _ (⟨[],[]⟩:St)=Q
 have⟨hF,hP,hZ,gA⟩:=bD
 refine Sem.fY ?_
 repeat' (first
 |simp only[go_sem,hF,hP,hZ,gA]
 |(with_reducible first|refine bj fun hc=>?_|refine bk fun hc=>?_|refine bl (fun hc=>?_) fun hc=>?_)<;>(try simp only[hc,bs,↓reduceIte]at h)<;>try simp only[hc]
 |((with_reducible refine az hQ ?_);exact dv)
 |(cases h;done))
 refine Sem.seq (Sem.swap ?_)
 simp only[zaf,zaj,wO]
 repeat' (first
 |simp only[go_sem,hF,hP,hZ,gA]
 |(with_reducible first|refine bj fun hc=>?_|refine bk fun hc=>?_|refine bl (fun hc=>?_) fun hc=>?_)<;>(try simp only[hc,bs,↓reduceIte]at h)<;>try simp only[hc]
 |((with_reducible refine az hQ ?_);exact dv)
 |(cases h;done))
 refine Sem.fY ?_
 repeat' (first
 |simp only[go_sem,hF,hP,hZ,gA]
 |(with_reducible first|refine bj fun hc=>?_|refine bk fun hc=>?_|refine bl (fun hc=>?_) fun hc=>?_)<;>(try simp only[hc,bs,↓reduceIte]at h)<;>try simp only[hc]
 |((with_reducible refine az hQ ?_);exact dv)
 |(cases h;done))
 refine cr 0 1 (aY.ind (ι:=Nat×Nat×List aA×Nat) (fun i=>k8 p i.1 i.2.1 i.2.2.1=R∧Good p i.2.2.1∧i.1+i.2.1=p.procs.length+1∧i.2.2.2=i.2.2.1.length) (fun i=>i.1)
  (fun i=> [(0, .dr (gK p) 0),(5, .slice (.tok 0) 1 (i.2.2.1.map encStr)),(6, .int .i64 (i.2.1:Int))]) (fun i=>⟨[],[some i.2.2.2]⟩) ?_ (p.procs.length+1,0,[name],1) ⟨hR,hg0,rfl,rfl⟩)
 rintro⟨n,i,out,no⟩ ⟨h1,h2,h3,h4⟩ IH
 dsimp only at h1 h2 h3 h4
 subst h4
 have je:=h2.len
 cases hx:out[i]? with
 | none=>
  have hF:decide ((i:Int)<(out.length:Int))=false:=by have:=List.getElem?_eq_none_iff.1 hx;simp;omega
  have:R=out:=by
   cases n with
   |zero=>simpa[k8]using h1.symm
   |succ n=>simp only[k8,hx]at h1;exact h1.symm
  subst this
  repeat' (first
 |simp only[go_sem,hF,hP,hZ,gA]
 |(with_reducible first|refine bj fun hc=>?_|refine bk fun hc=>?_|refine bl (fun hc=>?_) fun hc=>?_)<;>(try simp only[hc,bs,↓reduceIte]at h)<;>try simp only[hc]
 |((with_reducible refine az hQ ?_);exact dv)
 |(cases h;done))
  refine Sem.seq (Sem.sort (k:=5) (t:=0) (l:=R) hB (by decide) (by decide) (by decide) rfl rfl (by omega) ?_)
  refine gu (ac:=Q0F) (Q:=Q) (tm:= [(5, .slice (.tok 0) 1 ((kO R).map encStr))]) (s:=⟨[],[some R.length]⟩) ?_
  repeat' (first
 |simp only[go_sem,hF,hP,hZ,gA]
 |(with_reducible first|refine bj fun hc=>?_|refine bk fun hc=>?_|refine bl (fun hc=>?_) fun hc=>?_)<;>(try simp only[hc,bs,↓reduceIte]at h)<;>try simp only[hc]
 |((with_reducible refine az hQ ?_);exact dv)
 |(cases h;done))
 |some x=>
  have oV:=(zae.1 hx).1
  have hF:decide ((i:Int)<(out.length:Int))=true:=by simp;omega
  have rP:i<4611686018427387904:=by omega
  cases n with
  |zero=>omega
  |succ n=>
  simp only[k8,hx]at h1
  obtain⟨g,Cg⟩:=h2.2 x (zac hx)
  have Zz:=(oO Cg).1
  have UI:=fun s=>Wz h Cg s
  have hcn:mh p x=g.calls:=by unfold mh;rw[Cg]
  rw[hcn]at h1
  have hth : ∀ y∈g.calls,∃ f,p.find y=some f:=fun y m=>uR kP Zz m
  have aie:g.calls.length≤p.procs.length:=Good.len ⟨sk (jk _).1,hth⟩
  obtain⟨W,hW⟩ : ∃ W,qs out g.calls=W:=⟨_,rfl⟩
  rw[hW]at h1
  repeat' (first
 |simp only[go_sem,hF,hP,hZ,gA,hx]
 |(with_reducible refine CU (UI _) ?_)
 |(with_reducible first|refine bj fun hc=>?_|refine bk fun hc=>?_|refine bl (fun hc=>?_) fun hc=>?_)<;>(try simp only[hc,bs,↓reduceIte]at h)<;>try simp only[hc]
 |((with_reducible refine az hQ ?_);(try cases h);simp only[bt,bx,bY,bZ,go_sem,hF,hP,hZ,gA,hx];try exact cB)
 | (cases h;done))
  refine cr 0 1 (aY.ind (ι:=List aA×Nat×List aA×Nat) (fun j=>g.calls.drop j.2.1=j.1∧qs j.2.2.1 j.1=W∧Good p j.2.2.1∧j.2.2.2=j.2.2.1.length) (fun j=>j.1.length)
   (fun j=> [(0, .dr (gK p) 0),(5, .slice (.tok 0) 1 (j.2.2.1.map encStr)),(6, .int .i64 (i:Int)),(22, .slice .shared 1 (g.calls.map encStr)),(23, .int .i64 (g.calls.length:Int)),(24, .int .i64 (j.2.1:Int))]) (fun j=>⟨[],[some j.2.2.2]⟩) ?_ (g.calls,0,out,out.length) ⟨rfl,hW,h2,rfl⟩)
  clear hW
  rintro⟨rest,k,bV,n'⟩ ⟨j1,j2,j3,j4⟩ UF
  dsimp only at j1 j2 j3 j4
  subst j4
  have aif:=j3.len
  cases rest with
  |nil=>
   have ZA:=drop_nil j1
   simp only[qs]at j2
   subst j2
   repeat' (first
 |simp only[go_sem,hF,hP,hZ,gA,ZA]
 |(with_reducible first|refine bj fun hc=>?_|refine bk fun hc=>?_|refine bl (fun hc=>?_) fun hc=>?_)<;>(try simp only[hc,bs,↓reduceIte]at h)<;>try simp only[hc]
 |((with_reducible refine az hQ ?_);(try cases h);simp only[bt,bx,bY,bZ,go_sem,hF,hP,hZ,gA,ZA];try exact cB)
 | (cases h;done))
   refine cD 0 1 ?_ ?_ (IH (n,i+1,bV,bV.length) ⟨h1,j3,by dsimp only;omega,rfl⟩ (zaa _))
   ·(simp only[go_sem,hF,hP,hZ,gA,aC rP];try exact bd)
   ·(simp only[go_sem,hF,hP,hZ,gA,aC rP];try exact bd)
  | cons y rest=>
   obtain⟨iC,JD,mJ,jg4⟩:=drop_cons j1
   have oZ:k<4611686018427387904:=by omega
   have hZ:(bV.length+1)*17≤aT:=by unfold aT;omega
   have En:=fun g s=>iz (l:=bV) (by omega) y g s
   have hy:=hth y (zac iC)
   have ra:=j3.spk hy
   simp only[qs]at j2
   rcases zad (dg bV y)with c1|c1
   ·simp only [kI,c1,if_true]at j2
    repeat' (first
 |simp only[go_sem,hF,hP,hZ,gA,mJ,iC,c1]
 |(with_reducible refine CU (En _ _) ?_)
 |(with_reducible first|refine bj fun hc=>?_|refine bk fun hc=>?_|refine bl (fun hc=>?_) fun hc=>?_)<;>(try simp only[hc,bs,↓reduceIte]at h)<;>try simp only[hc]
 |((with_reducible refine az hQ ?_);(try cases h);simp only[bt,bx,bY,bZ,go_sem,hF,hP,hZ,gA,mJ,iC,c1];try exact cB)
 | (cases h;done))
    refine cD 0 1 ?_ ?_ (UF (rest,k+1,bV,bV.length) ⟨JD,j2,j3,rfl⟩ (zaa _))
    ·(simp only[go_sem,hF,hP,hZ,gA,aC oZ];try exact bd)
    ·(simp only[go_sem,hF,hP,hZ,gA,aC oZ];try exact bd)
   ·simp only [kI,c1,zab,if_false]at j2 ra
    repeat' (first
 |simp only[go_sem,hF,hP,hZ,gA,mJ,iC,c1]
 |(with_reducible refine CU (En _ _) ?_)
 |(with_reducible first|refine bj fun hc=>?_|refine bk fun hc=>?_|refine bl (fun hc=>?_) fun hc=>?_)<;>(try simp only[hc,bs,↓reduceIte]at h)<;>try simp only[hc]
 |((with_reducible refine az hQ ?_);(try cases h);simp only[bt,bx,bY,bZ,go_sem,hF,hP,hZ,gA,mJ,iC,c1];try exact cB)
 | (cases h;done))
    refine cD 0 1 ?_ ?_ (UF (rest,k+1,bV++ [y],bV.length+1) ⟨JD,j2,ra,by simp⟩ (zaa _))
    ·(simp only[go_sem,hF,hP,hZ,gA,aC oZ,zah,zaf,zaj,encStr];try exact bd)
    ·(simp only[go_sem,hF,hP,hZ,gA,aC oZ,zah,zaf,zaj,encStr];try exact bd)
theorem Hv (name:aA) : ∀ l:List Pc,l.any (fun f=>f.name==name)=(iB name l).isSome
 | []=>rfl
 |f::l=>by
  simp only[List.any_cons,iB]
  cases e:(f.name==name)
  ·simp[Hv name l]
  ·simp
theorem S8 (name:aA) (f:Pc):ay Tryz.prog 164 ([.agg (bn f)]++ [.ptr 0 0]) ⟨[[.str name]],[]⟩ (.bool (f.name==name)) ⟨[[.str name]],[]⟩:=by
 show ay Tryz.prog 164 [.agg (bn f), .ptr 0 0] _ _ _
 refine ay.go zJ.h rfl fun B Q hB hQ=>?_
 have⟨hF,hP,hZ,gA⟩:=bD
 repeat' (first
 |simp only[go_sem,hF,hP,hZ,gA]
 |(with_reducible refine az hQ ?_;exact aR))
def Pg.qt (p:Pg) (name:aA):Option Pc:=if p.scope.1==0 then p.find name else none
theorem S9 {p:Pg} (h:p.iJ) (name:aA) (s:St):ay Tryz.prog 123 [.agg (bf p), .str name] s (.bool (p.qt name).isSome) s:=by
 refine ay.pure ?_ (by simp[D.bg,D.ok,fm]) rfl s
 obtain⟨oS,rl,vK⟩:=h.procs
 have rM:=fun s=>sX h s
 have hi:=fun {s:St} {o:Nat} (ho:s.av[o]? = some [.str name])=>yw (xG (l:=p.procs) (f:=164) (row:= [.str name]) (b:=fun f:Pc=>f.name==name) (by omega) rfl (by with_unfolding_all rfl) (fun x _=>S8 name x)) rfl (sf _) rfl ho
 have gB:=fun {s:St} {o:Nat} (ho:s.av[o]? = some [.str name])=>(show ay Tryz.prog 163 [.slice .shared 5 (p.procs.map bn), .fL 164 [.ptr o 0]] s (.bool (p.procs.any fun f:Pc=>f.name==name)) s from hi ho)
 simp only[Hv]at gB
 unfold Pg.qt Pg.find
 unfold S0
 rcases zad (p.scope.1==0)with b1|b1
 ·simp only [b1,if_true]
  refine ay.go tP.h rfl fun B Q hB hQ=>?_
  have⟨hF,hP,hZ,gA⟩:=bD
  repeat' (first
 |simp only[go_sem,hF,hP,hZ,gA,b1]
 |(with_reducible refine CU (rM _) ?_)
 |(with_reducible refine CU (gB (by with_unfolding_all rfl)) ?_)
 |(with_reducible refine az hQ ?_;exact aR))
 ·simp only [b1,zab,if_false,Option.isSome_none]
  refine ay.go tP.h rfl fun B Q hB hQ=>?_
  have⟨hF,hP,hZ,gA⟩:=bD
  repeat' (first
 |simp only[go_sem,hF,hP,hZ,gA,b1]
 |(with_reducible refine CU (rM _) ?_)
 |(with_reducible refine CU (gB (by with_unfolding_all rfl)) ?_)
 |(with_reducible refine az hQ ?_;exact aR))
def Pg.agK (p:Pg) (name:aA):List aA:=match p.qt name with|some f=>f.calls|none=> []
def Pg.aeI (p:Pg) (name:aA):List aA:=match p.qt name with|some _=>jc (p.work name)|none=> []
theorem Eo {p:Pg} {name:aA} {f:Pc} (h:p.qt name=some f):(p.scope.1==0)=true∧p.find name=some f:=by
 unfold Pg.qt at h
 split at h
 ·exact⟨by assumption,h⟩
 ·cases h
def nS (p:Pg) (out:List aA):List aA→List aA
 | []=>out
 |v::l=>nS p (if dg p.globals v then out++ [v]else out) l
def nT (p:Pg) (out:List aA):List Sm→List aA
 | []=>out
 |v::l=>nT p (nS p out v.said) l
def lD (p:Pg) (n:aA):List Sm:=match p.find n with|some f=>Sm.cP f.body|none=> []
def oC (p:Pg) (out:List aA):List aA→List aA
 | []=>out
 |n::l=>oC p (nT p out (lD p n)) l
theorem wQ (p:Pg) : ∀ (l out:List aA),out.length≤(nS p out l).length∧(nS p out l).length≤out.length+l.length
 | [],out=>⟨zag _,zag _⟩
 |v::l,out=>by
  simp only[nS]
  have h:=wQ p l (if dg p.globals v then out++ [v]else out)
  have h2:out.length≤(if dg p.globals v then out++ [v]else out).length∧(if dg p.globals v then out++ [v]else out).length≤out.length+1:=by split<;>simp
  simp only[zal]
  omega
def mK:List Sm→Nat
 | []=>0
 |v::l=>v.said.length+mK l
theorem yO : ∀ a b:List Sm,mK (a++b)=mK a+mK b
 | [],b=>by simp[mK]
 |v::a,b=>by simp only[zaJ,mK,yO a b];omega
theorem WC (v:Sm):v.said.length≤1+v.x.size+2*Ar.aM v.args:=by
 have : ∀ (l:List Ar) (out:List aA),(Ar.said out l).length≤out.length+2*Ar.aM l:=by
  intro l
  induction l with
  |nil=>intro out;simp[Ar.said]
  |cons a l ih=>
   intro out
   simp only[Ar.said,Ar.aM]
   refine zbb (ih _) ?_
   have:=fW a.x
   have:1≤a.x.size:=by obtain⟨_,_,_,_⟩:=a.x;simp[Ex.size]
   simp only[zai]
   split<;>simp<;>omega
 have h1:=this v.args (v.pR++v.x.names)
 have h2:=fW v.x
 have h4:v.pR.length≤1:=by unfold Sm.pR;split<;>simp
 simp only[zai]at h1
 unfold Sm.said
 omega
mutual
theorem PE : ∀ s:Sm,mK s.pre≤2*s.size
 |⟨id,kind,labels,name,proc,x,has,args,aV,aN⟩=>by
  simp only[Sm.pre,mK,yO,Sm.size]
  have h1:=WC ⟨id,kind,labels,name,proc,x,has,args,aV,aN⟩
  have h2:=sm aV
  have h3:=sm aN
  dsimp only at h1
  omega
theorem sm : ∀ l:List Sm,mK (Sm.cP l)≤2*Sm.aM l
 | []=>by simp[Sm.cP,mK,Sm.aM]
 |s::l=>by
  simp only[Sm.cP,yO,Sm.aM]
  have:=PE s;have:=sm l;omega
end
theorem wR (p:Pg) : ∀ (l:List Sm) (out:List aA),out.length≤(nT p out l).length∧(nT p out l).length≤out.length+mK l
 | [],out=>⟨zag _,zag _⟩
 |v::l,out=>by
  simp only[nT,mK]
  have h:=wR p l (nS p out v.said)
  have h2:=wQ p v.said out
  omega
theorem wS {p:Pg} (h:p.iJ) : ∀ (l out:List aA),out.length≤(oC p out l).length∧(oC p out l).length≤out.length+l.length*1800000
 | [],out=>⟨zag _,by simp[oC]⟩
 | n::l,out=>by
  simp only[oC]
  have h1:=wS h l (nT p out (lD p n))
  have h2:=wR p (lD p n) out
  have h3:mK (lD p n)≤1800000:=by
   unfold lD
   split
   ·rename_i f hf
    have:=sm f.body
    have h4:=Pc.bC (oO hf).1
    have h5:=h.procs.2.1
    simp only[Pc.size]at h4
    omega
   ·simp[mK]
  simp only[zal]
  omega
theorem PF {p:Pg} (h:p.may=true):p.procs.length≤16:=by
 unfold Pg.may at h
 split at h
 ·cases h
 ·rename_i c
  simp only[zay,decide_eq_true_eq,not_or,Int.not_lt,gt_iff_lt]at c
  have:=c.1.2
  omega
def Pg.oP (p:Pg) (name:aA):List aA:=oC p [] (jc (p.work name))
def Pg.kf (p:Pg) (name:aA):List aA:=match p.qt name with|some _=>jc (p.oP name)|none=> []
theorem Hw {p:Pg} (kP:(p.scope.1==0)=true) {name:aA} {f:Pc} (hf:p.find name=some f):Good p (jc (p.work name)):=by
 have h:=yN kP (p.procs.length+1) 0 [name] (wP hf)
 refine⟨sk (jk _).1,fun x m=>h.2 x ?_⟩
 exact((jk _).2 x).1 m
theorem PG {p:Pg} (h:p.iJ) (name:aA) (s:St):ay Tryz.prog 71 [.agg (bf p), .str name] s (.slice .shared 1 ((p.kf name).map encStr)) s:=by
 refine ay.pure ?_ (by simp[D.bg,D.ok,fm]) (by simp only[D.ok,Tag.ok,dd];rfl) s
 have hk:=fun s=>S9 h name s
 have dq:=fun s=>BH (p:=p) (by have:=h.procs;omega) s
 unfold Pg.kf
 unfold S0
 cases Ta:p.qt name with
 |none=>
  simp only[Ta,Option.isSome_none]at hk
  simp only[zaj]
  refine ay.go rU.h rfl fun B Q hB hQ=>?_
  have⟨hF,hP,hZ,gA⟩:=bD
  repeat' (first
 |simp only[go_sem,hF,hP,hZ,gA]
 |(with_reducible refine CU (hk _) ?_)
 |(with_reducible refine az hQ ?_;exact aR))
 |some f=>
 obtain⟨kP,hf⟩:=Eo Ta
 simp only[Ta,Option.isSome_some]at hk
 dsimp only
 obtain⟨oS,rl,vK⟩:=h.procs
 have hN:=Hw kP hf
 obtain⟨N,ZB⟩ : ∃ N,jc (p.work name)=N:=⟨_,rfl⟩
 rw[ZB]at hN
 have hNl:=hN.len
 obtain⟨R,hR⟩ : ∃ R,p.oP name=R:=⟨_,rfl⟩
 rw[hR]
 unfold Pg.oP at hR
 rw[ZB]at hR
 have hRl:R.length≤28800000:=by
  have:=(wS h N []).2
  rw[hR]at this
  have h4:=PF (yH kP)
  have h3:N.length*1800000≤16*1800000:=zaT _ (by omega)
  simp only[zaE]at this
  omega
 have UI:=fun s=>WB h kP hf s
 simp only[ZB]at UI
 obtain⟨fn,xw,Ad⟩:=rU.h
 refine ay.intro ⟨fn,xw,Ad⟩ (za7 rfl) fun B hB=>?_
 generalize hQ:gy (⟨[],[]⟩:St).av.length (⟨[],[]⟩:St).aw.length _ _ (⟨[],[]⟩:St)=Q
 have⟨hF,hP,hZ,gA⟩:=bD
 refine Sem.fY ?_
 repeat' (first
 |simp only[go_sem,hF,hP,hZ,gA]
 |(with_reducible refine az hQ ?_;exact aR))
 refine Sem.fY ?_
 repeat' (first
 |simp only[go_sem,hF,hP,hZ,gA]
 |(with_reducible refine CU (hk _) ?_)
 |(with_reducible refine az hQ ?_;exact aR))
 refine Sem.fY ?_
 repeat' (first
 |simp only[go_sem,hF,hP,hZ,gA]
 |(with_reducible refine CU (dq _) ?_)
 |(with_reducible refine az hQ ?_;exact aR))
 refine Sem.fY ?_
 repeat' (first
 |simp only[go_sem,hF,hP,hZ,gA]
 |(with_reducible refine az hQ ?_;exact aR))
 refine Sem.fY ?_
 repeat' (first
 |simp only[go_sem,hF,hP,hZ,gA]
 |(with_reducible refine CU (UI _) ?_)
 |(with_reducible refine az hQ ?_;exact aR))
 refine aY.ko 6 1 rfl ?_
 simp only[go_sem,hF,hP,hZ,gA]
 refine cr 1 1 (aY.ind (ι:=List aA×Nat×List aA×Nat) (fun i=>N.drop i.2.1=i.1∧oC p i.2.2.1 i.1=R∧i.2.2.1.length≤R.length∧i.2.2.2=i.2.2.1.length) (fun i=>i.1.length)
  (fun i=> [(2, .ptr 0 0),(5, .dr (gK p) 0),(6, .slice (.tok 0) 1 (i.2.2.1.map encStr)),(21, .slice .shared 1 (N.map encStr)),(22, .int .i64 (N.length:Int)),(23, .int .i64 (i.2.1:Int))]) (fun i=>⟨[bf p],[some i.2.2.2]⟩) ?_ (N,0,[],0) ⟨rfl,hR,zar _,rfl⟩)
 rintro⟨rest,k,out,no⟩ ⟨h1,h2,h3,h4⟩ IH
 dsimp only at h1 h2 h3 h4
 subst h4
 cases rest with
 |nil=>
  have hF:=drop_nil h1
  simp only[oC]at h2
  subst h2
  have Cd:(kO out).length=out.length:=List.length_mergeSort out
  repeat' (first
 |simp only[go_sem,hF,hP,hZ,gA]
 |(with_reducible refine az hQ ?_;exact aR))
  refine Sem.seq (Sem.sort (k:=6) (t:=0) (l:=out) hB (by decide) (by decide) (by decide) rfl rfl (by omega) ?_)
  refine Sem.seq (Sem.compact (k:=6) (t:=0) (l:=kO out) hB (by decide) rfl (by rw[Cd];rfl) (by rw[Cd];omega) ?_)
  rw[yK]
  refine gu (ac:= .ret) (Q:=Q) (tm:= [(59, .slice (.tok 0) 1 ((jc out).map encStr)),(4, .slice (.tok 0) 1 ((jc out).map encStr))]) (s:=⟨[],[some (jc out).length]⟩) ?_
  repeat' (first
 |simp only[go_sem,hF,hP,hZ,gA]
 |(with_reducible refine az hQ ?_;exact aR))
 | cons x rest=>
  obtain⟨hP,g2,hF,g4⟩:=drop_cons h1
  have bH:k<4611686018427387904:=by omega
  obtain⟨g,Cg⟩:=hN.2 x (zac hP)
  have Zz:=(oO Cg).1
  have hbd:lD p x=Sm.cP g.body:=by unfold lD;rw[Cg]
  simp only[oC,hbd]at h2
  obtain⟨j,hj,rO⟩:=yL (k:=0) Cg
  have rO:p.at x=((j:Nat):Int):=by unfold Pg.at;simpa using rO
  have vQ:=fun s=>OZ (p:=p) (by omega) x s
  simp only[rO]at vQ
  obtain⟨it,vO,B9⟩:=Sk hj (by omega)
  have Zq:it.length≤900000:=by
   have e:=congrArg List.length vO
   obtain⟨a,b,e',_,_,e3,e4⟩:=(o5 p).2 j g hj
   have e5:=o6 p
   have e6:=congrArg List.length e3
   rw[e4]at e5
   simp only[zat,zai]at e e5 e6
   omega
  rw[← vO]at h2
  repeat' (first
 |simp only[go_sem,hF,hP,hZ,gA,hP]
 |(with_reducible refine CU (vQ _) ?_)
 |(with_reducible refine CU (B9 _) ?_)
 | (with_reducible refine az hQ ?_;exact aR))
  obtain⟨W,hW⟩ : ∃ W,nT p out (it.map Im.s)=W:=⟨_,rfl⟩
  rw[hW]at h2
  have hWR:W.length≤R.length:=by have:=(wS h rest W).1;rw[h2]at this;exact this
  have PA:out.length≤W.length:=by have:=(wR p (it.map Im.s) out).1;rw[hW]at this;exact this
  refine cr 1 1 (aY.ind (ι:=List Im×Nat×List aA×Nat) (fun i=>it.drop i.2.1=i.1∧nT p i.2.2.1 (i.1.map Im.s)=W∧i.2.2.1.length≤W.length∧i.2.2.2=i.2.2.1.length) (fun i=>i.1.length)
   (fun i=> [(2, .ptr 0 0),(5, .dr (gK p) 0),(6, .slice (.tok 0) 1 (i.2.2.1.map encStr)),(21, .slice .shared 1 (N.map encStr)),(22, .int .i64 (N.length:Int)),(23, .int .i64 (k:Int)),(31, .slice .shared 17 (it.map eA)),(32, .int .i64 (it.length:Int)),(33, .int .i64 (i.2.1:Int))]) (fun i=>⟨[bf p],[some i.2.2.2]⟩) ?_ (it,0,out,out.length) ⟨rfl,hW,PA,rfl⟩)
  rintro⟨oD,k2,AU,no⟩ ⟨j1,j2,j3,j4⟩ yx
  dsimp only at j1 j2 j3 j4
  subst j4
  cases oD with
  |nil=>
   have aeJ:=drop_nil j1
   simp only[zaj,nT]at j2
   subst j2
   repeat' (first
 |simp only[go_sem,hF,hP,hZ,gA,aeJ]
 | (with_reducible refine az hQ ?_;exact aR))
   refine cD 1 1 ?_ ?_ (IH (rest,k+1,AU,AU.length) ⟨g2,h2,hWR,rfl⟩ (zaa _))
   ·(simp only[go_sem,hF,hP,hZ,gA,aC bH];try exact bd)
   ·(simp only[go_sem,hF,hP,hZ,gA,aC bH];try exact bd)
  |cons y oD=>
   obtain⟨iC,JD,mJ,jg4⟩:=drop_cons j1
   have oZ:k2<4611686018427387904:=by omega
   have hym:y.s∈Sm.cP g.body:=by rw[← vO];exact zaL (zac iC)
   have Jh:=h.said Zz _ hym
   have Ux:=fun s=>yF Jh s
   have Cd:=AQ _ Jh
   simp only[zaf,nT]at j2
   repeat' (first
 |simp only[go_sem,hF,hP,hZ,gA,mJ,iC]
 |(with_reducible refine CU (Ux _) ?_)
 | (with_reducible refine az hQ ?_;exact aR))
   obtain⟨V,hV⟩ : ∃ V,nS p AU y.s.said=V:=⟨_,rfl⟩
   rw[hV]at j2
   have hVW:V.length≤W.length:=by have:=(wR p (oD.map Im.s) V).1;rw[j2]at this;exact this
   have hoV:AU.length≤V.length:=by have:=(wQ p y.s.said AU).1;rw[hV]at this;exact this
   refine cr 1 1 (aY.ind (ι:=List aA×Nat×List aA×Nat) (fun i=>y.s.said.drop i.2.1=i.1∧nS p i.2.2.1 i.1=V∧i.2.2.1.length≤V.length∧i.2.2.2=i.2.2.1.length) (fun i=>i.1.length)
    (fun i=> [(2, .ptr 0 0),(5, .dr (gK p) 0),(6, .slice (.tok 0) 1 (i.2.2.1.map encStr)),(21, .slice .shared 1 (N.map encStr)),(22, .int .i64 (N.length:Int)),(23, .int .i64 (k:Int)),(31, .slice .shared 17 (it.map eA)),(32, .int .i64 (it.length:Int)),(33, .int .i64 (k2:Int)),(39, .slice .shared 1 (y.s.said.map encStr)),(40, .int .i64 (y.s.said.length:Int)),(41, .int .i64 (i.2.1:Int))]) (fun i=>⟨[bf p],[some i.2.2.2]⟩) ?_ (y.s.said,0,AU,AU.length) ⟨rfl,hV,hoV,rfl⟩)
   rintro⟨Ch,k3,wT,no⟩ ⟨l1,l2,l3,l4⟩ IH3
   dsimp only at l1 l2 l3 l4
   subst l4
   cases Ch with
   |nil=>
    have aeK:=drop_nil l1
    simp only[nS]at l2
    subst l2
    repeat' (first
 |simp only[go_sem,hF,hP,hZ,gA,aeK]
 | (with_reducible refine az hQ ?_;exact aR))
    refine cD 1 1 ?_ ?_ (yx (oD,k2+1,wT,wT.length) ⟨JD,j2,hVW,rfl⟩ (zaa _))
    ·(simp only[go_sem,hF,hP,hZ,gA,aC oZ];try exact bd)
    ·(simp only[go_sem,hF,hP,hZ,gA,aC oZ];try exact bd)
   | cons z Ch=>
    obtain⟨ZC,lg2,llt,lg4⟩:=drop_cons l1
    have UJ:k3<4611686018427387904:=by omega
    have En:=fun g s=>iz (l:=p.globals) (by omega) z g s
    simp only[nS]at l2
    rcases zad (dg p.globals z)with c1|c1
    ·simp only [c1,if_true]at l2
     have hZ:(wT.length+1)*17≤aT:=by unfold aT;omega
     have hoo:(wT++ [z]).length≤V.length:=by have:=(wQ p Ch (wT++ [z])).1;rw[l2]at this;exact this
     repeat' (first
 |simp only[go_sem,hF,hP,hZ,gA,llt,ZC,c1]
 |(with_reducible refine CU (En _ _) ?_)
 | (with_reducible refine az hQ ?_;exact aR))
     refine cD 1 1 ?_ ?_ (IH3 (Ch,k3+1,wT++ [z],wT.length+1) ⟨lg2,l2,hoo,by simp⟩ (zaa _))
     ·(simp only[go_sem,hF,hP,hZ,gA,aC UJ,zah,zaf,zaj,encStr];try exact bd)
     ·(simp only[go_sem,hF,hP,hZ,gA,aC UJ,zah,zaf,zaj,encStr];try exact bd)
    ·simp only [c1,zab,if_false]at l2
     repeat' (first
 |simp only[go_sem,hF,hP,hZ,gA,llt,ZC,c1]
 |(with_reducible refine CU (En _ _) ?_)
 |(with_reducible refine az hQ ?_;exact aR))
     refine cD 1 1 ?_ ?_ (IH3 (Ch,k3+1,wT,wT.length) ⟨lg2,l2,l3,rfl⟩ (zaa _))
     ·(simp only[go_sem,hF,hP,hZ,gA,aC UJ];try exact bd)
     ·(simp only[go_sem,hF,hP,hZ,gA,aC UJ];try exact bd)
theorem PI {out:List aA} {x y:aA} : y∈kI out x↔y∈out∨y=x:=by
 unfold kI
 split
 ·rename_i e
  have:=(eD _ _).1 e
  constructor
  ·exact .inl
  ·rintro(h|rfl)<;>assumption
 ·simp
theorem sY {y:aA} : ∀ {l out:List aA},y∈qs out l↔y∈out∨y∈l
 | [],out=>by simp[qs]
 |x::l,out=>by
  simp only[qs,sY (l:=l),PI,zan,or_assoc]
theorem Hx (p:Pg) {y:aA} : ∀ (n i:Nat) (out:List aA),y∈out→y∈k8 p n i out
 | 0,i,out,h=>h
 |n+1,i,out,h=>by
  simp only[k8]
  split
  ·exact Hx p n _ _ (sY.2 (.inl h))
  ·exact h
theorem Hy : ∀ (l out:List aA),∃ e,qs out l=out++e
 | [],out=>⟨[],by simp[qs]⟩
 |x::l,out=>by
  obtain⟨e,h⟩:=Hy l (kI out x)
  simp only[qs,h]
  unfold kI
  split
  ·exact⟨e,rfl⟩
  ·exact⟨x::e,by simp⟩
theorem Af {p:Pg} (kP:(p.scope.1==0)=true) : ∀ (n i:Nat) (out:List aA),Good p out→n+i=p.procs.length+1→(∀ (j:Nat) (x:aA),j<i→out[j]? = some x→∀ y∈mh p x,y∈out)→
 ∀ x∈k8 p n i out,∀ y∈mh p x,y∈k8 p n i out
 | 0,i,out,hg,hn,hc,x,hx,y,hy=>by
  simp only[k8]at hx ⊢
  obtain⟨j,hj⟩:=zbC hx
  have:=hg.len
  have:=(zae.1 hj).1
  exact hc j x (by omega) hj y hy
 | n+1,i,out,hg,hn,hc,x,hx,y,hy=>by
  simp only[k8]at hx ⊢
  split at hx
  ·rename_i z hz
   obtain⟨g,oh⟩:=hg.2 z (zac hz)
   refine Af kP n (i+1) _ (hg.add fun y m=>?_) (by omega) (fun j x hj UK y hy=>?_) x hx y hy
   ·unfold mh at m
    rw[oh]at m
    exact uR kP (oO oh).1 m
   ·obtain⟨e,he⟩:=Hy (mh p z) out
    have hi:=(zae.1 hz).1
    rw[he,zao (by omega)]at UK
    rcases zaI j i with h1|h1
    ·exact sY.2 (.inl (hc j x h1 UK y hy))
    ·have:j=i:=by omega
     subst this
     rw[hz]at UK
     cases UK
     exact sY.2 (.inr hy)
  ·rename_i hz
   obtain⟨j,hj⟩:=zbC hx
   have h1:=(zae.1 hj).1
   have h2:=List.getElem?_eq_none_iff.1 hz
   exact hc j x (by omega) hj y hy
theorem Ci {p:Pg} {S:aA→Prop} (hS : ∀ x,S x→∀ y∈mh p x,S y) : ∀ (n i:Nat) (out:List aA),(∀ x∈out,S x)→∀ x∈k8 p n i out,S x
 | 0,i,out,h,x,hx=>h x hx
 | n+1,i,out,h,x,hx=>by
  simp only[k8]at hx
  split at hx
  ·rename_i z hz
   exact Ci hS n _ _ (fun y hy=>(sY.1 hy).elim (h y) (hS z (h z (zac hz)) y)) x hx
  ·exact h x hx
theorem Ep {p:Pg} {x:aA} : ∀ {l out:List aA},x∈nS p out l↔x∈out∨(x∈l∧x∈p.globals)
 | [],out=>by simp[nS]
 | v::l,out=>by
  simp only[nS,Ep (l:=l),zan]
  cases e:dg p.globals v
  ·have:v∉p.globals:=fun m=>by rw [(eD _ _).2 m]at e;cases e
   simp only[zab,if_false]
   constructor
   ·rintro(h | ⟨h,k⟩)
    ·exact .inl h
    ·exact .inr ⟨.inr h,k⟩
   ·rintro(h | ⟨rfl | h,k⟩)
    ·exact .inl h
    ·exact absurd k this
    ·exact .inr ⟨h,k⟩
  ·have:v∈p.globals:=(eD _ _).1 e
   simp only[if_true,zaw,zbd]
   constructor
   ·rintro((h | rfl) | ⟨h,k⟩)
    ·exact .inl h
    ·exact .inr ⟨.inl rfl,this⟩
    ·exact .inr ⟨.inr h,k⟩
   ·rintro(h | ⟨rfl | h,k⟩)
    ·exact .inl (.inl h)
    ·exact .inl (.inr rfl)
    ·exact .inr ⟨h,k⟩
def oE:List Sm→List aA
 | []=> []
 |v::l=>v.said++oE l
theorem Er {p:Pg} {x:aA} : ∀ {l:List Sm} {out:List aA},x∈nT p out l↔x∈out∨(x∈oE l∧x∈p.globals)
 | [],out=>by simp[nT,oE]
 | v::l,out=>by
  simp only[nT,Er (l:=l),Ep,oE,zaw]
  constructor
  ·rintro((h | ⟨h,k⟩) | ⟨h,k⟩)
   ·exact .inl h
   ·exact .inr ⟨.inl h,k⟩
   ·exact .inr ⟨.inr h,k⟩
  ·rintro(h | ⟨h | h,k⟩)
   ·exact .inl (.inl h)
   ·exact .inl (.inr ⟨h,k⟩)
   ·exact .inr ⟨h,k⟩
def wU (p:Pg):List aA→List aA
 | []=> []
 |n::l=>oE (lD p n)++wU p l
theorem Es {p:Pg} {x:aA} : ∀ {l:List aA},x∈wU p l↔∃ n∈l,x∈oE (lD p n)
 | []=>by simp[wU]
 |n::l=>by simp[wU,Es (l:=l)]
theorem Et {p:Pg} {x:aA} : ∀ {l out:List aA},x∈oC p out l↔x∈out∨(x∈wU p l∧x∈p.globals)
 | [],out=>by simp[oC,wU]
 | v::l,out=>by
  simp only[oC,Et (l:=l),Er,wU,zaw]
  constructor
  ·rintro((h | ⟨h,k⟩) | ⟨h,k⟩)
   ·exact .inl h
   ·exact .inr ⟨.inl h,k⟩
   ·exact .inr ⟨.inr h,k⟩
  ·rintro(h | ⟨h | h,k⟩)
   ·exact .inl (.inl h)
   ·exact .inl (.inr ⟨h,k⟩)
   ·exact .inr ⟨h,k⟩
theorem Eu {p:Pg} {nm x:aA} {f:Pc} (h:p.qt nm=some f):x∈p.kf nm↔(∃ n∈p.work nm,x∈oE (lD p n))∧x∈p.globals:=by
 unfold Pg.kf
 rw[h]
 dsimp only
 rw[(jk _).2]
 unfold Pg.oP
 rw[Et,Es]
 simp only[(jk _).2,zbn,false_or]
mutual
def Sm.lE (deep bM:Int) (aN:Bool):Sm→List It
 |⟨id,kind,labels,name,proc,x,has,args,aV,e⟩=>⟨⟨id,kind,labels,name,proc,x,has,args,aV,e⟩,deep,bM,aN⟩::(Sm.nC (deep+1) id false aV++Sm.nC (deep+1) id true e)
def Sm.nC (deep bM:Int) (aN:Bool):List Sm→List It
 | []=> []
 |s::l=>s.lE deep bM aN++Sm.nC deep bM aN l
end
mutual
theorem PJ (deep bM:Int) (aN:Bool) (out:List It) : ∀ s:Sm,(fj deep bM aN out s).length≤200→(∀ i∈fj deep bM aN out s,i.deep≤12)→fj deep bM aN out s=out++s.lE deep bM aN
 | ⟨id,kind,labels,name,proc,x,has,args,aV,e⟩,h1,h2=>by
  simp only[fj,Sm.lE]at h1 h2 ⊢
  by_cases hd:deep≤12
  ·simp only [hd,decide_true,if_true]at h1 h2 ⊢
   obtain⟨e2,g2⟩:=nA (deep+1) id true (dc (deep+1) id false (out++ [⟨⟨id,kind,labels,name,proc,x,has,args,aV,e⟩,deep,bM,aN⟩]) aV) e
   have k1:(dc (deep+1) id false (out++ [⟨⟨id,kind,labels,name,proc,x,has,args,aV,e⟩,deep,bM,aN⟩]) aV).length≤200:=by
    rw[g2,zai]at h1;omega
   have k2 : ∀ i∈dc (deep+1) id false (out++ [⟨⟨id,kind,labels,name,proc,x,has,args,aV,e⟩,deep,bM,aN⟩]) aV,i.deep≤12:=fun i m=>h2 i (by rw[g2];exact zaP _ m)
   rw[ug (deep+1) id true _ e h1 h2,ug (deep+1) id false _ aV k1 k2]
   simp
  ·simp only [hd,decide_false,zab,if_false]at h1 h2
   exact absurd (h2 _ (za3 _ (zbd.2 rfl))) (by simpa using hd)
theorem ug (deep bM:Int) (aN:Bool) (out:List It) : ∀ l:List Sm,(dc deep bM aN out l).length≤200→(∀ i∈dc deep bM aN out l,i.deep≤12)→dc deep bM aN out l=out++Sm.nC deep bM aN l
 | [],h1,h2=>by simp[dc,Sm.nC]
 | s::l,h1,h2=>by
  simp only[dc,Sm.nC]at h1 h2 ⊢
  by_cases hc:(out.length:Int)≤200
  ·simp only [hc,decide_true,if_true]at h1 h2 ⊢
   obtain⟨e2,g2⟩:=nA deep bM aN (fj deep bM aN out s) l
   have k1:(fj deep bM aN out s).length≤200:=by rw[g2,zai]at h1;omega
   have k2 : ∀ i∈fj deep bM aN out s,i.deep≤12:=fun i m=>h2 i (by rw[g2];exact zaP _ m)
   rw[ug deep bM aN _ l h1 h2,PJ deep bM aN out s k1 k2]
   simp
  ·simp only [hc,decide_false,zab,if_false]at h1
   omega
end
theorem Hz : ∀ (l:List Pc) (out:List It),(allM out l).length≤200→(∀ i∈allM out l,i.deep≤12)→(∀ f∈l,f.flat=Sm.nC 1 0 false f.body)∧allM out l=out++(l.map fun f=>Sm.nC 1 0 false f.body).flatten
 | [],out,h1,h2=>⟨fun f m=>(by cases m),by simp[allM]⟩
 | f::l,out,h1,h2=>by
  simp only[allM]at h1 h2 ⊢
  by_cases hc:(((out++f.flat).length:Nat):Int) > 200
  ·simp only[hc,decide_true,if_true]at h1;omega
  ·simp only [hc,decide_false,zab,if_false]at h1 h2 ⊢
   obtain⟨k1,k2⟩:=Hz l (out++f.flat) h1 h2
   have k3:f.flat=Sm.nC 1 0 false f.body:=by
    have:=ug 1 0 false [] f.body (by
     have:f.flat.length≤200:=by simp only[zai]at hc;omega
     exact this) (fun i m=>h2 i (by rw[k2];exact zaP _ (za3 _ m)))
    simpa[Pc.flat]using this
   refine⟨fun g m=>?_, ?_⟩
   ·rcases zan.1 m with rfl | m
    ·exact k3
    ·exact k1 g m
   ·rw[k2,k3];simp
theorem WD {p:Pg} (h:p.may=true):(∀ f∈p.procs,f.flat=Sm.nC 1 0 false f.body)∧p.all=(p.procs.map fun f=>Sm.nC 1 0 false f.body).flatten:=by
 obtain⟨h1,h2⟩:=zt h
 have:=Hz p.procs [] h1 (ud _ 0 h2).1
 simpa[Pg.all]using this
mutual
theorem ack (deep bM:Int) (aN:Bool) : ∀ s:Sm,(s.lE deep bM aN).map It.s=s.pre
 |⟨id,kind,labels,name,proc,x,has,args,aV,e⟩=>by
  simp only[Sm.lE,Sm.pre,zaf,zah,Cj _ _ _ aV,Cj _ _ _ e]
theorem Cj (deep bM:Int) (aN:Bool) : ∀ l:List Sm,(Sm.nC deep bM aN l).map It.s=Sm.cP l
 | []=>rfl
 |s::l=>by simp only[Sm.nC,Sm.cP,zah,ack _ _ _ s,Cj _ _ _ l]
end
def Ck (l:List Sm) (none:Int):Int:=match l with| []=>none|t::_=>t.id
mutual
def Sm.sZ (proc up next loop:Int):Sm→List Im
 |⟨id,kind,labels,name,pc,x,has,args,aV,aN⟩=>⟨⟨id,kind,labels,name,pc,x,has,args,aV,aN⟩,proc,up,next,loop⟩::
  (Sm.jx proc id (if kind==6 then id else next) (if kind==6 then id else loop) aV++Sm.jx proc id (if kind==6 then id else next) (if kind==6 then id else loop) aN)
def Sm.jx (proc up next loop:Int):List Sm→List Im
 | []=> []
 |s::l=>s.sZ proc up (Ck l next) loop++Sm.jx proc up next loop l
end
def oc (n:Nat) (l:List Sm):Prop:=∀ (i:Nat) (v:Sm),l[i]? = some v→v.id=((n+i+1:Nat):Int)
theorem oc.head {n:Nat} {v:Sm} {l:List Sm} (h:oc n (v::l)):v.id=((n+1:Nat):Int):=h 0 v rfl
theorem oc.tail {n:Nat} {v:Sm} {l:List Sm} (h:oc n (v::l)):oc (n+1) l:=fun i w hw=>by
 rw[h (i+1) w (by simpa using hw)];congr 1;omega
theorem oc.left {n:Nat} {a b:List Sm} (h:oc n (a++b)):oc n a:=fun i w hw=>h i w (by rw[zao (zae.1 hw).1];exact hw)
theorem oc.right {n:Nat} {a b:List Sm} (h:oc n (a++b)):oc (n+a.length) b:=fun i w hw=>by
 rw[h (a.length+i) w (by rw[zau (by omega)];simpa using hw)];congr 1;omega
theorem Tb (s:Sm):s.pre=s::(Sm.cP s.aV++Sm.cP s.aN):=Sm.sR s
mutual
theorem JH : ∀ s:Sm,s.fH=s.pre.length
 |⟨id,kind,labels,name,proc,x,has,args,aV,aN⟩=>by
  simp only[Sm.fH,Sm.pre,zal,zai,wV aV,wV aN];omega
theorem wV : ∀ l:List Sm,Sm.dm l=(Sm.cP l).length
 | []=>rfl
 |s::l=>by simp only[Sm.dm,Sm.cP,zai,JH s,wV l]
end
mutual
theorem UL (proc up next loop:Int) : ∀ s:Sm,(s.sZ proc up next loop).map Im.s=s.pre
 |⟨id,kind,labels,name,pc,x,has,args,aV,aN⟩=>by
  simp only[Sm.sZ,Sm.pre,zaf,zah,s5 _ _ _ _ aV,s5 _ _ _ _ aN]
theorem s5 (proc up next loop:Int) : ∀ l:List Sm,(Sm.jx proc up next loop l).map Im.s=Sm.cP l
 | []=>rfl
 |s::l=>by simp only[Sm.jx,Sm.cP,zah,UL _ _ _ _ s,s5 _ _ _ _ l]
end
theorem WE (proc up next loop:Int) (s:Sm):(s.sZ proc up next loop).length=s.pre.length:=by rw[← UL proc up next loop s,zat]
theorem HA (proc up next loop:Int) (l:List Sm):(Sm.jx proc up next loop l).length=(Sm.cP l).length:=by rw[← s5 proc up next loop l,zat]
mutual
theorem WG (proc up next loop:Int) (out:List Im) : ∀ s:Sm,oc out.length s.pre→Im.one proc up next loop out s=out++s.sZ proc up next loop
 | ⟨id,kind,labels,name,pc,x,has,args,aV,aN⟩,h=>by
  simp only[Sm.pre]at h
  have h0:id=((out.length+1:Nat):Int):=h.head
  have h1:=h.tail.left
  have h2:=h.tail.right
  have e0:((out.length:Int)+1)=id:=by rw[h0];rfl
  simp only[Im.one,Sm.sZ,e0]
  rw[wW proc id _ _ (out++ [_]) aV (by rw[zai];exact h1)]
  rw[wW proc id _ _ _ aN (by
   rw[zai,zai,HA];exact h2)]
  simp
theorem wW (proc up next loop:Int) (out:List Im) : ∀ l:List Sm,oc out.length (Sm.cP l)→Im.rows proc up next loop out l=out++Sm.jx proc up next loop l
 | [],h=>by simp[Im.rows,Sm.jx]
 | s::l,h=>by
  simp only[Sm.cP]at h
  have e:(if l.length=0 then next else(out.length:Int)+1+(s.fH:Int))=Ck l next:=by
   cases l with
   |nil=>rfl
   |cons t l=>
    have h2:=h.right
    simp only[Sm.cP]at h2
    rw[Tb t]at h2
    simp only[zal,Ck]
    rw[if_neg (by omega),h2.head,JH]
    omega
  simp only[Im.rows,Sm.jx,e]
  rw[WG proc up _ loop out s h.left,wW proc up next loop _ l (by rw[zai,WE];exact h.right)]
  simp
end
def Dt (n:Nat):List Pc→List Im
 | []=> []
 |f::l=>Sm.jx n 0 (-1) 0 f.body++Dt (n+1) l
theorem WH {p:Pg} (h:p.may=true):oc 0 p.pre:=fun i v hv=>by rw[Hp h hv];congr 1;omega
def PK (l:List It):Nat→Int→Int
 | 0,_=>0
 |n+1,bM=>if bM==0 then 0 else match l[n]? with
  |none=>0
  |some x=>if x.s.id != bM then PK l n bM else if x.s.kind==6 then bM else PK l n x.bM
def Up (L:List It) (k:Nat) (lE:List It) (sZ:List Im):Prop:=∀ (i:Nat) (a:It) (b:Im),lE[i]? = some a→sZ[i]? = some b→a.s=b.s∧a.bM=b.up∧PK L (k+i) a.bM=b.loop
def gT (seen:List aA):List aA→List aA×Bool
 | []=>(seen,true)
 |n::l=>if dg seen n then(seen,false)else gT (seen++ [n]) l
theorem yP : ∀ (l seen:List aA),gT seen l=(if oq seen l then((gT seen l).1,false)else(seen++l,true))
 | [],seen=>by simp[gT,oq]
 | n::l,seen=>by
  simp only[gT,oq]
  split
  ·rfl
  ·rw [yP l (seen++ [n])]
   split
   ·rfl
   ·simp
theorem JI : ∀ (a b seen:List aA),oq seen (a++b)=(oq seen a ||oq (seen++a) b)
 | [],b,seen=>by simp[oq]
 |x::a,b,seen=>by
  simp only[zaJ,oq]
  split
  ·rfl
  ·rw[JI a b (seen++ [x])];simp
theorem Ev : ∀ (l seen:List aA),seen.length≤(gT seen l).1.length∧(gT seen l).1.length≤seen.length+l.length
 | [],seen=>by simp[gT]
 |n::l,seen=>by
  simp only[gT]
  split
  ·simp
  ·have:=Ev l (seen++ [n]);simp at this ⊢;omega
def jd (jl:List aA) (v:Sm) (loop:Int):Bool:=if v.kind==7 ||v.kind==8 then loop != 0 else if v.kind==10 then dg jl v.name else true
def qO (jl fin seen:List aA):List (Sm×Int)→Option Int
 | []=>if(gT seen fin).2 then none else some 0
 |(v,lp)::l=>if(gT seen v.labels).2 then(if jd jl v lp then qO jl fin (gT seen v.labels).1 l else some v.id)else some v.id
def du:List Sm→List aA
 | []=> []
 |v::l=>v.labels++du l
def Pc.labels (f:Pc):List aA:=du (Sm.cP f.body)++f.fin
def Im.pair (m:Im):Sm×Int:=(m.s,m.loop)
def Pc.nU (f:Pc):List (Sm×Int):=(Sm.jx 0 0 (-1) 0 f.body).map Im.pair
def qP:List Pc→Option Int
 | []=>none
 |f::l=>match qO f.labels f.fin [] f.nU with
  |some id=>some id
  |none=>qP l
def vU (c:Int):Option Int→Int×Int
 |some id=>(c,id)
 |none=>(0,0)
def Pg.jump (p:Pg):Int×Int:=if p.scope.1==0 then vU 7 (qP p.procs)else(1,0)
mutual
theorem Tc (proc up next sn PN next' loop:Int) : ∀ s:Sm,(s.sZ proc up next loop).map Im.pair=(s.sZ sn PN next' loop).map Im.pair
 |⟨id,kind,labels,name,pc,x,has,args,aV,aN⟩=>by
  simp only[Sm.sZ,zaf,zah,Im.pair]
  rw[uh proc id _ sn id (if kind==6 then id else next') _ aV,uh proc id _ sn id (if kind==6 then id else next') _ aN]
theorem uh (proc up next sn PN next' loop:Int) : ∀ l:List Sm,(Sm.jx proc up next loop l).map Im.pair=(Sm.jx sn PN next' loop l).map Im.pair
 | []=>rfl
 |s::l=>by
  simp only[Sm.jx,zah]
  rw[Tc proc up _ sn PN (Ck l next') loop s,uh proc up next sn PN next' loop l]
end
theorem Td (n:Int) (f:Pc):(Sm.jx n 0 (-1) 0 f.body).map Im.pair=f.nU:=uh _ _ _ _ _ _ _ _
theorem WI (f:Pc):f.nU.map Prod.fst=Sm.cP f.body:=by
 unfold Pc.nU
 rw[List.map_map, ← s5 0 0 (-1) 0 f.body]
 rfl
def JJ (l:List It):Nat→Int→Int
 | 0,_=>0
 |n+1,id=>match l[n]? with
  |none=>0
  |some x=>if x.s.id != id then JJ l n id else if PK l n x.bM != 0 then PK l n x.bM else JJ l n id
def ku (nm:aA) (T:List aA) (seen:List aA):List Ar→Bool
 | []=>true
 |a::l=>if a.ref then(if dg seen a.name ||(a.name==nm ||dg T a.name)then false else ku nm T (seen++ [a.name]) l)else ku nm T seen l
def ZD (T:List aA) (seen:List aA):List Ar→Bool
 | []=>true
 |a::l=>if a.ref then(if dg seen a.name ||dg T a.name then false else ZD T (seen++ [a.name]) l)else ZD T seen l
def Sm.aeL (v:Sm):List aA:=if v.name != []then [v.name]else []
theorem Te {v:Sm} (rS:v.args.length<1000000000) {T:List aA} (hT:T.length<4611686018427387904) (s:St) :
 ay Tryz.prog 72 [.agg (aH v), .slice .shared 1 (T.map encStr)] s (.bool (ku v.name T [] v.args)) s:=by
 refine ay.pure ?_ (by simp[D.bg,D.ok,il,Tag.ok,dd]) rfl s
 generalize hR:ku v.name T [] v.args=R
 have UM:=fun x s=>pJ hT x s
 unfold S0
 refine ay.go AE.h rfl fun B Q hB hQ=>?_
 have⟨hF,hP,hZ,gA⟩:=bD
 repeat' (first
 |simp only[go_sem,hF,hP,hZ,gA]
 |(with_reducible refine az hQ ?_;exact aR))
 refine aY.ko 5 1 rfl ?_
 simp only[go_sem,hF,hP,hZ,gA]
 refine cr 1 1 (aY.ind (ι:=List Ar×Nat×List aA×Nat) (fun i=>v.args.drop i.2.1=i.1∧ku v.name T i.2.2.1 i.1=R∧i.2.2.1.length≤i.2.1∧i.2.2.2=i.2.2.1.length) (fun i=>i.1.length)
  (fun i=> [(1, .slice .shared 1 (T.map encStr)),(2, .ptr 0 0),(5, .slice (.tok 0) 1 (i.2.2.1.map encStr)),(9, .slice .shared 6 (v.args.map dz)),(10, .int .i64 (v.args.length:Int)),(11, .int .i64 (i.2.1:Int))]) (fun i=>⟨[aH v],[some i.2.2.2]⟩) ?_ (v.args,0,[],0) ⟨rfl,hR,zag _,rfl⟩)
 clear hR
 rintro⟨rest,k,seen,n'⟩ ⟨h1,h2,h3,h4⟩ IH
 dsimp only at h1 h2 h3 h4
 subst h4
 cases rest with
 |nil=>
  have hF:=drop_nil h1
  simp only[ku]at h2
  subst h2
  repeat' (first
 |simp only[go_sem,hF,hP,hZ,gA]
 |(with_reducible refine az hQ ?_;exact aR))
 | cons a rest=>
  obtain⟨hP,g2,hF,g4⟩:=drop_cons h1
  have bH:k<4611686018427387904:=by omega
  have hZ:(seen.length+1)*17≤aT:=by unfold aT;omega
  have px:=fun g s=>iz (l:=seen) (by omega) a.name g s
  simp only[ku]at h2
  rcases zad a.ref with c1|c1
  case inr=>
   simp only[c1,zab,if_false]at h2
   repeat' (first
 |simp only[go_sem,hF,hP,hZ,gA,c1,zaB]
 | (with_reducible refine az hQ ?_;exact aR))
   refine cD 1 1 ?_ ?_ (IH (rest,k+1,seen,_) ⟨g2,h2,by dsimp only;omega,rfl⟩ (zaa _))
   ·(simp only[go_sem,hF,hP,hZ,gA,aC bH];try exact bd)
   ·(simp only[go_sem,hF,hP,hZ,gA,aC bH];try exact bd)
  simp only[c1,if_true]at h2
  rcases zad (dg seen a.name)with c2|c2
  ·simp only [c2,za8,if_true]at h2
   subst h2
   repeat' (first
 |simp only[go_sem,hF,hP,hZ,gA,c1,c2,zax]
 |(with_reducible refine CU (px _ _) ?_)
 |(with_reducible refine CU (UM _ _) ?_)
 | (with_reducible refine az hQ ?_;exact aR))
  rcases zad (a.name==v.name)with c3|c3
  ·simp only [c2,c3,za1,za8,if_true]at h2
   subst h2
   repeat' (first
 |simp only[go_sem,hF,hP,hZ,gA,c1,c2,c3,zax]
 |(with_reducible refine CU (px _ _) ?_)
 |(with_reducible refine CU (UM _ _) ?_)
 | (with_reducible refine az hQ ?_;exact aR))
  rcases zad (dg T a.name)with c4|c4
  ·simp only [c2,c3,c4,za1,if_true]at h2
   subst h2
   repeat' (first
 |simp only[go_sem,hF,hP,hZ,gA,c1,c2,c3,c4,zax]
 |(with_reducible refine CU (px _ _) ?_)
 |(with_reducible refine CU (UM _ _) ?_)
 | (with_reducible refine az hQ ?_;exact aR))
  ·simp only [c2,c3,c4,za1,zab,if_false]at h2
   repeat' (first
 |simp only[go_sem,hF,hP,hZ,gA,c1,c2,c3,c4,zax]
 |(with_reducible refine CU (px _ _) ?_)
 |(with_reducible refine CU (UM _ _) ?_)
 | (with_reducible refine az hQ ?_;exact aR))
   refine cD 1 1 ?_ ?_ (IH (rest,k+1,seen++ [a.name],seen.length+1) ⟨g2,h2,by simp;omega,by simp⟩ (zaa _))
   ·(simp only[go_sem,hF,hP,hZ,gA,aC bH,zah,zaf,zaj,encStr];try exact bd)
   ·(simp only[go_sem,hF,hP,hZ,gA,aC bH,zah,zaf,zaj,encStr];try exact bd)
def lF (p:Pg):List Pc→List D
 | []=> []
 |f::l=> .str f.name:: .slice .shared 1 ((p.kf f.name).map encStr)::lF p l
theorem PO (p:Pg) : ∀ l,D.bg 0 0 (lF p l)=true
 | []=>rfl
 |f::l=>by simp only[lF,D.bg,D.ok,Tag.ok,dd,PO p l];rfl
theorem WJ (n m:Nat) (p:Pg) (l:List Pc):D.eI n m (lF p l)=lF p l:=fU n m _ (PO p l)
attribute [go_sem] WJ
theorem HC (p:Pg) : ∀ l m,lF p (l++m)=lF p l++lF p m
 | [],m=>rfl
 |f::l,m=>by simp only[zaJ,lF,HC p l m]
theorem HD {p:Pg} {nm:aA} {d:D} : ∀ {l:List Pc},nm∉l.map (·.name)→uy nm d (lF p l)=some (lF p l++ [.str nm,d])
 | [],_=>rfl
 |f::l,h=>by
  simp only[zaf,zan,not_or]at h
  have:(f.name==nm)=false:=by simpa using fun e=>h.1 e.symm
  simp only[lF,uy,this,zab,if_false,HD h.2,zaJ]
theorem HE {p:Pg} {nm:aA} {z:D} : ∀ {l:List Pc} {f:Pc},iB nm l=some f→vZ nm z (lF p l)=some (.slice .shared 1 ((p.kf nm).map encStr))
 | g::l,f,h=>by
  simp only[iB]at h
  simp only[lF,vZ]
  split at h
  ·rename_i e
   rw[if_pos e,eq_of_beq e]
  ·rename_i e
   rw[if_neg e]
   exact HE h
theorem WK (l:List aA) : ∀ (s:List aA),oq s l=false→∀ a x b,l=a++x::b→x∉s++a:=by
 induction l with
 |nil=>intro s _ a x b e;cases a<;>cases e
 | cons y l ih=>
  intro s h a x b e
  simp only[oq]at h
  split at h
  ·cases h
  ·rename_i hy
   cases a with
   |nil=>cases e;simpa[← eD]using hy
   |cons z a=>
    cases e
    have:=ih (s++ [y]) h a x b rfl
    simpa using this
end Go.Abs
namespace Go.Abs
set_option maxRecDepth 8000
open Go.Proofs
theorem HF {p:Pg} (h:(p.arity.1==0)=true):(p.scope.1==0)=true∧∀ v∈p.pre,(v.kind==4)=true→v.kN p=true:=by
 unfold Pg.arity at h
 split at h
 ·rename_i e
  refine⟨e,fun v hv hk=>?_⟩
  have : ∀ l:List Sm,((ou 6 (Cc p l)).1==0)=true→∀ v∈l,(v.kind==4)=true→v.kN p=true:=by
   intro l
   induction l with
   |nil=>intro _ v m;cases m
   | cons a l ih=>
    intro h v m hk
    simp only[Cc]at h
    split at h
    ·cases h
    ·rename_i c
     rcases zan.1 m with rfl|m
     ·simpa[hk]using c
     ·exact ih h v m hk
  exact this _ h v hv hk
 ·cases h
theorem PQ {p:Pg} {v:Sm} (h:v.kN p=true) : ∃ f,p.find v.proc=some f:=by
 unfold Sm.kN at h
 cases e:p.find v.proc with
 |some f=>exact⟨f,rfl⟩
 |none=>rw[e]at h;simp at h
def Sm.nV (p:Pg) (v:Sm):Bool:=ku v.name (p.kf v.proc) [] v.args
def Cl (p:Pg):List Sm→Option Sm
 | []=>none
 |v::l=>if v.kind==4 && !(v.nV p)then some v else Cl p l
def Pg.alias (p:Pg):Int×Int:=if p.arity.1==0 then ou 8 (Cl p p.pre)else(1,0)
theorem HG {p:Pg} (h:p.iJ) (nm:aA):(p.kf nm).length<4611686018427387904:=by
 unfold Pg.kf
 cases hs:p.qt nm with
 |none=>dsimp only;decide
 |some f=>
  obtain⟨kP,hf⟩:=Eo hs
  have h1:=(Hw kP hf).len
  have h2:=h.procs
  have h3:=(wS h (jc (p.work nm)) []).2
  have h4:(jc (p.work nm)).length*1800000≤900000*1800000:=zaT _ (by omega)
  have h5:(jc (p.oP nm)).length≤(p.oP nm).length:=uf _ _ (sk (jk _).1) fun x m=>((jk _).2 x).1 m
  dsimp only
  unfold Pg.oP at *
  simp only[zaE]at h3
  omega
theorem MJ {v:Sm} (hv:v.mg):v.args.length<1000000000:=by have:=Ar.cd v.args;have:=hv.2.2;omega
theorem PR {p:Pg} (h:p.iJ) (s:St):ay Tryz.prog 26 [.agg (bf p)] s (.agg [.int .i64 p.alias.1, .int .i64 p.alias.2]) s:=by
 refine ay.pure ?_ (by simp[D.bg,D.ok,fm]) rfl s
 obtain⟨oS,rl,vK⟩:=h.procs
 have rM:=fun s=>Hq h s
 have dq:=fun s=>BH (p:=p) (by omega) s
 have hL:=(o5 p).1
 have Ze:=o6 p
 generalize hR:p.alias=R
 simp only[Pg.alias]at hR
 unfold S0
 have b0:(p.arity.1 != 0) = !(p.arity.1==0):=rfl
 rcases zad (p.arity.1==0)with b1|b1
 case inr=>
  rw[b1]at b0
  simp only[b1,zab,if_false]at hR
  subst hR
  refine ay.go tL.h rfl fun B Q hB hQ=>?_
  have⟨hF,hP,hZ,gA⟩:=bD
  repeat' (first
 |simp only[go_sem,hF,hP,hZ,gA,b0,zaB]
 |(with_reducible refine CU (rM _) ?_)
 |(with_reducible refine az hQ ?_;exact aR))
 rw[b1]at b0
 obtain⟨kP,iL⟩:=HF b1
 have htw:=(AT kP).2.1
 simp only[b1,if_true, ← hL]at hR
 refine ay.go tL.h rfl fun B Q hB hQ=>?_
 have⟨hF,hP,hZ,gA⟩:=bD
 repeat' (first
 |simp only[go_sem,hF,hP,hZ,gA,b0,zax]
 |(with_reducible refine CU (rM _) ?_)
 |(with_reducible refine az hQ ?_;exact aR))
 refine cD 3 0 ?_ ?_ (aY.ind (ι:=List Pc×Nat×List Pc) (fun i=>p.procs.drop i.2.1=i.1∧p.procs=i.2.2++i.1) (fun i=>i.1.length)
  (fun i=> [(1, .ptr 0 0),(2, .ptr 1 0),(3, .fA 2),(15, .slice .shared 5 (p.procs.map bn)),(16, .int .i64 (p.procs.length:Int)),(17, .int .i64 (i.2.1:Int))]) (fun i=>⟨[bf p,[.int .i64 0, .int .i64 0],lF p i.2.2],[]⟩) ?_ (p.procs,0,[]) ⟨rfl,rfl⟩)
 ·(simp only[go_sem,hF,hP,hZ,gA,lF];try exact bd)
 ·(simp only[go_sem,hF,hP,hZ,gA,lF];try exact bd)
 rintro⟨rest,k,done⟩ ⟨h1,h2⟩ IH
 dsimp only at h1 h2
 cases rest with
 | cons a rest=>
  obtain⟨hP,g2,hF,g4⟩:=drop_cons h1
  have bH:k<4611686018427387904:=by omega
  have va:=fun s=>PG h a.name s
  have D1:a.name∉done.map (·.name):=by
   have:=WK _ [] htw (done.map (·.name)) a.name (rest.map (·.name)) (by simp[Pg.pn,h2])
   simpa using this
  have hmp:uy a.name (.slice .shared 1 ((p.kf a.name).map encStr)) (lF p done)=some (lF p (done++ [a])):=by
   rw[HD D1,HC];rfl
  repeat' (first
 |simp only[go_sem,hF,hP,hZ,gA,hmp]
 |(with_reducible refine CU (va _) ?_)
 |(with_reducible refine az hQ ?_;exact aR))
  refine cD 3 0 ?_ ?_ (IH (rest,k+1,done++ [a]) ⟨g2,by rw[h2];simp⟩ (zaa _))
  ·(simp only[go_sem,hF,hP,hZ,gA,aC bH];try exact bd)
  ·(simp only[go_sem,hF,hP,hZ,gA,aC bH];try exact bd)
 |nil=>
  have hF:=drop_nil h1
  rw[zaA]at h2
  subst h2
  repeat' (first
 |simp only[go_sem,hF,hP,hZ,gA,qp]
 |(with_reducible refine CU (dq _) ?_)
 | (with_reducible refine az hQ ?_;exact aR))
  refine cr 3 0 (aY.ind (ι:=List Im×Nat) (fun i=>p.eO.L.drop i.2=i.1∧ou 8 (Cl p (i.1.map Im.s))=R) (fun i=>i.1.length)
   (fun i=> [(1, .ptr 0 0),(2, .ptr 1 0),(3, .fA 2),(33, .slice .shared 17 (p.eO.L.map eA)),(34, .int .i64 (p.eO.L.length:Int)),(35, .int .i64 (i.2:Int))]) (fun i=>⟨[bf p,[.int .i64 0, .int .i64 0],lF p p.procs],[]⟩) ?_ (p.eO.L,0) ⟨rfl,hR⟩)
  clear hR
  rintro⟨rest,k⟩ ⟨h1,hR⟩ IH
  dsimp only at h1 hR
  cases rest with
  |nil=>
   have hF:=drop_nil h1
   simp only[zaj,Cl,ou]at hR
   subst hR
   repeat' (first
 |simp only[go_sem,hF,hP,hZ,gA]
 | (with_reducible refine az hQ ?_;exact aR))
  | cons a rest=>
   obtain⟨hP,g2,hF,g4⟩:=drop_cons h1
   have bH:k<4611686018427387904:=by omega
   have Ee:a.s∈p.pre:=by rw[← hL];exact zaL (zac hP)
   have Jb:=fun s=>Te (MJ (h.pre _ Ee)) (HG h a.s.proc) s
   simp only[zaf,Cl,Sm.nV]at hR
   rcases zad (a.s.kind==4)with c1|c1
   ·obtain⟨f,hf⟩:=PQ (iL _ Ee c1)
    have hmg:=fun z=>HE (p:=p) (z:=z) hf
    rcases zad (ku a.s.name (p.kf a.s.proc) [] a.s.args)with c2|c2
    ·simp only [c1,c2,zax,Bool.and_false,zab,if_false]at hR
     repeat' (first
 |simp only[go_sem,hF,hP,hZ,gA,c1,c2,hmg]
 |(with_reducible refine CU (Jb _) ?_)
 | (with_reducible refine az hQ ?_;exact aR))
     refine cD 3 0 ?_ ?_ (IH (rest,k+1) ⟨g2,hR⟩ (zaa _))
     ·(simp only[go_sem,hF,hP,hZ,gA,aC bH];try exact bd)
     ·(simp only[go_sem,hF,hP,hZ,gA,aC bH];try exact bd)
    ·simp only [c1,c2,zaB,zbu,if_true,ou]at hR
     subst hR
     repeat' (first
 |simp only[go_sem,hF,hP,hZ,gA,c1,c2,hmg]
 |(with_reducible refine CU (Jb _) ?_)
 | (with_reducible refine az hQ ?_;exact aR))
   ·simp only [c1,zbi,zab,if_false]at hR
    repeat' (first
 |simp only[go_sem,hF,hP,hZ,gA,c1]
 |(with_reducible refine CU (Jb _) ?_)
 | (with_reducible refine az hQ ?_;exact aR))
    refine cD 3 0 ?_ ?_ (IH (rest,k+1) ⟨g2,hR⟩ (zaa _))
    ·(simp only[go_sem,hF,hP,hZ,gA,aC bH];try exact bd)
    ·(simp only[go_sem,hF,hP,hZ,gA,aC bH];try exact bd)
def Sm.ZE (p:Pg) (v:Sm):Bool:=v.kN p && ZD (p.kf v.proc) v.aeL v.args
def apF (p:Pg):List Sm→Option Sm
 | []=>none
 |v::l=>if v.kind==4 && !(v.ZE p)then some v else apF p l
theorem WL {n:Nat} {l:List aA} {fP:Int} {r:Rd} {p:List aA×Rd} (h:Rd.names n l fP r=some p) :
 ay Tryz.prog 132 [.ptr 0 0, .slice (.tok 0) 1 (l.map encStr), .int .i64 fP] ⟨[cj r],[some l.length]⟩ (.slice (.tok 0) 1 (p.1.map encStr)) ⟨[cj p.2],[some p.1.length]⟩:=by
 refine ay.go uI.h rfl fun B Q hB hQ=>?_
 have⟨hF,hP,hZ,gA⟩:=bD
 repeat' (first
 |simp only[go_sem,hF,hP,hZ,gA]
 |(with_reducible first|refine bj fun hc=>?_|refine bk fun hc=>?_|refine bl (fun hc=>?_) fun hc=>?_)<;>(try simp only[hc,bs,↓reduceIte]at h)<;>try simp only[hc]
 |(with_reducible refine az hQ ?_;exact aR))
 refine cr 1 1 (aY.ind (ι:=Nat×List aA×Rd×Nat) (fun i=>Rd.names i.1 i.2.1 fP i.2.2.1=some p∧i.2.2.2=i.2.1.length) (fun i=>i.1)
  (fun i=> [(0, .ptr 0 0),(1, .slice (.tok 0) 1 (i.2.1.map encStr)),(2, .int .i64 fP)]) (fun i=>⟨[cj i.2.2.1],[some i.2.2.2]⟩) ?_ (n,l,r,l.length) ⟨h,rfl⟩)
 rintro⟨n,l,r,k⟩ ⟨h,hk⟩ IH
 dsimp only at hk;subst hk
 cases n with
 |zero=>simp only[Rd.names]at h;cases h
 |succ n=>
  simp only[Rd.names]at h
  repeat' (first
 |simp only[go_sem,hF,hP,hZ,gA]
 |(rw[zas]at h;obtain⟨_,h1,h⟩:=h;first|(with_reducible refine CU (vF h1 (by with_unfolding_all rfl)) ?_)|(obtain⟨hZ,nW⟩:=ng h1;subst nW;simp only[go_sem,hF,hP,hZ,gA])|(with_reducible refine CU (rk h1 (by with_unfolding_all rfl)) ?_)|(with_reducible refine CU (om h1 (by with_unfolding_all rfl)) ?_))
 |(with_reducible refine CU (jG (by with_unfolding_all rfl)) ?_)
 |(with_reducible first|refine bj fun hc=>?_|refine bk fun hc=>?_|refine bl (fun hc=>?_) fun hc=>?_)<;>(try simp only[hc,bs,↓reduceIte]at h)<;>try simp only[hc]
 |((with_reducible refine az hQ ?_);exact dv))
  refine cr 1 1 (IH (n,_,_,l.length+1) ⟨h,by simp⟩ (zaa _))
theorem JK {n:Nat} {l:List aA} {fP:Int} {r:Rd} {p:List aA×Rd} (h:Rd.names n l fP r=some p) {s:St} {o t:Nat} (ho:s.av[o]? = some (cj r)) (ht:s.aw[t]? = some (some l.length)) :
 ay Tryz.prog 132 [.ptr o 0, .slice (.tok t) 1 (l.map encStr), .int .i64 fP] s (.slice (.tok t) 1 (p.1.map encStr)) ⟨s.av.set o (cj p.2),s.aw.set t (some p.1.length)⟩:=
 (WL h).aaU rfl (ff r) (ff p.2) (dd l) (dd p.1) ho ht
theorem HH {n:Nat} {r:Rd} {p:List aA×Rd} (h:Rd.labels n [] r=some p) {s:St} {o:Nat} (ho:s.av[o]? = some (cj r)) :
 ay Tryz.prog 204 [.ptr o 0] s (.slice .shared 1 (p.1.map encStr)) ⟨s.av.set o (cj p.2),s.aw⟩:=by
 refine ay.jv ?_ rfl (ff r) (ff p.2) (by simp[D.ok,dd,Tag.ok]) ho
 refine ay.go tc.h rfl fun B Q hB hQ=>?_
 have⟨hF,hP,hZ,gA⟩:=bD
 repeat' (first
 |simp only[go_sem,hF,hP,hZ,gA]
 |(with_reducible first|refine bj fun hc=>?_|refine bk fun hc=>?_|refine bl (fun hc=>?_) fun hc=>?_)<;>(try simp only[hc,bs,↓reduceIte]at h)<;>try simp only[hc]
 |(with_reducible refine az hQ ?_;exact aR))
 refine aY.ko 3 1 rfl ?_
 simp only[go_sem,hF,hP,hZ,gA]
 refine cr 1 1 (aY.ind (ι:=Nat×List aA×Rd×Nat) (fun i=>Rd.labels i.1 i.2.1 i.2.2.1=some p∧i.2.2.2=i.2.1.length) (fun i=>i.1)
  (fun i=> [(0, .ptr 0 0),(3, .slice (.tok 0) 1 (i.2.1.map encStr))]) (fun i=>⟨[cj i.2.2.1],[some i.2.2.2]⟩) ?_ (n,[],r,0) ⟨h,rfl⟩)
 rintro⟨n,l,r,k⟩ ⟨h,hk⟩ IH
 dsimp only at hk;subst hk
 cases n with
 |zero=>simp only[Rd.labels]at h;cases h
 |succ n=>
  simp only[Rd.labels,Rd.ahead]at h
  repeat' (first
 |simp only[go_sem,hF,hP,hZ,gA]
 |(rw[zas]at h;obtain⟨_,h1,h⟩:=h;first|(with_reducible refine CU (nn h1 (by with_unfolding_all rfl)) ?_;have hF:=qn h1)|(obtain⟨hZ,nW⟩:=ng h1;subst nW;simp only[go_sem,hF,hP,hZ,gA])|(obtain⟨AV,hP⟩:=yl h1;simp only[go_sem,hP,hF,hP,hZ,gA]))
 |(with_reducible refine CU (jG (by with_unfolding_all rfl)) ?_)
 |(with_reducible first|refine bj fun hc=>?_|refine bk fun hc=>?_|refine bl (fun hc=>?_) fun hc=>?_)<;>(try simp only[hc,bs,↓reduceIte]at h)<;>try simp only[hc]
 |((with_reducible refine az hQ ?_);exact dv))
  refine cr 1 1 (IH (n,_,_,l.length+1) ⟨h,by simp⟩ (zaa _))
end Go.Abs
