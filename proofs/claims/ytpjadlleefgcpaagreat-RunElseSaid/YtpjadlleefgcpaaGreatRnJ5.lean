/-
  What is proved here: part 5 of the road to the claim (Cp3, Nb1, Nb2, Nb3, Nb4, LsP, RunMv, RtLike, ImgR, Mk1, Mk3, ImgS, ImgF, PutP, LawRu10, Glue2, Join, Binds1, Join2, Join3, Join4, Join5).
  No conditions.
-/
import Derived.Test.YtpjadlleefgcpaaGreatRnJ4
import Derived.RowKit3
import Derived.WalkKit
import Derived.ProofKit
import Derived.OpenShut
import Derived.ShutString
import Derived.ChangeMaps5
import Derived.ChangeStays
import Derived.KernelRfl

set_option linter.unusedSimpArgs false
set_option linter.unusedVariables false
namespace Go.Abs
set_option maxRecDepth 8000
open Go.Proofs
theorem OD (l:List Pc):((l.map bS).flatten).length=l.length*5:=xA bS 5 (fun f=>rfl) l
def E5:List D:= [.junk, .junk, .junk, .junk, .junk]
abbrev LN (procs:List Pc) (k:Int):Tm:= [(3, .ptr 1 0),(4, .ptr 2 0),(5, .ptr 3 0),(14, .slice .shared 5 (procs.map bS)),(15, .int .i64 (procs.length:Int)),(16, .int .i64 k)]
abbrev ox (l:List Pc):List D:= .int .i64 ((l.length - 1:Nat):Int)::(l.map bS).flatten
theorem amP {globals:List aK} {procs:List Pc} (hp:(⟨globals,procs⟩:Pg).size<1000000) (h0:procs≠ []) {t:Sm} (ht:t.E4<10000000) {R:List Pc} (hR:procs.map (Pc.fV (fC t))=R) :
 aH Tryz.prog tt [.agg (bV ⟨globals,procs⟩), .agg (bd t)] S0 (.agg [.slice .shared 1 (globals.map encStr), .dK 5 4 (R.length - 1) R.length])
  ⟨[bV ⟨globals,procs⟩,bd t,[.junk, .junk],[.junk, .junk],ox R],[]⟩:=by
 simp only[Pg.size]at hp
 have hlen:procs.length<1000000:=by have:=Pc.dR procs;omega
 have hG:=fun s=>xd (l:=globals) (by omega) s
 unfold S0
 refine aH.goK 5 0 (Nat.zero_le _) (Nat.zero_le _) Nc rfl fun B Q hB hQ=>?_
 have⟨hD,gA,gB,gC⟩:=bX
 obtain⟨y0,Uc,yS⟩ : ∃ y r,procs.drop 0=y::r:=by
  cases procs with
  |nil=>exact absurd rfl h0
  |cons y r=>exact⟨y,r,rfl⟩
 obtain⟨IN,g20,aut,g40⟩:=drop_cons yS
 have Ud:decide ((0:Int)<(procs.length:Int))=true:=by simpa using aut
 have hR0:Pc.fV (fC t) y0::Uc.map (Pc.fV (fC t))=R:=by
  have:procs=y0::Uc:=by simpa using yS
  rw[← hR,this];rfl
 have ij:(1:Nat)*113≤bD:=by simp only[bD];omega
 have fv:=fun(tg:Tag) (r:List D) (s:St)=>F3 (z:=5) (bytes:=112) tg r s (by simp only[bD];omega)
 -- the rounds behind the first one
 have loop:bp Tryz.prog B 47 Zs (iN 0 (lu (jX Tryz.prog B 47 Zt Q) Q)) (LN procs ((1:Nat):Int)) ⟨[bV ⟨globals,procs⟩,bd t,[.junk, .junk],[.slice .shared 1 (globals.map encStr), .dK 5 4 0 1],ox [Pc.fV (fC t) y0]],[]⟩:=by
  refine bp.ind (ι:=List Pc×Nat×List Pc) (fun i=>procs.drop i.2.1=i.1∧i.2.1=i.2.2.length∧0<i.2.2.length∧i.2.2++i.1.map (Pc.fV (fC t))=R) (fun i=>i.1.length)
   (fun i=>LN procs (i.2.1:Int)) (fun i=>⟨[bV ⟨globals,procs⟩,bd t,[.junk, .junk],[.slice .shared 1 (globals.map encStr), .dK 5 4 (i.2.2.length - 1) i.2.2.length],ox i.2.2],[]⟩) ?_ (Uc,1,[Pc.fV (fC t) y0]) ⟨g20,rfl,Nat.zero_lt_one,hR0⟩
  rintro⟨rest,k,acc⟩ ⟨h1,h2,h3,h4⟩ IH
  dsimp only at h1 h2 h3 h4
  subst h2
  have sO:acc.length≤procs.length:=by
   have:=congrArg List.length h4
   rw[← hR]at this
   simp at this;omega
  cases rest with
  |nil=>
   have hD:=drop_nil h1
   simp only[List.map_nil,List.append_nil]at h4
   subst h4
   repeat' (first
 |simp only[go_sem,hD,gA,gB,gC]
 |(with_reducible first|refine bq fun hc=>?_|refine br fun hc=>?_|refine bt (fun hc=>?_) fun hc=>?_)<;>(try simp only[hc,bs,↓reduceIte]at h)<;>try simp only[hc]
 |(with_reducible refine aJ hQ ?_;exact fU)
 | (cases h;done))
  | cons y rest=>
   obtain⟨gA,g2,hD,g4⟩:=drop_cons h1
   have dU:=Pc.cZ (List.mem_of_getElem? gA)
   obtain⟨name,params,vars,body,fin⟩:=y
   simp only[Pc.size]at dU
   have hk:acc.length<4611686018427387904:=by omega
   have c1:=fun s=>xd (l:=vars) (by omega) s
   have c2:=fun s=>xd (l:=fin) (by omega) s
   have c3:=fun s=>Xo ht (l:=body) (by omega) s
   have e2:Pc.fV (fC t) ⟨name,params,vars,body,fin⟩ = ⟨name,params,vars,Sm.lO (fC t) body,fin⟩:=rfl
   have K3:=fun(tg:Tag) (r a b c d e f:List D) (T:List (Option Nat))=>adR (s:=⟨[a,b,c,d,ox acc,e,f],T⟩) (o:=4) (g:=acc.length - 1) (len:=acc.length) (z:=5) (bytes:=112) (t:=tg) (r:=r) rfl (OD acc) (by unfold bD;omega)
   have e3:acc.length - 1+1=acc.length:=by omega
   have e6 : ∀ f:Pc,ox (acc++ [f]) = .int .i64 (acc.length:Int)::((acc.map bS).flatten++bS f):=fun f=>by simp
   have e7 : ∀ f:Pc,(acc++ [f]).length=acc.length+1:=fun f=>by simp
   cases params with
   |nil=>
    have ha:=fun o T=>sH (size:=2) (bytes:=24) (z:=0) (z':=2) (g:= .shared) o T
    repeat' (first
 |simp only[go_sem,hD,gA,gB,gC,ha,K3,e3]
 |(with_reducible refine CU (c1 _) ?_)
 |(with_reducible refine CU (c2 _) ?_)
 |(with_reducible refine CU (c3 _) ?_)
 |(with_reducible first|refine bq fun hc=>?_|refine br fun hc=>?_|refine bt (fun hc=>?_) fun hc=>?_)<;>(try simp only[hc,bs,↓reduceIte]at h)<;>try simp only[hc]
 |(with_reducible refine aJ hQ ?_;(try cases h);simp only[bh,bk,bO,bP,go_sem,hD,gA,gB,gC,ha,K3,e3];try exact cJ)
 | (cases h;done))
    refine fm 5 0 ?_ ?_ (IH (rest,acc.length+1,acc++ [Pc.fV (fC t) ⟨name,[],vars,body,fin⟩]) ⟨g2,by simp,by simp,by rw[← h4];simp⟩ (Nat.lt_succ_self _))
    ·(simp only[go_sem,hD,gA,gB,gC,aM hk,e2,e3,e6,e7,Nat.add_sub_cancel];try exact cd)
    ·(simp only[go_sem,hD,gA,gB,gC,aM hk,e2,e3,e6,e7,Nat.add_sub_cancel];try exact cd)
   |cons q params=>
    have ha:=fun o T=>sG (size:=2) (bytes:=24) (rows:=(q::params).map iW) (by simp) (by simp only[List.length_map];unfold bD;omega) (z:=0) (g:= .shared) o T
    generalize q::params=ps at *
    repeat' (first
 |simp only[go_sem,hD,gA,gB,gC,ha,K3,e3]
 |(with_reducible refine CU (c1 _) ?_)
 |(with_reducible refine CU (c2 _) ?_)
 |(with_reducible refine CU (c3 _) ?_)
 |(with_reducible first|refine bq fun hc=>?_|refine br fun hc=>?_|refine bt (fun hc=>?_) fun hc=>?_)<;>(try simp only[hc,bs,↓reduceIte]at h)<;>try simp only[hc]
 |(with_reducible refine aJ hQ ?_;(try cases h);simp only[bh,bk,bO,bP,go_sem,hD,gA,gB,gC,ha,K3,e3];try exact cJ)
 | (cases h;done))
    refine fm 5 0 ?_ ?_ (IH (rest,acc.length+1,acc++ [Pc.fV (fC t) ⟨name,ps,vars,body,fin⟩]) ⟨g2,by simp,by simp,by rw[← h4];simp⟩ (Nat.lt_succ_self _))
    ·(simp only[go_sem,hD,gA,gB,gC,aM hk,e2,e3,e6,e7,Nat.add_sub_cancel];try exact cd)
    ·(simp only[go_sem,hD,gA,gB,gC,aM hk,e2,e3,e6,e7,Nat.add_sub_cancel];try exact cd)
 repeat' (first
 |simp only[go_sem,hD,gA,gB,gC]
 |(with_reducible refine CU (hG _) ?_)
 |(with_reducible first|refine bq fun hc=>?_|refine br fun hc=>?_|refine bt (fun hc=>?_) fun hc=>?_)<;>(try simp only[hc,bs,↓reduceIte]at h)<;>try simp only[hc]
 |(with_reducible refine aJ hQ ?_;exact fU)
 |(cases h;done))
 refine fI 4 0 (bp.ki (tm:=LN procs 0) (s:=⟨[bV ⟨globals,procs⟩,bd t,[.junk, .junk],[.slice .shared 1 (globals.map encStr), .fk 5]],[]⟩) ?_)
 have dU:=Pc.cZ (List.mem_of_getElem? IN)
 obtain⟨name,params,vars,body,fin⟩:=y0
 simp only[Pc.size]at dU
 have c1:=fun s=>xd (l:=vars) (by omega) s
 have c2:=fun s=>xd (l:=fin) (by omega) s
 have c3:=fun s=>Xo ht (l:=body) (by omega) s
 have e2:Pc.fV (fC t) ⟨name,params,vars,body,fin⟩ = ⟨name,params,vars,Sm.lO (fC t) body,fin⟩:=rfl
 have w1:IntKind.wrap .i64 ((0:Int)+1)=((1:Nat):Int):=rfl
 have AJ:=bp.S2 (P:=Tryz.prog) (a:=Zs) (Q:=iN 0 (lu (jX Tryz.prog B 47 Zt Q) Q)) (nt:=47) (tm:=LN procs ((1:Nat):Int)) (s:=⟨[bV ⟨globals,procs⟩,bd t,[.junk, .junk],[.slice .shared 1 (globals.map encStr), .dK 5 6 0 1],E5,E5,ox [Pc.fV (fC t) ⟨name,params,vars,body,fin⟩]],[]⟩)
  hB [0,1,2,3,6] _ _ (by decide) (by simp) (by simp[xB,D.fa,D.cT,D.bM,D.ok,Tag.cT,Tag.ok,AL,PY,EH,Hr,px,DH,VQ,uH,uI,xa]) (by simp[AH,Tm.get,D.cT,D.ok,Tag.cT,Tag.ok,Bz,EI]) loop
 have e4:ox [⟨name,params,vars,Sm.lO (fC t) body,fin⟩] = [.int .i64 0, .str name, .slice .shared 2 (params.map iW), .slice .shared 1 (vars.map encStr), .slice .shared 13 ((Sm.lO (fC t) body).map bd), .slice .shared 1 (fin.map encStr)]:=rfl
 cases params with
 |nil=>
  have ha:=fun o T=>sH (size:=2) (bytes:=24) (z:=0) (z':=2) (g:= .shared) o T
  repeat' (first
 |simp only[go_sem,hD,gA,gB,gC,IN,Ud,ij,ha,fv]
 |(with_reducible refine CU (c1 _) ?_)
 |(with_reducible refine CU (c2 _) ?_)
 |(with_reducible refine CU (c3 _) ?_)
 |(with_reducible first|refine bq fun hc=>?_|refine br fun hc=>?_|refine bt (fun hc=>?_) fun hc=>?_)<;>(try simp only[hc,bs,↓reduceIte]at h)<;>try simp only[hc]
 |(with_reducible refine aJ hQ ?_;(try cases h);simp only[bh,bk,bO,bP,go_sem,hD,gA,gB,gC,IN,Ud,ij,ha,fv];try exact cJ)
 |(cases h;done))
  refine fm 7 0 ?_ ?_ (AJ)
  ·(simp only[go_sem,hD,gA,gB,gC,w1,e2,e4,E5];try exact cd)
  ·(simp only[go_sem,hD,gA,gB,gC,w1,e2,e4,E5];try exact cd)
 |cons q params=>
  have ha:=fun o T=>sG (size:=2) (bytes:=24) (rows:=(q::params).map iW) (by simp) (by simp only[List.length_map];unfold bD;omega) (z:=0) (g:= .shared) o T
  generalize q::params=ps at *
  repeat' (first
 |simp only[go_sem,hD,gA,gB,gC,IN,Ud,ij,ha,fv]
 |(with_reducible refine CU (c1 _) ?_)
 |(with_reducible refine CU (c2 _) ?_)
 |(with_reducible refine CU (c3 _) ?_)
 |(with_reducible first|refine bq fun hc=>?_|refine br fun hc=>?_|refine bt (fun hc=>?_) fun hc=>?_)<;>(try simp only[hc,bs,↓reduceIte]at h)<;>try simp only[hc]
 |(with_reducible refine aJ hQ ?_;(try cases h);simp only[bh,bk,bO,bP,go_sem,hD,gA,gB,gC,IN,Ud,ij,ha,fv];try exact cJ)
 |(cases h;done))
  refine fm 7 0 ?_ ?_ (AJ)
  ·(simp only[go_sem,hD,gA,gB,gC,w1,e2,e4,E5];try exact cd)
  ·(simp only[go_sem,hD,gA,gB,gC,w1,e2,e4,E5];try exact cd)
set_option maxRecDepth 8000
open Go.Proofs
theorem amQ:(⟨-1,0,[],[],[],rm,false,[],[],[]⟩:Sm).E4<10000000:=by decide
def fW:Sm:=⟨-1,0,[],[],[],rm,false,[],[],[]⟩
theorem aji:bd fW = [.int .i64 (-1), .int .i64 0, .slice .shared 1 [], .str [], .str [], .int .i64 0, .int .i64 0, .str [], .slice .shared 4 [], .bool false, .slice .shared 6 [], .slice .shared 13 [], .slice .shared 13 []]:=rfl
theorem amR {p:Pg} (hp:p.size<1000000) (h0:p.procs≠ []) {t:Sm} (ht:t.E4<10000000) (st:St) :
 aH Tryz.prog tt [.agg (bV p), .agg (bd t)] st (.agg [.slice .shared 1 (p.globals.map encStr), .dK 5 st.al.length (p.procs.length - 1) p.procs.length]) ⟨st.al++ [ox (p.put t).procs],st.aA⟩:=by
 obtain⟨globals,procs⟩:=p
 show aH _ _ _ _ _ ⟨st.al++ [ox (procs.map (Pc.fV (fC t)))],st.aA⟩
 have h1:=amP hp h0 ht (R:=procs.map (Pc.fV (fC t))) rfl
 have hl:(procs.map (Pc.fV (fC t))).length=procs.length:=List.length_map ..
 generalize procs.map (Pc.fV (fC t))=R at *
 rw[hl]at h1
 have h2:=aH.AJ (d':= .agg [.slice .shared 1 (globals.map encStr), .dK 5 0 (procs.length - 1) procs.length]) (fz:= [ox R]) [4] h1 (by decide) (by simp) rfl (fun i o ds e1 e2=>by
  cases i with
  |zero=>
   simp only[List.getElem?_cons_zero,Option.some.injEq]at e1 e2
   subst e1 e2
   exact⟨by simp[D.fa,D.cT,uI,hl],by simp[D.bM,D.ok,xa]⟩
  |succ i=>simp at e1) (by simp[D.cT,D.fa,Tag.cT,px]) (by simp[D.ok,D.bM,Tag.ok,uH])
 have h3:=h2.abA (by simp[D.bM,D.ok,jj,qh]) (by simp[D.bM,D.ok,Hs]) st
 simpa[D.cT,D.fa,Tag.cT,px]using h3
theorem Xq {p:Pg} (hp:p.size<1000000) (h0:p.procs≠ []) (st:St) :
 aH Tryz.prog rQ [.agg (bV p)] st (.agg [.slice .shared 1 (p.globals.map encStr), .dK 5 st.al.length (p.procs.length - 1) p.procs.length]) ⟨st.al++ [ox (p.put fW).procs],st.aA⟩:=by
 have h1:=fun s=>amR hp h0 (t:=fW) amQ s
 have h2 : ∀ s:St,aH Tryz.prog tt [.agg (bV p), .agg [.int .i64 (-1), .int .i64 0, .slice .full 0 [], .str [], .str [], .int .i64 0, .int .i64 0, .str [], .slice .full 0 [], .bool false, .slice .full 0 [], .slice .full 0 [], .slice .full 0 []]] s
  (.agg [.slice .shared 1 (p.globals.map encStr), .dK 5 s.al.length (p.procs.length - 1) p.procs.length]) ⟨s.al++ [ox (p.put fW).procs],s.aA⟩:=
  fun s=>bW.su (.cons (Wk.refl _) (.cons (by rw[aji];exact Wk.agg (.cons (Wk.refl _) (.cons (Wk.refl _) (.cons (Wk.nil _ _ _) (.cons (Wk.refl _) (.cons (Wk.refl _) (.cons (Wk.refl _) (.cons (Wk.refl _) (.cons (Wk.refl _) (.cons (Wk.nil _ _ _) (.cons (Wk.refl _) (.cons (Wk.nil _ _ _) (.cons (Wk.nil _ _ _) (.cons (Wk.nil _ _ _) .nil)))))))))))))) .nil)) (h1 s)
 have key:aH Tryz.prog rQ [.agg (bV p)] S0 (.agg [.slice .shared 1 (p.globals.map encStr), .dK 5 2 (p.procs.length - 1) p.procs.length]) ⟨[bV p,[.junk, .junk],ox (p.put fW).procs],[]⟩:=by
  unfold S0
  refine aH.goK 3 0 (Nat.zero_le _) (Nat.zero_le _) Lg rfl fun B Q hB hQ=>?_
  have⟨hD,gA,gB,gC⟩:=bX
  generalize (p.put fW).procs=R at *
  repeat' (first
 |simp only[go_sem,hD,gA,gB,gC]
 |(with_reducible refine CU (h2 _) ?_)
 |(with_reducible first|refine bq fun hc=>?_|refine br fun hc=>?_|refine bt (fun hc=>?_) fun hc=>?_)<;>(try simp only[hc,bs,↓reduceIte]at h)<;>try simp only[hc]
 |(with_reducible refine aJ hQ ?_;exact fU)
 |(cases h;done))
 generalize (p.put fW).procs=R at *
 have h3:=aH.AJ (d':= .agg [.slice .shared 1 (p.globals.map encStr), .dK 5 0 (p.procs.length - 1) p.procs.length]) (fz:= [ox R]) [2] key (by decide) (by simp) rfl (fun i o ds e1 e2=>by
  cases i with
  |zero=>
   simp only[List.getElem?_cons_zero,Option.some.injEq]at e1 e2
   subst e1 e2
   exact⟨by simp[D.fa,D.cT,uI],by simp[D.bM,D.ok,xa]⟩
  |succ i=>simp at e1) (by simp[D.cT,D.fa,Tag.cT,px]) (by simp[D.ok,D.bM,Tag.ok,uH])
 have h4:=h3.abA (by simp[D.bM,D.ok,jj]) (by simp[D.bM,D.ok,Hs]) st
 simpa[D.cT,D.fa,Tag.cT,px]using h4
set_option maxRecDepth 8000
open Go.Proofs
abbrev acZ (N:Nat):Prop:=∀ (l:List Sm) (n:Nat),Sm.aU l<N→n+Sm.aU l<1000000000→∀ s:St,aH Tryz.prog kC [.slice .shared 13 (l.map bd), .int .i64 (n:Int)] s
 (.tuple [.slice .shared 13 ((Sm.fB true n l).1.map bd), .int .i64 ((Sm.fB true n l).2:Int)]) s
theorem Lx {N:Nat} (hN:N<10000000) (ih:acZ N) (l:List Sm) (n:Nat) (hl:Sm.aU l<N+1) (hn:n+Sm.aU l<1000000000) :
 aH Tryz.prog kC [.slice .shared 13 (l.map bd), .int .i64 (n:Int)] S0 (.tuple [.slice .shared 13 ((Sm.fB true n l).1.map bd), .int .i64 ((Sm.fB true n l).2:Int)]) S0:=by
 have hlen:l.length<10000001:=by have:=Sm.dR l;omega
 have hle:=Sm.uK true n l
 generalize hR:Sm.fB true n l=R at *
 unfold S0
 refine aH.go Fe rfl fun B Q hB hQ=>?_
 have⟨hD,gA,gB,gC⟩:=bX
 repeat' (first
 |simp only[go_sem,hD,gA,gB,gC]
 |(with_reducible first|refine bq fun hc=>?_|refine br fun hc=>?_|refine bt (fun hc=>?_) fun hc=>?_)<;>(try simp only[hc,bs,↓reduceIte]at h)<;>try simp only[hc]
 |(with_reducible refine aJ hQ ?_;exact fU)
 |(cases h;done))
 refine bp.rD 6 13 rfl ?_
 simp only[go_sem,hD,gA,gB,gC]
 refine fI 0 1 (bp.ind (ι:=List Sm×Nat×List Sm×Nat) (fun i=>l.drop i.2.1=i.1∧i.2.1=i.2.2.1.length∧(i.2.2.1++(Sm.fB true i.2.2.2 i.1).1,(Sm.fB true i.2.2.2 i.1).2)=R∧i.2.2.2+Sm.aU i.1≤n+Sm.aU l) (fun i=>i.1.length)
  (fun i=> [(1, .int .i64 (i.2.2.2:Int)),(6, .slice (.tok 0) 13 (i.2.2.1.map bd)),(10, .slice .shared 13 (l.map bd)),(11, .int .i64 (l.length:Int)),(12, .int .i64 (i.2.1:Int))])
  (fun i=>⟨[],[some i.2.1]⟩) ?_ (l,0,[],n) ⟨rfl,rfl,by simpa using hR,Nat.le_refl _⟩)
 rintro⟨rest,k,acc,m⟩ ⟨h1,h2,h3,h4⟩ IH
 dsimp only at h1 h2 h3 h4
 subst h2
 cases rest with
 |nil=>
  have hD:=drop_nil h1
  simp only[Sm.fB,List.append_nil]at h3
  subst h3
  repeat' (first
 |simp only[go_sem,hD,gA,gB,gC]
 |(with_reducible first|refine bq fun hc=>?_|refine br fun hc=>?_|refine bt (fun hc=>?_) fun hc=>?_)<;>(try simp only[hc,bs,↓reduceIte]at h)<;>try simp only[hc]
 |(with_reducible refine aJ hQ ?_;exact fU)
 |(cases h;done))
 |cons y rest=>
  obtain⟨gA,g2,hD,g4⟩:=drop_cons h1
  have hk:acc.length<4611686018427387904:=by omega
  have dU:y.size≤N:=by have:=Sm.cZ (List.mem_of_getElem? gA);omega
  obtain⟨id,kind,labels,name,proc,x,has,args,aQ,aN⟩:=y
  simp only[Sm.size]at dU
  simp only[Sm.aU,Sm.size]at h4
  have ij:(acc.length+1)*209≤bD:=by simp only[bD];omega
  have CM:=fun s=>zj (v:=⟨id,kind,labels,name,proc,x,has,args,aQ,aN⟩) (by dsimp only;omega) s
  simp only[Sm.bare,dv,List.map_nil]at CM
  simp only[Sm.fB,Sm.num,if_true]at h3
  have c1:=ih aQ (m+1) (by omega) (by omega)
  have l1:=Sm.uK true (m+1) aQ
  obtain⟨T,hT⟩ : ∃ T,Sm.fB true (m+1) aQ=T:=⟨_,rfl⟩
  rw[hT]at h3 c1 l1
  have c2:=ih aN T.2 (by omega) (by omega)
  have l2:=Sm.uK true T.2 aN
  obtain⟨E,hE⟩ : ∃ E,Sm.fB true T.2 aN=E:=⟨_,rfl⟩
  rw[hE]at h3 c2 l2
  have wm:IntKind.wrap .i64 ((m:Int)+1)=((m+1:Nat):Int):=by rw[eA]<;>omega
  repeat' (first
 |simp only[go_sem,hD,gA,gB,gC,ij,wm]
 |(with_reducible refine CU (CM _) ?_)
 |(with_reducible refine CU (c1 _) ?_)
 |(with_reducible refine CU (c2 _) ?_)
 |(with_reducible first|refine bq fun hc=>?_|refine br fun hc=>?_|refine bt (fun hc=>?_) fun hc=>?_)<;>(try simp only[hc,bs,↓reduceIte]at h)<;>try simp only[hc]
 |(with_reducible refine aJ hQ ?_;(try cases h);simp only[bh,bk,bO,bP,go_sem,hD,gA,gB,gC,ij,wm];try exact cJ)
 |(cases h;done))
  refine fm 0 1 ?_ ?_ (IH (rest,acc.length+1,acc++ [⟨((m+1:Nat):Int),kind,labels,name,proc,x,has,args,T.1,E.1⟩],E.2) ⟨g2,by simp,by rw[← h3];simp,by dsimp only;omega⟩ (Nat.lt_succ_self _))
  ·(simp only[go_sem,hD,gA,gB,gC,aM hk,dv];try exact cd)
  ·(simp only[go_sem,hD,gA,gB,gC,aM hk,dv];try exact cd)
theorem OF : ∀ N,N<10000000→acZ N:=by
 intro N
 induction N with
 |zero=>intro _ l n hl;exact absurd hl (Nat.not_lt_zero _)
 |succ N ih=>
  intro hN l n hl hn s
  exact(Lx (by omega) (ih (by omega)) l n hl hn).pure (by simp[D.bM,D.ok,Tag.ok,l8]) (by simp[D.bM,D.ok,Tag.ok,l8]) s
theorem Ue {l:List Sm} {n:Nat} (h:Sm.aU l<9000000) (hn:n+Sm.aU l<1000000000) (s:St):aH Tryz.prog kC [.slice .shared 13 (l.map bd), .int .i64 (n:Int)] s
 (.tuple [.slice .shared 13 ((Sm.fB true n l).1.map bd), .int .i64 ((Sm.fB true n l).2:Int)]) s:=
 OF 9999999 (by omega) l n (by omega) hn s
mutual
def Sm.drp (id:Int):Sm→Sm
 |⟨i,kind,labels,name,proc,x,has,args,aQ,aN⟩=>⟨i,kind,labels,name,proc,x,has,args,Sm.GM id aQ,Sm.GM id aN⟩
def Sm.GM (id:Int):List Sm→List Sm
 | []=> []
 |s::l=>if s.id==id then Sm.GM id l else s.drp id::Sm.GM id l
end
set_option maxRecDepth 8000
open Go.Proofs
abbrev JK (g:Nat) (l:List Pc):List D:= .int .i64 (g:Int)::(l.map bS).flatten
abbrev amS (len k n:Nat) (g:Nat):Tm:= [(1, .ptr 0 0),(2, .ptr 1 0),(3, .ptr 2 0),(4, .int .i64 (n:Int)),(9, .dK 5 3 g len),(10, .int .i64 (len:Int)),(11, .int .i64 (k:Int))]
theorem Xr {p:Pg} (hp:p.size<1000000) (h0:p.procs≠ []) (st:St):aH Tryz.prog wh [.agg (bV p)] st (.agg (bV p.number)) st:=by
 refine aH.pure ?_ (by simp[D.bM,D.ok,jj]) (by simp[D.ok,jj]) st
 have Be:=fun s=>Xq hp h0 s
 obtain⟨globals,procs⟩:=p
 simp only[Pg.size]at hp
 have hlen:procs.length<1000000:=by have:=Pc.dR procs;omega
 have nu:((⟨globals,procs⟩:Pg).put fW).procs.length=procs.length:=List.length_map ..
 have Xs:((⟨globals,procs⟩:Pg).put fW).procs=procs.map (Pc.fV (fC fW)):=rfl
 have fu:0<procs.length:=List.length_pos_iff.2 h0
 dsimp only at Be
 obtain⟨C,hC⟩ : ∃ C,((⟨globals,procs⟩:Pg).put fW).procs=C:=⟨_,rfl⟩
 rw[hC]at Be nu Xs
 obtain⟨g,hg⟩ : ∃ g,procs.length - 1=g:=⟨_,rfl⟩
 have K3:ox C=JK g C:=by rw[← hg, ← nu]
 have Xt:bV (⟨globals,procs⟩:Pg) = [.slice .shared 1 (globals.map encStr), .slice .shared 5 (procs.map bS)]:=rfl
 simp only[K3,hg,Xt]at Be
 generalize hR:Pc.fB 0 procs=R
 have Uf:bV (⟨globals,procs⟩:Pg).number = [.slice .shared 1 (globals.map encStr), .slice .shared 5 (R.map bS)]:=by
  unfold Pg.number;rw[hR];rfl
 rw[Uf]
 unfold S0
 refine aH.go HA rfl fun B Q hB hQ=>?_
 have⟨hD,gA,gB,gC⟩:=bX
 have loop : ∀ (rest uf done:List Pc) (n:Nat),procs.drop done.length=rest→uf=rest.map (Pc.fV (fC fW))→done++Pc.fB n rest=R→n+Pc.aU rest≤Pc.aU procs→
  bp Tryz.prog B 32 QKH (iN 0 (lu (jX Tryz.prog B 32 QKM Q) Q)) (amS procs.length done.length n g) ⟨[bV ⟨globals,procs⟩,[.junk, .junk],[.slice .shared 1 (globals.map encStr), .dK 5 3 g procs.length],JK g (done++uf)],[]⟩:=by
  intro rest
  induction rest with
  | nil=>
   intro uf done n h1 h2 h3 h4
   have hD:=drop_nil h1
   have:uf = []:=by simpa using h2
   subst this
   simp only[Pc.fB,List.append_nil]at h3
   subst h3
   rw[List.append_nil]
   have QB:procs.length=(done.map bS).length:=by
    rw[List.length_map]
    have h5:=List.drop_eq_nil_iff.1 h1
    have h6:=congrArg List.length hR
    have : ∀ (l:List Pc) (n:Nat),(Pc.fB n l).length=l.length:=by
     intro l
     induction l with
     |nil=>intro n;rfl
     |cons a l ih=>intro n;simp[Pc.fB,ih]
    rw[this]at h6
    exact h6
   refine bp.S1 3 g 5 (done.map bS) [(2, .ptr 1 0),(3, .ptr 2 0),(10, .int .i64 (procs.length:Int)),(11, .int .i64 (done.length:Int))] [bV ⟨globals,procs⟩,[.junk, .junk],[.slice .shared 1 (globals.map encStr), .slice .shared 5 (done.map bS)]]
    (by rw[hB];exact Nat.zero_le _) rfl ⟨9,_, .inl rfl⟩ (fun row hr=>by obtain⟨a,_,rfl⟩:=List.mem_map.1 hr;rfl) ?_ ?_ (bp.ki ?_)
   ·simp only [go_sem]
    repeat' (first|exact Ok.out|with_reducible refine jo ?_ ?_)
   ·show ik [CD _ _ _ _ _ (bV _),CD _ _ _ _ _ [.junk, .junk],CD _ _ _ _ _ [.slice .shared 1 _, .dK _ _ _ _]] _
    simp only[go_sem,QB,and_self,if_true]
    exact Ok.out
   ·repeat' (first
 |simp only[go_sem,hD,gA,gB,gC]
 |(with_reducible first|refine bq fun hc=>?_|refine br fun hc=>?_|refine bt (fun hc=>?_) fun hc=>?_)<;>(try simp only[hc,bs,↓reduceIte]at h)<;>try simp only[hc]
 |(with_reducible refine aJ hQ ?_;exact fU)
 |(cases h;replace h:=hr;clear hr;(try simp only[bs,↓reduceIte]at h))
 | (cases h;done))
  | cons y rest ih=>
   intro uf done n h1 h2 h3 h4
   obtain⟨gA,g2,hD,g4⟩:=drop_cons h1
   subst h2
   have hk:done.length<4611686018427387904:=by omega
   simp only[Pc.aU,Pc.size]at h4
   simp only[Pc.fB]at h3
   have PH:=fun s=>Ue (l:=y.body) (n:=n) (by omega) (by omega) s
   have hle:=Sm.uK true n y.body
   obtain⟨b,hb⟩ : ∃ b,Sm.fB true n y.body=b:=⟨_,rfl⟩
   rw[hb]at h3 PH hle
   have wJ:gS (((done++Pc.fV (fC fW) y::rest.map (Pc.fV (fC fW))).map bS).flatten) (done.length*5+3) [.slice .shared 13 (b.1.map bd)] =
    ((done++ {y with body:=b.1}::rest.map (Pc.fV (fC fW))).map bS).flatten:=Hp bS 5 (fun f=>rfl) done _ (Pc.fV (fC fW) y) {y with body:=b.1} 3 _ rfl (by simp)
   have gY:done.length*5+3+1≤(((done++Pc.fV (fC fW) y::rest.map (Pc.fV (fC fW))).map bS).flatten).length:=by rw[OD];simp;omega
   have IH:=ih (rest.map (Pc.fV (fC fW))) (done++ [{y with body:=b.1}]) b.2 (by rw[List.length_append];exact g2) rfl (by rw[← h3];simp) (by omega)
   have e7:(done++ [{y with body:=b.1}]).length=done.length+1:=by simp
   have e8:done++ [{y with body:=b.1}]++rest.map (Pc.fV (fC fW))=done++ {y with body:=b.1}::rest.map (Pc.fV (fC fW)):=by simp
   rw[e7,e8]at IH
   generalize done++ {y with body:=b.1}::rest.map (Pc.fV (fC fW))=L2 at *
   rw[List.map_cons]
   generalize done++Pc.fV (fC fW) y::rest.map (Pc.fV (fC fW))=L1 at *
   clear ih
   refine bp.ki ?_
   repeat' (first
 |simp only[go_sem,hD,gA,gB,gC,g4,wJ,gY]
 |(with_reducible refine CU (PH _) ?_)
 |(with_reducible first|refine bq fun hc=>?_|refine br fun hc=>?_|refine bt (fun hc=>?_) fun hc=>?_)<;>(try simp only[hc,bs,↓reduceIte]at h)<;>try simp only[hc]
 |(with_reducible refine aJ hQ ?_;(try cases h);simp only[bh,bk,bO,bP,go_sem,hD,gA,gB,gC,g4,wJ,gY];try exact cJ)
 |(cases h;replace h:=hr;clear hr;(try simp only[bs,↓reduceIte]at h))
 | (cases h;done))
   refine fm 4 0 ?_ ?_ (IH)
   ·(simp only[go_sem,hD,gA,gB,gC,aM hk];try exact cd)
   ·(simp only[go_sem,hD,gA,gB,gC,aM hk];try exact cd)
 repeat' (first
 |simp only[go_sem,hD,gA,gB,gC]
 |(with_reducible refine CU (Be _) ?_)
 |(with_reducible first|refine bq fun hc=>?_|refine br fun hc=>?_|refine bt (fun hc=>?_) fun hc=>?_)<;>(try simp only[hc,bs,↓reduceIte]at h)<;>try simp only[hc]
 |(with_reducible refine aJ hQ ?_;exact fU)
 |(cases h;replace h:=hr;clear hr;(try simp only[bs,↓reduceIte]at h))
 |(cases h;done))
 have AJ:=bp.S2 (P:=Tryz.prog) (a:=QKH) (Q:=iN 0 (lu (jX Tryz.prog B 32 QKM Q) Q)) (nt:=32) (tm:= [(1, .ptr 0 0),(2, .ptr 1 0),(3, .ptr 3 0),(4, .int .i64 ((0:Nat):Int)),(9, .dK 5 2 g procs.length),(10, .int .i64 (procs.length:Int)),(11, .int .i64 ((0:Nat):Int))])
  (s:=⟨[bV ⟨globals,procs⟩,[.junk, .junk],JK g C,[.slice .shared 1 (globals.map encStr), .dK 5 2 g procs.length]],[]⟩)
  hB [0,1,3,2] _ _ (by decide) (by simp) (by simp[xB,D.fa,D.cT,D.bM,D.ok,Tag.cT,Tag.ok,AL,EH,Hr,px,DH,uH,uI,xa]) (by simp[AH,Tm.get,D.cT,D.ok,Tag.cT,Tag.ok,Bz,EI])
  (loop procs C [] 0 rfl Xs (by simpa using hR) (by simp))
 refine fI 4 0 (AJ)
set_option maxRecDepth 8000
open Go.Proofs
def Pc.drp (id:Int) (f:Pc):Pc:= {f with body:=Sm.GM id f.body}
def Pg.drp (p:Pg) (id:Int):Pg:= {p with procs:=p.procs.map (Pc.drp id)}
abbrev amT (id:Int) (len k:Nat) (g:Nat):Tm:= [(1, .int .i64 id),(2, .ptr 0 0),(4, .ptr 1 0),(5, .ptr 2 0),(10, .dK 5 3 g len),(11, .int .i64 (len:Int)),(12, .int .i64 (k:Int))]
def Pg.rot (p:Pg) (n:Nat):Pg:= {p with procs:=p.procs.drop n++p.procs.take n}
structure Pg.Oks (p:Pg):Prop where
 sA:fh p.globals=true
 ac1:(p.globals.length:Int)≤16
 procs : ∀ f∈p.procs,f.okM
 aBN:p.procs.length≤16
 tot:Pc.tot p.procs≤200
mutual
theorem aaJ (b:Bool) (n:Nat) : ∀ s:Sm,((Sm.num b n s).1).size=s.size
 |⟨id,kind,labels,name,proc,x,has,args,aQ,e⟩=>by simp only[Sm.num,Sm.size,zn b _ aQ,zn b _ e]
theorem zn (b:Bool) (n:Nat) : ∀ l:List Sm,Sm.aU (Sm.fB b n l).1=Sm.aU l
 | []=>rfl
 |s::l=>by simp only[Sm.fB,Sm.aU,aaJ b n s,zn b _ l]
end
theorem IP : ∀ (l:List Pc) (n:Nat),Pc.aU (Pc.fB n l)=Pc.aU l
 | [],_=>rfl
 |f::l,n=>by simp only[Pc.fB,Pc.aU,Pc.size,zn,IP l]
theorem Pg.Et (p:Pg):p.number.size=p.size:=by simp only[Pg.number,Pg.size,IP]
mutual
theorem ajj (b c:Bool) (n:Nat) : ∀ s:Sm,((Sm.num b n s).1).cp c=s.cp c
 |⟨id,kind,labels,name,proc,x,has,args,aQ,e⟩=>by simp only[Sm.num,Sm.cp,E6 b _ _ aQ,E6 b _ _ e];rfl
theorem E6 (b c:Bool) (n:Nat) : ∀ l:List Sm,Sm.kh c (Sm.fB b n l).1=Sm.kh c l
 | []=>rfl
 |s::l=>by simp only[Sm.fB,Sm.kh,ajj b c n s,E6 b c _ l]
end
def uX (n:Nat):List Pc→List (Pc×Pc)
 | []=> []
 |f::l=>({f with body:=(Sm.fB true n f.body).1},f)::uX (Sm.fB true n f.body).2 l
theorem IQ : ∀ (l:List Pc) (n:Nat),(uX n l).map Prod.fst=Pc.fB n l
 | [],_=>rfl
 |f::l,n=>by simp only[uX,List.map_cons,Pc.fB,IQ l]
theorem IS : ∀ (l:List Pc) (n:Nat),(uX n l).map Prod.snd=l
 | [],_=>rfl
 |f::l,n=>by simp only[uX,List.map_cons,IS l]
def auv (id:Int) (n:Nat):List Pc→List (Pc×Pc)
 | []=> []
 |f::l=>({f with body:=(Sm.fB true n (Sm.GM id f.body)).1},f)::auv id (Sm.fB true n (Sm.GM id f.body)).2 l
theorem OG {f g:Pc} : ∀ {l:List Pc},(l.map (·.name)).Nodup→f∈l→g∈l→f.name=g.name→f=g
 | a::l,hn,hf,hg,e=>by
  rw[List.map_cons,List.nodup_cons]at hn
  rcases List.mem_cons.1 hf with rfl|JX
  ·rcases List.mem_cons.1 hg with rfl | nR
   ·rfl
   ·exact absurd (List.mem_map.2 ⟨g,nR,e.symm⟩) hn.1
  ·rcases List.mem_cons.1 hg with rfl | nR
   ·exact absurd (List.mem_map.2 ⟨f,JX,e⟩) hn.1
   ·exact OG hn.2 JX nR e
theorem Cq : ∀ (l:List Pc) (n:Nat),∀ x∈uX n l,∃ j,x.1 = {x.2 with body:=(Sm.fB true j x.2.body).1}
 |f::l,n,x,m=>by
  simp only[uX]at m
  rcases List.mem_cons.1 m with rfl|m
  ·exact⟨n,rfl⟩
  ·exact Cq l _ x m
theorem ae3 {p:Pg} {ps:List Pc} {k id:Int} (hp:p.Right) (hq:(⟨p.globals,ps⟩:Pg).number.Right) (h1 : ∀ g∈ps,∃ f∈p.procs,g = {f with body:=Sm.eH k id f.body}) (h2 : ∀ f∈p.procs,{f with body:=Sm.eH k id f.body}∈ps)
 (ht:k=1→∀ v∈p.pre,v.id=id→v.kind=5) (hr:k=2→∀ v∈p.pre,v.id=id→v.kind=6∧yh v.aQ):Made p (⟨p.globals,ps⟩:Pg).number k id:=by
 have Is:(p.procs.map (·.name)).Nodup:=by
  have:=hp.tp
  unfold Pg.pn at this
  refine Classical.byContradiction fun h=>?_
  rw[(pz _).2 h]at this
  cases this
 have p7:(⟨p.globals,ps⟩:Pg).number.procs=(uX 0 ps).map Prod.fst:=(IQ ps 0).symm
 refine⟨hp,hq,rfl,fun {i i' f f'} e1 e2 e3=>?_,fun {i f} e1=>?_,ht,hr⟩
 ·have m2:=List.mem_of_getElem? e2
  rw[p7]at m2
  obtain⟨⟨a,b⟩,mx,rfl⟩:=List.mem_map.1 m2
  obtain⟨j,ej⟩:=Cq ps 0 _ mx
  dsimp only at ej e3
  have mb:b∈ps:=by rw[← IS ps 0];exact List.mem_map.2 ⟨_,mx,rfl⟩
  obtain⟨g,mg,rfl⟩:=h1 b mb
  rw[ej]at e3
  have:g=f:=OG Is mg (List.mem_of_getElem? e1) e3
  subst this
  dsimp only
  rw[ej]
  exact⟨rfl,rfl,rfl,Cn true j _⟩
 ·have m:=h2 f (List.mem_of_getElem? e1)
  rw[← IS ps 0]at m
  obtain⟨⟨a,b⟩,mx,e⟩:=List.mem_map.1 m
  dsimp only at e
  subst e
  obtain⟨j,ej⟩:=Cq ps 0 _ mx
  have ma:a∈(⟨p.globals,ps⟩:Pg).number.procs:=by rw[p7];exact List.mem_map.2 ⟨_,mx,rfl⟩
  obtain⟨i',iI⟩:=List.getElem?_of_mem ma
  exact⟨i',a,iI,by dsimp only at ej;rw[ej]⟩
structure Cov (u v:Sm):Prop where
 said : ∀ x∈v.said,x∈u.said
 call:v.kind=4→u.kind=4∧u.proc=v.proc∧u.args=v.args∧u.name=v.name
structure Pc.JL (g f:Pc):Prop where
 name:g.name=f.name
 params:g.params=f.params
 vars:g.vars=f.vars
 st : ∀ v∈Sm.bN g.body,∃ u∈Sm.bN f.body,Cov u v
 lj:fe g.labels=false
 leads : ∀ q∈g.sh,kj g.labels q.1 q.2=true
theorem Ug {p q:Pg} (hp:p.Right) (hq:q.may=true) (hg:q.globals=p.globals) {l:List (Pc×Pc)} (tM:q.procs=l.map Prod.fst) (jn:(l.map Prod.snd).Perm p.procs) (hl3 : ∀ x∈l,Pc.JL x.1 x.2):q.Right:=by
 have nd:(p.procs.map (·.name)).Nodup:=by
  have:=hp.tp
  unfold Pg.pn at this
  cases e:fe (p.procs.map (·.name))with
  |true=>rw[e]at this;cases this
  |false=>
   by_cases hn:(p.procs.map (·.name)).Nodup
   ·exact hn
   ·rw[(pz _).2 hn]at e;cases e
 have P9:(q.pn).Perm p.pn:=by
  unfold Pg.pn
  have h1:q.procs.map (·.name)=(l.map Prod.snd).map (·.name):=by
   rw[tM,List.map_map,List.map_map]
   exact List.map_congr_left fun x m=>(hl3 x m).name
  rw[h1]
  exact jn.map _
 have ndq:(q.procs.map (·.name)).Nodup:=P9.nodup_iff.2 nd
 have tpq:fe q.pn=false:=by
  cases e:fe q.pn with
  |false=>rfl
  |true=>exact absurd ndq ((pz _).1 e)
 have QK : ∀ g∈q.procs,∃ f∈p.procs,Pc.JL g f:=fun g m=>by
  rw[tM]at m
  obtain⟨x,hx,rfl⟩:=List.mem_map.1 m
  exact⟨x.2,jn.mem_iff.1 (List.mem_map_of_mem hx),hl3 x hx⟩
 have ofp : ∀ f∈p.procs,∃ g∈q.procs,Pc.JL g f:=fun f m=>by
  obtain⟨x,hx,rfl⟩:=List.mem_map.1 (jn.mem_iff.2 m)
  exact⟨x.1,by rw[tM];exact List.mem_map_of_mem hx,hl3 x hx⟩
 have fq : ∀ {nm:aK} {g:Pc},q.find nm=some g→∃ f,p.find nm=some f∧Pc.JL g f:=fun {nm g} e=>by
  obtain⟨h1,h2⟩:=(uc ndq).1 e
  obtain⟨f,hf,kT⟩:=QK g h1
  exact⟨f,(uc nd).2 ⟨hf,by rw[← kT.name];exact h2⟩,kT⟩
 have fp : ∀ {nm:aK} {f:Pc},p.find nm=some f→∃ g,q.find nm=some g∧Pc.JL g f:=fun {nm f} e=>by
  obtain⟨h1,h2⟩:=(uc nd).1 e
  obtain⟨g,nR,kT⟩:=ofp f h1
  exact⟨g,(uc ndq).2 ⟨nR,by rw[kT.name];exact h2⟩,kT⟩
 have has : ∀ x,fG q.pn x=fG p.pn x:=fun x=>by
  have h1:=fx q.pn x
  have h2:=fx p.pn x
  have h3:=P9.mem_iff (a:=x)
  rw[Bool.eq_iff_iff,h1,h2,h3]
 have kind : ∀ {g f:Pc},Pc.JL g f→∀ n,g.j9 q n=f.j9 p n:=fun {g f} kT n=>by unfold Pc.j9;rw[kT.vars,kT.params,hg]
 have known : ∀ g∈q.procs,∀ v∈Sm.bN g.body,v.known q g q.pn=true:=fun g m v mv=>by
  obtain⟨f,hf,kT⟩:=QK g m
  obtain⟨u,hu,e⟩:=kT.st v mv
  have:=hp.known f hf u hu
  unfold Sm.known at this ⊢
  rw[has]
  simp only[kind kT]
  simp only[Bool.and_eq_true,Bool.not_eq_true',Bool.or_eq_true,bne_iff_ne,ne_eq]at this ⊢
  refine⟨?_, ?_⟩
  ·cases c:v.said.any fun n=>f.j9 p n==0 with
   |false=>rfl
   |true=>
    obtain⟨n,m1,m2⟩:=List.any_eq_true.1 c
    have h3:u.said.any (fun n=>f.j9 p n==0)=true:=List.any_eq_true.2 ⟨n,e.said n m1,m2⟩
    rw[this.1]at h3;cases h3
  ·by_cases hk:v.kind=4
   ·obtain⟨e1,e2,_,_⟩:=e.call hk
    right
    rcases this.2 with h|h
    ·exact absurd e1 h
    ·rw[← e2];exact h
   ·exact .inl hk
 have own : ∀ g∈q.procs,fe (q.globals++g.own)=false:=fun g m=>by
  obtain⟨f,hf,kT⟩:=QK g m
  have:=hp.own f hf
  unfold Pc.own Pc.tO at this ⊢
  rw[hg,kT.params,kT.vars];exact this
 have main:q.oW=false:=by
  have h1:=hp.main
  unfold Pg.oW at h1 ⊢
  cases e:p.find jb with
  |none=>rw[e]at h1;cases h1
  |some f=>
   rw[e]at h1
   obtain⟨g,nR,kT⟩:=fp e
   rw[nR]
   simpa only[kT.params]using h1
 have tg:fe q.globals=false:=by rw[hg];exact hp.tg
 have ni:q.scope=(0,0):=KQ hq tg tpq main fun g m=>⟨own g m,known g m⟩
 have aCH:(q.scope.1==0)=true:=by rw[ni];rfl
 have ajn:(p.scope.1==0)=true:=by rw[hp.scope];rfl
 -- who is called, what is touched
 have calls : ∀ x y,y∈p8 q x→y∈p8 p x:=fun x y m=>by
  unfold p8 at m ⊢
  cases e:q.find x with
  |none=>rw[e]at m;cases m
  |some g=>
   rw[e]at m
   obtain⟨f,hf,kT⟩:=fq e
   rw[hf]
   obtain⟨v,hv,h1,h2⟩:=D7.1 m
   obtain⟨u,hu,e2⟩:=kT.st v hv
   have e3:=e2.call (by simpa using h1)
   refine D7.2 ⟨u,hu, ?_, ?_⟩
   ·simpa using e3.1
   ·rw[e3.2.1];exact h2
 have work : ∀ {nm:aK} {f:Pc},p.find nm=some f→∀ x∈q.work nm,x∈p.work nm:=fun {nm f} hf x m=>by
  unfold Pg.work at m
  refine Ib (p:=q) (S:=fun x=>x∈p.work nm) (fun x hx y hy=>?_) _ _ _ (fun x hx=>?_) x m
  ·exact FE ajn _ _ _ (BT hf) (by omega) (fun j x hj=>absurd hj (Nat.not_lt_zero _)) _ hx _ (calls x y hy)
  ·rw [List.mem_singleton]at hx
   subst hx
   exact NM p _ _ _ (by simp)
 have body : ∀ n x,x∈si (oY q n)→x∈si (oY p n):=fun n x m=>by
  unfold oY at m ⊢
  cases e:q.find n with
  |none=>rw[e]at m;cases m
  |some g=>
   rw[e]at m
   obtain⟨f,hf,kT⟩:=fq e
   rw[hf]
   obtain⟨v,hv,h1⟩:=Eo.1 m
   obtain⟨u,hu,e2⟩:=kT.st v hv
   exact Eo.2 ⟨u,hu,e2.said _ h1⟩
 have ac1 : ∀ nm x,fG (q.nj nm) x=true→fG (p.nj nm) x=true:=fun nm x m=>by
  rw[fx]at m ⊢
  cases e:q.uR nm with
  |none=>unfold Pg.nj at m;rw[e]at m;cases m
  |some g=>
   obtain⟨_,eg⟩:=Ea e
   obtain⟨f,hf,kT⟩:=fq eg
   have ef:p.uR nm=some f:=by unfold Pg.uR;rw[if_pos ajn];exact hf
   rw[KM e]at m
   rw[KM ef]
   obtain⟨⟨n,hn,hx⟩,H3⟩:=m
   exact⟨⟨n,work hf n hn,body n x hx⟩,by rw[← hg];exact H3⟩
 have pre : ∀ v∈q.pre,∃ u∈p.pre,Cov u v:=fun v m=>by
  simp only[Pg.pre,List.mem_flatten,List.mem_map]at m
  obtain⟨_,⟨g,nR,rfl⟩,mv⟩:=m
  obtain⟨f,hf,kT⟩:=QK g nR
  obtain⟨u,hu,e⟩:=kT.st v mv
  exact⟨u,by simp only[Pg.pre,List.mem_flatten,List.mem_map];exact⟨_,⟨f,hf,rfl⟩,hu⟩,e⟩
 refine⟨hq,tg,tpq,main,own,known,fun g m=>?_,fun g m=>?_,fun v m hk=>?_,fun v m hk=>?_⟩
 ·obtain⟨f,hf,kT⟩:=QK g m
  exact kT.lj
 ·obtain⟨f,hf,kT⟩:=QK g m
  exact kT.leads
 ·obtain⟨u,hu,e⟩:=pre v m
  obtain⟨e1,e2,e3,e4⟩:=e.call (by simpa using hk)
  have:=hp.fits u hu (by simpa using e1)
  unfold Sm.pM at this ⊢
  rw[e2,e3,show(u.kind==4)=true by simpa using e1]at this
  rw[hk]
  simp only[Bool.true_and]at this ⊢
  cases e2:p.find v.proc with
  |none=>rw[e2]at this;cases this
  |some f=>
   rw[e2]at this
   obtain⟨g,nR,kT⟩:=fp e2
   rw[nR]
   simpa only[kT.params]using this
 ·obtain⟨u,hu,e⟩:=pre v m
  obtain⟨e1,e2,e3,e4⟩:=e.call (by simpa using hk)
  have:=hp.single u hu (by simpa using e1)
  unfold Sm.uU at this ⊢
  rw[e2,e3,e4]at this
  exact Ah (ac1 v.proc) this
theorem IT {x:aK} : ∀ (l:List Ar) {o o':List aK},(∀ y∈o',y∈o)→x∈Ar.said o' l→x∈Ar.said o l
 | [],o,o',h,m=>h x m
 | a::l,o,o',h,m=>by
  simp only[Ar.said]at m ⊢
  refine IT l (fun y hy=>?_) m
  split at hy
  ·rename_i hr
   rw[if_pos hr]
   simp only[List.mem_append]at hy ⊢
   rcases hy with (hy|hy)|hy
   ·exact .inl (.inl (h y hy))
   ·exact .inl (.inr hy)
   ·exact .inr hy
  ·rename_i hr
   rw[if_neg hr]
   simp only[List.mem_append]at hy ⊢
   rcases hy with hy|hy
   ·exact .inl (h y hy)
   ·exact .inr hy
theorem Xv {x:Ex} (h:x.may=true) : ∀ n∈(⟨4,0,[],[x]⟩:Ex).names,n∈x.names:=fun n m=>by
 unfold Ex.names at m ⊢
 rw[if_pos h]
 split at m
 ·simpa[Ex.nD,Ex.my]using m
 ·cases m
def FI (k:Int) (v:Sm):Prop:=(k=1→v.x.may=true)∧(k=2→v.kind=6∧yh v.aQ∧v.aN = [])
structure Uh (d c:Sm×Bool):Prop where
 cov:Cov d.1 c.1
 jump:c.1.kind=7∨c.1.kind=8→d.1.kind=c.1.kind∧d.2=c.2
 uT:c.1.kind=10→d.1.kind=10∧d.1.name=c.1.name
theorem QL (b:Bool) : ∀ x y:List Sm,Sm.kh b (x++y)=Sm.kh b x++Sm.kh b y
 | [],y=>by simp only[List.nil_append,Sm.kh]
 |s::x,y=>by simp only[List.cons_append,Sm.kh,QL b x y,List.append_assoc]
theorem QM {l:List Sm} (h:yh l) {b b':Bool} {c d:Sm×Bool} (hd:d∈Sm.kh b l) (hc:Uh d c) : ∃ d'∈Sm.kh b' l,Uh d' c:=by
 have h1:d.1∈(Sm.kh b l).map Prod.fst:=List.mem_map_of_mem hd
 rw[qe]at h1
 obtain⟨u,hu,e⟩:=List.mem_map.1 h1
 have h2:d.1∈(Sm.kh b' l).map Prod.fst:=by rw[qe];exact List.mem_map.2 ⟨u,hu,e⟩
 obtain⟨d',m',e'⟩:=List.mem_map.1 h2
 have hk:=h u hu
 have ek:d.1.kind=u.kind:=by rw[← e];rfl
 refine⟨d',m',by rw[e'];exact hc.cov,fun hj=>?_,fun hg=>?_⟩
 ·have:=(hc.jump hj).1
  omega
 ·have:=(hc.uT hg).1
  omega
mutual
theorem ajo (k id:Int) : ∀ (s:Sm) (b:Bool),(∀ v∈s.pre,v.id=id→FI k v)→∀ c∈(s.yf k id).cp b,∃ d∈s.cp b,Uh d c
 | ⟨i,kind,labels,name,proc,x,has,args,aQ,aN⟩,b,H,c,m=>by
  have Ht : ∀ v∈Sm.bN aQ,v.id=id→FI k v:=fun v mv=>H v (by simp[Sm.pre,mv])
  have He : ∀ v∈Sm.bN aN,v.id=id→FI k v:=fun v mv=>H v (by simp[Sm.pre,mv])
  have yj:=fun b'=>yk k id aQ b' Ht
  have FJ:=fun b'=>yk k id aN b' He
  have qY:=H ⟨i,kind,labels,name,proc,x,has,args,aQ,aN⟩ (by simp[Sm.pre])
  by_cases hs:Sp k id ⟨i,kind,labels,name,proc,x,has,args,aQ,aN⟩
  ·obtain⟨hk,hi⟩:=hs
   have nS:=qY hi
   rcases hk with rfl|rfl
   ·rw [pQ hi]at m
    simp only[Sm.cp,List.mem_cons,List.mem_append]at m ⊢
    rcases m with rfl|m|m
    ·refine⟨_, .inl rfl,⟨fun n hn=> ?_,fun h=>⟨h,rfl,rfl,rfl⟩⟩,fun _=>⟨rfl,rfl⟩,fun h=>⟨h,rfl⟩⟩
     refine IT args (fun y hy=>?_) hn
     rcases List.mem_append.1 hy with hy|hy
     ·exact List.mem_append_left _ hy
     ·exact List.mem_append_right _ (Xv (nS.1 rfl) y hy)
    ·obtain⟨d,m1,m2⟩:=FJ _ c m;exact⟨d, .inr (.inr m1),m2⟩
    ·obtain⟨d,m1,m2⟩:=yj _ c m;exact⟨d, .inr (.inl m1),m2⟩
   ·obtain⟨k6,hj,xQ⟩:=nS.2 rfl
    dsimp only at k6 hj xQ
    subst k6 xQ
    rw[pR hi]at m
    dsimp only at m
    simp only[Sm.cp,Sm.eH,Sm.kh,QL,List.mem_cons,List.mem_append,List.append_nil,List.not_mem_nil,or_false]at m ⊢
    rcases m with rfl|m|rfl|m
    ·exact⟨_, .inl rfl,⟨fun n hn=>hn,fun h=>absurd (show(5:Int)=4 from h) (by decide)⟩,fun h=>absurd (show(5:Int)=7∨(5:Int)=8 from h) (by decide),fun h=>absurd (show(5:Int)=10 from h) (by decide)⟩
    ·obtain⟨d,m1,m2⟩:=yj _ c m
     obtain⟨d',m3,m4⟩:=QM hj m1 m2
     exact⟨d', .inr m3,m4⟩
    ·exact⟨_, .inl rfl,⟨fun n hn=>hn,fun h=>absurd (show(6:Int)=4 from h) (by decide)⟩,fun h=>absurd (show(6:Int)=7∨(6:Int)=8 from h) (by decide),fun h=>absurd (show(6:Int)=10 from h) (by decide)⟩
    ·obtain⟨d,m1,m2⟩:=yj _ c m
     obtain⟨d',m3,m4⟩:=QM hj m1 m2
     exact⟨d', .inr m3,m4⟩
  ·rw [rY hs]at m
   dsimp only at m
   simp only[Sm.cp,List.mem_cons,List.mem_append]at m ⊢
   rcases m with rfl|m|m
   ·exact⟨_, .inl rfl,⟨fun n hn=>hn,fun h=>⟨h,rfl,rfl,rfl⟩⟩,fun _=>⟨rfl,rfl⟩,fun h=>⟨h,rfl⟩⟩
   ·obtain⟨d,m1,m2⟩:=yj _ c m;exact⟨d, .inr (.inl m1),m2⟩
   ·obtain⟨d,m1,m2⟩:=FJ _ c m;exact⟨d, .inr (.inr m1),m2⟩
theorem yk (k id:Int) : ∀ (l:List Sm) (b:Bool),(∀ v∈Sm.bN l,v.id=id→FI k v)→∀ c∈Sm.kh b (Sm.eH k id l),∃ d∈Sm.kh b l,Uh d c
 | [],b,H,c,m=>by simp[Sm.eH,Sm.kh]at m
 | s::l,b,H,c,m=>by
  simp only[Sm.eH,Sm.kh,List.mem_append]at m ⊢
  rcases m with m|m
  ·obtain⟨d,m1,m2⟩:=ajo k id s b (fun v mv=>H v (by simp [Sm.bN,mv])) c m
   exact⟨d, .inl m1,m2⟩
  ·obtain⟨d,m1,m2⟩:=yk k id l b (fun v mv=>H v (by simp [Sm.bN,mv])) c m
   exact⟨d, .inr m1,m2⟩
end
theorem pb : ∀ x y:List Sm,dO (x++y)=dO x++dO y
 | [],y=>rfl
 |s::x,y=>by simp only[List.cons_append,dO,pb x y,List.append_assoc]
theorem FK : ∀ x y:List Sm,Sm.bN (x++y)=Sm.bN x++Sm.bN y
 | [],y=>by simp only[List.nil_append,Sm.bN]
 |s::x,y=>by simp only[List.cons_append,Sm.bN,FK x y,List.append_assoc]
theorem Ui {l:List Sm} (h:yh l):dO (Sm.bN l) = []:=by
 have : ∀ m:List Sm,(∀ v∈m,v.labels = [])→dO m = []:=by
  intro m
  induction m with
  |nil=>intro _;rfl
  |cons a m ih=>intro hm;simp only[dO,hm a (List.mem_cons_self ..),ih fun v mv=>hm v (List.mem_cons_of_mem _ mv),List.append_nil]
 exact this _ fun v mv=>(h v mv).2.2.2
mutual
theorem aaK (k id:Int) : ∀ s:Sm,(∀ v∈s.pre,v.id=id→FI k v)→(dO (s.yf k id).pre).Perm (dO s.pre)
 | ⟨i,kind,labels,name,proc,x,has,args,aQ,aN⟩,H=>by
  have yj:=zo k id aQ fun v mv=>H v (by simp[Sm.pre,mv])
  have FJ:=zo k id aN fun v mv=>H v (by simp[Sm.pre,mv])
  have qY:=H ⟨i,kind,labels,name,proc,x,has,args,aQ,aN⟩ (by simp[Sm.pre])
  by_cases hs:Sp k id ⟨i,kind,labels,name,proc,x,has,args,aQ,aN⟩
  ·obtain⟨hk,hi⟩:=hs
   have nS:=qY hi
   rcases hk with rfl|rfl
   ·rw [pQ hi]
    simp only[Sm.pre,dO,pb]
    exact(((FJ.append yj).trans List.perm_append_comm).append_left _)
   ·obtain⟨k6,hj,xQ⟩:=nS.2 rfl
    dsimp only at k6 hj xQ
    subst k6 xQ
    rw[pR hi]
    have e1:=Ui hj
    rw[e1]at yj
    have e2:=yj.eq_nil
    simp only[Sm.pre,Sm.bN,FK,Sm.eH,dO,pb,e1,e2,List.append_nil,List.nil_append]
    exact List.Perm.refl _
  ·rw [rY hs]
   simp only[Sm.pre,dO,pb]
   exact((yj.append FJ).append_left _)
theorem zo (k id:Int) : ∀ l:List Sm,(∀ v∈Sm.bN l,v.id=id→FI k v)→(dO (Sm.bN (Sm.eH k id l))).Perm (dO (Sm.bN l))
 | [],_=>by simp only[Sm.eH];exact List.Perm.refl _
 |s::l,H=>by
  simp only[Sm.eH,Sm.bN,pb]
  exact(aaK k id s fun v mv=>H v (by simp[Sm.bN,mv])).append (zo k id l fun v mv=>H v (by simp[Sm.bN,mv]))
end
theorem aaL {l:List aK} (h:fe l=false):l.Nodup:=by
 refine Classical.byContradiction fun hn=>?_
 rw[(pz l).2 hn]at h
 cases h
theorem Uj {p:Pg} {k id:Int} (hp:p.Right) (hq:(⟨p.globals,p.procs.map fun f=> {f with body:=Sm.eH k id f.body}⟩:Pg).number.may=true) (H : ∀ v∈p.pre,v.id=id→FI k v) :
 (⟨p.globals,p.procs.map fun f=> {f with body:=Sm.eH k id f.body}⟩:Pg).number.Right:=by
 generalize p7:(p.procs.map fun f=> {f with body:=Sm.eH k id f.body})=ps at *
 have Av:(⟨p.globals,ps⟩:Pg).number.procs=(uX 0 ps).map Prod.fst:=(IQ ps 0).symm
 have hl : ∃ l:List (Pc×Pc),(uX 0 ps).map Prod.fst=l.map Prod.fst∧l.map Prod.snd=p.procs∧∀ x∈l,∃ j,x.1 = {x.2 with body:=(Sm.fB true j (Sm.eH k id x.2.body)).1}:=by
  have : ∀ (m:List Pc) (n:Nat),∃ l:List (Pc×Pc),(uX n (m.map fun f=> {f with body:=Sm.eH k id f.body})).map Prod.fst=l.map Prod.fst∧l.map Prod.snd=m∧∀ x∈l,∃ j,x.1 = {x.2 with body:=(Sm.fB true j (Sm.eH k id x.2.body)).1}:=by
   intro m
   induction m with
   |nil=>intro n;exact⟨[],rfl,rfl,fun x m=>by cases m⟩
   | cons f m ih=>
    intro n
    obtain⟨l,h1,h2,h3⟩:=ih (Sm.fB true n (Sm.eH k id f.body)).2
    refine⟨({f with body:=(Sm.fB true n (Sm.eH k id f.body)).1},f)::l, ?_,by rw[List.map_cons,h2],fun x mx=>?_⟩
    ·simp only[List.map_cons,uX,h1]
    ·rcases List.mem_cons.1 mx with rfl | mx
     ·exact⟨n,rfl⟩
     ·exact h3 x mx
  rw[← p7];exact this p.procs 0
 obtain⟨l,h1,h2,h3⟩:=hl
 refine Ug hp hq rfl (Av.trans h1) (by rw[h2]) fun x mx=>?_
 obtain⟨j,e⟩:=h3 x mx
 have mg:x.1∈(⟨p.globals,ps⟩:Pg).number.procs:=by rw[Av,h1];exact List.mem_map_of_mem mx
 have mf:x.2∈p.procs:=by rw[← h2];exact List.mem_map_of_mem mx
 obtain⟨g,f⟩:=x
 dsimp only at e mg mf
 have Hf : ∀ v∈Sm.bN f.body,v.id=id→FI k v:=fun v mv=>H v (by simp only[Pg.pre,List.mem_flatten,List.mem_map];exact⟨_,⟨f,mf,rfl⟩,mv⟩)
 have Be:g.kh=Sm.kh false (Sm.eH k id f.body):=by rw[e];exact E6 true false j _
 have N8:g.labels.Perm f.labels:=by
  rw[IE g,IE f,Be]
  unfold Pc.kh
  rw[qe,qe,vr,vr,show g.fin=f.fin by rw[e]]
  exact(zo k id f.body Hf).append_right _
 have Is:g.labels.Nodup:=N8.nodup_iff.2 (aaL (hp.lj f mf))
 refine⟨by rw[e],by rw[e],by rw[e],fun v mv=>?_, ?_, ?_⟩
 ·have m1:v.core∈(Sm.kh false g.body).map Prod.fst:=by rw [qe];exact List.mem_map_of_mem mv
  rw[show Sm.kh false g.body=g.kh from rfl,Be]at m1
  obtain⟨c,mc,ec⟩:=List.mem_map.1 m1
  obtain⟨d,md,hd⟩:=yk k id f.body false Hf c mc
  have m2:d.1∈(Sm.kh false f.body).map Prod.fst:=List.mem_map_of_mem md
  rw[qe]at m2
  obtain⟨u,mu,eu⟩:=List.mem_map.1 m2
  have hc:=hd.cov
  rw[ec, ← eu]at hc
  refine⟨u,mu,fun n hn=>?_,fun h4=>?_⟩
  ·have:=hc.said n (by rw [KY];exact hn)
   rwa [KY]at this
  ·exact hc.call h4
 ·cases c:fe g.labels with
  |false=>rfl
  |true=>exact absurd Is ((pz _).1 c)
 ·dsimp only
  rw[QH (QG hq mg)]
  have gY:=(QH (lj:=f.labels) (QG hp.may mf)).1 (hp.leads f mf)
  intro c mc
  rw[Be]at mc
  obtain⟨d,md,hd⟩:=yk k id f.body false Hf c mc
  have h2:=gY d md
  unfold kj at h2 ⊢
  by_cases hk:(c.1.kind==7 ||c.1.kind==8)=true
  ·have hj:=hd.jump (by simpa using hk)
   rw[if_pos hk]
   rw[if_pos (by rw[hj.1];exact hk),hj.2]at h2
   exact h2
  ·rw [if_neg hk]
   by_cases ct:(c.1.kind==10)=true
   ·have hg:=hd.uT (by simpa using ct)
    rw[if_pos ct]
    rw[if_neg (by rw[hg.1];decide),if_pos (by rw[hg.1];decide),hg.2,fx]at h2
    rw[fx]
    exact N8.mem_iff.2 h2
   ·rw[if_neg ct]
set_option maxRecDepth 8000
open Go.Proofs
abbrev Xw (id:Int) (N:Nat):Prop:=∀ l:List Sm,Sm.aU l<N→∀ s:St,aH Tryz.prog lR [.slice .shared 13 (l.map bd), .int .i64 id] s (.slice .shared 13 ((Sm.eH 1 id l).map bd)) s
theorem Pz (zp:Int) {N:Nat} (hN:N<10000000) (ih:Xw zp N) (l:List Sm) (hl:Sm.aU l<N+1) :
 aH Tryz.prog lR [.slice .shared 13 (l.map bd), .int .i64 zp] S0 (.slice .shared 13 ((Sm.eH 1 zp l).map bd)) S0:=by
 have hlen:l.length<10000001:=by have:=Sm.dR l;omega
 generalize hR:Sm.eH 1 zp l=R
 unfold S0
 refine aH.go HC rfl fun B Q hB hQ=>?_
 have⟨hD,gA,gB,gC⟩:=bX
 repeat' (first
 |simp only[go_sem,hD,gA,gB,gC]
 |(with_reducible first|refine bq fun hc=>?_|refine br fun hc=>?_|refine bt (fun hc=>?_) fun hc=>?_)<;>(try simp only[hc,bs,↓reduceIte]at h)<;>try simp only[hc]
 |(with_reducible refine aJ hQ ?_;exact fU)
 |(cases h;done))
 refine bp.rD 5 13 rfl ?_
 simp only[go_sem,hD,gA,gB,gC]
 refine fI 0 1 (bp.ind (ι:=List Sm×Nat×List Sm×Nat) (fun i=>l.drop i.2.1=i.1∧i.2.2.1.length≤i.2.1∧i.2.2.1++Sm.eH 1 zp i.1=R∧i.2.2.2=i.2.2.1.length) (fun i=>i.1.length)
  (fun i=> [(1, .int .i64 zp),(5, .slice (.tok 0) 13 (i.2.2.1.map bd)),(9, .slice .shared 13 (l.map bd)),(10, .int .i64 (l.length:Int)),(11, .int .i64 (i.2.1:Int))])
  (fun i=>⟨[],[some i.2.2.2]⟩) ?_ (l,0,[],0) ⟨rfl,Nat.le_refl _,hR,rfl⟩)
 rintro⟨rest,k,acc,m⟩ ⟨h1,h2,h3,h4⟩ IH
 dsimp only at h1 h2 h3 h4
 subst h4
 cases rest with
 |nil=>
  have hD:=drop_nil h1
  simp only[Sm.eH,List.append_nil]at h3
  subst h3
  repeat' (first
 |simp only[go_sem,hD,gA,gB,gC]
 |(with_reducible first|refine bq fun hc=>?_|refine br fun hc=>?_|refine bt (fun hc=>?_) fun hc=>?_)<;>(try simp only[hc,bs,↓reduceIte]at h)<;>try simp only[hc]
 |(with_reducible refine aJ hQ ?_;exact fU)
 |(cases h;done))
 | cons y rest=>
  obtain⟨gA,g2,hD,g4⟩:=drop_cons h1
  have hk:k<4611686018427387904:=by omega
  have dU:y.size≤N:=by have:=Sm.cZ (List.mem_of_getElem? gA);omega
  obtain⟨id,kind,labels,name,proc,x,has,args,aQ,aN⟩:=y
  simp only[Sm.size]at dU
  have ij:(acc.length+1)*209≤bD:=by simp only[bD];omega
  have CM:=fun s=>zj (v:=⟨id,kind,labels,name,proc,x,has,args,aQ,aN⟩) (by dsimp only;omega) s
  simp only[Sm.bare,dv,List.map_nil]at CM
  simp only[Sm.eH]at h3
  have c1:=ih aQ (by omega)
  have c2:=ih aN (by omega)
  rcases Bool.eq_false_or_eq_true (id==zp)with b1|b1
  ·have Ia:id=zp:=by simpa using b1
   rw[pQ Ia]at h3
   dsimp only at h3
   obtain⟨T,hT⟩ : ∃ T,Sm.eH 1 zp aQ=T:=⟨_,rfl⟩
   rw[hT]at h3 c1
   obtain⟨E,hE⟩ : ∃ E,Sm.eH 1 zp aN=E:=⟨_,rfl⟩
   rw[hE]at h3 c2
   repeat' (first
 |simp only[go_sem,hD,gA,gB,gC,ij,b1]
 |(with_reducible refine CU (CM _) ?_)
 |(with_reducible refine CU (c1 _) ?_)
 |(with_reducible refine CU (c2 _) ?_)
 |(with_reducible first|refine bq fun hc=>?_|refine br fun hc=>?_|refine bt (fun hc=>?_) fun hc=>?_)<;>(try simp only[hc,bs,↓reduceIte]at h)<;>try simp only[hc]
 |(with_reducible refine aJ hQ ?_;(try cases h);simp only[bh,bk,bO,bP,go_sem,hD,gA,gB,gC,ij,b1];try exact cJ)
 | (cases h;done))
   refine fm 0 1 ?_ ?_ (IH (rest,k+1,acc++ [⟨id,kind,labels,name,proc,⟨4,0,[],[x]⟩,has,args,E,T⟩],acc.length+1) ⟨g2,by simp;omega,by rw[← h3];simp,by simp⟩ (Nat.lt_succ_self _))
   ·(simp only [go_sem,hD,gA,aM hk,dv];repeat' (first | exact Ok.out | with_reducible refine jo ?_ ?_))
    refine Wk.rows (.append (.refl _) (.cons ?_ .nil))
    repeat' (first|exact .nil|exact Wk.refl _|exact(Wk.shared _ _ _).trans (Wk.of_eq (by cases x;simp only[cb,DF]))|refine .cons ?_ ?_)
   ·(simp only[go_sem,hD,gA,aM hk,dv];repeat' (first|exact Ok.out|with_reducible refine jo ?_ ?_))
  ·have Ia : ¬ Sp 1 zp ⟨id,kind,labels,name,proc,x,has,args,aQ,aN⟩:=fun e=>by
    have e2:id=zp:=e.2
    rw[e2]at b1
    simp at b1
   rw[rY Ia]at h3
   dsimp only at h3
   obtain⟨T,hT⟩ : ∃ T,Sm.eH 1 zp aQ=T:=⟨_,rfl⟩
   rw[hT]at h3 c1
   obtain⟨E,hE⟩ : ∃ E,Sm.eH 1 zp aN=E:=⟨_,rfl⟩
   rw[hE]at h3 c2
   repeat' (first
 |simp only[go_sem,hD,gA,gB,gC,ij,b1]
 |(with_reducible refine CU (CM _) ?_)
 |(with_reducible refine CU (c1 _) ?_)
 |(with_reducible refine CU (c2 _) ?_)
 |(with_reducible first|refine bq fun hc=>?_|refine br fun hc=>?_|refine bt (fun hc=>?_) fun hc=>?_)<;>(try simp only[hc,bs,↓reduceIte]at h)<;>try simp only[hc]
 |(with_reducible refine aJ hQ ?_;(try cases h);simp only[bh,bk,bO,bP,go_sem,hD,gA,gB,gC,ij,b1];try exact cJ)
 | (cases h;done))
   refine bp.re _ _ 0 1 (by rw[hB];exact CC rfl) (by rw[hB];exact CC rfl) ?_ ?_ (IH (rest,k+1,acc++ [⟨id,kind,labels,name,proc,x,has,args,T,E⟩],acc.length+1) ⟨g2,by simp;omega,by rw[← h3];simp,by simp⟩ (Nat.lt_succ_self _))
   ·(simp only[go_sem,hD,gA,gB,gC,aM hk,dv];try exact cd)
   ·(simp only[go_sem,hD,gA,gB,gC,aM hk,dv];try exact cd)
theorem Uk (id:Int) : ∀ N,N<10000000→Xw id N:=by
 intro N
 induction N with
 |zero=>intro _ l hl;exact absurd hl (Nat.not_lt_zero _)
 |succ N ih=>
  intro hN l hl s
  exact(Pz id (by omega) (ih (by omega)) l hl).pure (by simp[D.bM,D.ok,Tag.ok,l8]) (by simp[D.bM,D.ok,Tag.ok,l8]) s
theorem Xx {id:Int} {l:List Sm} (h:Sm.aU l<9000000) (s:St):aH Tryz.prog lR [.slice .shared 13 (l.map bd), .int .i64 id] s (.slice .shared 13 ((Sm.eH 1 id l).map bd)) s:=
 Uk id 9999999 (by omega) l (by omega) s
set_option maxRecDepth 8000
open Go.Proofs
def Pc.kN (k id:Int) (f:Pc):Pc:= {f with body:=Sm.eH k id f.body}
def Pg.kN (p:Pg) (k id:Int):Pg:= {p with procs:=p.procs.map (Pc.kN k id)}
theorem Xy {p:Pg} (hp:p.size<1000000) (h0:p.procs≠ []) (id:Int) (hq:(p.kN 1 id).size<1000000) (st:St):aH Tryz.prog wg [.agg (bV p), .int .i64 id] st (.agg (bV (p.kN 1 id).number)) st:=by
 refine aH.pure ?_ (by simp[D.bM,D.ok,jj]) (by simp[D.ok,jj]) st
 have Be:=fun s=>Xq hp h0 s
 have Ul:=fun s=>Xr (p:=p.kN 1 id) hq (by simpa[Pg.kN]using h0) s
 generalize hZ:(p.kN 1 id).number=Z at *
 clear hZ
 have hdp:(p.kN 1 id) = ⟨p.globals,p.procs.map (Pc.kN 1 id)⟩:=rfl
 rw[hdp]at Ul
 obtain⟨globals,procs⟩:=p
 dsimp only at Ul
 simp only[Pg.size]at hp
 have hlen:procs.length<1000000:=by have:=Pc.dR procs;omega
 have nu:((⟨globals,procs⟩:Pg).put fW).procs.length=procs.length:=List.length_map ..
 have Xs:((⟨globals,procs⟩:Pg).put fW).procs=procs.map (Pc.fV (fC fW)):=rfl
 have fu:0<procs.length:=List.length_pos_iff.2 h0
 dsimp only at Be
 obtain⟨C,hC⟩ : ∃ C,((⟨globals,procs⟩:Pg).put fW).procs=C:=⟨_,rfl⟩
 rw[hC]at Be nu Xs
 obtain⟨g,hg⟩ : ∃ g,procs.length - 1=g:=⟨_,rfl⟩
 have K3:ox C=JK g C:=by rw[← hg, ← nu]
 have Xt:bV (⟨globals,procs⟩:Pg) = [.slice .shared 1 (globals.map encStr), .slice .shared 5 (procs.map bS)]:=rfl
 simp only[K3,hg,Xt]at Be
 generalize hR:procs.map (Pc.kN 1 id)=R at *
 have auz:bV (⟨globals,R⟩:Pg) = [.slice .shared 1 (globals.map encStr), .slice .shared 5 (R.map bS)]:=rfl
 simp only[auz]at Ul
 unfold S0
 refine aH.go Hz rfl fun B Q hB hQ=>?_
 have⟨hD,gA,gB,gC⟩:=bX
 have loop : ∀ (rest uf done:List Pc),procs.drop done.length=rest→uf=rest.map (Pc.fV (fC fW))→done++rest.map (Pc.kN 1 id)=R→
  bp Tryz.prog B 31 Q8I (iN 0 (lu (jX Tryz.prog B 31 Q8N Q) Q)) (amT id procs.length done.length g) ⟨[bV ⟨globals,procs⟩,[.junk, .junk],[.slice .shared 1 (globals.map encStr), .dK 5 3 g procs.length],JK g (done++uf)],[]⟩:=by
  intro rest
  induction rest with
  | nil=>
   intro uf done h1 h2 h3
   have hD:=drop_nil h1
   have:uf = []:=by simpa using h2
   subst this
   simp only[List.map_nil,List.append_nil]at h3
   subst h3
   rw[List.append_nil]
   have QB:procs.length=(done.map bS).length:=by rw[← hR];simp
   refine bp.S1 3 g 5 (done.map bS) [(2, .ptr 0 0),(4, .ptr 1 0),(5, .ptr 2 0),(11, .int .i64 (procs.length:Int)),(12, .int .i64 (done.length:Int))] [bV ⟨globals,procs⟩,[.junk, .junk],[.slice .shared 1 (globals.map encStr), .slice .shared 5 (done.map bS)]]
    (by rw[hB];exact Nat.zero_le _) rfl ⟨10,_, .inl rfl⟩ (fun row hr=>by obtain⟨a,_,rfl⟩:=List.mem_map.1 hr;rfl) ?_ ?_ (bp.ki ?_)
   ·simp only [go_sem]
    repeat' (first|exact Ok.out|with_reducible refine jo ?_ ?_)
   ·show ik [CD _ _ _ _ _ (bV _),CD _ _ _ _ _ [.junk, .junk],CD _ _ _ _ _ [.slice .shared 1 _, .dK _ _ _ _]] _
    simp only[go_sem,QB,and_self,if_true]
    exact Ok.out
   ·repeat' (first
 |simp only[go_sem,hD,gA,gB,gC]
 |(with_reducible refine CU (Ul _) ?_)
 |(with_reducible first|refine bq fun hc=>?_|refine br fun hc=>?_|refine bt (fun hc=>?_) fun hc=>?_)<;>(try simp only[hc,bs,↓reduceIte]at h)<;>try simp only[hc]
 |(with_reducible refine aJ hQ ?_;exact fU)
 |(cases h;replace h:=hr;clear hr;(try simp only[bs,↓reduceIte]at h))
 | (cases h;done))
  | cons y rest ih=>
   intro uf done h1 h2 h3
   obtain⟨gA,g2,hD,g4⟩:=drop_cons h1
   subst h2
   have hk:done.length<4611686018427387904:=by omega
   have Fp:=Pc.cZ (List.mem_of_getElem? gA)
   simp only[Pc.size]at Fp
   have PH:=fun s=>Xx (id:=id) (l:=y.body) (by omega) s
   obtain⟨b,hb⟩ : ∃ b,Sm.eH 1 id y.body=b:=⟨_,rfl⟩
   have h3':done++ {y with body:=b}::rest.map (Pc.kN 1 id)=R:=by rw[← h3, ← hb];rfl
   rw[hb]at PH
   have wJ:gS (((done++Pc.fV (fC fW) y::rest.map (Pc.fV (fC fW))).map bS).flatten) (done.length*5+3) [.slice .shared 13 (b.map bd)] =
    ((done++ {y with body:=b}::rest.map (Pc.fV (fC fW))).map bS).flatten:=Hp bS 5 (fun f=>rfl) done _ (Pc.fV (fC fW) y) {y with body:=b} 3 _ rfl (by simp)
   have gY:done.length*5+3+1≤(((done++Pc.fV (fC fW) y::rest.map (Pc.fV (fC fW))).map bS).flatten).length:=by rw[OD];simp;omega
   have IH:=ih (rest.map (Pc.fV (fC fW))) (done++ [{y with body:=b}]) (by rw[List.length_append];exact g2) rfl (by rw[← h3'];simp)
   have e7:(done++ [{y with body:=b}]).length=done.length+1:=by simp
   have e8:done++ [{y with body:=b}]++rest.map (Pc.fV (fC fW))=done++ {y with body:=b}::rest.map (Pc.fV (fC fW)):=by simp
   rw[e7,e8]at IH
   generalize done++ {y with body:=b}::rest.map (Pc.fV (fC fW))=L2 at *
   rw[List.map_cons]
   generalize done++Pc.fV (fC fW) y::rest.map (Pc.fV (fC fW))=L1 at *
   clear ih
   refine bp.ki ?_
   repeat' (first
 |simp only[go_sem,hD,gA,gB,gC,g4,wJ,gY]
 |(with_reducible refine CU (PH _) ?_)
 |(with_reducible first|refine bq fun hc=>?_|refine br fun hc=>?_|refine bt (fun hc=>?_) fun hc=>?_)<;>(try simp only[hc,bs,↓reduceIte]at h)<;>try simp only[hc]
 |(with_reducible refine aJ hQ ?_;(try cases h);simp only[bh,bk,bO,bP,go_sem,hD,gA,gB,gC,g4,wJ,gY];try exact cJ)
 |(cases h;replace h:=hr;clear hr;(try simp only[bs,↓reduceIte]at h))
 | (cases h;done))
   refine fm 4 0 ?_ ?_ (IH)
   ·(simp only[go_sem,hD,gA,gB,gC,aM hk];try exact cd)
   ·(simp only[go_sem,hD,gA,gB,gC,aM hk];try exact cd)
 repeat' (first
 |simp only[go_sem,hD,gA,gB,gC]
 |(with_reducible refine CU (Be _) ?_)
 |(with_reducible first|refine bq fun hc=>?_|refine br fun hc=>?_|refine bt (fun hc=>?_) fun hc=>?_)<;>(try simp only[hc,bs,↓reduceIte]at h)<;>try simp only[hc]
 |(with_reducible refine aJ hQ ?_;exact fU)
 |(cases h;replace h:=hr;clear hr;(try simp only[bs,↓reduceIte]at h))
 |(cases h;done))
 have AJ:=bp.S2 (P:=Tryz.prog) (a:=Q8I) (Q:=iN 0 (lu (jX Tryz.prog B 31 Q8N Q) Q)) (nt:=31) (tm:= [(1, .int .i64 id),(2, .ptr 0 0),(4, .ptr 1 0),(5, .ptr 3 0),(10, .dK 5 2 g procs.length),(11, .int .i64 (procs.length:Int)),(12, .int .i64 ((0:Nat):Int))])
  (s:=⟨[bV ⟨globals,procs⟩,[.junk, .junk],JK g C,[.slice .shared 1 (globals.map encStr), .dK 5 2 g procs.length]],[]⟩)
  hB [0,1,3,2] _ _ (by decide) (by simp) (by simp[xB,D.fa,D.cT,D.bM,D.ok,Tag.cT,Tag.ok,AL,EH,Hr,px,DH,uH,uI,xa]) (by simp[AH,Tm.get,D.cT,D.ok,Tag.cT,Tag.ok,Bz,EI])
  (loop procs C [] rfl Xs (by simpa using hR))
 refine fI 4 0 (AJ)
mutual
theorem aaM (k id:Int) : ∀ s:Sm,(∀ v∈s.pre,v.id≠id)→s.yf k id=s
 |⟨i,kind,labels,name,proc,x,has,args,aQ,aN⟩,h=>by
  have h0:i≠id:=h ⟨i,kind,labels,name,proc,x,has,args,aQ,aN⟩ (by simp[Sm.pre])
  rw[rY fun e=>h0 e.2]
  dsimp only
  rw[zr k id aQ fun v m=>h v (by simp[Sm.pre,m]),zr k id aN fun v m=>h v (by simp[Sm.pre,m])]
theorem zr (k id:Int) : ∀ l:List Sm,(∀ v∈Sm.bN l,v.id≠id)→Sm.eH k id l=l
 | [],_=>by simp only[Sm.eH]
 |s::l,h=>by
  simp only[Sm.eH]
  rw[aaM k id s fun v m=>h v (by simp[Sm.bN,m]),zr k id l fun v m=>h v (by simp[Sm.bN,m])]
end
theorem K4 : ∀ a b:List Sm,Sm.aU (a++b)=Sm.aU a+Sm.aU b
 | [],b=>by simp[Sm.aU]
 |s::a,b=>by simp only[List.cons_append,Sm.aU,K4 a b];omega
mutual
theorem aaN (k id:Int) : ∀ s:Sm,(s.pre.map (·.id)).Nodup→(s.yf k id).size≤3*s.size
 | ⟨i,kind,labels,name,proc,x,has,args,aQ,aN⟩,h=>by
  simp only[Sm.pre,List.map_cons,List.map_append,List.nodup_cons,List.mem_append,not_or]at h
  obtain⟨⟨h1,h2⟩,h3⟩:=h
  obtain⟨n1,n2,_⟩:=List.nodup_append.1 h3
  have yj:=zt k id aQ n1
  have FJ:=zt k id aN n2
  by_cases hs:Sp k id ⟨i,kind,labels,name,proc,x,has,args,aQ,aN⟩
  ·obtain⟨hk,hi⟩:=hs
   rcases hk with rfl|rfl
   ·rw [pQ hi]
    simp only[Sm.size,Ex.size,Ex.aU]
    omega
   ·rw [pR hi]
    have iI:i=id:=hi
    have e:Sm.eH 2 id aQ=aQ:=zr 2 id aQ fun v m e=>h1 (List.mem_map.2 ⟨v,m,e.trans iI.symm⟩)
    simp only[Sm.size,K4,Sm.aU,e,List.length_nil]
    omega
  ·rw [rY hs]
   simp only[Sm.size]
   omega
theorem zt (k id:Int) : ∀ l:List Sm,((Sm.bN l).map (·.id)).Nodup→Sm.aU (Sm.eH k id l)≤3*Sm.aU l
 | [],_=>by simp[Sm.eH,Sm.aU]
 |s::l,h=>by
  simp only[Sm.bN,List.map_append]at h
  obtain⟨n1,n2,_⟩:=List.nodup_append.1 h
  have:=aaN k id s n1
  have:=zt k id l n2
  simp only[Sm.eH,Sm.aU];omega
end
theorem Xz {p:Pg} (h:p.may=true):(p.pre.map (·.id)).Nodup:=by
 rw[List.nodup_iff_pairwise_ne,List.pairwise_map,List.pairwise_iff_getElem]
 intro i j hi hj UN e
 have h1:=rV h (List.getElem?_eq_getElem hi)
 have h2:=rV h (List.getElem?_eq_getElem hj)
 omega
theorem Eu {p:Pg} (h:p.may=true) (k id:Int):(p.kN k id).size≤3*p.size:=by
 have : ∀ l:List Pc,(∀ f∈l,((Sm.bN f.body).map (·.id)).Nodup)→Pc.aU (l.map (Pc.kN k id))≤3*Pc.aU l:=by
  intro l
  induction l with
  |nil=>intro _;simp[Pc.aU]
  |cons f l ih=>
   intro hl
   have h1:=zt k id f.body (hl f (List.mem_cons_self ..))
   have h2:=ih fun g m=>hl g (List.mem_cons_of_mem _ m)
   simp only[List.map_cons,Pc.aU,Pc.size,Pc.kN]at h2 ⊢
   omega
 have:=this p.procs fun f m=>by
  have hn:=Xz h
  refine hn.sublist (List.Sublist.map _ ?_)
  unfold Pg.pre
  exact List.sublist_flatten_of_mem (List.mem_map.2 ⟨f,m,rfl⟩)
 simp only[Pg.size,Pg.kN];omega
mutual
theorem aaO (b:Bool) (n:Nat) : ∀ s:Sm,s.mw→((Sm.num b n s).1).mw
 |⟨id,kind,labels,name,proc,x,has,args,aQ,aN⟩,h=>by
  simp only[Sm.mw]at h
  simp only[Sm.num,Sm.mw]
  obtain⟨h1,h2,h3⟩:=h
  exact⟨⟨h1.lG,h1.Nj,h1.name,h1.proc,h1.x,h1.xt,h1.Js,h1.arg⟩,zu b _ aQ h2,zu b _ aN h3⟩
theorem zu (b:Bool) (n:Nat) : ∀ l:List Sm,Sm.gn l→Sm.gn (Sm.fB b n l).1
 | [],_=>by simp only[Sm.fB,Sm.gn]
 |s::l,h=>by
  simp only[Sm.gn]at h
  simp only[Sm.fB,Sm.gn]
  exact⟨aaO b n s h.1,zu b _ l h.2⟩
end
theorem K5 : ∀ {a b:List Sm},Sm.gn a→Sm.gn b→Sm.gn (a++b)
 | [],b,_,h=>h
 |s::a,b,h,k=>by
  simp only[List.cons_append,Sm.gn]at h ⊢
  exact⟨h.1,K5 h.2 k⟩
mutual
theorem aaP (k id:Int) : ∀ s:Sm,s.mw→s.size<1000000→(s.yf k id).mw
 | ⟨i,kind,labels,name,proc,x,has,args,aQ,aN⟩,h,hz=>by
  simp only[Sm.mw]at h
  simp only[Sm.size]at hz
  obtain⟨h1,h2,h3⟩:=h
  have yj:=zv k id aQ h2 (by omega)
  have FJ:=zv k id aN h3 (by omega)
  by_cases hs:Sp k id ⟨i,kind,labels,name,proc,x,has,args,aQ,aN⟩
  ·obtain⟨hk,hi⟩:=hs
   rcases hk with rfl|rfl
   ·rw [pQ hi]
    simp only[Sm.mw]
    exact⟨⟨h1.lG,h1.Nj,h1.name,h1.proc,by simp only[Ex.size,Ex.aU];omega,⟨by simp,h1.xt,trivial⟩,h1.Js,h1.arg⟩,FJ,yj⟩
   ·rw [pR hi]
    simp only[Sm.mw]
    refine⟨⟨h1.lG,h1.Nj,h1.name,h1.proc,h1.x,h1.xt,h1.Js,h1.arg⟩,K5 yj ?_,FJ⟩
    simp only[Sm.gn,Sm.mw,and_true]
    exact⟨⟨fun t m=>(by cases m),by simp,h1.name,h1.proc,h1.x,h1.xt,h1.Js,h1.arg⟩,yj⟩
  ·rw [rY hs]
   simp only[Sm.mw]
   exact⟨⟨h1.lG,h1.Nj,h1.name,h1.proc,h1.x,h1.xt,h1.Js,h1.arg⟩,yj,FJ⟩
theorem zv (k id:Int) : ∀ l:List Sm,Sm.gn l→Sm.aU l<1000000→Sm.gn (Sm.eH k id l)
 | [],_,_=>by simp only[Sm.eH,Sm.gn]
 |s::l,h,hz=>by
  simp only[Sm.gn]at h
  simp only[Sm.aU]at hz
  simp only[Sm.eH,Sm.gn]
  exact⟨aaP k id s h.1 (by omega),zv k id l h.2 (by omega)⟩
end
theorem XA {p:Pg} (h:p.EO) (hz:p.size<1000000) (hb:p.may=true) (k id:Int):(p.kN k id).number.EO:=by
 have hq:(p.kN k id).number.size≤3*p.size:=by rw[Pg.Et];exact Eu hb k id
 have hf : ∀ g∈(p.kN k id).number.procs,∃ f∈p.procs,∃ j,g = {f with body:=(Sm.fB true j (Sm.eH k id f.body)).1}:=fun g m=>by
  have e:(p.kN k id).number.procs=(uX 0 (p.procs.map (Pc.kN k id))).map Prod.fst:=(IQ _ 0).symm
  rw[e]at m
  obtain⟨⟨a,b⟩,mx,rfl⟩:=List.mem_map.1 m
  obtain⟨j,ej⟩:=Cq _ 0 _ mx
  have mb:b∈p.procs.map (Pc.kN k id):=by rw[← IS (p.procs.map (Pc.kN k id)) 0];exact List.mem_map.2 ⟨_,mx,rfl⟩
  obtain⟨f,mf,rfl⟩:=List.mem_map.1 mb
  exact⟨f,mf,j,ej⟩
 refine⟨by omega,h.sA,fun g m=>?_,fun g m=>?_⟩
 ·obtain⟨f,mf,j,rfl⟩:=hf g m
  exact h.ja f mf
 ·obtain⟨f,mf,j,rfl⟩:=hf g m
  have hs:=Pc.cZ mf
  simp only[Pc.size]at hs
  exact zu true j _ (zv k id _ (h.body f mf) (by unfold Pg.size at hz;omega))
theorem XB {p:Pg} (h:p.Right):p.procs≠ []:=fun e=>by
 have:=h.main
 simp[Pg.oW,Pg.find,e,iF]at this
set_option maxRecDepth 8000
open Go.Proofs
theorem ajp {p:Pg} (hb:p.may=true) {k n:Int} (hk:k≠0) (hz:pO (ku k p.all) n≠0) : ∃ v∈p.pre,v.id=pO (ku k p.all) n∧v.kind=k∧p.B6 (pO (ku k p.all) n)=v:=by
 obtain⟨i,g1,g2,g3⟩:=Gr.1 (WN hz)
 have CQ:i.s∈p.pre:=by rw[← (xR hb).2];exact List.mem_map_of_mem g1
 refine⟨i.s,CQ,g3,by simpa[hk]using g2, ?_⟩
 rw[← g3]
 exact KX hb CQ
theorem XC {p:Pg} (hb:p.may=true) {v w:Sm} (hv:v∈p.pre) (hw:w∈p.pre) (e:v.id=w.id):v=w:=by
 obtain⟨i,hi⟩:=List.getElem?_of_mem hv
 obtain⟨j,hj⟩:=List.getElem?_of_mem hw
 have e1:=rV hb hi
 have e2:=rV hb hj
 have:i=j:=by omega
 subst this
 rw[hi]at hj
 exact Option.some.inj hj
theorem amU {p:Pg} (hb:p.may=true) {v:Sm} (hv:v∈p.pre) (hk:v.kind=5):v.x.may=true:=GH (ET hb v hv) (by simp[Sm.DS,hk])
theorem aaQ {p:Pg} {k id:Int} (hp:p.Right) (hq:(p.kN k id).number.may=true) (H : ∀ v∈p.pre,v.id=id→FI k v) (ht:k=1→∀ v∈p.pre,v.id=id→v.kind=5):Made p (p.kN k id).number k id:=by
 have hr:(p.kN k id).number.Right:=Uj hp hq H
 refine ae3 hp hr (fun g mg=>?_) (fun f mf=>List.mem_map.2 ⟨f,mf,rfl⟩) ht (fun hk v mv e=>⟨((H v mv e).2 hk).1,((H v mv e).2 hk).2.1⟩)
 obtain⟨f,mf,e⟩:=List.mem_map.1 mg
 exact⟨f,mf,e.symm⟩
theorem PA (p:Pg) (T:List Int) (fuel n:Int) (s:St):aH Tryz.prog yL [.agg (bV p), .slice .shared 1 (T.map cO), .int .i64 fuel, .int .i64 n] s (.bool true) s:=by
 refine aH.pure ?_ (by simp[D.bM,D.ok,Tag.ok,jj,ju]) rfl s
 have h1:=fun s=>amL s
 have h2:=fun s=>aiq p s
 unfold S0
 rcases Bool.eq_false_or_eq_true (decide (p.EV≤20000))with hw|hw
 case inr=>
  simp only[hw]at h2
  refine aH.go lY rfl fun B Q hB hQ=>?_
  have⟨hD,gA,gB,gC⟩:=bX
  repeat' (first
 |simp only[go_sem,hD,gA,gB,gC]
 |(with_reducible refine CU (h1 _) ?_)
 |(with_reducible refine CU (h2 _) ?_)
 |(with_reducible first|refine bq fun hc=>?_|refine br fun hc=>?_|refine bt (fun hc=>?_) fun hc=>?_)<;>(try simp only[hc,bs,↓reduceIte]at h)<;>try simp only[hc]
 |(with_reducible refine aJ hQ ?_;exact fU)
 |(cases h;replace h:=hr;clear hr;(try simp only[bs,↓reduceIte]at h))
 |(cases h;done))
 simp only[hw]at h2
 obtain⟨dU,ac2⟩:=TF (of_decide_eq_true hw)
 have ho:p.jE:=⟨ac2,by omega⟩
 have h3:=fun s=>ae1 ho T fuel s
 rcases Bool.eq_false_or_eq_true (p.check.1==0 && (decide (0≤fuel) && (decide (fuel≤400) && decide ((T.length:Int)≤100))))with b1|b1
 case inr=>
  rw[b1]at h3
  refine aH.go lY rfl fun B Q hB hQ=>?_
  have⟨hD,gA,gB,gC⟩:=bX
  repeat' (first
 |simp only[go_sem,hD,gA,gB,gC]
 |(with_reducible refine CU (h1 _) ?_)
 |(with_reducible refine CU (h2 _) ?_)
 |(with_reducible refine CU (h3 _) ?_)
 |(with_reducible first|refine bq fun hc=>?_|refine br fun hc=>?_|refine bt (fun hc=>?_) fun hc=>?_)<;>(try simp only[hc,bs,↓reduceIte]at h)<;>try simp only[hc]
 |(with_reducible refine aJ hQ ?_;exact fU)
 |(cases h;replace h:=hr;clear hr;(try simp only[bs,↓reduceIte]at h))
 |(cases h;done))
 rw[b1]at h3
 obtain⟨hc,f0,f1,hT1⟩:=aaA b1
 have hr:=Gs hc
 obtain⟨s9,p7,sR⟩:=ho.procs
 have xU:p.all.length≤1000:=by have:=(A6 hr.may).1;omega
 have h4:=fun s=>acH (p:=p) (by omega) xU 5 s
 have h5:=fun s=>ail (l:=ku 5 p.all) (by have:=B4 5 p.all;omega) n s
 by_cases hz:pO (ku 5 p.all) n=0
 ·have c1:(pO (ku 5 p.all) n==0)=true:=by simp [hz]
  refine aH.go lY rfl fun B Q hB hQ=>?_
  have⟨hD,gA,gB,gC⟩:=bX
  repeat' (first
 |simp only[go_sem,hD,gA,gB,gC,c1]
 |(with_reducible refine CU (h1 _) ?_)
 |(with_reducible refine CU (h2 _) ?_)
 |(with_reducible refine CU (h3 _) ?_)
 |(with_reducible refine CU (h4 _) ?_)
 |(with_reducible refine CU (h5 _) ?_)
 |(with_reducible first|refine bq fun hc=>?_|refine br fun hc=>?_|refine bt (fun hc=>?_) fun hc=>?_)<;>(try simp only[hc,bs,↓reduceIte]at h)<;>try simp only[hc]
 |(with_reducible refine aJ hQ ?_;(try cases h);simp only[bh,bk,bO,bP,go_sem,hD,gA,gB,gC,c1];try exact cJ)
 |(cases h;replace h:=hr;clear hr;(try simp only[bs,↓reduceIte]at h))
 |(cases h;done))
 have c1:(pO (ku 5 p.all) n==0)=false:=by simpa using hz
 obtain⟨v,hv,v1,v2,v3⟩:=ajp hr.may (by decide) hz
 generalize pO (ku 5 p.all) n=id at *
 have hqs:(p.kN 1 id).number.size≤3*p.size:=by rw[Pg.Et];exact Eu hr.may 1 id
 have hq0:(p.kN 1 id).size≤3*p.size:=Eu hr.may 1 id
 have h6:=fun s=>Xy (p:=p) (by omega) (XB hr) id (by omega) s
 have H : ∀ w∈p.pre,w.id=id→FI 1 w:=fun w hw e=>⟨fun _=>by
  have:w=v:=XC hr.may hw hv (e.trans v1.symm)
  subst this
  exact amU hr.may hw v2,fun h=>absurd h (by decide)⟩
 have ht:(1:Int)=1→∀ w∈p.pre,w.id=id→w.kind=5:=fun _ w hw e=>by
  have:w=v:=XC hr.may hw hv (e.trans v1.symm)
  subst this
  exact v2
 have amV:=fun hq=>aaQ (k:=1) hr hq H ht
 have h7:=fun s=>HP (XA ac2 (by omega) hr.may 1 id) s
 rw[A5]at h7
 generalize (p.kN 1 id).number=q at *
 rcases Bool.eq_false_or_eq_true q.may with c2|c2
 case inr=>
  refine aH.go lY rfl fun B Q hB hQ=>?_
  have⟨hD,gA,gB,gC⟩:=bX
  repeat' (first
 |simp only[go_sem,hD,gA,gB,gC,c1,c2,Bool.not_false]
 |(with_reducible refine CU (h1 _) ?_)
 |(with_reducible refine CU (h2 _) ?_)
 |(with_reducible refine CU (h3 _) ?_)
 |(with_reducible refine CU (h4 _) ?_)
 |(with_reducible refine CU (h5 _) ?_)
 |(with_reducible refine CU (h6 _) ?_)
 |(with_reducible refine CU (h7 _) ?_)
 |(with_reducible first|refine bq fun hc=>?_|refine br fun hc=>?_|refine bt (fun hc=>?_) fun hc=>?_)<;>(try simp only[hc,bs,↓reduceIte]at h)<;>try simp only[hc]
 |(with_reducible refine aJ hQ ?_;(try cases h);simp only[bh,bk,bO,bP,go_sem,hD,gA,gB,gC,c1,c2,Bool.not_false];try exact cJ)
 |(cases h;replace h:=hr;clear hr;(try simp only[bs,↓reduceIte]at h))
 |(cases h;done))
 have hM:=amV c2
 have hoq:q.jE:=⟨Kn c2 (by omega),by omega⟩
 have hcq:(q.check.1==0)=true:=by rw[hM.right'.check];rfl
 have h8:=fun s=>N9 hoq s
 obtain⟨m,hm⟩:=Xe (T:=T) hc f0 (by omega)
 obtain⟨m',xe⟩:=Xe (T:=T) hcq f0 (by omega)
 have hlq:q.all.length≤1000:=by have:=(A6 c2).1;omega
 have h9:=fun s=>IC ho xU (T:=T) (by omega) fuel s
 rw[hm.whole]at h9
 have OA:=fun s=>IC hoq hlq (T:=T) (by omega) fuel s
 rw[xe.whole]at OA
 have h11:=fun s=>aeX (a:=m) (b:=m') hm.len s
 rw[hM.same hm xe]at h11
 rw[hcq]at h8
 refine aH.go lY rfl fun B Q hB hQ=>?_
 have⟨hD,gA,gB,gC⟩:=bX
 repeat' (first
 |simp only[go_sem,hD,gA,gB,gC,c1,c2,Bool.not_true]
 |(with_reducible refine CU (h1 _) ?_)
 |(with_reducible refine CU (h2 _) ?_)
 |(with_reducible refine CU (h3 _) ?_)
 |(with_reducible refine CU (h4 _) ?_)
 |(with_reducible refine CU (h5 _) ?_)
 |(with_reducible refine CU (h6 _) ?_)
 |(with_reducible refine CU (h7 _) ?_)
 |(with_reducible refine CU (h8 _) ?_)
 |(with_reducible refine CU (h9 _) ?_)
 |(with_reducible refine CU (OA _) ?_)
 |(with_reducible refine CU (h11 _) ?_)
 |(with_reducible first|refine bq fun hc=>?_|refine br fun hc=>?_|refine bt (fun hc=>?_) fun hc=>?_)<;>(try simp only[hc,bs,↓reduceIte]at h)<;>try simp only[hc]
 |(with_reducible refine aJ hQ ?_;(try cases h);simp only[bh,bk,bO,bP,go_sem,hD,gA,gB,gC,c1,c2,Bool.not_true];try exact cJ)
 |(cases h;replace h:=hr;clear hr;(try simp only[bs,↓reduceIte]at h))
 |(cases h;done))
def M0:Map:=⟨fun _ _=>none,fun _=>(0, .any),fun _=>none⟩
def Kept (w w':World):Prop:=w.keptBut w' (fun _=>False)∧∀ a:Addr,a.block<w.heap.size→w'.frozen? a=w.frozen? a
theorem Kept.frame {w w':World} (h:Kept w w') (may:MemPlace→Prop):w.keptBut w' may:=World.keptBut_mono (fun _ f=>f.elim) h.1
theorem Ext.ajq {M M':Map} {s':St} {w w':World} (e:Ext M S0 w M' s' w'):Kept w w':=by
 have hh : ∀ b,b<w.heap.size→w'.heap[b]? = w.heap[b]? :=fun b hb=>
  e.kept b hb (fun o ho=>by simp[S0]at ho) (fun t c z hl=>by obtain⟨n,hn⟩:=hl;simp[S0]at hn)
 refine⟨⟨e.os,e.output,fun i hi=>?_⟩,fun a ha=>?_⟩
 ·rw [hh i hi]
  exact(World.keptBut_refl w (fun _=>False)).2.2 i hi
 ·simp only[World.frozen?,hh _ ha]
theorem auA (G:Nat→Nat→Option Value) (w:World) (h : ∀ b o v,G b o=some v→w.cell? ⟨b,o,none⟩=some v∧v.oneCell'=true):Rel ⟨G,fun _=>(0, .any),fun _=>none⟩ S0 w:=
 ⟨h,fun o ds e=>by simp [S0]at e,fun o ho=>by simp [S0]at ho,fun o o' ho=>by simp [S0]at ho,fun t n e=>by simp [S0]at e,
  fun t b c z o hl=>by obtain⟨n,hn⟩:=hl;simp[S0]at hn,fun t t' b c z c' z' hl=>by obtain⟨n,hn⟩:=hl;simp[S0]at hn⟩
def Um (w:World):Prop:=∀ g cs,afl g=some cs→∃ T fr,w.heap[g]? = some (.cells cs T fr)
theorem amW (G:Nat→Nat→Option Value) {w:World} (h:Um w):Laid ⟨G,fun _=>(0, .any),fun _=>none⟩ S0 w:=
 fun g cs hg=>⟨h g cs hg,fun o ho=>by simp[S0]at ho,fun t c z hl=>by obtain⟨n,hn⟩:=hl;simp[S0]at hn⟩
theorem XD {P:Program} {f:FuncId} {args:List D} {gx:Array Value} {w:World} {G:Nat→Nat→Option Value} (h:bW P f args S0 fun d _=>d = .bool true)
 (hG : ∀ b o v,G b o=some v→w.cell? ⟨b,o,none⟩=some v∧v.oneCell'=true) (hl:gx.size=args.length)
 (ha : ∀ (i:Nat) (d:D) (v:Value),args[i]? = some d→gx[i]? = some v→RD ⟨G,fun _=>(0, .any),fun _=>none⟩ S0 d v) (kW:Um w) :
 Calls P f gx w fun e w'=>e = .returned (.bool true)∧Kept w w':=by
 refine(h _ w gx (auA G w hG) (amW G kW) hl ha).mono fun e w' hw=>?_
 obtain⟨M',d,v,s',rfl,rfl,he,_,hv⟩:=hw
 rw[hv.pE]
 exact⟨rfl,he.ajq⟩
section
variable {P:Program} {H:Type} {enc:TypeId×Value→H}
theorem OH {f:Func} {s:ChangeSpec} {apart fresh handsOn again:Bool} {W W':World} {args:Array Value} {v:Value} {ds gs:List (DataW H)} {before pa pv:List MemPlace}
 (hW:DataW.Whole enc P f.params.toList s.vars apart W args.toList ds gs before)
 (Uf : ∀ (b:Nat) (sp:Nat→Bool) (hd:Bool),DataW.TrodAll enc P W' b sp hd f.resultTypes.toList (v.resultList f.resultTypes.size) (s.fn H (ds++gs)).results [])
 (Bu : ∀ sp:Nat→Bool,(∀ p∈before,sp p.block=true)→DataW.TrodAll enc P W' 0 sp true f.params.toList args.toList (s.fn H (ds++gs)).args pa)
 (Cf : ∀ sp:Nat→Bool,(∀ p∈before,sp p.block=true)→DataW.TrodVars enc P W' sp s.vars (s.fn H (ds++gs)).vars pv)
 (p7:before=pa++pv) (hk:Kept W W')
 (nS : ∀ (j:Nat) (t:TypeId) (r:Value),f.resultTypes[j]? = some t→(v.resultList f.resultTypes.size)[j]? = some r→Value.okWide P W' .any 0 t r) :
 s.post enc P f apart fresh handsOn again W args v W':=by
 have hD : ∀ p∈before,p.block<W.heap.size:=fun p hp=>hW.lt p hp
 have hold : ∀ p∈before,(fun b=>decide (b<W.heap.size)) p.block=true:=fun p hp=>by simpa using hD p hp
 refine⟨ds,gs,before,[],pa,pv,hW,Uf _ _ _,Bu _ hold,Cf _ hold,World.keptBut_mono (fun p hp=>⟨hp, ?_⟩) (hk.frame (· ∈before)),fun _=>?_⟩
 ·rw [p7,List.mem_append]at hp
  exact Or.inr hp
 ·obtain⟨_,_,_,_,_,hz,hn⟩:=hW
  refine⟨nS,_,_,([]++pa)++pv,⟨[]++pa,pv,ChangeShapes.trodAll_append (Bu _ (fun _ _=>rfl)) (Uf _ _ _),Cf _ (fun _ _=>rfl),rfl, ?_, ?_⟩, ?_⟩
  ·intro b off hp
   have oy:MemPlace.cell b off∈before:=by rw[p7];simpa using hp
   rw[hk.2 _ (hD _ oy)]
   exact hz b off oy
  ·intro ha
   have:=hn ha
   rw[p7]at this
   simpa using this
  ·intro p hp _
   rw[p7]
   simpa using hp
end
end Go.Abs
namespace Go.Abs
open Go.RowKit Go.ChangeShapes Go.WideShapes
def Ev (w:World) (b o:Nat):Option Value:=
 match w.cell? ⟨b,o,none⟩with
 |some v=>if v.oneCell'=true then some v else none
 |none=>none
theorem QN {w:World} (b o:Nat) (v:Value) (h:Ev w b o=some v):w.cell? ⟨b,o,none⟩=some v∧v.oneCell'=true:=by
 unfold Ev at h
 split at h
 ·split at h
  ·cases h;exact⟨‹_›, ‹_›⟩
  ·cases h
 ·cases h
def uY (w:World):Map:=⟨Ev w,fun _=>(0, .any),fun _=>none⟩
theorem Kept.sameAt {w w':World} (h:Kept w w') {p:MemPlace} (hp:p.block<w.heap.size):w.sameAt w' p:=by
 have hk:=h.1.2.2 p.block hp
 cases p with
 | cell b off=>
  simp only[MemPlace.block]at hk hp
  simp only[World.sameAt,World.cell?]
  split at hk
  ·rename_i c t fr c' t' Qv e e'
   rw[e,e']
   simp only[hk.2.2.2 off (fun f=>f)]
  ·rename_i es clock Dt ajr e e'
   rw[e,e']
  ·rw[hk]
 | map b=>
  simp only[MemPlace.block]at hk hp
  simp only[World.sameAt]
  split at hk
  ·rename_i c t fr c' t' Qv e e'
   rw[e,e']
   obtain⟨rfl,rfl,hs,hc⟩:=hk
   have:c'=c:=by
    apply Array.ext_getElem?
    intro i
    exact hc i (fun f=>f)
   rw[this]
  ·rename_i es clock Dt ajr e e'
   rcases hk with f|⟨rfl,rfl⟩
   ·exact f.elim
   ·rw[e,e']
  ·exact hk
section
variable {P:Program} {H:Type} {enc:TypeId×Value→H} {T:TypeId→Prop}
theorem IU (K:Kids P T) (hz : ∀ {t e:TypeId},T t→P.underlying t=some (.slice e)→0<P.cellsOf e) {W W':World} (hk:Kept W W') {sp:Nat→Bool} :
 ∀ {ts:List TypeId} {vs:List Value} {ds:List (DataW H)} {ps:List MemPlace},(∀ t∈ts,T t)→(∀ p∈ps,p.block<W.heap.size)→(∀ p∈ps,sp p.block=true)→
  DataW.TrodAll enc P W 0 (fun _=>true) true ts vs ds ps→DataW.TrodAll enc P W' 0 sp true ts vs ds ps
 | [],[],[],_,_,_,_,h=>h
 |t::ts,v::vs,d::ds,ps,hT,hD,hs,⟨p,q,⟨n,h1⟩,h2,e⟩=>by
  subst e
  refine⟨p,q,⟨n,DataW.trod_stays K hz (fun f=>by cases f) (hT t (List.mem_cons_self ..)) h1 (fun x hx=>hk.sameAt (hD x (List.mem_append_left _ hx))) (fun x hx=>hs x (List.mem_append_left _ hx))⟩, ?_,rfl⟩
  exact IU K hz hk (fun t ht=>hT t (List.mem_cons_of_mem _ ht)) (fun x hx=>hD x (List.mem_append_right _ hx)) (fun x hx=>hs x (List.mem_append_right _ hx)) h2
 | [],[],_::_,_,_,_,_,h=>h.elim
 | [],_::_,_,_,_,_,_,h=>h.elim
 |_::_,[],_,_,_,_,_,h=>h.elim
 |_::_,_::_,[],_,_,_,_,h=>h.elim
theorem aaR (K:Kids P T) (hz : ∀ {t e:TypeId},T t→P.underlying t=some (.slice e)→0<P.cellsOf e) {f:Func} {s:ChangeSpec} {apart fresh handsOn again:Bool} {tb:TypeId} {W W':World} {args:Array Value} {ds gs:List (DataW H)} {before:List MemPlace}
 (hT : ∀ t∈f.params.toList,T t) (hb:P.underlying tb=some .bool) (hr:f.resultTypes = #[tb]) (Cf:s.vars = []) (hW:DataW.Whole enc P f.params.toList s.vars apart W args.toList ds gs before)
 (CP:s.fn H (ds++gs) = {results:= [.lit (.bool true)],args:=ds}) (hk:Kept W W'):s.post enc P f apart fresh handsOn again W args (.bool true) W':=by
 have hW':=hW
 have hD : ∀ p∈before,p.block<W.heap.size:=fun p hp=>hW.lt p hp
 obtain⟨p,q,hA,hV,rfl,hfz,Is⟩:=hW
 rw[Cf]at hV
 obtain⟨rfl,rfl⟩:=trodVars_none hV
 simp only[List.append_nil]at hD CP
 refine OH (pa:=p) (pv:= []) hW' (fun b sp hd=>?_) (fun sp wJ=>?_) (fun sp wJ=>?_) rfl hk (ok_one hr rfl (okWide_bool_mk hb _))
 ·rw [List.append_nil,CP,hr]
  exact trodAll_cons_mk (shut_bool hb _) trodAll_mk0
 ·rw [List.append_nil,CP]
  simp only[List.append_nil]at wJ
  exact IU K hz hk hT hD wJ hA
 ·rw [List.append_nil,CP,Cf]
  rfl
theorem ae6 {f:FuncId} {args:List D} {gx:Array Value} {w:World} (h:bW P f args S0 fun d _=>d = .bool true) (hl:gx.size=args.length)
 (ha : ∀ (i:Nat) (d:D) (v:Value),args[i]? = some d→gx[i]? = some v→RD (uY w) S0 d v) (kW:Um w):Calls P f gx w fun e w'=>e = .returned (.bool true)∧Kept w w':=
 XD (G:=Ev w) h QN hl ha kW
end
end Go.Abs
namespace Go.Abs
open Go.Proofs
def qU (n:Int):List D:= [.int .i64 n]
theorem amX (n:Int):D.bM 0 0 (qU n)=true:=rfl
theorem ajt (n m:Nat) (l:List Int):D.lL n m (l.map qU)=l.map qU:=nF amX n m l
attribute [go_sem] qU ajt
def amY (op:Int):aK:=
 if op=5 then [42]else if op=6 then [47]else if op=7 then [37]else if op=8 then [43]else if op=9 then [45]else if op=10 then [60]else if op=11 then [60,61]
 else if op=12 then [62]else if op=13 then [62,61]else if op=14 then [61,61]else if op=15 then [33,61]else if op=16 then [38,38]else [124,124]
def aBO (op:Int):Int:=(ahG (amY op)).1
def XE:Nat→List aK
 | 0=> []
 |n+1=>XE n++ [[UInt8.ofNat (97+n)]]
end Go.Abs
namespace Go.Abs
open Go.RowKit Go.ChangeShapes Go.WideShapes
theorem ae7 {W:World} {a:Addr} {len cap:Nat} {zs:List Int} (hl:len≤cap) (hz:len≤zs.length) (hc : ∀ i,i<zs.length→W.cell? (a.add i)=some (.int .i64 (zs.getD i 0))) :
 RD (uY W) S0 (.slice .shared 1 ((zs.take len).map qU)) (.slice (some a) len cap):=by
 by_cases h0:len=0
 ·subst h0
  exact .mS _ _ _
 ·obtain⟨b,off,rfl,iU⟩:=Go.ints_at hc (by omega)
  have hlen:((zs.take len).map qU).length=len:=by simp;omega
  have e:((zs.take len).map qU).length=len:=hlen
  have key : ∀ (i:Nat) (row:List D) (j:Nat) (d:D),((zs.take len).map qU)[i]? = some row→row[j]? = some d→(uY W).G b (off+(i*1+j))=some (.int .i64 (zs.getD i 0))∧d = .int .i64 (zs.getD i 0):=by
   intro i row j d h1 h2
   rw[List.getElem?_map,Option.map_eq_some_iff]at h1
   obtain⟨n,h1,rfl⟩:=h1
   rw[List.getElem?_take]at h1
   split at h1
   ·rename_i hi
    have hd:zs.getD i 0=n:=by rw[List.getD_eq_getElem?_getD,h1];rfl
    have pw:i<zs.length:=(List.getElem?_eq_some_iff.1 h1).1
    cases j with
    |zero=>
     simp[qU]at h2
     subst h2
     refine⟨?_,by rw[hd]⟩
     have:=iU i pw
     show Ev W b (off+(i*1+0))=_
     unfold Ev
     rw[show off+(i*1+0)=off+i by omega,this]
     rfl
    |succ j=>simp[qU]at h2
   ·cases h1
  have:=RD.slice (M:=uY W) (s:=S0) .shared 1 ((zs.take len).map qU) b off cap (by omega) (fun row hr=>by obtain⟨n,_,rfl⟩:=List.mem_map.1 hr;rfl)
   (fun i row j d h1 h2=>⟨_,(key i row j d h1 h2).1⟩) (fun i row j d u h1 h2 hu=>by
    obtain⟨k1,k2⟩:=key i row j d h1 h2
    rw[k1]at hu
    cases hu
    rw[k2]
    exact .int _ _) trivial
  rw[hlen]at this
  exact this
end Go.Abs
namespace Go.Abs
open Go.RowKit Go.ChangeShapes Go.WideShapes
def gb (W:World) (ds:List D) (cs:List Value):Prop:=ds.length=cs.length∧(∀ (i:Nat) (d:D) (v:Value),ds[i]? = some d→cs[i]? = some v→RD (uY W) S0 d v)∧∀ v∈cs,v.oneCell'=true
theorem gb.one {W:World} {d:D} {v:Value} (h:RD (uY W) S0 d v) (hv:v.oneCell'=true):gb W [d] [v]:=by
 refine⟨rfl,fun i d' v' h1 h2=>?_,fun u hu=>by simp at hu;subst hu;exact hv⟩
 cases i with
 |zero=>simp at h1 h2;subst h1 h2;exact h
 |succ i=>simp at h1
theorem gb.app {W:World} {ds pj:List D} {cs kR:List Value} (h:gb W ds cs) (h':gb W pj kR):gb W (ds++pj) (cs++kR):=by
 obtain⟨a1,a2,a3⟩:=h
 obtain⟨b1,b2,b3⟩:=h'
 refine⟨by simp[a1,b1],fun i d v h1 h2=>?_,fun v hv=>?_⟩
 ·by_cases hi:i<ds.length
  ·rw [List.getElem?_append_left hi]at h1
   rw[List.getElem?_append_left (by omega)]at h2
   exact a2 i d v h1 h2
  ·rw [List.getElem?_append_right (by omega)]at h1
   rw[List.getElem?_append_right (by omega), ← a1]at h2
   exact b2 _ d v h1 h2
 ·rcases List.mem_append.1 hv with hv | hv
  ·exact a3 v hv
  ·exact b3 v hv
theorem gb.at {W:World} {ds pj:List D} {cs:List Value} {o n:Nat} (h:gb W ds ((cs.drop o).take n)) (h':gb W pj (cs.drop (o+n))):gb W (ds++pj) (cs.drop o):=by
 have e:cs.drop o=(cs.drop o).take n++cs.drop (o+n):=by rw[← List.drop_drop,List.take_append_drop]
 rw[e]
 exact h.app h'
theorem gb.end {W:World} {cs:List Value} {o:Nat} (h:cs.length=o):gb W [] (cs.drop o):=by
 rw[← h,List.drop_length]
 exact⟨rfl,fun i d v h=>by simp at h,fun v hv=>by cases hv⟩
section
variable {H:Type} {enc:TypeId×Value→H} {P:Program} {W:World} {sp:Nat→Bool}
def structOf (P:Program) (t:TypeId):List (TypeId×Nat):=
 match P.underlying t with
 |some (.struct fs)=>fs.toList.map fun f=>(f.type,f.offset)
 |_=> []
theorem nK {t:TypeId} {l:List (TypeId×Nat)} {fuel:Nat} {cs:List Value} {x:DataW H×List MemPlace} (h:structOf P t=l) (fu:l≠ []) (ht:DataW.trod enc P W 0 sp true fuel t cs=some x) :
 ∃ n,fuel=n+1∧cs.length=P.cellsOf t∧∀ (i:Nat) (f:TypeId×Nat),l[i]? = some f→∃ y,DataW.trod enc P W 0 sp true n f.1 ((cs.drop f.2).take (P.cellsOf f.1))=some y:=by
 unfold structOf at h
 split at h
 ·rename_i fs hu
  obtain⟨xs,n,e,_,hl,hlen,hf⟩:=DataW.trod_struct hu ht
  refine⟨n,e,hl,fun i f hi=>?_⟩
  subst h
  rw[List.getElem?_map,Option.map_eq_some_iff]at hi
  obtain⟨g,hg,rfl⟩:=hi
  have nR:fs[i]? = some g:=by simpa using hg
  have hi:i<xs.length:=by rw[hlen];exact(Array.getElem?_eq_some_iff.1 nR).1
  exact⟨xs[i],by rw[hf i g nR,List.getElem?_eq_getElem hi]⟩
 ·exact absurd h.symm fu
theorem Ly {t:TypeId} {l:List (TypeId×Nat)} (h:structOf P t=l) (fu:l≠ []) : ∃ fs,P.underlying t=some (.struct fs):=by
 unfold structOf at h
 split at h
 ·exact⟨_, ‹_›⟩
 ·exact absurd h.symm fu
theorem FL {α:Type} {Q:Nat→α→Prop} : ∀ n,(∀ i,i<n→∃ y,Q i y)→∃ ys:List α,ys.length=n∧∀ i y,ys[i]? = some y→Q i y
 | 0,_=>⟨[],rfl,fun i y h=>by simp at h⟩
 | n+1,h=>by
  obtain⟨ys,h1,h2⟩:=FL n fun i hi=>h i (by omega)
  obtain⟨y,hy⟩:=h n (by omega)
  refine⟨ys++ [y],by simp[h1],fun i z hz=>?_⟩
  by_cases hi:i<ys.length
  ·rw[List.getElem?_append_left hi]at hz;exact h2 i z hz
  ·rw [List.getElem?_append_right (by omega)]at hz
   have:i - ys.length=0:=by
    rcases Nat.eq_zero_or_pos (i - ys.length)with h|h
    ·exact h
    ·rw[List.getElem?_eq_none (by simp only[List.length_cons,List.length_nil];omega)]at hz;cases hz
   rw[this]at hz
   simp at hz
   subst hz
   have:i=n:=by omega
   subst this
   exact hy
theorem qV {α:Type} (en:α→List D) (good:α→Prop) {z:Nat} {t e:TypeId} {fuel:Nat} {cs:List Value} {x:DataW H×List MemPlace} (ht:P.underlying t=some (.slice e)) (hz:P.cellsOf e=z) (hz0:0<z) (hen : ∀ y,(en y).length=z)
 (hel : ∀ n<fuel,∀ cs x,DataW.trod enc P W 0 sp true n e cs=some x→∃ y,gb W (en y) cs∧good y) (h:DataW.trod enc P W 0 sp true fuel t cs=some x) :
 ∃ ys:List α,gb W [.slice .shared z (ys.map en)] cs∧∀ y∈ys,good y:=by
 rcases DataW.trod_slice ht h with ⟨rfl,_⟩|⟨a,len,cap,elems,rest,n,hn,rfl,_,hb,hl,hm,hlen,iU,_,_⟩
 ·exact⟨[],gb.one (.jI _ _ _ rfl trivial) rfl,fun y hy=>by cases hy⟩
 ·by_cases h0:len=0
  ·subst h0
   exact⟨[],gb.one (.mS _ _ _) rfl,fun y hy=>by cases hy⟩
  ·obtain⟨ys,hys,Bx⟩:=FL (Q:=fun i y=>good y∧∃ kR,W.cells? 0 (a.add (i*z)) z=some kR∧gb W (en y) kR) len fun i hi=>by
    have hc:=iU i hi
    rw[List.getElem?_eq_getElem (by omega),hz,Option.bind_eq_some_iff]at hc
    obtain⟨kR,h1,h2⟩:=hc
    obtain⟨y,h3,h4⟩:=hel n (by omega) _ _ h2
    exact⟨y,h4,kR,h1,h3⟩
   have cell : ∀ i y,ys[i]? = some y→∀ (j:Nat) d,(en y)[j]? = some d→∃ v,W.cell? ((a.add (i*z)).add j)=some v∧RD (uY W) S0 d v∧v.oneCell'=true:=by
    intro i y hy j d hd
    obtain⟨_,kR,h1,h2,h3,h4⟩:=Bx i y hy
    obtain⟨_,k1,k2⟩:=World.cells?_some h1
    have hj:j<z:=by rw[← hen y];exact(List.getElem?_eq_some_iff.1 hd).1
    have hv:kR[j]? = some kR[j]:=List.getElem?_eq_getElem (by omega)
    exact⟨kR[j],by rw[k2 j hj,hv],h3 j d _ hd hv,h4 _ (List.getElem_mem _)⟩
   obtain⟨b,off,spot⟩:=a
   have amZ:spot=none:=by
    have hy:ys[0]? = some (ys[0]'(by omega)):=List.getElem?_eq_getElem (by omega)
    obtain⟨d,hd⟩ : ∃ d,(en (ys[0]'(by omega)))[0]? = some d:=⟨_,List.getElem?_eq_getElem (show 0<(en (ys[0]'(by omega))).length by rw[hen];exact hz0)⟩
    obtain⟨v,hv,_⟩:=cell 0 _ hy 0 _ hd
    have:=World.cell?_spot hv
    simpa[Addr.add]using this
   subst amZ
   have e:(ys.map en).length=len:=by simp[hys]
   have:=RD.slice (M:=uY W) (s:=S0) .shared z (ys.map en) b off cap (by omega) (fun row hr=>by obtain⟨y,_,rfl⟩:=List.mem_map.1 hr;exact hen y)
    (fun i row j d h1 h2=>by
     rw[List.getElem?_map,Option.map_eq_some_iff]at h1
     obtain⟨y,h1,rfl⟩:=h1
     obtain⟨v,hv,_,h4⟩:=cell i y h1 j d h2
     rw[add_plain,add_plain]at hv
     refine⟨v, ?_⟩
     show Ev W b (off+(i*z+j))=_
     unfold Ev
     rw[show off+(i*z+j)=off+i*z+j by omega,hv]
     simp[h4])
    (fun i row j d u h1 h2 hu=>by
     rw[List.getElem?_map,Option.map_eq_some_iff]at h1
     obtain⟨y,h1,rfl⟩:=h1
     obtain⟨v,hv,h3,h4⟩:=cell i y h1 j d h2
     rw[add_plain,add_plain]at hv
     obtain⟨hu,_⟩:=QN _ _ _ hu
     rw[show off+(i*z+j)=off+i*z+j by omega,hv]at hu
     cases hu
     exact h3) trivial
   rw[e]at this
   refine⟨ys,gb.one this rfl,fun y hy=>?_⟩
   obtain⟨i,hi⟩:=List.getElem?_of_mem hy
   exact(Bx i y hi).1
theorem IV {t:TypeId} {fuel:Nat} {cs:List Value} {x:DataW H×List MemPlace} (ht:P.underlying t=some (.int .i64)) (h:DataW.trod enc P W 0 sp true fuel t cs=some x) : ∃ n:Int,gb W [.int .i64 n] cs∧n≤9223372036854775807∧ -9223372036854775808≤n:=by
 obtain⟨n,rfl,_,hw⟩:=DataW.trod_int ht h
 simp[Lit.wf,IntKind.min,IntKind.max,IntKind.signed,IntKind.bits]at hw
 exact⟨n,gb.one (.int _ _) rfl,by omega,by omega⟩
theorem JM {t:TypeId} {fuel:Nat} {cs:List Value} {x:DataW H×List MemPlace} (ht:P.underlying t=some .bool) (h:DataW.trod enc P W 0 sp true fuel t cs=some x) : ∃ b:Bool,gb W [.bool b] cs:=by
 obtain⟨n,rfl,_⟩:=DataW.trod_bool ht h
 exact⟨n,gb.one (.bool _) rfl⟩
theorem yl {t:TypeId} {fuel:Nat} {cs:List Value} {x:DataW H×List MemPlace} (ht:P.underlying t=some .string) (h:DataW.trod enc P W 0 sp true fuel t cs=some x) : ∃ s:aK,gb W (encStr s) cs∧s.length≤maxLen:=by
 obtain⟨s,rfl,_,hm⟩:=DataW.trod_string ht h
 obtain⟨⟨l⟩⟩:=s
 exact⟨l,gb.one (.str l) rfl,hm⟩
theorem am0 {tE tI tN tS tK:TypeId} (hE:structOf P tE = [(tI,0),(tN,1),(tS,2),(tK,3)]) (hEc:P.cellsOf tE=4) (hI:P.underlying tI=some (.int .i64)) (hN:P.underlying tN=some (.int .i64)) (hS:P.underlying tS=some .string) (hK:P.underlying tK=some (.slice tE))
 (cI:P.cellsOf tI=1) (cN:P.cellsOf tN=1) (cS:P.cellsOf tS=1) (cK:P.cellsOf tK=1) :
 ∀ (fuel:Nat) (cs:List Value) (x:DataW H×List MemPlace),DataW.trod enc P W 0 sp true fuel tE cs=some x→∃ y:Ex,gb W (cb y) cs∧y.tQ:=by
 intro fuel
 induction fuel using Nat.strongRecOn with
 | _ fuel ih=>
  intro cs x h
  obtain⟨n,rfl,hl,hf⟩:=nK hE (by simp) h
  obtain⟨y0,h0⟩:=hf 0 _ rfl
  obtain⟨y1,h1⟩:=hf 1 _ rfl
  obtain⟨y2,h2⟩:=hf 2 _ rfl
  obtain⟨y3,h3⟩:=hf 3 _ rfl
  dsimp only at h0 h1 h2 h3
  rw[cI]at h0
  rw[cN]at h1
  rw[cS]at h2
  rw[cK]at h3
  obtain⟨op,r0,_⟩:=IV hI h0
  obtain⟨m,r1,hm,_⟩:=IV hN h1
  obtain⟨s,r2,_⟩:=yl hS h2
  obtain⟨ks,r3,hg⟩:=qV (W:=W) cb Ex.tQ hK hEc (by decide) abo (fun k hk cs x hx=>ih k (by omega) cs x hx) h3
  refine⟨⟨op,m,s,ks⟩, ?_,hm, ?_⟩
  ·have:=r0.at (r1.at (r2.at (r3.at (gb.end (by rw [hl,hEc])))))
   rw[ji]
   simpa[encStr]using this
  ·clear r3
   induction ks with
   |nil=>exact trivial
   |cons k ks ihk=>exact⟨hg k (by simp),ihk fun y hy=>hg y (by simp[hy])⟩
theorem gb.agg {ds:List D} {v:Value} (h:gb W ds v.cells.toList) (hv : ∃ vs,v = .agg vs):RD (uY W) S0 (.agg ds) v:=by
 obtain⟨vs,rfl⟩:=hv
 obtain⟨h1,h2,h3⟩:=h
 have e:(Value.agg vs).cells=vs:=rfl
 rw[e]at h1 h2 h3
 refine .agg ds vs (by simpa using h1) (fun v hv=>h3 v (by simpa using hv)) fun i d v hd hv=>h2 i d v hd (by simpa using hv)
end
end Go.Abs
namespace Go.Abs
open Go.Proofs Go.RowKit Go.ChangeShapes Go.WideShapes
section
variable {H:Type} {enc:TypeId×Value→H} {W:World} {sp:Nat→Bool}
theorem XF (fuel:Nat) (cs:List Value) (x:DataW H×List MemPlace) (h:DataW.trod enc Tryz.prog W 0 sp true fuel 50 cs=some x) : ∃ y:Ex,gb W (cb y) cs∧y.tQ:=
 am0 (tE:=50) (tI:=3) (tN:=2) (tS:=9) (tK:=48) (by kernel_rfl) (by kernel_rfl) (by kernel_rfl) (by kernel_rfl) (by kernel_rfl) (by kernel_rfl) (by kernel_rfl) (by kernel_rfl) (by kernel_rfl) (by kernel_rfl) _ _ _ h
theorem ae8:Tryz.prog.underlying 22=some (.slice 9):=by kernel_rfl
theorem Bf:Tryz.prog.underlying 9=some .string:=by kernel_rfl
theorem XG:Tryz.prog.underlying 3=some (.int .i64):=by kernel_rfl
theorem JN:Tryz.prog.underlying 4=some .bool:=by kernel_rfl
theorem Ew:Tryz.prog.cellsOf 9=1:=by kernel_rfl
theorem ajw:Tryz.prog.cellsOf 3=1:=by kernel_rfl
theorem JO:Tryz.prog.cellsOf 4=1:=by kernel_rfl
theorem JP:Tryz.prog.cellsOf 22=1:=by kernel_rfl
theorem ac3:Tryz.prog.cellsOf 50=4:=by kernel_rfl
theorem Cr {fuel:Nat} {cs:List Value} {x:DataW H×List MemPlace} (h:DataW.trod enc Tryz.prog W 0 sp true fuel 22 cs=some x) : ∃ l:List aK,gb W [.slice .shared 1 (l.map encStr)] cs:=by
 obtain⟨l,h,_⟩:=qV (W:=W) encStr (fun _=>True) ae8 Ew (by decide) (fun _=>rfl) (fun k hk cs x hx=>by
  obtain⟨s,hs,_⟩:=yl Bf hx
  exact⟨s,hs,trivial⟩) h
 exact⟨l,h⟩
theorem ajx {fuel:Nat} {cs:List Value} {x:DataW H×List MemPlace} (h:DataW.trod enc Tryz.prog W 0 sp true fuel 73 cs=some x) : ∃ y:Pm,gb W (iW y) cs:=by
 obtain⟨n,rfl,hl,hf⟩:=nK (l:= [(9,0),(4,1)]) (by kernel_rfl) (by simp) h
 have hc:Tryz.prog.cellsOf 73=2:=by kernel_rfl
 obtain⟨y0,h0⟩:=hf 0 _ rfl
 obtain⟨y1,h1⟩:=hf 1 _ rfl
 dsimp only at h0 h1
 rw[Ew]at h0
 rw[JO]at h1
 obtain⟨s,r0,_⟩:=yl Bf h0
 obtain⟨b,r1⟩:=JM JN h1
 refine⟨⟨s,b⟩, ?_⟩
 have:=r0.at (r1.at (gb.end (by rw[hl,hc])))
 simpa[encStr,iW]using this
theorem ajy {fuel:Nat} {cs:List Value} {x:DataW H×List MemPlace} (h:DataW.trod enc Tryz.prog W 0 sp true fuel 123 cs=some x) : ∃ y:Ar,gb W (fi y) cs∧y.x.tQ:=by
 obtain⟨n,rfl,hl,hf⟩:=nK (l:= [(4,0),(9,1),(50,2)]) (by kernel_rfl) (by simp) h
 have hc:Tryz.prog.cellsOf 123=6:=by kernel_rfl
 obtain⟨y0,h0⟩:=hf 0 _ rfl
 obtain⟨y1,h1⟩:=hf 1 _ rfl
 obtain⟨y2,h2⟩:=hf 2 _ rfl
 dsimp only at h0 h1 h2
 rw[JO]at h0
 rw[Ew]at h1
 rw[ac3]at h2
 obtain⟨b,r0⟩:=JM JN h0
 obtain⟨s,r1,_⟩:=yl Bf h1
 obtain⟨e,r2,hr⟩:=XF _ _ _ h2
 refine⟨⟨b,s,e⟩, ?_,hr⟩
 have:=r0.at (r1.at (r2.at (gb.end (by rw[hl,hc]))))
 rw[ji]at this
 simpa[encStr,fi]using this
theorem Cs : ∀ {l:List Sm},(∀ s∈l,s.tQ)→Sm.z6 l
 | [],_=>trivial
 |s::l,h=>⟨h s (List.mem_cons_self ..),Cs fun t m=>h t (List.mem_cons_of_mem _ m)⟩
theorem ajz : ∀ (fuel:Nat) (cs:List Value) (x:DataW H×List MemPlace),DataW.trod enc Tryz.prog W 0 sp true fuel 54 cs=some x→∃ y:Sm,gb W (bd y) cs∧y.tQ:=by
 intro fuel
 induction fuel using Nat.strongRecOn with
 |_ fuel ih=>
  intro cs x h
  obtain⟨n,rfl,hl,hf⟩:=nK (l:= [(3,0),(3,1),(22,2),(9,3),(9,4),(50,5),(4,9),(51,10),(52,11),(52,12)]) (by kernel_rfl) (by simp) h
  have hc:Tryz.prog.cellsOf 54=13:=by kernel_rfl
  have ca:Tryz.prog.cellsOf 51=1:=by kernel_rfl
  have kR:Tryz.prog.cellsOf 52=1:=by kernel_rfl
  have ua:Tryz.prog.underlying 51=some (.slice 123):=by kernel_rfl
  have us:Tryz.prog.underlying 52=some (.slice 54):=by kernel_rfl
  have ca6:Tryz.prog.cellsOf 123=6:=by kernel_rfl
  obtain⟨y0,h0⟩:=hf 0 _ rfl
  obtain⟨y1,h1⟩:=hf 1 _ rfl
  obtain⟨y2,h2⟩:=hf 2 _ rfl
  obtain⟨y3,h3⟩:=hf 3 _ rfl
  obtain⟨y4,h4⟩:=hf 4 _ rfl
  obtain⟨y5,h5⟩:=hf 5 _ rfl
  obtain⟨y6,h6⟩:=hf 6 _ rfl
  obtain⟨y7,h7⟩:=hf 7 _ rfl
  obtain⟨y8,h8⟩:=hf 8 _ rfl
  obtain⟨y9,h9⟩:=hf 9 _ rfl
  dsimp only at h0 h1 h2 h3 h4 h5 h6 h7 h8 h9
  rw[ajw]at h0 h1
  rw[JP]at h2
  rw[Ew]at h3 h4
  rw[ac3]at h5
  rw[JO]at h6
  rw[ca]at h7
  rw[kR]at h8 h9
  obtain⟨id,r0,_⟩:=IV XG h0
  obtain⟨kind,r1,_⟩:=IV XG h1
  obtain⟨labels,r2⟩:=Cr h2
  obtain⟨name,r3,_⟩:=yl Bf h3
  obtain⟨proc,r4,_⟩:=yl Bf h4
  obtain⟨e,r5,hr⟩:=XF _ _ _ h5
  obtain⟨b,r6⟩:=JM JN h6
  obtain⟨args,r7,ha⟩:=qV (W:=W) fi (fun a=>a.x.tQ) ua ca6 (by decide) (fun _=>rfl) (fun k hk cs x hx=>ajy hx) h7
  obtain⟨aQ,r8,ht⟩:=qV (W:=W) bd Sm.tQ us hc (by decide) LD (fun k hk cs x hx=>ih k (by omega) cs x hx) h8
  obtain⟨aN,r9,he⟩:=qV (W:=W) bd Sm.tQ us hc (by decide) LD (fun k hk cs x hx=>ih k (by omega) cs x hx) h9
  refine⟨⟨id,kind,labels,name,proc,e,b,args,aQ,aN⟩, ?_,hr,ha,Cs ht,Cs he⟩
  have:=r0.at (r1.at (r2.at (r3.at (r4.at (r5.at (r6.at (r7.at (r8.at (r9.at (gb.end (by rw[hl,hc])))))))))))
  rw[ji]at this
  rw[dv]
  simpa[encStr]using this
theorem ajA {fuel:Nat} {cs:List Value} {x:DataW H×List MemPlace} (h:DataW.trod enc Tryz.prog W 0 sp true fuel 70 cs=some x) : ∃ y:Pc,gb W (bS y) cs∧Sm.z6 y.body:=by
 obtain⟨n,rfl,hl,hf⟩:=nK (l:= [(9,0),(68,1),(22,2),(52,3),(22,4)]) (by kernel_rfl) (by simp) h
 have hc:Tryz.prog.cellsOf 70=5:=by kernel_rfl
 have cp:Tryz.prog.cellsOf 68=1:=by kernel_rfl
 have kR:Tryz.prog.cellsOf 52=1:=by kernel_rfl
 have up:Tryz.prog.underlying 68=some (.slice 73):=by kernel_rfl
 have us:Tryz.prog.underlying 52=some (.slice 54):=by kernel_rfl
 have cp2:Tryz.prog.cellsOf 73=2:=by kernel_rfl
 have auB:Tryz.prog.cellsOf 54=13:=by kernel_rfl
 obtain⟨y0,h0⟩:=hf 0 _ rfl
 obtain⟨y1,h1⟩:=hf 1 _ rfl
 obtain⟨y2,h2⟩:=hf 2 _ rfl
 obtain⟨y3,h3⟩:=hf 3 _ rfl
 obtain⟨y4,h4⟩:=hf 4 _ rfl
 dsimp only at h0 h1 h2 h3 h4
 rw[Ew]at h0
 rw[cp]at h1
 rw[JP]at h2 h4
 rw[kR]at h3
 obtain⟨name,r0,_⟩:=yl Bf h0
 obtain⟨ps,r1,_⟩:=qV (W:=W) iW (fun _=>True) up cp2 (by decide) (fun _=>rfl) (fun k hk cs x hx=>by
  obtain⟨y,hy⟩:=ajx hx
  exact⟨y,hy,trivial⟩) h1
 obtain⟨vars,r2⟩:=Cr h2
 obtain⟨body,r3,hb⟩:=qV (W:=W) bd Sm.tQ us auB (by decide) LD (fun k hk cs x hx=>ajz k cs x hx) h3
 obtain⟨fin,r4⟩:=Cr h4
 refine⟨⟨name,ps,vars,body,fin⟩, ?_,Cs hb⟩
 have:=r0.at (r1.at (r2.at (r3.at (r4.at (gb.end (by rw[hl,hc]))))))
 simpa[encStr,bS]using this
theorem ajB {fuel:Nat} {cs:List Value} {x:DataW H×List MemPlace} (h:DataW.trod enc Tryz.prog W 0 sp true fuel 25 cs=some x) : ∃ y:Pg,gb W (bV y) cs∧y.tQ:=by
 obtain⟨n,rfl,hl,hf⟩:=nK (l:= [(22,0),(23,1)]) (by kernel_rfl) (by simp) h
 have hc:Tryz.prog.cellsOf 25=2:=by kernel_rfl
 have cp:Tryz.prog.cellsOf 23=1:=by kernel_rfl
 have up:Tryz.prog.underlying 23=some (.slice 70):=by kernel_rfl
 have cp5:Tryz.prog.cellsOf 70=5:=by kernel_rfl
 obtain⟨y0,h0⟩:=hf 0 _ rfl
 obtain⟨y1,h1⟩:=hf 1 _ rfl
 dsimp only at h0 h1
 rw[JP]at h0
 rw[cp]at h1
 obtain⟨globals,r0⟩:=Cr h0
 obtain⟨procs,r1,hp⟩:=qV (W:=W) bS (fun f=>Sm.z6 f.body) up cp5 (by decide) (fun _=>rfl) (fun k hk cs x hx=>ajA hx) h1
 refine⟨⟨globals,procs⟩, ?_,hp⟩
 have:=r0.at (r1.at (gb.end (by rw[hl,hc])))
 simpa[bV]using this
end
end Go.Abs
namespace Go.Abs
open Go.Proofs Go.ChangeShapes Go.WideShapes Go.ChangeAt Go.RowKit
theorem zw {H:Type} {enc:TypeId×Value→H} {P:Program} {W:World} {sp:Nat→Bool} {t:TypeId} {ts:List TypeId} {ps:List MemPlace} : ∀ {l:List Value} {ds:List (DataW H)},DataW.TrodAll enc P W 0 sp true (t::ts) l ds ps→
 ∃ v l' d pj p q,l=v::l'∧ds=d::pj∧DataW.Trod enc P W 0 sp true t v d p∧DataW.TrodAll enc P W 0 sp true ts l' pj q
 |v::l,d::ds,⟨p,q,h1,h2,e⟩=>⟨v,l,d,ds,p,q,rfl,rfl,h1,h2⟩
 | [],[],h=>h.elim
 | [],_::_,h=>h.elim
 |_::_,[],h=>h.elim
theorem aaS {H:Type} {enc:TypeId×Value→H} {P:Program} {W:World} {sp:Nat→Bool} {ps:List MemPlace} : ∀ {l:List Value} {ds:List (DataW H)},DataW.TrodAll enc P W 0 sp true [] l ds ps→l = []∧ds = []
 | [],[],_=>⟨rfl,rfl⟩
 | [],_::_,h=>h.elim
 |_::_,ds,h=>by cases ds<;>exact h.elim
end Go.Abs
