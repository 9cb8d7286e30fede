/-
  What is proved here: part 5 of the road to the claim (RunC9, RunL0, RunL1, RunTp, RunEv, RunWa, RunL2, RunBi, RunLk, RunLk2, RtLike, LnP, LnS, PutP, RunWt, LawRl, Glue2, Join, Binds1, Join2, Join3, Join4, Join5).
  No conditions.
-/
import Derived.Test.YtpjadlleefgcpabGreatRnL4
import Derived.RowKit3
import Derived.WalkKit
import Derived.ProofKit
import Derived.OpenShut
import Derived.ShutString
import Derived.ChangeMaps5
import Derived.ChangeStays
import Derived.KernelRfl

set_option linter.unusedSimpArgs false
set_option linter.unusedVariables false
namespace Go.Abs
set_option maxRecDepth 8000
open Go.Proofs
def ofM (p:Pg) (T W:List Int) (fuel:Int):Mc×Int:=
 if decide (fuel<0) ||(decide (fuel > 1000000) || !(p.check.1==0))then(⟨[],[],0,0,0,[],[]⟩,1)else((runM p T W fuel).getD ⟨[],[],0,0,0,[],[]⟩,0)
theorem H7 (m:Mc):D.bK 0 0 (fz m)=true:=by simp[fz,D.bK,D.ok,Tag.ok,kL,acg]
theorem aeo {p:Pg} (hR:p.Right) : ∃ (j:Nat) (q:Pc),p.at gi=(j:Int)∧p.procs[j]? = some q∧p.find q.name=some q∧q.params.length=0:=by
 have h:=hR.main
 unfold Pg.nB at h
 cases e:p.find gi with
 |none=>rw[e]at h;cases h
 |some q=>
  rw[e]at h
  obtain⟨j,h1,h2⟩:=EA (k:=0) e
  refine⟨j,q,by simpa[Pg.at]using h1,h2,by rw[wY e];exact e, ?_⟩
  simp only[decide_eq_false_iff_not]at h
  omega
theorem aiF {p:Pg} (hO:p.jv) {T W:List Int} (hT:T.length<1000000) (hW:W.length<1000000) (fuel:Int) (s:St) :
 aE Tryz.prog uu [.agg (bJ p), .slice .shared 1 (T.map cq), .int .i64 fuel, .slice .shared 1 (W.map cq)] s (.tuple [.agg (fz (ofM p T W fuel).1), .int .i64 (ofM p T W fuel).2]) s:=by
 refine aE.pure ?_ (by simp[D.bK,D.ok,Tag.ok,jh,kL]) (by simp only[D.ok,D.bK,H7];rfl) s
 have cM:=fun s=>NY hO s
 have cN:=fun s=>Ej (p:=p) (by have:=hO.procs;omega) s
 generalize hR:ofM p T W fuel=R
 unfold ofM at hR
 obtain⟨R1,R2⟩:=R
 dsimp only
 unfold S0
 by_cases Ol:(decide (fuel<0) ||(decide (fuel > 1000000) || !(p.check.1==0)))=true
 ·rw [if_pos Ol]at hR
  cases hR
  simp only[fz,List.map_nil]
  rcases Bool.eq_false_or_eq_true (decide (fuel<0))with b1|b1
  ·refine aE.go wQ rfl fun B Q hB hQ=> ?_
   have⟨hD,gA,gB,gC⟩:=cd
   repeat' (first
 |simp only[go_sem,hD,gA,gB,gC,b1]
 |(with_reducible first|refine bg fun hc=>?_|refine bh fun hc=>?_|refine bj (fun hc=>?_) fun hc=>?_)<;>(try simp only[hc,bs,↓reduceIte]at h)<;>try simp only[hc]
 |(with_reducible refine aD hQ ?_;(try cases h);simp only[aT,aV,bD,bE,go_sem,hD,gA,gB,gC,b1];try exact bX)
 | (cases h;done))
   refine lS.jV ?_
   repeat' (first
 |simp only[go_sem,hD,gA,gB,gC,b1]
 |(with_reducible first|refine bg fun hc=>?_|refine bh fun hc=>?_|refine bj (fun hc=>?_) fun hc=>?_)<;>(try simp only[hc,bs,↓reduceIte]at h)<;>try simp only[hc]
 |(with_reducible refine aD hQ ?_;(try cases h);simp only[aT,aV,bD,bE,go_sem,hD,gA,gB,gC,b1];try exact bX)
 | (cases h;done))
  rcases Bool.eq_false_or_eq_true (decide (fuel > 1000000))with b2|b2
  ·refine aE.go wQ rfl fun B Q hB hQ=> ?_
   have⟨hD,gA,gB,gC⟩:=cd
   repeat' (first
 |simp only[go_sem,hD,gA,gB,gC,b1,b2]
 |(with_reducible first|refine bg fun hc=>?_|refine bh fun hc=>?_|refine bj (fun hc=>?_) fun hc=>?_)<;>(try simp only[hc,bs,↓reduceIte]at h)<;>try simp only[hc]
 |(with_reducible refine aD hQ ?_;(try cases h);simp only[aT,aV,bD,bE,go_sem,hD,gA,gB,gC,b1,b2];try exact bX)
 | (cases h;done))
   refine lS.jV ?_
   repeat' (first
 |simp only[go_sem,hD,gA,gB,gC,b1,b2]
 |(with_reducible first|refine bg fun hc=>?_|refine bh fun hc=>?_|refine bj (fun hc=>?_) fun hc=>?_)<;>(try simp only[hc,bs,↓reduceIte]at h)<;>try simp only[hc]
 |(with_reducible refine aD hQ ?_;(try cases h);simp only[aT,aV,bD,bE,go_sem,hD,gA,gB,gC,b1,b2];try exact bX)
 | (cases h;done))
  ·have b3:(p.check.1==0)=false:=by simpa [b1,b2]using Ol
   rw[b3]at cM
   refine aE.go wQ rfl fun B Q hB hQ=>?_
   have⟨hD,gA,gB,gC⟩:=cd
   repeat' (first
 |simp only[go_sem,hD,gA,gB,gC,b1,b2]
 |(with_reducible refine CU (cM _) ?_)
 |(with_reducible first|refine bg fun hc=>?_|refine bh fun hc=>?_|refine bj (fun hc=>?_) fun hc=>?_)<;>(try simp only[hc,bs,↓reduceIte]at h)<;>try simp only[hc]
 |(with_reducible refine aD hQ ?_;(try cases h);simp only[aT,aV,bD,bE,go_sem,hD,gA,gB,gC,b1,b2];try exact bX)
 | (cases h;done))
   refine lS.jV ?_
   repeat' (first
 |simp only[go_sem,hD,gA,gB,gC,b1,b2]
 |(with_reducible refine CU (cM _) ?_)
 |(with_reducible first|refine bg fun hc=>?_|refine bh fun hc=>?_|refine bj (fun hc=>?_) fun hc=>?_)<;>(try simp only[hc,bs,↓reduceIte]at h)<;>try simp only[hc]
 |(with_reducible refine aD hQ ?_;(try cases h);simp only[aT,aV,bD,bE,go_sem,hD,gA,gB,gC,b1,b2];try exact bX)
 |(cases h;done))
 rw[if_neg Ol]at hR
 simp only[Bool.or_eq_true,not_or,Bool.not_eq_true,Bool.not_eq_false']at Ol
 obtain⟨b1,b2,b3⟩:=Ol
 rw[b3]at cM
 have T7:0≤fuel∧fuel≤1000000:=by simp at b1 b2;omega
 obtain⟨mf,hmf⟩:=WY p T W T7.1
 rw[hmf]at hR
 simp only[Option.getD_some]at hR
 cases hR
 have hRt:=NN b3
 have hS:I3 p T W fuel:=⟨hO,hRt,hW,hT,T7⟩
 obtain⟨j,q,j1,j2,j3,j4⟩:=aeo hRt
 have cP:=fun s=>(show aE Tryz.prog jl [.dN (ga p) 0, .str [109,97,105,110]] s (.int .i64 (p.at gi)) s from Hq (p:=p) (by have:=hO.procs;omega) gi s)
 rw[j1]at cP
 have sB:=hO.procs.2.2
 refine aE.go wQ rfl fun B Q hB hQ=>?_
 have⟨hD,gA,gB,gC⟩:=cd
 -- from the globals on
 have start : ∀ (y:Lay) (s:St),Inv p T W y (lP p) [(2,D2)] s→Sem Tryz.prog B 131 QA8 (JJ B Q) [(2, .int .i64 fuel),(8, .ptr 2 0),(10, .ptr 0 0)] s:=by
  intro y s hi
  have QC:=hi.new [.int .i64 0, .int .i64 0, .slice .full 0 [], .str [], .str [], .int .i64 0, .int .i64 0, .str [], .slice .full 0 [], .bool false, .slice .full 0 [], .slice .full 0 [], .slice .full 0 [], .int .i64 0, .int .i64 0, .int .i64 0, .int .i64 0]
  have ow:=QC.kr
  rw[fX]at ow
  simp only at ow
  obtain⟨y2,s2,hF,ph⟩:=Qz QC hO hRt.may j2 j3 (by simp[lP]) (l:= []) (by simp) (by simp) (by simp[lP]) 0
  have hF':=bW.o5 (.cons (Wk.refl _) (.cons (Wk.refl _) (.cons (Wk.nil .full 0 1) (j9.refl _)))) hF
  have hF2:aE Tryz.prog jU [.ptr 0 0, .int .i64 (j:Int), .slice .full 0 [], .int .i64 0] _ _ s2:=hF'
  have pT:=Qt (m:=lP p) (qD hRt) j2 (l:= []) (call:=0) (by simp[j4]) (by simp) (by simp[lP]) (by simp[lP]) (.inl ⟨rfl,rfl⟩)
  have kN:=hmf
  unfold runM at kN
  rw[j1]at kN
  dsimp only at kN
  have jS:=Kl p (lP p) (j:Int) [] 0
  have tY:=(Ey p (lP p) (j:Int) [] 0).1
  have DA:((lP p).open p (j:Int) [] 0).2.fin=0:=by
   unfold Mc.open
   split<;>rfl
  have aiH:=Z9 (B:=B) hS hQ _ _ _ y2 s.ah.length s2 ⟨⟨_,rfl,ph⟩,pT,⟨by rw[jS.2.2.2];simp[lP],by rw[jS.1,jS.2.2.2];simp[lP],by rw[jS.2.1,jS.2.2.2];simp[lP],by rw[jS.2.2.1,jS.2.2.2];simp[lP],Nat.le_trans tY (by simp[lP])⟩,DA,by rw[jS.2.2.2];simp[lP];exact T7.1⟩ kN
  refine Sem.oh ?_
  repeat' (first
 |simp only[go_sem,hD,gA,gB,gC]
 |(with_reducible first|refine bg fun hc=>?_|refine bh fun hc=>?_|refine bj (fun hc=>?_) fun hc=>?_)<;>(try simp only[hc,bs,↓reduceIte]at h)<;>try simp only[hc]
 |(with_reducible refine aD hQ ?_;exact fM)
 |(cases h;done))
  refine Sem.oh ?_
  repeat' (first
 |simp only[go_sem,hD,gA,gB,gC]
 |(with_reducible first|refine bg fun hc=>?_|refine bh fun hc=>?_|refine bj (fun hc=>?_) fun hc=>?_)<;>(try simp only[hc,bs,↓reduceIte]at h)<;>try simp only[hc]
 |(with_reducible refine aD hQ ?_;exact fM)
 |(cases h;done))
  refine Sem.oh ?_
  repeat' (first
 |simp only[go_sem,hD,gA,gB,gC,ow]
 |(with_reducible refine CU (cP _) ?_)
 |(with_reducible refine CU (hF2) ?_)
 |(with_reducible first|refine bg fun hc=>?_|refine bh fun hc=>?_|refine bj (fun hc=>?_) fun hc=>?_)<;>(try simp only[hc,bs,↓reduceIte]at h)<;>try simp only[hc]
 |(with_reducible refine aD hQ ?_;(try cases h);simp only[aT,aV,bD,bE,go_sem,hD,gA,gB,gC,ow];try exact bX)
 |(cases h;done))
  refine Sem.oh ?_
  repeat' (first
 |simp only[go_sem,hD,gA,gB,gC]
 |(with_reducible first|refine bg fun hc=>?_|refine bh fun hc=>?_|refine bj (fun hc=>?_) fun hc=>?_)<;>(try simp only[hc,bs,↓reduceIte]at h)<;>try simp only[hc]
 |(with_reducible refine aD hQ ?_;exact fM)
 |(cases h;done))
  refine Sem.qX ?_ aiH
  simp only[go_sem]
  repeat' (first|exact Ok.out|with_reducible refine ju ?_ ?_)
 generalize hG:p.globals.length=G at *
 have hGb:G≤900000:=by rw[← hG];exact hO.procs.2.2
 let row:Nat→List D:=fun k=> [.dN (ga p) 0, .slice (.tok 2) 1 ((List.range k).map fun i=>fN (3+i)), .slice .shared 1 (T.map cq), .slice .shared 1 (W.map cq), .eW 1, .eW 1, .int .i64 0, .int .i64 0, .int .i64 0, .slice (.tok 0) 1 [], .slice (.tok 1) 2 []]
 have loop : ∀ d k:Nat,k+d=G→bl Tryz.prog B 131 Q8M (iI 0 (la (Sem Tryz.prog B 131 QA8 (JJ B Q)) (JJ B Q))) [(2, .int .i64 fuel),(8, .ptr 2 0),(10, .ptr 0 0),(34, .int .i64 (G:Int)),(35, .int .i64 (k:Int))]
  ⟨row k::bJ p::D2::List.replicate k [.int .i64 0],[some 0,some 0,some k]⟩:=by
  intro d
  induction d with
  |zero=>
   intro k hk
   have wq:k=G:=by omega
   subst wq
   have hD:decide ((k:Int)<(k:Int))=false:=by simp
   refine bl.jV ?_
   repeat' (first
 |simp only[go_sem,hD,gA,gB,gC]
 |(with_reducible first|refine bg fun hc=>?_|refine bh fun hc=>?_|refine bj (fun hc=>?_) fun hc=>?_)<;>(try simp only[hc,bs,↓reduceIte]at h)<;>try simp only[hc]
 |(with_reducible refine aD hQ ?_;exact fM)
 | (cases h;done))
   refine Sem.qX (bH:= [(2, .int .i64 fuel),(8, .ptr 2 0),(10, .ptr 0 0)]) (by simp only[go_sem];repeat' (first|exact Ok.out|with_reducible refine ju ?_ ?_)) ?_
   have hκ:((List.range k).map (3 + ·)).length=k:=by simp
   have hmp:((List.range k).map fun i=>fN (3+i))=(((List.range k).map (3 + ·)).take k).map fN:=by rw[List.take_of_length_le (by simp),List.map_map];rfl
   refine Sem.wkO (fX p T W ⟨(List.range k).map (3 + ·),[], .eW 1, .eW 1⟩ (lP p)::bJ p::D2::List.replicate k [.int .i64 0]) ?_ (start ⟨(List.range k).map (3 + ·),[], .eW 1, .eW 1⟩ _ ?_)
   ·refine .cons ?_ (gY.refl _)
    simp only[row,fX,hG, ← hmp,lP,List.map_nil]
    exact Ok.out
   ·have N8:((List.range k).map (3 + ·)).Nodup:=by
     rw[List.nodup_iff_pairwise_ne,List.pairwise_map]
     exact List.Pairwise.imp (fun h=>by omega) (List.nodup_iff_pairwise_ne.1 List.nodup_range)
    refine⟨rfl,rfl,rfl,by simp[lP,hG],fun i c v e1 e2=>?_,rfl,fun i o fr e1 e2=>by simp at e1, .inl ⟨rfl,rfl⟩,⟨[], .inl ⟨rfl,rfl⟩⟩, ?_,fun x mx=>?_⟩
    ·have hD:=(List.getElem?_eq_some_iff.1 e1).1
     simp only[hκ]at hD
     rw[List.getElem?_map,List.getElem?_range hD]at e1
     simp only[lP]at e2
     rw[List.getElem?_replicate_of_lt (by omega)]at e2
     simp only[Option.map_some,Option.some.injEq]at e1 e2
     subst e1 e2
     show(_::_::_::List.replicate k [D.int .i64 0])[3+i]? = _
     rw[show 3+i=i+1+1+1 by omega]
     simp only[List.getElem?_cons_succ]
     exact List.getElem?_replicate_of_lt hD
    ·simp only [Lay.own,D.arr,List.append_nil]
     rw[List.nodup_cons]
     exact⟨by simp,N8⟩
    ·rw [List.mem_singleton.1 mx]
     refine⟨rfl, ?_⟩
     simp only[Lay.own,D.arr,List.append_nil,List.mem_cons,List.mem_map,List.mem_range,not_or]
     exact⟨by omega,by rintro⟨i,_,h⟩;omega⟩
  | succ d ih=>
   intro k hk
   have hD:decide ((k:Int)<(G:Int))=true:=by simp;omega
   have cH:k<4611686018427387904:=by omega
   have fi : ∀ os,iu 1 8 (.slice (.tok 2) 1 ((List.range k).map fun i=>fN (3+i))) (.slice .full 1 [[.ptr (3+k) 0]]) ⟨os,[some 0,some 0,some k]⟩ =
    some (.slice (.tok 2) 1 ((List.range (k+1)).map fun i=>fN (3+i)),⟨os,[some 0,some 0,some (k+1)]⟩):=fun os=>by
    rw[qm (size:=1) (by simp only[List.length_map,List.length_range,List.length_singleton];unfold bp;omega) (by simp)]
    simp[List.range_succ,fN]
   have hln : ∀ a b c:List D,(a::b::c::List.replicate k [D.int .i64 0]).length=3+k:=fun a b c=>by simp;omega
   have aiI : ∀ a b c:List D,a::b::c::List.replicate k [D.int .i64 0]++ [[D.int .i64 0]] = a::b::c::List.replicate (k+1) [D.int .i64 0]:=fun a b c=>by rw[List.replicate_succ'];rfl
   refine bl.jV ?_
   simp only[row]
   repeat' (first
 |simp only[go_sem,hD,gA,gB,gC,fi,hln,aiI]
 |(with_reducible first|refine bg fun hc=>?_|refine bh fun hc=>?_|refine bj (fun hc=>?_) fun hc=>?_)<;>(try simp only[hc,bs,↓reduceIte]at h)<;>try simp only[hc]
 |(with_reducible refine aD hQ ?_;(try cases h);simp only[aT,aV,bD,bE,go_sem,hD,gA,gB,gC,fi,hln,aiI];try exact bX)
 | (cases h;done))
   have:=ih (k+1) (by omega)
   simp only[row,List.range_succ,List.map_append,List.map_cons,List.map_nil]at this
   refine bl.qX ?_ this
   simp only[go_sem,aH cH]
   repeat' (first|exact Ok.out|with_reducible refine ju ?_ ?_)
 repeat' (first
 |simp only[go_sem,hD,gA,gB,gC,b1,b2]
 |(with_reducible first|refine bg fun hc=>?_|refine bh fun hc=>?_|refine bj (fun hc=>?_) fun hc=>?_)<;>(try simp only[hc,bs,↓reduceIte]at h)<;>try simp only[hc]
 |(with_reducible refine aD hQ ?_;(try cases h);simp only[aT,aV,bD,bE,go_sem,hD,gA,gB,gC,b1,b2];try exact bX)
 |(cases h;done))
 refine lS.once (Sem.oh ?_)
 repeat' (first
 |simp only[go_sem,hD,gA,gB,gC,b1,b2]
 |(with_reducible refine CU (cM _) ?_)
 |(with_reducible first|refine bg fun hc=>?_|refine bh fun hc=>?_|refine bj (fun hc=>?_) fun hc=>?_)<;>(try simp only[hc,bs,↓reduceIte]at h)<;>try simp only[hc]
 |(with_reducible refine aD hQ ?_;(try cases h);simp only[aT,aV,bD,bE,go_sem,hD,gA,gB,gC,b1,b2];try exact bX)
 |(cases h;done))
 refine Sem.oh ?_
 repeat' (first
 |simp only[go_sem,hD,gA,gB,gC]
 |(with_reducible refine CU (cN _) ?_)
 |(with_reducible first|refine bg fun hc=>?_|refine bh fun hc=>?_|refine bj (fun hc=>?_) fun hc=>?_)<;>(try simp only[hc,bs,↓reduceIte]at h)<;>try simp only[hc]
 |(with_reducible refine aD hQ ?_;exact fM)
 |(cases h;done))
 refine Sem.oh ?_
 repeat' (first
 |simp only[go_sem,hD,gA,gB,gC]
 |(with_reducible first|refine bg fun hc=>?_|refine bh fun hc=>?_|refine bj (fun hc=>?_) fun hc=>?_)<;>(try simp only[hc,bs,↓reduceIte]at h)<;>try simp only[hc]
 |(with_reducible refine aD hQ ?_;exact fM)
 |(cases h;done))
 refine bl.ur 2 9 1 rfl rfl ?_
 refine bl.ur 2 10 2 rfl rfl ?_
 refine bl.ur 2 1 1 rfl rfl ?_
 simp only[List.set_cons_succ,List.set_cons_zero,List.length_nil,List.nil_append,List.length_cons,List.cons_append]
 have l0:=loop G 0 (by omega)
 simp only[row,List.range_zero,List.map_nil,List.replicate_zero]at l0
 refine bl.re [(2, .int .i64 fuel),(8, .ptr 1 0),(10, .ptr 2 0),(34, .int .i64 (G:Int)),(35, .int .i64 ((0:Nat):Int))]
  [bJ p,D2,[.dN (ga p) 0, .slice (.tok 2) 1 [], .slice .shared 1 (T.map cq), .slice .shared 1 (W.map cq), .eW 1, .eW 1, .int .i64 0, .int .i64 0, .int .i64 0, .slice (.tok 0) 1 [], .slice (.tok 1) 2 []]] 3 3 (by rw[hB];exact Nat.zero_le _) (by rw[hB];exact Nat.zero_le _) ?_ ?_ ?_
 ·simp only [go_sem,hG]
  repeat' (first|exact Ok.out|with_reducible refine ju ?_ ?_)
 ·simp only [go_sem,abT]
  repeat' (first|exact Ok.out|with_reducible refine ju ?_ ?_)
 have r1 : ∀ os ts,D.eQ os ts (ga p)=ga p:=fun os ts=>fL os ts _ (we p)
 have r2 : ∀ n m,D.bK n m (ga p)=true:=fun n m=>jk (Nat.zero_le n) (Nat.zero_le m) _ (we p)
 have r3 : ∀ os ts l,D.o3 os ts (List.map cq l)=List.map cq l:=fun os ts l=>jT os ts _ (kL l)
 have r4 : ∀ n m l,D.jd n m (List.map cq l)=true:=fun n m l=>nL (Nat.zero_le n) (Nat.zero_le m) _ (kL l)
 refine bl.TC hB [2,0,1] _ _ (by decide) (by simp) ?_ ?_ l0
 ·simp[xP,D.eQ,D.cJ,D.o3,D.bK,D.jd,D.ok,Tag.cJ,Tag.ok,St.cut,r1,r2,r3,r4,AZ,DQ,D2]
 ·simp[AX,Tm.get,D.cJ,D.ok]
set_option maxRecDepth 8000
open Go.Proofs
theorem BX {a b:List Int} (ha:a.length<1000000000) (g:Tag) (s:St):aE Tryz.prog mC [.slice .shared 1 (a.map cq), .slice g 1 (b.map cq)] s (.bool (a==b)) s:=by
 refine bW.o5 (.cons (Wk.refl _) (.cons (Wk.shared _ _ _) .nil)) (aE.pure ?_ (by simp[D.bK,D.ok,Tag.ok,kL]) rfl s)
 generalize h:(a==b)=R
 unfold S0
 by_cases hl:a.length=b.length
 ·have e1:((a.length:Int) != (b.length:Int))=false:=by simp [hl]
  refine aE.go xF rfl fun B Q hB hQ=>?_
  have⟨hD,gA,gB,gC⟩:=cd
  repeat' (first
 |simp only[go_sem,hD,gA,gB,gC,e1]
 |(with_reducible first|refine bg fun hc=>?_|refine bh fun hc=>?_|refine bj (fun hc=>?_) fun hc=>?_)<;>(try simp only[hc,bs,↓reduceIte]at h)<;>try simp only[hc]
 |(with_reducible refine aD hQ ?_;(try cases h);simp only[aT,aV,bD,bE,go_sem,hD,gA,gB,gC,e1];try exact bX)
 | (cases h;done))
  refine fj 0 0 (bl.ind (ι:=List Int×List Int×Nat) (fun i=>a.drop i.2.2=i.1∧b.drop i.2.2=i.2.1∧(i.1==i.2.1)=R) (fun i=>i.1.length)
   (fun i=> [(0, .slice .shared 1 (a.map cq)),(1, .slice .shared 1 (b.map cq)),(12, .int .i64 (a.length:Int)),(13, .int .i64 (i.2.2:Int))]) (fun i=>⟨[],[]⟩) ?_ (a,b,0) ⟨rfl,rfl,h⟩)
  rintro⟨ra,rb,k⟩ ⟨h1,h2,h⟩ IH
  dsimp only at h1 h2 h
  cases ra with
  |nil=>
   have hD:=drop_nil h1
   have:b.drop k = []:=by rw[List.drop_eq_nil_iff]at h1 ⊢;omega
   rw[h2]at this
   subst this
   have h':true=R:=h
   subst h'
   repeat' (first
 |simp only[go_sem,hD,gA,gB,gC]
 |(with_reducible first|refine bg fun hc=>?_|refine bh fun hc=>?_|refine bj (fun hc=>?_) fun hc=>?_)<;>(try simp only[hc,bs,↓reduceIte]at h)<;>try simp only[hc]
 |(with_reducible refine aD hQ ?_;exact fM)
 | (cases h;done))
  | cons x ra=>
   obtain⟨gA,g2,hD,g4⟩:=drop_cons h1
   have cH:k<4611686018427387904:=by omega
   cases rb with
   |nil=>rw[List.drop_eq_nil_iff]at h2;omega
   | cons y rb=>
    obtain⟨nw,g2',IU,g4'⟩:=drop_cons h2
    have e2:(x != y) = !(x==y):=rfl
    simp only[List.cons_beq_cons]at h
    rcases Bool.eq_false_or_eq_true (x==y)with c|c
    ·simp only [c,Bool.true_and]at h
     repeat' (first
 |simp only[go_sem,hD,gA,gB,gC,e2,c,nw]
 |(with_reducible first|refine bg fun hc=>?_|refine bh fun hc=>?_|refine bj (fun hc=>?_) fun hc=>?_)<;>(try simp only[hc,bs,↓reduceIte]at h)<;>try simp only[hc]
 |(with_reducible refine aD hQ ?_;(try cases h);simp only[aT,aV,bD,bE,go_sem,hD,gA,gB,gC,e2,c,nw];try exact bX)
 | (cases h;done))
     refine dW 0 0 ?_ ?_ (IH (ra,rb,k+1) ⟨g2,g2',h⟩ (Nat.lt_succ_self _))
     ·(simp only[go_sem,hD,gA,gB,gC,aH cH];try exact bO)
     ·(simp only[go_sem,hD,gA,gB,gC,aH cH];try exact bO)
    ·simp only [c,Bool.false_and]at h
     repeat' (first
 |simp only[go_sem,hD,gA,gB,gC,e2,c,nw]
 |(with_reducible first|refine bg fun hc=>?_|refine bh fun hc=>?_|refine bj (fun hc=>?_) fun hc=>?_)<;>(try simp only[hc,bs,↓reduceIte]at h)<;>try simp only[hc]
 |(with_reducible refine aD hQ ?_;(try cases h);simp only[aT,aV,bD,bE,go_sem,hD,gA,gB,gC,e2,c,nw];try exact bX)
 |(cases h;done))
 ·have e1:((a.length:Int) != (b.length:Int))=true:=by simp;omega
  have:(a==b)=false:=by
   rw[beq_eq_false_iff_ne];intro e;rw[e]at hl;exact hl rfl
  rw[this]at h
  subst h
  refine aE.go xF rfl fun B Q hB hQ=>?_
  have⟨hD,gA,gB,gC⟩:=cd
  repeat' (first
 |simp only[go_sem,hD,gA,gB,gC,e1]
 |(with_reducible first|refine bg fun hc=>?_|refine bh fun hc=>?_|refine bj (fun hc=>?_) fun hc=>?_)<;>(try simp only[hc,bs,↓reduceIte]at h)<;>try simp only[hc]
 |(with_reducible refine aD hQ ?_;(try cases h);simp only[aT,aV,bD,bE,go_sem,hD,gA,gB,gC,e1];try exact bX)
 |(cases h;done))
theorem Xh {a b:List (Int×List Int)} (ha:a.length<1000000000) (hv : ∀ e∈a,e.2.length<1000000000) (s:St):aE Tryz.prog ta [.slice .shared 2 (a.map iG), .slice .shared 2 (b.map iG)] s (.bool (a==b)) s:=by
 refine aE.pure ?_ (by simp[D.bK,D.ok,Tag.ok,acg]) rfl s
 generalize h:(a==b)=R
 unfold S0
 by_cases hl:a.length=b.length
 ·have e1:((a.length:Int) != (b.length:Int))=false:=by simp [hl]
  refine aE.go wA rfl fun B Q hB hQ=>?_
  have⟨hD,gA,gB,gC⟩:=cd
  repeat' (first
 |simp only[go_sem,hD,gA,gB,gC,e1]
 |(with_reducible first|refine bg fun hc=>?_|refine bh fun hc=>?_|refine bj (fun hc=>?_) fun hc=>?_)<;>(try simp only[hc,bs,↓reduceIte]at h)<;>try simp only[hc]
 |(with_reducible refine aD hQ ?_;(try cases h);simp only[aT,aV,bD,bE,go_sem,hD,gA,gB,gC,e1];try exact bX)
 | (cases h;done))
  refine fj 0 0 (bl.ind (ι:=List (Int×List Int)×List (Int×List Int)×Nat) (fun i=>a.drop i.2.2=i.1∧b.drop i.2.2=i.2.1∧(i.1==i.2.1)=R) (fun i=>i.1.length)
   (fun i=> [(0, .slice .shared 2 (a.map iG)),(1, .slice .shared 2 (b.map iG)),(12, .int .i64 (a.length:Int)),(13, .int .i64 (i.2.2:Int))]) (fun i=>⟨[],[]⟩) ?_ (a,b,0) ⟨rfl,rfl,h⟩)
  rintro⟨ra,rb,k⟩ ⟨h1,h2,h⟩ IH
  dsimp only at h1 h2 h
  cases ra with
  |nil=>
   have hD:=drop_nil h1
   have:b.drop k = []:=by rw[List.drop_eq_nil_iff]at h1 ⊢;omega
   rw[h2]at this
   subst this
   have h':true=R:=h
   subst h'
   repeat' (first
 |simp only[go_sem,hD,gA,gB,gC]
 |(with_reducible first|refine bg fun hc=>?_|refine bh fun hc=>?_|refine bj (fun hc=>?_) fun hc=>?_)<;>(try simp only[hc,bs,↓reduceIte]at h)<;>try simp only[hc]
 |(with_reducible refine aD hQ ?_;exact fM)
 | (cases h;done))
  | cons x ra=>
   obtain⟨gA,g2,hD,g4⟩:=drop_cons h1
   have cH:k<4611686018427387904:=by omega
   cases rb with
   |nil=>rw[List.drop_eq_nil_iff]at h2;omega
   |cons y rb=>
    obtain⟨nw,g2',IU,g4'⟩:=drop_cons h2
    obtain⟨x1,x2⟩:=x
    obtain⟨y1,y2⟩:=y
    have e2:(x1 != y1) = !(x1==y1):=rfl
    have hb:((x1,x2)==(y1,y2))=(x1==y1 && x2==y2):=rfl
    have cE:=fun g s=>BX (a:=x2) (b:=y2) (hv _ (List.mem_of_getElem? gA)) g s
    simp only[List.cons_beq_cons,hb]at h
    rcases Bool.eq_false_or_eq_true (x1==y1)with c|c<;>rcases Bool.eq_false_or_eq_true (x2==y2)with c2|c2<;>simp only[c,c2,Bool.true_and,Bool.false_and]at h
    ·repeat' (first
 |simp only[go_sem,hD,gA,gB,gC,e2,c,c2,nw,iG]
 |(with_reducible refine CU (cE _ _) ?_)
 |(with_reducible first|refine bg fun hc=>?_|refine bh fun hc=>?_|refine bj (fun hc=>?_) fun hc=>?_)<;>(try simp only[hc,bs,↓reduceIte]at h)<;>try simp only[hc]
 |(with_reducible refine aD hQ ?_;(try cases h);simp only[aT,aV,bD,bE,go_sem,hD,gA,gB,gC,e2,c,c2,nw,iG];try exact bX)
 | (cases h;done))
     refine dW 0 0 ?_ ?_ (IH (ra,rb,k+1) ⟨g2,g2',h⟩ (Nat.lt_succ_self _))
     ·(simp only[go_sem,hD,gA,gB,gC,aH cH,iG];try exact bO)
     ·(simp only[go_sem,hD,gA,gB,gC,aH cH,iG];try exact bO)
    ·repeat' (first
 |simp only[go_sem,hD,gA,gB,gC,e2,c,c2,nw,iG]
 |(with_reducible refine CU (cE _ _) ?_)
 |(with_reducible first|refine bg fun hc=>?_|refine bh fun hc=>?_|refine bj (fun hc=>?_) fun hc=>?_)<;>(try simp only[hc,bs,↓reduceIte]at h)<;>try simp only[hc]
 |(with_reducible refine aD hQ ?_;(try cases h);simp only[aT,aV,bD,bE,go_sem,hD,gA,gB,gC,e2,c,c2,nw,iG];try exact bX)
 | (cases h;done))
    ·repeat' (first
 |simp only[go_sem,hD,gA,gB,gC,e2,c,c2,nw,iG]
 |(with_reducible refine CU (cE _ _) ?_)
 |(with_reducible first|refine bg fun hc=>?_|refine bh fun hc=>?_|refine bj (fun hc=>?_) fun hc=>?_)<;>(try simp only[hc,bs,↓reduceIte]at h)<;>try simp only[hc]
 |(with_reducible refine aD hQ ?_;(try cases h);simp only[aT,aV,bD,bE,go_sem,hD,gA,gB,gC,e2,c,c2,nw,iG];try exact bX)
 | (cases h;done))
    ·repeat' (first
 |simp only[go_sem,hD,gA,gB,gC,e2,c,c2,nw,iG]
 |(with_reducible refine CU (cE _ _) ?_)
 |(with_reducible first|refine bg fun hc=>?_|refine bh fun hc=>?_|refine bj (fun hc=>?_) fun hc=>?_)<;>(try simp only[hc,bs,↓reduceIte]at h)<;>try simp only[hc]
 |(with_reducible refine aD hQ ?_;(try cases h);simp only[aT,aV,bD,bE,go_sem,hD,gA,gB,gC,e2,c,c2,nw,iG];try exact bX)
 |(cases h;done))
 ·have e1:((a.length:Int) != (b.length:Int))=true:=by simp;omega
  have:(a==b)=false:=by
   rw[beq_eq_false_iff_ne];intro e;rw[e]at hl;exact hl rfl
  rw[this]at h
  subst h
  refine aE.go wA rfl fun B Q hB hQ=>?_
  have⟨hD,gA,gB,gC⟩:=cd
  repeat' (first
 |simp only[go_sem,hD,gA,gB,gC,e1]
 |(with_reducible first|refine bg fun hc=>?_|refine bh fun hc=>?_|refine bj (fun hc=>?_) fun hc=>?_)<;>(try simp only[hc,bs,↓reduceIte]at h)<;>try simp only[hc]
 |(with_reducible refine aD hQ ?_;(try cases h);simp only[aT,aV,bD,bE,go_sem,hD,gA,gB,gC,e1];try exact bX)
 |(cases h;done))
structure Mc.Len (m:Mc):Prop where
 out:m.out.length<1000000000
 trace:m.trace.length<1000000000
 bT : ∀ e∈m.trace,e.2.length<1000000000
def EE (a b:Mc):Bool:=a.fin==b.fin && (a.steps==b.steps && (a.reads==b.reads && a.out==b.out))
def H8 (a b:Mc):Bool:=EE a b && a.trace==b.trace
theorem aeq {a b:Mc} (ha:a.Len) (s:St):aE Tryz.prog vR [.agg (fz a), .agg (fz b)] s (.bool (EE a b)) s:=by
 refine aE.pure ?_ (by simp[D.bK,D.ok,H7]) rfl s
 have cE:=fun g s=>BX (a:=a.out) (b:=b.out) ha.out g s
 generalize h:EE a b=R
 simp only[EE]at h
 unfold S0
 simp only[fz]
 rcases Bool.eq_false_or_eq_true (a.fin==b.fin)with c1|c1
 all_goals rcases Bool.eq_false_or_eq_true (a.steps==b.steps)with c2|c2
 all_goals rcases Bool.eq_false_or_eq_true (a.reads==b.reads)with c3|c3
 all_goals
  simp only[c1,c2,c3,Bool.true_and,Bool.false_and]at h
  subst h
  refine aE.go G4 rfl fun B Q hB hQ=>?_
  have⟨hD,gA,gB,gC⟩:=cd
  repeat' (first
 |simp only[go_sem,hD,gA,gB,gC,c1,c2,c3]
 |(with_reducible refine CU (cE _ _) ?_)
 |(with_reducible first|refine bg fun hc=>?_|refine bh fun hc=>?_|refine bj (fun hc=>?_) fun hc=>?_)<;>(try simp only[hc,bs,↓reduceIte]at h)<;>try simp only[hc]
 |(with_reducible refine aD hQ ?_;(try cases h);simp only[aT,aV,bD,bE,go_sem,hD,gA,gB,gC,c1,c2,c3];try exact bX)
 |(cases h;done))
theorem aer {a b:Mc} (ha:a.Len) (s:St):aE Tryz.prog rQ [.agg (fz a), .agg (fz b)] s (.bool (H8 a b)) s:=by
 refine aE.pure ?_ (by simp[D.bK,D.ok,H7]) rfl s
 have c1:=fun s=>aeq (b:=b) ha s
 have c2:=fun s=>Xh (a:=a.trace) (b:=b.trace) ha.trace ha.bT s
 have e : ∀ m:Mc,(fz m).length=5:=fun m=>rfl
 have e0 : ∀ m:Mc,List.take 5 (fz m)=fz m:=fun m=>rfl
 have e4 : ∀ m:Mc,(fz m)[4]? = some (.slice .shared 2 (m.trace.map iG)):=fun m=>rfl
 generalize h:H8 a b=R
 simp only[H8]at h
 unfold S0
 rcases Bool.eq_false_or_eq_true (EE a b)with b1|b1
 all_goals
  simp only[b1,Bool.true_and,Bool.false_and]at h
  subst h
  refine aE.go G3 rfl fun B Q hB hQ=>?_
  have⟨hD,gA,gB,gC⟩:=cd
  repeat' (first
 |simp only[go_sem,hD,gA,gB,gC,b1,e,e0,e4]
 |(with_reducible refine CU (c1 _) ?_)
 |(with_reducible refine CU (c2 _) ?_)
 |(with_reducible first|refine bg fun hc=>?_|refine bh fun hc=>?_|refine bj (fun hc=>?_) fun hc=>?_)<;>(try simp only[hc,bs,↓reduceIte]at h)<;>try simp only[hc]
 |(with_reducible refine aD hQ ?_;(try cases h);simp only[aT,aV,bD,bE,go_sem,hD,gA,gB,gC,b1,e,e0,e4];try exact bX)
 |(cases h;done))
set_option maxRecDepth 8000
open Go.Proofs
theorem I5:fz (ofM tL [] [5,2] 50).1 = [.int .i64 1, .int .i64 7, .int .i64 0, .slice .shared 1 ([5,5].map cq), .slice .shared 2 ([(2,[]),(5,[5])].map iG)]:=by kernel_rfl
theorem alR:(ofM tL [] [5,2] 50).2=0:=by kernel_rfl
theorem aes:Nat.ble (tL.size+1) 1000=true:=by kernel_rfl
theorem Xi (n:Int):sa (.ofInt .f64) (.int .i64 n) (.int .i64 n)=some (.val (.float .f64 (FloatKind.nearest .f64 n))):=nd rfl
theorem Om (a b:Nat):sa .LN (.val (.float .f64 a)) (.val (.float .f64 b))=some (.val (.complex .f64 a b)):=nd rfl
theorem On (a b:Nat) (d:D):sa .real (.val (.complex .f64 a b)) d=some (.val (.float .f64 a)):=nd rfl
theorem ack:sa .eq (.val (.float .f64 (FloatKind.nearest .f64 7))) (.val (.float .f64 4619567317775286272))=some (.bool true):=by
 have:FloatKind.nearest .f64 7=4619567317775286272:=by decide +kernel
 rw[this]
 have h:(FloatKind.f64.format.order 4619567317775286272 4619567317775286272==some .eq)=true:=by decide +kernel
 show(if FloatKind.f64=FloatKind.f64 then some (D.bool (FloatKind.f64.format.order 4619567317775286272 4619567317775286272==some .eq))else none)=_
 rw[if_pos rfl,h]
theorem aiK:tL.jv:=by
 have xg:tL.size<100000:=by have:=Nat.le_of_ble_eq_true aes;omega
 exact⟨JK (by decide +kernel) (by omega),by omega⟩
theorem aiL (n k:Nat) (m:Mc):D.gT n k (fz m)=fz m:=iX n k _ (H7 m)
theorem aet (m:Mc):(fz m).length=5:=nd rfl
theorem aaf (m:Mc):List.take 5 (fz m)=fz m:=nd rfl
theorem alS (m:Mc):(fz m)[0]? = some (.int .i64 m.fin):=nd rfl
theorem alT (m:Mc):(fz m)[1]? = some (.int .i64 m.steps):=nd rfl
theorem alU (m:Mc):(fz m)[2]? = some (.int .i64 m.reads):=nd rfl
theorem alV (m:Mc):(fz m)[3]? = some (.slice .shared 1 (m.out.map cq)):=nd rfl
theorem alW (m:Mc):(fz m)[4]? = some (.slice .shared 2 (m.trace.map iG)):=nd rfl
attribute [go_sem] aiL aet aaf alS alT alU alV alW
theorem aeu (m:Mc) (s:St):aE Tryz.prog zr [.agg (fz m)] s (.val (.complex .f64 (FloatKind.nearest .f64 m.steps) (FloatKind.nearest .f64 m.reads))) s:=by
 refine aE.pure ?_ (by simp[D.bK,D.ok,H7]) rfl s
 unfold S0
 refine aE.go KD rfl fun B Q hB hQ=>?_
 have⟨hD,gA,gB,gC⟩:=cd
 repeat' (first
 |simp only[go_sem,hD,gA,gB,gC,fz,Xi,Om]
 |(with_reducible first|refine bg fun hc=>?_|refine bh fun hc=>?_|refine bj (fun hc=>?_) fun hc=>?_)<;>(try simp only[hc,bs,↓reduceIte]at h)<;>try simp only[hc]
 |(with_reducible refine aD hQ ?_;(try cases h);simp only[aT,aV,bD,bE,go_sem,hD,gA,gB,gC,fz,Xi,Om];try exact bX)
 |(cases h;done))
theorem alX (s:St):aE Tryz.prog zm [] s (.bool true) s:=by
 refine aE.pure ?_ rfl rfl s
 have h1:=fun s=>ahF s
 have h2:=fun s=>aiF (T:= []) (W:= [5,2]) aiK (by simp) (by simp) 50 s
 have h4:=fun s=>aeu (ofM tL [] [5,2] 50).1 s
 have m1:(ofM tL [] [5,2] 50).1.steps=7:=by have:=congrArg (fun l=>l[1]?) I5;simpa[fz]using this
 have m2:(ofM tL [] [5,2] 50).1.reads=0:=by have:=congrArg (fun l=>l[2]?) I5;simpa[fz]using this
 rw[m1,m2]at h4
 rw[I5]at h2 h4
 rw[alR]at h2
 simp only[List.map_cons,List.map_nil,cq,iG]at h2 h4
 have h3:=fun g s=>BX (a:= [5,5]) (b:= [5,5]) (by simp) g s
 have h5:=fun g s=>BX (a:= [5]) (b:= [5]) (by simp) g s
 have e5:(([5,5] : List Int) == [5,5])=true:=rfl
 have e6:(([5] : List Int) == [5])=true:=rfl
 rw[e5]at h3
 rw[e6]at h5
 simp only[List.map_cons,List.map_nil,cq]at h3 h5
 have wx:=fun s=>bW.o5 (.cons (Wk.refl _) (.cons (Wk.nil .full 0 1) (.cons (Wk.refl _) (.cons (Wk.shared .full _ _) .nil)))) (h2 s)
 have h2 : ∀ s,aE Tryz.prog uu [.agg (bJ tL), .slice .full 0 [], .int .i64 50, .slice .full 1 [[.int .i64 5],[.int .i64 2]]] s _ s:=wx
 clear wx
 have z0 : ∀ x:Int,(x==x)=true:=fun x=>beq_self_eq_true x
 have z2:(((2:Nat):Int)==2)=true:=rfl
 unfold S0
 refine aE.go Kw rfl fun B Q hB hQ=>?_
 have⟨hD,gA,gB,gC⟩:=cd
 repeat' (first
 |simp only[go_sem,hD,gA,gB,gC,z0,z2,On,ack,Int.toNat_one,List.getElem?_cons_succ,List.getElem?_cons_zero]
 |(with_reducible refine CU (h1 _) ?_)
 |(with_reducible refine CU (h2 _) ?_)
 |(with_reducible refine CU (h3 _ _) ?_)
 |(with_reducible refine CU (h5 _ _) ?_)
 |(with_reducible refine CU (h4 _) ?_)
 |(with_reducible first|refine bg fun hc=>?_|refine bh fun hc=>?_|refine bj (fun hc=>?_) fun hc=>?_)<;>(try simp only[hc,bs,↓reduceIte]at h)<;>try simp only[hc]
 |(with_reducible refine aD hQ ?_;(try cases h);simp only[aT,aV,bD,bE,go_sem,hD,gA,gB,gC,z0,z2,On,ack,Int.toNat_one,List.getElem?_cons_succ,List.getElem?_cons_zero];try exact bX)
 |(cases h;done))
def Pg.whole (p:Pg) (T:List Int) (fuel:Int):Mc:=(ofM p T (NH 0 p.all) fuel).1
end Go.Abs
namespace Go.Abs
def Reads (n:Nat) (m:Mc):Prop:=0≤m.reads∧m.reads≤(n:Int)∧(m.fin=3→m.reads=(n:Int))
def Sm.tells (s:Sm):Nat:=if s.kind==4 ||(decide (s.kind≥7) && !s.has)then 0 else 1
def Sil (m m':Mc):Prop:=m'.trace=m.trace∧m'.out=m.out∧m'.reads=m.reads
def Tel (T:List Int) (x:Sm) (m m':Mc):Prop:=∃ bT:List Int,m'.trace=m.trace++ [(x.id,bT)]∧m'.out=m.out++(if x.kind==3 then bT else [])∧bT.length=x.tells∧
 (if x.kind==2 then ∃ v,T[m.reads.toNat]? = some v∧bT = [v]∧m'.reads=m.reads+1 else m'.reads=m.reads)
def aBJ (T:List Int) (x:Sm) (m m':Mc):Prop:=Sil m m'∨Tel T x m m'
def Oo (f:Int→Sm) (k:Int):List (Int×List Int)→List Int
 | []=> []
 |e::l=>(if(f e.1).kind==k then e.2 else [])++Oo f k l
structure auA (L:List Im) (f:Int→Sm) (T:List Int) (m:Mc):Prop where
 ev : ∀ e∈m.trace,∃ x∈L,x.s.id=e.1∧e.2.length=x.s.tells
 out:Oo f 3 m.trace=m.out
 ins:Oo f 2 m.trace=T.take m.reads.toNat
 reads:0≤m.reads∧m.reads≤(T.length:Int)
def aCr (fuel:Int) (m:Mc):Prop:=m.fin=2→m.steps=fuel
def alY (W:List Int) (l:List (Int×List Int)):List (Int×List Int):=l.filter fun e=>W.contains e.1
def aCs (W:List Int) (m:Mc):Mc:= {m with trace:=alY W m.trace}
structure Run (p:Pg) (T:List Int) (fuel:Int) (m:Mc):Prop where
 run:runM p T (NH 0 p.all) fuel=some m
 of:ofM p T (NH 0 p.all) fuel=(m,0)
 whole:p.whole T fuel=m
 aCt:auA p.bc.L p.ak5 T m
 told:aui m
 steps:m.steps≤fuel
 len:m.Len
 small:m.trace.length≤fuel.toNat∧m.out.length≤fuel.toNat∧∀ e∈m.trace,e.2.length≤1
structure aCu (fuel:Int) (r s:Mc):Prop where
 steps:r.steps=fuel
 trace:(r.trace.length:Int)=fuel
 more:r.steps≤s.steps
 reads:r.reads≤s.reads
 out:(decide ((r.out.length:Int)≤(s.out.length:Int)) && r.out==s.out.take r.out.length)=true
 told:fuel≤(s.trace.length:Int)∧s.trace.take fuel.toNat=r.trace
def acm (it:Im) (n:Int):Int:=if it.s.kind==5 then(if n==0 then firstM it.s.aL it.next else firstM it.s.aM it.next)else(if n==0 then it.next else firstM it.s.aM it.s.id)
def acn (p:Pg) (it:Im):Int:=match p.procs[it.proc.toNat]? with|some f=>(lE f.fin it.s.name (Sm.bZ f.body)).1|none=>0
def aco (L L':List Im) (R:Int→Int→Prop) (c c':Int):Prop:=(c=0∧c'=0)∨(c≠0∧c'≠0∧(fI L' c').s.name=(fI L c).s.name∧R (fI L c).next (fI L' c').next)
def alZ (p q:Pg) (R:Int→Int→Prop) (i i':Int):Prop:=match p.procs[i.toNat]?,q.procs[i'.toNat]? with
 |some f,some f'=>f'.own=f.own∧f'.vars.length=f.vars.length∧R (dY f.body (-1)) (dY f'.body (-1))
 |_,_=>False
structure Alike (p q:Pg) (L L':List Im) (R:Int→Int→Prop) (x x':Im):Prop where
 kind:1≤x.s.kind∧x.s.kind≤10
 plain:x.s.kind=1∨x.s.kind=2∨x.s.kind=3→x'.s.kind=x.s.kind∧x'.s.name=x.s.name∧x'.s.x=x.s.x∧R x.next x'.next
 call:x.s.kind=4→x'.s.kind=4∧x'.s.args=x.s.args∧aco L L' R x.s.id x'.s.id∧alZ p q R (p.at x.s.proc) (q.at x'.s.proc)
 ret:x.s.kind=9→x'.s.kind=9∧x'.s.has=x.s.has∧x'.s.x=x.s.x
 brk:x.s.kind=7→x'.s.kind=7∧R (fI L x.loop).next (fI L' x'.loop).next
 cont:x.s.kind=8→x'.s.kind=8∧R x.loop x'.loop
 IW:x.s.kind=10→x'.s.kind=10∧R (acn p x) (acn q x')
 cond:x.s.kind=5∨x.s.kind=6→(x'.s.kind=5∨x'.s.kind=6)∧∀ names bT,(x'.s.x.bM names bT).2=(x.s.x.bM names bT).2∧((x.s.x.bM names bT).2=true→R (acm x (x.s.x.bM names bT).1) (acm x' (x'.s.x.bM names bT).1))
structure Bis (p q:Pg) (L L':List Im) (R:Int→Int→Prop):Prop where
 globals:q.globals=p.globals
 last:R (-1) (-1)
 nil : ∀ a a',R a a'→(a = -1↔a' = -1)
 step : ∀ a a',R a a'→a≠ -1→Alike p q L L' R (fI L a) (fI L' a')
structure FrR (L L':List Im) (R:Int→Int→Prop) (f f':Fr):Prop where
 names:f'.names=f.names
 vars:f'.vars=f.vars
 call:aco L L' R f.call f'.call
inductive StR (P:Fr→Fr→Prop):List Fr→List Fr→Prop
 |nil:StR P [] []
 |cons {f f':Fr} {l l':List Fr} : P f f'→StR P l l'→StR P (f::l) (f'::l')
structure McR (L L':List Im) (R:Int→Int→Prop) (m m':Mc):Prop where
 st:StR (FrR L L' R) m.st m'.st
 mem:m'.mem=m.mem
 fin:m'.fin=m.fin
 steps:m'.steps=m.steps
 reads:m'.reads=m.reads
 out:m'.out=m.out
variable {p q:Pg} {L L':List Im} {R:Int→Int→Prop} {m m':Mc}
def aCv (L L':List Im) (R:Int→Int→Prop) (r r':Int×Mc):Prop:=McR L L' R r.2 r'.2∧(r.2.fin=0→R r.1 r'.1)
def aCw (L L':List Im) (R:Int→Int→Prop) (r r':Option Int×Mc):Prop:=McR L L' R r.2 r'.2∧(match r.1,r'.1 with|none,none=>True|some a,some a'=>R a a'|_,_=>False)
end Go.Abs
namespace Go.Abs
mutual
def Sm.auB:Sm→Sm
 |⟨id,kind,labels,name,proc,x,has,args,aM,aL⟩=>⟨0,kind,labels,name,proc,x,has,args,Sm.tT aM,Sm.tT aL⟩
def Sm.tT:List Sm→List Sm
 | []=> []
 |s::l=>s.auB::Sm.tT l
end
structure aBK (s t:Sm):Prop where
 kind:s.kind=t.kind
 labels:s.labels=t.labels
 name:s.name=t.name
 proc:s.proc=t.proc
 x:s.x=t.x
 has:s.has=t.has
 args:s.args=t.args
 aM:Sm.tT s.aM=Sm.tT t.aM
 aL:Sm.tT s.aL=Sm.tT t.aL
mutual
def Sm.img (k id:Int):Sm→Sm
 |⟨i,kind,labels,name,proc,x,has,args,aM,aL⟩=>
  if k==1 && i==id then⟨i,kind,labels,name,proc,⟨4,0,[],[x]⟩,has,args,Sm.zW k id aL,Sm.zW k id aM⟩
  else if k==2 && i==id then⟨i,5,labels,name,proc,x,has,args,Sm.zW k id aM++ [⟨i,kind,[],name,proc,x,has,args,Sm.zW k id aM,[]⟩],Sm.zW k id aL⟩
  else⟨i,kind,labels,name,proc,x,has,args,Sm.zW k id aM,Sm.zW k id aL⟩
def Sm.zW (k id:Int):List Sm→List Sm
 | []=> []
 |s::l=>s.img k id::Sm.zW k id l
end
def Sp (k id:Int) (s:Sm):Prop:=(k=1∨k=2)∧s.id=id
inductive Lk (p q:Pg) (k id:Int):Nat→Nat→Int→Int→List Sm→Int→Int→List Sm→Prop
 |top {i i':Nat} {f f':Pc} : p.procs[i]? = some f→q.procs[i']? = some f'→f'.name=f.name→Lk p q k id i i' (-1) 0 f.body (-1) 0 f'.body
 |tail {i i' n lp s l n' nF s' l'} : Lk p q k id i i' n lp (s::l) n' nF (s'::l')→Lk p q k id i i' n lp l n' nF l'
 |aM {i i' n lp s l n' nF s' l'} : Lk p q k id i i' n lp (s::l) n' nF (s'::l')→¬ Sp k id s→
  Lk p q k id i i' (if s.kind==6 then s.id else dY l n) (if s.kind==6 then s.id else lp) s.aM (if s'.kind==6 then s'.id else dY l' n') (if s'.kind==6 then s'.id else nF) s'.aM
 |aL {i i' n lp s l n' nF s' l'} : Lk p q k id i i' n lp (s::l) n' nF (s'::l')→¬ Sp k id s→
  Lk p q k id i i' (if s.kind==6 then s.id else dY l n) (if s.kind==6 then s.id else lp) s.aL (if s'.kind==6 then s'.id else dY l' n') (if s'.kind==6 then s'.id else nF) s'.aL
 |aBL {i i' n lp s l n' nF s' l'} : Lk p q k id i i' n lp (s::l) n' nF (s'::l')→k=1→s.id=id→Lk p q k id i i' (dY l n) lp s.aM (dY l' n') nF s'.aL
 |aBM {i i' n lp s l n' nF s' l'} : Lk p q k id i i' n lp (s::l) n' nF (s'::l')→k=1→s.id=id→Lk p q k id i i' (dY l n) lp s.aL (dY l' n') nF s'.aM
 |aBN {i i' n lp s l n' nF s' l' c w} : Lk p q k id i i' n lp (s::l) n' nF (s'::l')→k=2→s.id=id→s'.aM=c++ [w]→Lk p q k id i i' s.id s.id s.aM w.id nF c
 |aBO {i i' n lp s l n' nF s' l' c w} : Lk p q k id i i' n lp (s::l) n' nF (s'::l')→k=2→s.id=id→s'.aM=c++ [w]→Lk p q k id i i' s.id s.id s.aM w.id w.id w.aM
def LkR (p q:Pg) (k id a a':Int):Prop:=(a = -1∧a' = -1)∨∃ i i' n lp s l n' nF s' l',Lk p q k id i i' n lp (s::l) n' nF (s'::l')∧a=s.id∧(a'=s'.id∨(k=2∧s.id=id∧∃ c w,s'.aM=c++ [w]∧a'=w.id))
def NoJ (l:List Sm):Prop:=∀ v∈Sm.bZ l,v.kind≠7∧v.kind≠8∧v.kind≠10∧v.labels = []
def LpR (p q:Pg) (k id a a':Int):Prop:=∃ i i' n lp s l n' nF s' l',Lk p q k id i i' n lp (s::l) n' nF (s'::l')∧a=s.id∧a'=s'.id∧s.kind=6∧¬ Sp k id s
structure LkI (p q:Pg) (k id:Int) (i i':Nat) (n lp:Int) (l:List Sm) (n' nF:Int) (l':List Sm):Prop where
 shape:Sm.tT l'=Sm.tT (Sm.zW k id l)
 next:LkR p q k id n n'
 loop:lp=0∨NoJ l∨LpR p q k id lp nF
 sub : ∃ up,∀ x∈Sm.iM i up n lp l,x∈p.bc.L
 aCx : ∃ up,∀ x∈Sm.iM i' up n' nF l',x∈q.bc.L
structure Made (p q:Pg) (k id:Int):Prop where
 right:p.Right
 right':q.Right
 globals:q.globals=p.globals
 cor : ∀ {i i':Nat} {f f':Pc},p.procs[i]? = some f→q.procs[i']? = some f'→f'.name=f.name→f'.own=f.own∧f'.vars.length=f.vars.length∧f'.fin=f.fin∧Sm.tT f'.body=Sm.tT (Sm.zW k id f.body)
 has : ∀ {i:Nat} {f:Pc},p.procs[i]? = some f→∃ (i':Nat) (f':Pc),q.procs[i']? = some f'∧f'.name=f.name
 aCy:k=1→∀ v∈p.pre,v.id=id→v.kind=5
 aCz:k=2→∀ v∈p.pre,v.id=id→v.kind=6∧NoJ v.aM
variable {p q:Pg} {k id:Int}
end Go.Abs
namespace Go.Abs
variable {p q:Pg} {k id:Int}
end Go.Abs
namespace Go.Abs
structure Cov (u v:Sm):Prop where
 said : ∀ x∈v.said,x∈u.said
 call:v.kind=4→u.kind=4∧u.proc=v.proc∧u.args=v.args∧u.name=v.name
structure Pc.I6 (g f:Pc):Prop where
 name:g.name=f.name
 params:g.params=f.params
 vars:g.vars=f.vars
 st : ∀ v∈Sm.bZ g.body,∃ u∈Sm.bZ f.body,Cov u v
 lK:eZ g.labels=false
 leads : ∀ q∈g.qT,kn g.labels q.1 q.2=true
theorem T8 {p q:Pg} (hp:p.Right) (hq:q.may=true) (hg:q.globals=p.globals) {l:List (Pc×Pc)} (tx:q.procs=l.map Prod.fst) (kX:(l.map Prod.snd).Perm p.procs) (hl3 : ∀ x∈l,Pc.I6 x.1 x.2):q.Right:=by
 have nd:(p.procs.map (·.name)).Nodup:=by
  have:=hp.tp
  unfold Pg.pn at this
  cases e:eZ (p.procs.map (·.name))with
  |true=>rw[e]at this;cases this
  |false=>
   by_cases hn:(p.procs.map (·.name)).Nodup
   ·exact hn
   ·rw[(vE _).2 hn]at e;cases e
 have hpn:(q.pn).Perm p.pn:=by
  unfold Pg.pn
  have h1:q.procs.map (·.name)=(l.map Prod.snd).map (·.name):=by
   rw[tx,List.map_map,List.map_map]
   exact List.map_congr_left fun x m=>(hl3 x m).name
  rw[h1]
  exact kX.map _
 have ndq:(q.procs.map (·.name)).Nodup:=hpn.nodup_iff.2 nd
 have tpq:eZ q.pn=false:=by
  cases e:eZ q.pn with
  |false=>rfl
  |true=>exact absurd ndq ((vE _).1 e)
 have QE : ∀ g∈q.procs,∃ f∈p.procs,Pc.I6 g f:=fun g m=>by
  rw[tx]at m
  obtain⟨x,hx,rfl⟩:=List.mem_map.1 m
  exact⟨x.2,kX.mem_iff.1 (List.mem_map_of_mem hx),hl3 x hx⟩
 have ofp : ∀ f∈p.procs,∃ g∈q.procs,Pc.I6 g f:=fun f m=>by
  obtain⟨x,hx,rfl⟩:=List.mem_map.1 (kX.mem_iff.2 m)
  exact⟨x.1,by rw[tx];exact List.mem_map_of_mem hx,hl3 x hx⟩
 have fq : ∀ {nm:aF} {g:Pc},q.find nm=some g→∃ f,p.find nm=some f∧Pc.I6 g f:=fun {nm g} e=>by
  obtain⟨h1,h2⟩:=(tO ndq).1 e
  obtain⟨f,hf,kA⟩:=QE g h1
  exact⟨f,(tO nd).2 ⟨hf,by rw[← kA.name];exact h2⟩,kA⟩
 have fp : ∀ {nm:aF} {f:Pc},p.find nm=some f→∃ g,q.find nm=some g∧Pc.I6 g f:=fun {nm f} e=>by
  obtain⟨h1,h2⟩:=(tO nd).1 e
  obtain⟨g,rA,kA⟩:=ofp f h1
  exact⟨g,(tO ndq).2 ⟨rA,by rw[kA.name];exact h2⟩,kA⟩
 have has : ∀ x,fv q.pn x=fv p.pn x:=fun x=>by
  have h1:=gJ q.pn x
  have h2:=gJ p.pn x
  have h3:=hpn.mem_iff (a:=x)
  rw[Bool.eq_iff_iff,h1,h2,h3]
 have kind : ∀ {g f:Pc},Pc.I6 g f→∀ n,g.jQ q n=f.jQ p n:=fun {g f} kA n=>by unfold Pc.jQ;rw[kA.vars,kA.params,hg]
 have known : ∀ g∈q.procs,∀ v∈Sm.bZ g.body,v.known q g q.pn=true:=fun g m v mv=>by
  obtain⟨f,hf,kA⟩:=QE g m
  obtain⟨u,hu,e⟩:=kA.st v mv
  have:=hp.known f hf u hu
  unfold Sm.known at this ⊢
  rw[has]
  simp only[kind kA]
  simp only[Bool.and_eq_true,Bool.not_eq_true',Bool.or_eq_true,bne_iff_ne,ne_eq]at this ⊢
  refine⟨?_, ?_⟩
  ·cases c:v.said.any fun n=>f.jQ p n==0 with
   |false=>rfl
   |true=>
    obtain⟨n,m1,m2⟩:=List.any_eq_true.1 c
    have h3:u.said.any (fun n=>f.jQ p n==0)=true:=List.any_eq_true.2 ⟨n,e.said n m1,m2⟩
    rw[this.1]at h3;cases h3
  ·by_cases hk:v.kind=4
   ·obtain⟨e1,e2,_,_⟩:=e.call hk
    right
    rcases this.2 with h|h
    ·exact absurd e1 h
    ·rw[← e2];exact h
   ·exact .inl hk
 have own : ∀ g∈q.procs,eZ (q.globals++g.own)=false:=fun g m=>by
  obtain⟨f,hf,kA⟩:=QE g m
  have:=hp.own f hf
  unfold Pc.own Pc.qz at this ⊢
  rw[hg,kA.params,kA.vars];exact this
 have main:q.nB=false:=by
  have h1:=hp.main
  unfold Pg.nB at h1 ⊢
  cases e:p.find gi with
  |none=>rw[e]at h1;cases h1
  |some f=>
   rw[e]at h1
   obtain⟨g,rA,kA⟩:=fp e
   rw[rA]
   simpa only[kA.params]using h1
 have tg:eZ q.globals=false:=by rw[hg];exact hp.tg
 have mO:q.scope=(0,0):=J9 hq tg tpq main fun g m=>⟨own g m,known g m⟩
 have aCA:(q.scope.1==0)=true:=by rw[mO];rfl
 have aiO:(p.scope.1==0)=true:=by rw[hp.scope];rfl
 -- who is called, what is touched
 have calls : ∀ x y,y∈pz q x→y∈pz p x:=fun x y m=>by
  unfold pz at m ⊢
  cases e:q.find x with
  |none=>rw[e]at m;cases m
  |some g=>
   rw[e]at m
   obtain⟨f,hf,kA⟩:=fq e
   rw[hf]
   obtain⟨v,hv,h1,h2⟩:=DI.1 m
   obtain⟨u,hu,e2⟩:=kA.st v hv
   have e3:=e2.call (by simpa using h1)
   refine DI.2 ⟨u,hu, ?_, ?_⟩
   ·simpa using e3.1
   ·rw[e3.2.1];exact h2
 have work : ∀ {nm:aF} {f:Pc},p.find nm=some f→∀ x∈q.work nm,x∈p.work nm:=fun {nm f} hf x m=>by
  unfold Pg.work at m
  refine HE (p:=q) (S:=fun x=>x∈p.work nm) (fun x hx y hy=>?_) _ _ _ (fun x hx=>?_) x m
  ·exact Fk aiO _ _ _ (BI hf) (by omega) (fun j x hj=>absurd hj (Nat.not_lt_zero _)) _ hx _ (calls x y hy)
  ·rw [List.mem_singleton]at hx
   subst hx
   exact Nw p _ _ _ (by simp)
 have body : ∀ n x,x∈rX (oA q n)→x∈rX (oA p n):=fun n x m=>by
  unfold oA at m ⊢
  cases e:q.find n with
  |none=>rw[e]at m;cases m
  |some g=>
   rw[e]at m
   obtain⟨f,hf,kA⟩:=fq e
   rw[hf]
   obtain⟨v,hv,h1⟩:=DO.1 m
   obtain⟨u,hu,e2⟩:=kA.st v hv
   exact DO.2 ⟨u,hu,e2.said _ h1⟩
 have LJ : ∀ nm x,fv (q.mP nm) x=true→fv (p.mP nm) x=true:=fun nm x m=>by
  rw[gJ]at m ⊢
  cases e:q.uD nm with
  |none=>unfold Pg.mP at m;rw[e]at m;cases m
  |some g=>
   obtain⟨_,eg⟩:=DK e
   obtain⟨f,hf,kA⟩:=fq eg
   have ef:p.uD nm=some f:=by unfold Pg.uD;rw[if_pos aiO];exact hf
   rw[J3 e]at m
   rw[J3 ef]
   obtain⟨⟨n,hn,hx⟩,HA⟩:=m
   exact⟨⟨n,work hf n hn,body n x hx⟩,by rw[← hg];exact HA⟩
 have pre : ∀ v∈q.pre,∃ u∈p.pre,Cov u v:=fun v m=>by
  simp only[Pg.pre,List.mem_flatten,List.mem_map]at m
  obtain⟨_,⟨g,rA,rfl⟩,mv⟩:=m
  obtain⟨f,hf,kA⟩:=QE g rA
  obtain⟨u,hu,e⟩:=kA.st v mv
  exact⟨u,by simp only[Pg.pre,List.mem_flatten,List.mem_map];exact⟨_,⟨f,hf,rfl⟩,hu⟩,e⟩
 refine⟨hq,tg,tpq,main,own,known,fun g m=>?_,fun g m=>?_,fun v m hk=>?_,fun v m hk=>?_⟩
 ·obtain⟨f,hf,kA⟩:=QE g m
  exact kA.lK
 ·obtain⟨f,hf,kA⟩:=QE g m
  exact kA.leads
 ·obtain⟨u,hu,e⟩:=pre v m
  obtain⟨e1,e2,e3,e4⟩:=e.call (by simpa using hk)
  have:=hp.fits u hu (by simpa using e1)
  unfold Sm.pb at this ⊢
  rw[e2,e3,show(u.kind==4)=true by simpa using e1]at this
  rw[hk]
  simp only[Bool.true_and]at this ⊢
  cases e2:p.find v.proc with
  |none=>rw[e2]at this;cases this
  |some f=>
   rw[e2]at this
   obtain⟨g,rA,kA⟩:=fp e2
   rw[rA]
   simpa only[kA.params]using this
 ·obtain⟨u,hu,e⟩:=pre v m
  obtain⟨e1,e2,e3,e4⟩:=e.call (by simpa using hk)
  have:=hp.single u hu (by simpa using e1)
  unfold Sm.uE at this ⊢
  rw[e2,e3,e4]at this
  exact zO (LJ v.proc) this
def Sm.yW (s:Sm):Sm:= {s with labels:= []}
def pQ:List Sm→List Sm
 | []=> []
 |s::l=>if decide (s.kind≤3)then s.yW::pQ l else pQ l
def Pc.jK (f:Pc):Pc:=if f.name != gi then f else {f with body:=pQ f.body,fin:= []}
def Pg.jK (p:Pg):Pg:= {p with procs:=p.procs.map Pc.jK}
theorem Gl {v:Sm} : ∀ {l:List Sm},v∈pQ l→∃ s∈l,s.kind≤3∧v=s.yW
 | [],m=>by cases m
 | s::l,m=>by
  simp only[pQ]at m
  split at m
  ·rename_i h
   rcases List.mem_cons.1 m with rfl|m
   ·exact⟨s,List.mem_cons_self ..,by simpa using h,rfl⟩
   ·obtain⟨t,h1,h2⟩:=Gl m;exact⟨t,List.mem_cons_of_mem _ h1,h2⟩
  ·obtain⟨t,h1,h2⟩:=Gl m;exact⟨t,List.mem_cons_of_mem _ h1,h2⟩
theorem aag (s:Sm):s.yW.size≤s.size:=by cases s;simp only[Sm.yW,Sm.size,List.length_nil];omega
theorem aev (s:Sm):s.yW.iE=s.iE:=by cases s;simp only[Sm.yW,Sm.iE]
theorem sr : ∀ l:List Sm,Sm.a7 (pQ l)≤Sm.a7 l
 | []=>Nat.le_refl _
 |s::l=>by
  have:=sr l
  have:=aag s
  simp only[pQ,Sm.a7]
  split
  ·simp only[Sm.a7];omega
  ·omega
theorem QF : ∀ l:List Sm,Sm.fR (pQ l)≤Sm.fR l
 | []=>Nat.le_refl _
 |s::l=>by
  have:=QF l
  have:=aev s
  simp only[pQ,Sm.fR]
  split
  ·simp only[Sm.fR];omega
  ·omega
theorem Pc.sr (f:Pc):f.jK.size≤f.size:=by
 unfold Pc.jK
 split
 ·exact Nat.le_refl _
 ·have:=Abs.sr f.body
  simp only[Pc.size,List.length_nil];omega
theorem Pc.aah (f:Pc):f.jK.name=f.name:=by unfold Pc.jK;split<;>rfl
theorem Kn : ∀ l:List Pc,Pc.a7 (l.map Pc.jK)≤Pc.a7 l
 | []=>Nat.le_refl _
 |f::l=>by
  have:=Kn l
  have:=f.sr
  simp only[List.map_cons,Pc.a7];omega
theorem Pg.sr (p:Pg):p.jK.size≤p.size:=by
 have:=Kn p.procs
 simp only[Pg.size,Pg.jK];omega
theorem Oq : ∀ l:List Pc,Pc.vG (l.map Pc.jK)≤Pc.vG l
 | []=>Nat.le_refl _
 | f::l=>by
  have:=Oq l
  have:Sm.fR f.jK.body≤Sm.fR f.body:=by
   unfold Pc.jK
   split
   ·exact Nat.le_refl _
   ·exact QF _
  simp only[List.map_cons,Pc.vG];omega
theorem Xj {s:Sm} (h:s.one=true) (hk:s.kind≤3):s.aM = []∧s.aL = []∧1≤s.kind:=by
 unfold Sm.one at h
 split at h
 ·cases h
 rename_i c1
 simp only[Bool.or_eq_true,not_or,decide_eq_true_eq]at c1
 split at h
 ·cases h
 split at h
 ·cases h
 split at h
 ·cases h
 simp only[Bool.and_eq_true,Bool.or_eq_true,beq_iff_eq]at h
 refine⟨?_, ?_,by omega⟩
 ·rcases h.1 with (e | e) | e
  ·exact List.length_eq_zero_iff.1 (by omega)
  ·omega
  ·omega
 ·rcases h.2 with e | e
  ·exact List.length_eq_zero_iff.1 (by omega)
  ·omega
theorem aew {s:Sm} (h:s.one=true):s.yW.one=true:=by
 unfold Sm.one at h ⊢
 split at h
 ·cases h
 rename_i c1
 simp only[Bool.or_eq_true,not_or,Bool.not_eq_true',Bool.not_eq_true]at c1
 rw[if_neg (by simp only[Bool.or_eq_true,not_or,Bool.not_eq_true',Bool.not_eq_true];exact⟨⟨⟨⟨c1.1.1.1.1,by simp[Sm.yW,dS]⟩,c1.1.1.2⟩,c1.1.2⟩,c1.2⟩)]
 exact h
theorem I7 : ∀ {l:List Sm},Sm.zN 1 l→Sm.zN 1 (pQ l)
 | [],_=>trivial
 | s::l,h=>by
  simp only[pQ]
  split
  ·have h1:=(Sm.NO _ _).1 h.1
   exact⟨(Sm.NO _ _).2 ⟨aew h1.1,h1.2⟩,I7 h.2⟩
  ·exact I7 h.2
theorem aex {p:Pg} (h:p.WX):p.jK.WX:=by
 refine⟨h.rl,h.LJ,fun g m=>?_,by show(p.procs.map Pc.jK).length≤16;rw[List.length_map];exact h.ab7,Nat.le_trans (Oq _) h.vG⟩
 obtain⟨f,hf,rfl⟩:=List.mem_map.1 m
 have:=h.procs f hf
 unfold Pc.jK
 split
 ·exact this
 ·obtain⟨a,b,c,d,e⟩:=this
  exact⟨a,b,c,rfl,I7 e⟩
def Ot (l:List Sm):Prop:=∀ s∈l,1≤s.kind∧s.kind≤3∧s.aM = []∧s.aL = []∧s.labels = []∧s.one=true
theorem Ou {b:Bool} {v:Sm} : ∀ {l:List Sm} {n:Nat},v∈(Sm.cW b n l).1→∃ s∈l,∃ k,v=(Sm.num b k s).1
 | [],n,m=>by simp[Sm.cW]at m
 |s::l,n,m=>by
  simp only[Sm.cW]at m
  rcases List.mem_cons.1 m with rfl|m
  ·exact⟨s,List.mem_cons_self ..,n,rfl⟩
  ·obtain⟨t,h1,h2⟩:=Ou m;exact⟨t,List.mem_cons_of_mem _ h1,h2⟩
theorem aai (b:Bool) (k:Nat) (s:Sm):(Sm.num b k s).1.core=s.core:=by cases s;simp only[Sm.num,Sm.core]
theorem aaj (b:Bool) (k:Nat) {s:Sm} (h1:s.aM = []) (h2:s.aL = []):(Sm.num b k s).1.aM = []∧(Sm.num b k s).1.aL = []:=by
 cases s
 dsimp only at h1 h2
 subst h1 h2
 simp[Sm.num,Sm.cW]
theorem aak {l:List Sm} (h : ∀ s∈l,s.one=true) (n:Nat) : ∀ v∈(Sm.cW true n (pQ l)).1,(1≤v.kind∧v.kind≤3∧v.aM = []∧v.aL = []∧v.labels = [])∧∃ u∈l,Cov u v:=fun v m=>by
 obtain⟨w,m1,k,rfl⟩:=Ou m
 obtain⟨s,m2,hk,rfl⟩:=Gl m1
 obtain⟨g1,g2,g3⟩:=Xj (h s m2) hk
 have hc:=aai true k s.yW
 have hb:=aaj true k (s:=s.yW) g1 g2
 have hkd:(Sm.num true k s.yW).1.kind=s.kind:=by rw[← Kb,hc];rfl
 refine⟨⟨by omega,by omega,hb.1,hb.2, ?_⟩,s,m2,fun x hx=>?_,fun h4=>by omega⟩
 ·have:(Sm.num true k s.yW).1.core.labels=s.yW.core.labels:=by rw [hc]
  exact this
 ·rw [← yT,hc,yT]at hx
  exact hx
theorem Fp {l:List Sm} (h : ∀ s∈l,s.aM = []∧s.aL = []):Sm.bZ l=l:=by
 induction l with
 |nil=>rfl
 |cons s l ih=>
  obtain⟨h1,h2⟩:=h s (List.mem_cons_self ..)
  rw[Sm.bZ,Sm.mN,h1,h2,ih fun t m=>h t (List.mem_cons_of_mem _ m)]
  rfl
theorem KX {l:List Sm} (h : ∀ s∈l,s.labels = []):gy l = []:=by
 induction l with
 |nil=>rfl
 |cons s l ih=>rw[gy,h s (List.mem_cons_self ..),ih fun t m=>h t (List.mem_cons_of_mem _ m)];rfl
theorem Xk {f:Pc} {q:Sm×Int} (h:q∈f.qT):q.1∈Sm.bZ f.body:=by rw[← Qb f];exact List.mem_map_of_mem h
theorem aal (m:List Pc) : ∀ n:Nat,∃ l:List (Pc×Pc),Pc.cW n (m.map Pc.jK)=l.map Prod.fst∧l.map Prod.snd=m∧∀ x∈l,∃ j,x.1 = {x.2.jK with body:=(Sm.cW true j x.2.jK.body).1}:=by
 induction m with
 |nil=>intro n;exact⟨[],rfl,rfl,fun x m=>by cases m⟩
 | cons f m ih=>
  intro n
  obtain⟨l,h1,h2,h3⟩:=ih (Sm.cW true n f.jK.body).2
  refine⟨({f.jK with body:=(Sm.cW true n f.jK.body).1},f)::l, ?_,by rw[List.map_cons,h2],fun x mx=>?_⟩
  ·simp only[List.map_cons,Pc.cW,h1]
  ·rcases List.mem_cons.1 mx with rfl | mx
   ·exact⟨n,rfl⟩
   ·exact h3 x mx
theorem Xl {p:Pg} (hp:p.Right):p.jK.number.Right∧∀ g∈p.jK.number.procs,g.name=gi→Ot g.body:=by
 have hq:=(aex (ad8 hp.may)).may
 obtain⟨l,h1,h2,h3⟩:=aal p.procs 0
 have xf:p.jK.number.procs=l.map Prod.fst:=h1
 have gD : ∀ f∈p.procs,∀ s∈Sm.bZ f.body,s.one=true:=fun f mf s ms=>IV hp.may s (by simp only[Pg.pre,List.mem_flatten,List.mem_map];exact⟨_,⟨f,mf,rfl⟩,ms⟩)
 have l5 : ∀ (L:List Sm),∀ s∈L,s∈Sm.bZ L:=fun L=>by
  induction L with
  |nil=>intro s m;cases m
  |cons t L ih=>
   intro s m
   rw[Sm.bZ,List.mem_append]
   rcases List.mem_cons.1 m with rfl|m
   ·exact .inl (by rw[Sm.mN];exact List.mem_cons_self ..)
   ·exact .inr (ih s m)
 have main : ∀ x∈l,x.2.name=gi→∃ j,x.1 = {x.2 with body:=(Sm.cW true j (pQ x.2.body)).1,fin:= []}:=fun x mx e=>by
  obtain⟨j,e1⟩:=h3 x mx
  refine⟨j, ?_⟩
  rw[e1]
  unfold Pc.jK
  rw[if_neg (by simp[e])]
 have Cc : ∀ x∈l,x.2.name≠gi→∃ j,x.1 = {x.2 with body:=(Sm.cW true j x.2.body).1}:=fun x mx e=>by
  obtain⟨j,e1⟩:=h3 x mx
  refine⟨j, ?_⟩
  rw[e1]
  unfold Pc.jK
  rw[if_pos (by simp[e])]
 have T9 : ∀ x∈l,x.2.name=gi→∀ v∈x.1.body,(1≤v.kind∧v.kind≤3∧v.aM = []∧v.aL = []∧v.labels = [])∧∃ u∈x.2.body,Cov u v:=fun x mx e=>by
  obtain⟨j,e1⟩:=main x mx e
  have mf:x.2∈p.procs:=by rw[← h2];exact List.mem_map_of_mem mx
  rw[e1]
  exact aak (fun s m=>gD x.2 mf s (l5 _ s m)) j
 refine⟨T8 hp hq rfl xf (by rw[h2]) fun x mx=>?_,fun g mg e=>?_⟩
 ·have mg:x.1∈p.jK.number.procs:=by rw [xf];exact List.mem_map_of_mem mx
  have mf:x.2∈p.procs:=by rw[← h2];exact List.mem_map_of_mem mx
  have hm:=T9 x mx
  have hmn:=main x mx
  have hot:=Cc x mx
  obtain⟨g,f⟩:=x
  dsimp only at hm hmn hot mg mf
  by_cases e:f.name=gi
  ·obtain⟨j,e1⟩:=hmn e
   have hs:=hm e
   have sF:Sm.bZ g.body=g.body:=Fp fun s m=>⟨(hs s m).1.2.2.1,(hs s m).1.2.2.2.1⟩
   have Gc:g.labels = []:=by
    unfold Pc.labels
    rw[sF,KX fun s m=>(hs s m).1.2.2.2.2,e1];rfl
   refine⟨by rw[e1],by rw[e1],by rw[e1],fun v mv=>?_,by rw[Gc];rfl,fun q mq=>?_⟩
   ·rw [sF]at mv
    obtain⟨u,mu,hc⟩:=(hs v mv).2
    exact⟨u,l5 _ u mu,hc⟩
   ·have:=Xk mq
    rw[sF]at this
    have hk:=(hs _ this).1
    unfold kn
    rw[if_neg (by simp;omega),if_neg (by simp;omega)]
  ·obtain⟨j,e1⟩:=hot e
   have A1:g.oH=f.oH:=by
    rw[e1];exact Ew true false j _
   have Gc:g.labels=f.labels:=by rw[HL,HL,A1,e1]
   refine⟨by rw[e1],by rw[e1],by rw[e1],fun v mv=>?_,by rw[Gc];exact hp.lK f mf, ?_⟩
   ·have m1:v.core∈(Sm.oH false g.body).map Prod.fst:=by rw [w6];exact List.mem_map_of_mem mv
    rw[show Sm.oH false g.body=g.oH from rfl,A1,show f.oH=Sm.oH false f.body from rfl,w6]at m1
    obtain⟨u,mu,eu⟩:=List.mem_map.1 m1
    refine⟨u,mu,fun n hn=>by rw[← yT, ← eu,yT]at hn;exact hn,fun h4=>?_⟩
    have k1:v.kind=u.kind:=by rw[← Kb v, ← eu];rfl
    have k2:v.core.proc=u.core.proc:=by rw[← eu]
    have k3:v.core.args=u.core.args:=by rw[← eu]
    have k4:v.core.name=u.core.name:=by rw[← eu]
    exact⟨by rw[← k1];exact h4,k2.symm,k3.symm,k4.symm⟩
   ·dsimp only
    rw[Qi (Qh hq mg),A1,Gc]
    exact(Qi (Qh hp.may mf)).1 (hp.leads f mf)
 ·rw [xf]at mg
  obtain⟨x,mx,rfl⟩:=List.mem_map.1 mg
  have en:x.2.name=gi:=by
   obtain⟨j,e1⟩:=h3 x mx
   rw[e1]at e
   rw[← e];exact(Pc.aah x.2).symm
  intro v mv
  have:=(T9 x mx en v mv).1
  refine⟨this.1,this.2.1,this.2.2.1,this.2.2.2.1,this.2.2.2.2,IV hq v ?_⟩
  simp only[Pg.pre,List.mem_flatten,List.mem_map]
  exact⟨_,⟨x.1,by rw[xf];exact mg,rfl⟩,l5 _ v mv⟩
def kC:List aF→aF→Int→List Int→List Int
 |nm::ns,name,v,x::xs=>(if nm==name then v else x)::kC ns name v xs
 |_,_,_,_=> []
structure Ln where
 fin:Int
 steps:Int
 reads:Int
 out:List Int
def qU (names:List aF) (T:List Int):List Sm→List Int→Int→Int→List Int→Ln
 | [],_,steps,reads,out=>⟨1,steps,reads,out⟩
 | s::l,bT,steps,reads,out=>
  if s.kind==2 then
   if reads==(T.length:Int)then⟨3,steps+1,reads,out⟩
   else qU names T l (kC names s.name (T.getD reads.toNat 0) bT) (steps+1) (reads+1) out
  else
   if(s.x.bM names bT).2 then
    if s.kind==3 then qU names T l bT (steps+1) reads (out++ [(s.x.bM names bT).1])
    else qU names T l (kC names s.name (s.x.bM names bT).1 bT) (steps+1) reads out
   else⟨4,steps+1,reads,out⟩
theorem xZ : ∀ {ns:List aF} {xs:List Int} {name:aF} {v:Int},ns.length=xs.length→(kC ns name v xs).length=xs.length
 | [],[],_,_,_=>rfl
 |n::ns,x::xs,name,v,h=>by simp only[kC,List.length_cons,xZ (ns:=ns) (xs:=xs) (by simpa using h)]
 | [],x::xs,_,_,h=>by cases h
 |n::ns,[],_,_,h=>by cases h
theorem Ov : ∀ {ns:List aF} {xs:List Int} {name:aF} {v:Int},ns.length=xs.length→name∉ns→kC ns name v xs=xs
 | [],[],_,_,_,_=>rfl
 |n::ns,x::xs,name,v,h,hn=>by
  simp only[List.mem_cons,not_or]at hn
  simp only[kC]
  rw[if_neg (by simpa using fun e=>hn.1 e.symm),Ov (by simpa using h) hn.2]
 | [],x::xs,_,_,h,_=>by cases h
 |n::ns,[],_,_,h,_=>by cases h
theorem Ow : ∀ {ns:List aF} {xs:List Int} {name:aF} {v:Int} {k:Nat},ns.length=xs.length→ns.Nodup→name∈ns→xs.set (ja name (k:Int) ns - k).toNat v=kC ns name v xs
 | [],[],_,_,_,_,_,m=>by cases m
 | n::ns,x::xs,name,v,k,h,hd,m=>by
  simp only[List.nodup_cons]at hd
  simp only[ja,kC]
  by_cases e:name=n
  ·subst e
   rw[if_pos (by simp),if_pos (by simp),Ov (by simpa using h) hd.1]
   simp
  ·have m':=(List.mem_cons.1 m).resolve_left e
   rw[if_neg (by simpa using e),if_neg (by simpa using fun c=>e c.symm)]
   obtain⟨j,h1,h2⟩:=DU (k:=k+1) m'
   have:=Ow (k:=k+1) (xs:=xs) (v:=v) (by simpa using h) hd.2 m'
   rw[show((k+1:Nat):Int)=(k:Int)+1 by omega]at this h1
   rw[← this,h1,show(((k+1+j:Nat):Int) - (k:Int)).toNat=j+1 by omega,show(((k+1+j:Nat):Int) - ((k:Int)+1)).toNat=j by omega]
   rfl
 | [],x::xs,_,_,_,h,_,_=>by cases h
 |n::ns,[],_,_,_,h,_,_=>by cases h
theorem aiP {l:List aF} (h:eZ l=false):l.Nodup:=by
 by_cases hn:l.Nodup
 ·exact hn
 ·rw[(vE _).2 hn]at h;cases h
theorem Ox {proc up next loop:Int} : ∀ {l:List Sm} {k:Nat} {s:Sm},l[k]? = some s→(⟨s,proc,up,dY (l.drop (k+1)) next,loop⟩:Im)∈Sm.iM proc up next loop l
 |t::l,0,s,h=>by
  simp at h;subst h
  rw[Sm.iM,ahq]
  exact List.mem_append_left _ (List.mem_cons_self ..)
 |t::l,k+1,s,h=>by
  rw[Sm.iM]
  exact List.mem_append_right _ (by have:=Ox (proc:=proc) (up:=up) (next:=next) (loop:=loop) (l:=l) (k:=k) (s:=s) (by simpa using h);simpa using this)
theorem Ua {mem:List Int} {n:Nat} (h:mem.length=n):(List.range n).map (fun c=>mem.getD c 0)=mem:=by
 subst h
 apply List.ext_getElem?
 intro i
 simp only[List.getElem?_map]
 by_cases hi:i<mem.length
 ·rw [List.getElem?_range hi,List.getElem?_eq_getElem hi]
  simp[List.getD_eq_getElem?_getD,List.getElem?_eq_getElem hi]
 ·rw[List.getElem?_eq_none (by simp;omega),List.getElem?_eq_none (by omega)];rfl
theorem al1 (m:Mc) (id:Int) (bT:List Int):m.event [] id bT=m:=by unfold Mc.event;rfl
theorem Xm {q:Pg} (hR:q.Right) {j:Nat} {g:Pc} (hj:q.procs[j]? = some g) (hS:Ot g.body) {names:List aF} (PX:names=q.globals++g.own) {T:List Int} {fuel:Int} :
 ∀ (rest:List Sm) (k N:Nat) (m:Mc),g.body.drop k=rest→rest.length+1≤N→m.st = [⟨(j:Int),names,List.range names.length,0⟩]→m.mem.length=names.length→m.fin=0→m.steps+rest.length≤fuel→0≤m.reads→m.reads≤T.length→m.trace = []→
  ∃ m',Mc.go q q.bc.L T [] fuel N (dY rest (-1)) m=some m'∧qU names T rest m.mem m.steps m.reads m.out = ⟨m'.fin,m'.steps,m'.reads,m'.out⟩∧m'.trace = []:=by
 have hP:=qD hR
 have N8:names.Nodup:=by rw[PX];exact aiP (hR.own g (List.mem_of_getElem? hj))
 intro rest
 induction rest with
 | nil=>
  intro k N m hd hN jq H9 ry QB B3 xe Fm
  cases N with
  |zero=>omega
  | succ N=>
   refine⟨{m with st:= [],fin:=1}, ?_,rfl,Fm⟩
   have hn:m.next q q.bc.L T [] fuel (-1)=m.back q.bc.L 0:=by
    unfold Mc.next
    rw[if_pos (show((-1:Int) == -1)=true from rfl)]
   have hb:m.back q.bc.L 0=(none,{m with st:= [],fin:=1}):=by
    unfold Mc.back Mc.close Mc.top
    rw[jq]
    rfl
   simp only[Mc.go,dY]
   rw[hn,hb]
 | cons s rest ih=>
  intro k N m hd hN jq H9 ry QB B3 xe Fm
  cases N with
  |zero=>omega
  | succ N=>
   obtain⟨gA,g2,hD,g4⟩:=drop_cons hd
   obtain⟨k1,k2,k3,k4,k5,k6⟩:=hS s (List.mem_of_getElem? gA)
   have DB:(⟨s,(j:Int),0,dY rest (-1),0⟩:Im)∈q.bc.L:=by
    rw[J4 hR.may]
    refine Ge q.procs 0 hj ?_
    rw[Nat.zero_add]
    have:=Ox (proc:=(j:Int)) (up:=0) (next:= -1) (loop:=0) gA
    rwa [g2]at this
   obtain⟨f',ho⟩:=hP.im _ DB
   have:f'=g:=by
    have:=ho.proc.1
    simp only[Int.toNat_natCast]at this
    rw[hj]at this
    exact(Option.some.inj this).symm
   subst this
   have pZ:fI q.bc.L s.id = ⟨s,(j:Int),0,dY rest (-1),0⟩:=ho.self.1
   have hid:1≤s.id:=ho.self.2.1
   have wi:m.top = ⟨(j:Int),names,List.range names.length,0⟩:=by unfold Mc.top;rw[jq];rfl
   have LL:m.bT=m.mem:=by unfold Mc.bT;rw[wi];exact Ua H9
   have hl:(rest.length:Int)+1=((s::rest).length:Int):=by simp
   have ix:s.kind≠3→s.name∈names:=fun h3=>by
    rw[PX]
    exact xS hR ho (DY (v:=s) (by omega) (Oc k6 (by omega)))
   have Z7 : ∀ (m0:Mc) (v:Int),s.kind≠3→m0.st=m.st→m0.mem=m.mem→m0.set s.name v = {m0 with mem:=kC names s.name v m.mem}:=fun m0 v h3 e1 e2=>by
    have CP:m0.top = ⟨(j:Int),names,List.range names.length,0⟩:=by unfold Mc.top;rw[e1,jq];rfl
    have hm:=ix h3
    obtain⟨i,h1,h2⟩:=DU (k:=0) hm
    have rC:ja s.name 0 names=((0+i:Nat):Int):=h1
    have hs:m.mem.set (ja s.name 0 names - 0).toNat v=kC names s.name v m.mem:=Ow (k:=0) (xs:=m.mem) (v:=v) H9.symm N8 hm
    rw[rC]at hs
    unfold Mc.set Mc.cell
    rw[CP]
    dsimp only
    rw[rC,Int.toNat_natCast,Nat.zero_add,List.getD_eq_getElem?_getD,List.getElem?_range h2,e2]
    rw[show(((0+i:Nat):Int) - 0).toNat=i by omega]at hs
    rw[← hs];rfl
   have hnx:m.next q q.bc.L T [] fuel s.id=(if(({m with steps:=m.steps+1} : Mc).do q q.bc.L T [] ⟨s,(j:Int),0,dY rest (-1),0⟩).2.fin==0 then some (({m with steps:=m.steps+1} : Mc).do q q.bc.L T [] ⟨s,(j:Int),0,dY rest (-1),0⟩).1 else none,(({m with steps:=m.steps+1} : Mc).do q q.bc.L T [] ⟨s,(j:Int),0,dY rest (-1),0⟩).2):=by
    unfold Mc.next
    rw[if_neg (by simp;omega),if_neg (by simp;simp at QB;omega)]
    dsimp only
    rw[pZ]
    dsimp only
    rw[if_neg (by simp;omega),if_neg (by simp;omega)]
   simp only[Mc.go,dY]
   rw[hnx]
   have kN : ∀ m1:Mc,m1.st=m.st→m1.mem.length=names.length→m1.fin=0→m1.steps=m.steps+1→0≤m1.reads→m1.reads≤T.length→m1.trace = []→
    ∃ m',Mc.go q q.bc.L T [] fuel N (dY rest (-1)) m1=some m'∧qU names T rest m1.mem m1.steps m1.reads m1.out = ⟨m'.fin,m'.steps,m'.reads,m'.out⟩∧m'.trace = []:=fun m1 a b c d e f h=>
    ih (k+1) N m1 g2 (by simp at hN;omega) (a.trans jq) b c (by simp at QB;omega) e f h
   have b7:(s.kind==7)=false:=by simp;omega
   have b8:(s.kind==8)=false:=by simp;omega
   have tR:(s.kind==10)=false:=by simp;omega
   unfold Mc.do
   simp only[b7,b8,tR,Bool.false_eq_true,if_false,al1,qU]
   by_cases c2:(s.kind==2)=true
   ·have h2:s.kind=2:=by simpa using c2
    simp only[c2,if_true]
    cases e:T[m.reads.toNat]? with
    |none=>
     have:m.reads=T.length:=by have:=List.getElem?_eq_none_iff.1 e;omega
     simp only[this,beq_self_eq_true,if_true]
     exact⟨_,rfl,by rw[← this],Fm⟩
    |some v=>
     have aCD:=(List.getElem?_eq_some_iff.1 e).1
     have fm:(m.reads==(T.length:Int))=false:=by simp;omega
     have E2:T.getD m.reads.toNat 0=v:=by rw[List.getD_eq_getElem?_getD,e];rfl
     simp only[Z7 ({m with steps:=m.steps+1,reads:=m.reads+1} : Mc) v (by omega) rfl rfl]
     simp only[ry,beq_self_eq_true,if_true,fm,Bool.false_eq_true,if_false,E2]
     exact kN {m with fin:=0,steps:=m.steps+1,reads:=m.reads+1,mem:=kC names s.name v m.mem} rfl (by show(kC names s.name v m.mem).length=_;rw[xZ H9.symm];exact H9) rfl rfl (by show 0≤m.reads+1;omega) (by show m.reads+1≤(T.length:Int);omega) Fm
   ·have h2:(s.kind==2)=false:=by simpa using c2
    simp only[h2,Bool.false_eq_true,if_false]
    have hw:({m with steps:=m.steps+1} : Mc).bM s.x=(s.x.bM names m.mem,if(s.x.bM names m.mem).2 then {m with steps:=m.steps+1}else {m with steps:=m.steps+1,fin:=4}):=by
     unfold Mc.bM
     rw[show({m with steps:=m.steps+1} : Mc).top=m.top from rfl,show({m with steps:=m.steps+1} : Mc).bT=m.bT from rfl,wi,LL]
    rw[hw]
    generalize s.x.bM names m.mem=R
    obtain⟨v,ok⟩:=R
    cases ok with
    |false=>
     simp only[Bool.false_eq_true,if_false]
     exact⟨_,rfl,rfl,Fm⟩
    | true=>
     simp only[if_true]
     by_cases c1:(s.kind==1)=true
     ·have h1:s.kind=1:=by simpa using c1
      have h3:(s.kind==3)=false:=by simp;omega
      simp only[c1,if_true,h3,Bool.false_eq_true,if_false]
      simp only[Z7 ({m with steps:=m.steps+1} : Mc) v (by omega) rfl rfl]
      simp only[ry,beq_self_eq_true,if_true]
      exact kN {m with fin:=0,steps:=m.steps+1,mem:=kC names s.name v m.mem} rfl (by show(kC names s.name v m.mem).length=_;rw[xZ H9.symm];exact H9) rfl rfl B3 xe Fm
     ·have h3:s.kind=3:=by
       have:s.kind≠1:=by simpa using c1
       have:s.kind≠2:=by simpa using c2
       omega
      have c1':(s.kind==1)=false:=by simpa using c1
      have c3:(s.kind==3)=true:=by simp[h3]
      simp only[c1',c3,if_true,Bool.false_eq_true,if_false,ry,beq_self_eq_true]
      exact kN {m with fin:=0,steps:=m.steps+1,out:=m.out++ [v]} rfl H9 rfl rfl B3 xe Fm
theorem Ub {q:Pg} (hR:q.Right) {g:Pc} (hg:q.find gi=some g) (hS:Ot g.body) {T:List Int} {fuel:Int} (hf:(g.body.length:Int)≤fuel) :
 ∃ m,runM q T [] fuel=some m∧qU (q.globals++g.own) T g.body (List.replicate (q.globals++g.own).length 0) 0 0 [] = ⟨m.fin,m.steps,m.reads,m.out⟩∧m.trace = []:=by
 obtain⟨j,h1,h2⟩:=EA (k:=0) hg
 have rB:q.at gi=(j:Int):=by simpa[Pg.at]using h1
 have auE:g.params = []:=by
  have:=hR.main
  unfold Pg.nB at this
  rw[hg]at this
  simp at this
  exact List.length_eq_zero_iff.1 (by simpa using this)
 have aiQ:g.own=g.vars:=by simp[Pc.own,Pc.qz,auE]
 have al2:(lP q).open q (q.at gi) [] 0=(dY g.body (-1),{lP q with st:= [⟨(j:Int),q.globals++g.own,List.range (q.globals++g.own).length,0⟩],mem:=List.replicate (q.globals++g.own).length 0}):=by
  unfold Mc.open
  rw[rB,Int.toNat_natCast,h2]
  dsimp only
  have e1:List.range q.globals.length++ []++(List.range g.vars.length).map ((lP q).mem.length + ·)=List.range (q.globals++g.own).length:=by
   rw[List.append_nil,aiQ,List.length_append,List.range_add]
   simp[lP]
  have e2:(lP q).mem++List.replicate g.vars.length 0=List.replicate (q.globals++g.own).length 0:=by
   rw[aiQ,List.length_append]
   simp[lP,List.replicate_append_replicate]
  rw[e1,e2]
  rfl
 obtain⟨m,e1,e2,e3⟩:=Xm hR h2 hS rfl (T:=T) (fuel:=fuel) g.body 0 (2*fuel.toNat+3) {lP q with st:= [⟨(j:Int),q.globals++g.own,List.range (q.globals++g.own).length,0⟩],mem:=List.replicate (q.globals++g.own).length 0} rfl (by omega) rfl (by simp) rfl (by simp[lP];exact hf) (by simp[lP]) (by simp[lP]) rfl
 refine⟨m, ?_,e2,e3⟩
 unfold runM
 rw[al2]
 exact e1
set_option maxRecDepth 8000
open Go.Proofs
section
variable {A C:List D} {n:Nat}
theorem QG (hA:A.length=n*5) (a b c d e:D):(A++(a::b::c::d::e::C))[n*5]? = some a∧(A++(a::b::c::d::e::C))[n*5+3]? = some d:=by
 constructor
 ·rw[List.getElem?_append_right (by omega),hA,Nat.sub_self];rfl
 ·rw[List.getElem?_append_right (by omega),hA,show n*5+3 - n*5=3 by omega];rfl
theorem aiR (hA:A.length=n*5) (a b c d e x:D):fP (A++(a::b::c::d::e::C)) (n*5+3) [x] = A++(a::b::c::x::e::C):=by
 unfold fP
 rw[List.take_append,List.drop_append,List.take_of_length_le (by omega),List.drop_of_length_le (by omega),hA,show n*5+3 - n*5=3 by omega,show n*5+3 + [x].length - n*5=4 by simp only[List.length_singleton];omega]
 simp
theorem aiS (hA:A.length=n*5) (a b c d e x:D):fP (A++(a::b::c::d::e::C)) (n*5+4) [x] = A++(a::b::c::d::x::C):=by
 unfold fP
 rw[List.take_append,List.drop_append,List.take_of_length_le (by omega),List.drop_of_length_le (by omega),hA,show n*5+4 - n*5=4 by omega,show n*5+4 + [x].length - n*5=5 by simp only[List.length_singleton];omega]
 simp
theorem aez (C:List D) (hA:A.length=n*5):(n*5+3+1≤A.length+(C.length+1+1+1+1+1))=True∧(n*5+4+1≤A.length+(C.length+1+1+1+1+1))=True:=by
 simp only[eq_iff_iff,iff_true];omega
end
theorem aam (done rest:List Pc) (y:Pc):((done++y::rest).map bG).flatten=(done.map bG).flatten++(.str y.name:: .slice .shared 2 (y.params.map gp):: .slice .shared 1 (y.vars.map encStr):: .slice .shared 13 (y.body.map aS):: .slice .shared 1 (y.fin.map encStr)::(rest.map bG).flatten):=by
 simp[bG]
theorem aeA {p:Pg} (hp:p.size<1000000) (h0:p.procs≠ []) (aan:p.put ji=p) (st:St):aE Tryz.prog zo [.agg (bJ p)] st (.agg (bJ p.jK.number)) st:=by
 refine aE.pure ?_ (by simp[D.bK,D.ok,jh]) (by simp[D.ok,jh]) st
 have A1:=fun s=>WQ hp h0 s
 rw[aan]at A1
 have Uc:=fun s=>WR (p:=p.jK) (by have:=p.sr;omega) (by simpa[Pg.jK]using h0) s
 generalize hZ:p.jK.number=Z at *
 clear hZ
 have hdp:p.jK = ⟨p.globals,p.procs.map Pc.jK⟩:=rfl
 rw[hdp]at Uc
 obtain⟨globals,procs⟩:=p
 dsimp only at Uc A1 h0
 simp only[Pg.size]at hp
 have hlen:procs.length<1000000:=by have:=Pc.dJ procs;omega
 have fm:0<procs.length:=List.length_pos_iff.2 h0
 obtain⟨g,hg⟩ : ∃ g,procs.length - 1=g:=⟨_,rfl⟩
 have Kc:nY procs=Gb g procs:=by rw[← hg]
 have WS:bJ (⟨globals,procs⟩:Pg) = [.slice .shared 1 (globals.map encStr), .slice .shared 5 (procs.map bG)]:=rfl
 simp only[Kc,hg,WS]at A1
 generalize hR:procs.map Pc.jK=R at *
 have auF:bJ (⟨globals,R⟩:Pg) = [.slice .shared 1 (globals.map encStr), .slice .shared 5 (R.map bG)]:=rfl
 simp only[auF]at Uc
 unfold S0
 refine aE.go KA rfl fun B Q hB hQ=>?_
 have⟨hD,gA,gB,gC⟩:=cd
 have loop : ∀ (rest done:List Pc),procs.drop done.length=rest→done++rest.map Pc.jK=R→
  bl Tryz.prog B 57 Q60 (iI 0 (la (jJ Tryz.prog B 57 Q65 Q) Q)) [(2, .ptr 1 0),(3, .ptr 2 0),(12, .int .i64 (procs.length:Int)),(13, .int .i64 (done.length:Int))] ⟨[bJ ⟨globals,procs⟩,[.junk, .junk],[.slice .shared 1 (globals.map encStr), .dD 5 3 g procs.length],Gb g (done++rest)],[]⟩:=by
  intro rest
  induction rest with
  | nil=>
   intro done h1 h3
   have hD:=drop_nil h1
   simp only[List.map_nil,List.append_nil]at h3
   subst h3
   rw[List.append_nil]
   have Ql:procs.length=(done.map bG).length:=by rw[← hR];simp
   refine bl.TA 3 g 5 (done.map bG) [(2, .ptr 1 0),(3, .ptr 2 0),(12, .int .i64 (procs.length:Int)),(13, .int .i64 (done.length:Int))] [bJ ⟨globals,procs⟩,[.junk, .junk],[.slice .shared 1 (globals.map encStr), .slice .shared 5 (done.map bG)]]
    (by rw[hB];exact Nat.zero_le _) rfl ⟨1,_, .inr ⟨2,_,rfl,rfl⟩⟩ (fun row hr=>by obtain⟨a,_,rfl⟩:=List.mem_map.1 hr;rfl) ?_ ?_ (bl.jV ?_)
   ·simp only [go_sem]
    repeat' (first|exact Ok.out|with_reducible refine ju ?_ ?_)
   ·show gY [Ck _ _ _ _ _ (bJ _),Ck _ _ _ _ _ [.junk, .junk],Ck _ _ _ _ _ [.slice .shared 1 _, .dD _ _ _ _]] _
    simp only[go_sem,Ql,and_self,if_true]
    exact Ok.out
   ·repeat' (first
 |simp only[go_sem,hD,gA,gB,gC]
 |(with_reducible refine CU (Uc _) ?_)
 |(with_reducible first|refine bg fun hc=>?_|refine bh fun hc=>?_|refine bj (fun hc=>?_) fun hc=>?_)<;>(try simp only[hc,bs,↓reduceIte]at h)<;>try simp only[hc]
 |(with_reducible refine aD hQ ?_;exact fM)
 |(cases h;replace h:=hr;clear hr;(try simp only[bs,↓reduceIte]at h))
 | (cases h;done))
  | cons y rest ih=>
   intro done h1 h3
   obtain⟨gA,g2,hD,g4⟩:=drop_cons h1
   have hk:done.length<4611686018427387904:=by omega
   have E3:=Pc.da (List.mem_of_getElem? gA)
   simp only[Pc.size]at E3
   have hlb:y.body.length<1000000:=by have:=Sm.dJ y.body;omega
   have IH:=ih (done++ [y.jK]) (by rw[List.length_append];exact g2) (by rw[← h3];simp)
   rw[List.length_append,List.length_singleton,List.append_assoc,List.singleton_append]at IH
   have Xn:((done.map bG).flatten).length=done.length*5:=NS done
   simp only[Gb,aam]at IH ⊢
   have fA : ∀ n m,D.gT n m ((done.map bG).flatten)=(done.map bG).flatten:=fun n m=>by simp only[go_sem]
   have fC : ∀ n m,D.gT n m ((rest.map bG).flatten)=(rest.map bG).flatten:=fun n m=>by simp only[go_sem]
   generalize (done.map bG).flatten=A at *
   generalize (rest.map bG).flatten=C at *
   clear ih
   have e0:=fun a b c d e=>(QG (C:=C) Xn a b c d e).1
   have e3:=fun a b c d e=>(QG (C:=C) Xn a b c d e).2
   have s3:=fun a b c d e x=>aiR (C:=C) Xn a b c d e x
   have s4:=fun a b c d e x=>aiS (C:=C) Xn a b c d e x
   obtain⟨n3,n4⟩:=aez C Xn
   refine bl.jV ?_
   rcases Bool.eq_false_or_eq_true (y.name != gi)with bq|bq
   ·have bn:(y.name == [109,97,105,110])=false:=by have:(!(y.name==gi))=true:=bq;simpa [gi]using this
    have hyl:y.jK=y:=by unfold Pc.jK;rw[if_pos bq]
    rw[hyl]at IH
    repeat' (first
 |simp only[go_sem,hD,gA,gB,gC,e0,bn,g4,Nat.add_zero,Bool.not_false]
 |(with_reducible first|refine bg fun hc=>?_|refine bh fun hc=>?_|refine bj (fun hc=>?_) fun hc=>?_)<;>(try simp only[hc,bs,↓reduceIte]at h)<;>try simp only[hc]
 |(with_reducible refine aD hQ ?_;(try cases h);simp only[aT,aV,bD,bE,go_sem,hD,gA,gB,gC,e0,bn,g4,Nat.add_zero,Bool.not_false];try exact bX)
 |(cases h;replace h:=hr;clear hr;(try simp only[bs,↓reduceIte]at h))
 | (cases h;done))
    refine dW 4 0 ?_ ?_ (IH)
    ·(simp only[go_sem,hD,gA,gB,gC,aH hk,fA,fC];try exact bO)
    ·(simp only[go_sem,hD,gA,gB,gC,aH hk,fA,fC];try exact bO)
   ·have bn:(y.name == [109,97,105,110])=true:=by have:(!(y.name==gi))=false:=bq;simpa [gi]using this
    have hyl:y.jK = {y with body:=pQ y.body,fin:= []}:=by unfold Pc.jK;rw[if_neg (by rw[bq];simp)]
    rw[hyl]at IH
    dsimp only at IH
    generalize hL:pQ y.body=L at *
    repeat' (first
 |simp only[go_sem,hD,gA,gB,gC,e0,e3,bn,g4,Nat.add_zero,Bool.not_true]
 |(with_reducible first|refine bg fun hc=>?_|refine bh fun hc=>?_|refine bj (fun hc=>?_) fun hc=>?_)<;>(try simp only[hc,bs,↓reduceIte]at h)<;>try simp only[hc]
 |(with_reducible refine aD hQ ?_;(try cases h);simp only[aT,aV,bD,bE,go_sem,hD,gA,gB,gC,e0,e3,bn,g4,Nat.add_zero,Bool.not_true];try exact bX)
 |(cases h;replace h:=hr;clear hr;(try simp only[bs,↓reduceIte]at h))
 | (cases h;done))
    refine bl.s7 5 13 rfl ?_
    simp only[go_sem,hD,gA,gB,gC]
    refine dW 4 1 ?_ ?_ (bl.ind (ι:=List Sm×Nat×List Sm×Nat) (fun i=>y.body.drop i.2.1=i.1∧i.2.2.1++pQ i.1=L∧i.2.2.1.length≤i.2.1∧i.2.2.2=i.2.2.1.length) (fun i=>i.1.length)
     (fun i=> [(2, .ptr 1 0),(3, .ptr 2 0),(4, .int .i64 (done.length:Int)),(5, .slice (.tok 0) 13 (i.2.2.1.map aS)),(12, .int .i64 (procs.length:Int)),(13, .int .i64 (done.length:Int)),(28, .slice .shared 13 (y.body.map aS)),(29, .int .i64 (y.body.length:Int)),(30, .int .i64 (i.2.1:Int))])
     (fun i=>⟨[bJ ⟨globals,procs⟩,[.junk, .junk],[.slice .shared 1 (globals.map encStr), .dD 5 3 g procs.length], .int .i64 (g:Int)::(A++(.str y.name:: .slice .shared 2 (y.params.map gp):: .slice .shared 1 (y.vars.map encStr):: .slice .shared 13 (y.body.map aS):: .slice .shared 1 (y.fin.map encStr)::C))],[some i.2.2.2]⟩) ?_ (y.body,0,[],0) ⟨rfl,hL,Nat.le_refl _,rfl⟩)
    ·(simp only[go_sem,hD,gA,gB,gC,fA,fC];try exact bO)
    ·(simp only[go_sem,hD,gA,gB,gC,fA,fC];try exact bO)
    rintro⟨rb,k,acc,m⟩ ⟨j1,j2,j3,j4⟩ sD
    dsimp only at j1 j2 j3 j4
    subst j4
    cases rb with
    |nil=>
     have hD:=drop_nil j1
     simp only[pQ,List.append_nil]at j2
     subst j2
     repeat' (first
 |simp only[go_sem,hD,gA,gB,gC,g4,s3,s4,n3,n4,Nat.add_zero]
 |(with_reducible first|refine bg fun hc=>?_|refine bh fun hc=>?_|refine bj (fun hc=>?_) fun hc=>?_)<;>(try simp only[hc,bs,↓reduceIte]at h)<;>try simp only[hc]
 |(with_reducible refine aD hQ ?_;(try cases h);simp only[aT,aV,bD,bE,go_sem,hD,gA,gB,gC,g4,s3,s4,n3,n4,Nat.add_zero];try exact bX)
 |(cases h;replace h:=hr;clear hr;(try simp only[bs,↓reduceIte]at h))
 | (cases h;done))
     refine dW 4 0 ?_ ?_ (IH)
     ·(simp only[go_sem,hD,gA,gB,gC,aH hk,fA,fC];try exact bO)
     ·(simp only[go_sem,hD,gA,gB,gC,aH hk,fA,fC];try exact bO)
    | cons v rb=>
     obtain⟨gA,q2,hD,q4⟩:=drop_cons j1
     have cH:k<4611686018427387904:=by omega
     have fV:(acc.length+1)*209≤bp:=by simp only[bp];omega
     obtain⟨id,kind,labels,name,proc,x,has,args,aM,aL⟩:=v
     simp only[pQ,Sm.yW]at j2
     rcases Bool.eq_false_or_eq_true (decide (kind≤3))with bk|bk
     ·rw [if_pos bk]at j2
      repeat' (first
 |simp only[go_sem,hD,gA,gB,gC,bk,fV,dL]
 |(with_reducible first|refine bg fun hc=>?_|refine bh fun hc=>?_|refine bj (fun hc=>?_) fun hc=>?_)<;>(try simp only[hc,bs,↓reduceIte]at h)<;>try simp only[hc]
 |(with_reducible refine aD hQ ?_;(try cases h);simp only[aT,aV,bD,bE,go_sem,hD,gA,gB,gC,bk,fV,dL];try exact bX)
 |(cases h;replace h:=hr;clear hr;(try simp only[bs,↓reduceIte]at h))
 |(cases h;done))
      refine dW 4 1 ?_ ?_ (sD (rb,k+1,acc++ [⟨id,kind,[],name,proc,x,has,args,aM,aL⟩],acc.length+1) ⟨q2,by rw[← j2];simp,by simp;omega,by simp⟩ (Nat.lt_succ_self _))
      ·(simp only[go_sem,hD,gA,gB,gC,aH cH,dL,fA,fC];try exact bO)
      ·(simp only[go_sem,hD,gA,gB,gC,aH cH,dL,fA,fC];try exact bO)
     ·rw [if_neg (by simp [bk])]at j2
      repeat' (first
 |simp only[go_sem,hD,gA,gB,gC,bk]
 |(with_reducible first|refine bg fun hc=>?_|refine bh fun hc=>?_|refine bj (fun hc=>?_) fun hc=>?_)<;>(try simp only[hc,bs,↓reduceIte]at h)<;>try simp only[hc]
 |(with_reducible refine aD hQ ?_;(try cases h);simp only[aT,aV,bD,bE,go_sem,hD,gA,gB,gC,bk];try exact bX)
 |(cases h;replace h:=hr;clear hr;(try simp only[bs,↓reduceIte]at h))
 |(cases h;done))
      refine dW 4 1 ?_ ?_ (sD (rb,k+1,acc,acc.length) ⟨q2,j2,by dsimp only;omega,rfl⟩ (Nat.lt_succ_self _))
      ·(simp only[go_sem,hD,gA,gB,gC,aH cH,fA,fC];try exact bO)
      ·(simp only[go_sem,hD,gA,gB,gC,aH cH,fA,fC];try exact bO)
 repeat' (first
 |simp only[go_sem,hD,gA,gB,gC]
 |(with_reducible refine CU (A1 _) ?_)
 |(with_reducible first|refine bg fun hc=>?_|refine bh fun hc=>?_|refine bj (fun hc=>?_) fun hc=>?_)<;>(try simp only[hc,bs,↓reduceIte]at h)<;>try simp only[hc]
 |(with_reducible refine aD hQ ?_;exact fM)
 |(cases h;replace h:=hr;clear hr;(try simp only[bs,↓reduceIte]at h))
 |(cases h;done))
 have AY:=bl.TC (P:=Tryz.prog) (a:=Q60) (Q:=iI 0 (la (jJ Tryz.prog B 57 Q65 Q) Q)) (nt:=57) (tm:= [(2, .ptr 1 0),(3, .ptr 3 0),(12, .int .i64 (procs.length:Int)),(13, .int .i64 ((0:Nat):Int))])
  (s:=⟨[bJ ⟨globals,procs⟩,[.junk, .junk],Gb g procs,[.slice .shared 1 (globals.map encStr), .dD 5 2 g procs.length]],[]⟩)
  hB [0,1,3,2] _ _ (by decide) (by simp) (by simp[xP,D.eQ,D.cJ,D.bK,D.ok,Tag.cJ,Tag.ok,AZ,Et,HP,oV,DQ,uG,uH,w8]) (by simp[AX,Tm.get,D.cJ,D.ok,Tag.cJ,Tag.ok,BS,Eu])
  (loop procs [] rfl (by simpa using hR))
 refine fj 4 0 (AY)
end Go.Abs
namespace Go.Abs
mutual
theorem Ud {g:Sm→Sm} : ∀ s:Sm,(∀ v∈s.pre,g v=v)→s.gW g=s
 |⟨id,kind,labels,name,proc,x,has,args,aM,aL⟩,h=>by
  rw[Qd,h _ (by rw[Sm.mN];exact List.mem_cons_self ..)]
  dsimp only
  rw[vb aM fun v m=>h v (by rw[Sm.mN];exact List.mem_cons_of_mem _ (List.mem_append_left _ m)),vb aL fun v m=>h v (by rw[Sm.mN];exact List.mem_cons_of_mem _ (List.mem_append_right _ m))]
theorem vb {g:Sm→Sm} : ∀ l:List Sm,(∀ v∈Sm.bZ l,g v=v)→Sm.kG g l=l
 | [],_=>rfl
 |s::l,h=>by
  simp only[Sm.bZ,List.mem_append]at h
  simp only[Sm.kG]
  rw[Ud s fun v m=>h v (.inl m),vb l fun v m=>h v (.inr m)]
end
theorem Xo {p:Pg} {t:Sm} (h : ∀ v∈p.pre,v.id≠t.id):p.put t=p:=by
 obtain⟨globals,procs⟩:=p
 simp only[Pg.put,Pg.gW]
 congr 1
 conv=>rhs;rw[← List.map_id procs]
 refine List.map_congr_left fun f hf=>?_
 simp only[Pc.gW,id_eq]
 rw[vb f.body fun v m=>?_]
 have:v.id≠t.id:=h v (by simp only[Pg.pre,List.mem_flatten,List.mem_map];exact⟨_,⟨f,hf,rfl⟩,m⟩)
 unfold gf
 rw[if_neg (by simpa using this)]
theorem Xp {p:Pg} (h:p.Right):p.procs≠ []:=fun e=>by
 have:=h.main
 simp[Pg.nB,Pg.find,e,gQ]at this
open Go.Proofs
theorem aeB {m:Mc} {fin steps reads:Int} {out:List Int} (h1:m.fin=fin) (h2:m.steps=steps) (h3:m.reads=reads) (h4:m.out=out) (h5:m.trace = []) (hl:out.length<1000000) (g g2:Tag) (z z2:Nat) (hz:z=1∨out = []) (s:St) :
 aE Tryz.prog rQ [.agg (fz m), .agg [.int .i64 fin, .int .i64 steps, .int .i64 reads, .slice g z (out.map cq), .slice g2 z2 []]] s (.bool true) s:=by
 have hm:m.Len:=⟨by rw[h4];omega,by rw[h5];simp,by rw[h5];simp⟩
 have:=aer (a:=m) (b:=⟨[],[],fin,steps,reads,out,[]⟩) hm s
 have e:H8 m ⟨[],[],fin,steps,reads,out,[]⟩=true:=by
  unfold H8 EE
  rw[h1,h2,h3,h4,h5];simp
 rw[e]at this
 refine bW.o5 (.cons (Wk.refl _) (.cons (Wk.agg (.cons (Wk.refl _) (.cons (Wk.refl _) (.cons (Wk.refl _) (.cons ?_ (.cons (Wk.nil _ _ _) .nil)))))) .nil)) this
 rcases hz with rfl|rfl
 ·exact Wk.shared _ _ _
 ·exact Wk.nil _ _ _
set_option maxRecDepth 8000
open Go.Proofs
theorem yX {names:List aF} {T:List Int} : ∀ (l:List Sm) (bT:List Int) (steps reads:Int) (out:List Int),(qU names T l bT steps reads out).out.length≤out.length+l.length
 | [],_,_,_,out=>by simp[qU]
 | s::l,bT,steps,reads,out=>by
  simp only[qU]
  split
  ·split
   ·simp
   ·have:=yX (names:=names) (T:=T) l (kC names s.name (T.getD reads.toNat 0) bT) (steps+1) (reads+1) out
    simp only[List.length_cons];omega
  ·split
   ·split
    ·have:=yX (names:=names) (T:=T) l bT (steps+1) reads (out++ [(s.x.bM names bT).1])
     simp only[List.length_append,List.length_singleton]at this
     simp only[List.length_cons];omega
    ·have:=yX (names:=names) (T:=T) l (kC names s.name (s.x.bM names bT).1 bT) (steps+1) reads out
     simp only[List.length_cons];omega
   ·simp
theorem Xq (n:Nat):(gu [.int .i64 0] n).flatten=(List.replicate n (0:Int)).map ic:=by
 induction n with
 |zero=>rfl
 |succ n ih=>rw[gu,List.flatten_cons,ih,List.replicate_succ];rfl
section
variable {A C:List D} {n:Nat}
theorem I8 (hA:A.length=n) (a x:D):fP (A++a::C) n [x] = A++x::C:=by
 unfold fP
 rw[List.take_append,List.drop_append,List.take_of_length_le (by omega),List.drop_of_length_le (by simp;omega),hA,Nat.sub_self,show n + [x].length - n=1 by simp]
 simp
end
theorem Py (p:Pg) (T:List Int) (s:St):aE Tryz.prog yw [.agg (bJ p), .slice .shared 1 (T.map cq)] s (.bool true) s:=by
 refine aE.pure ?_ (by simp[D.bK,D.ok,Tag.ok,jh,kL]) rfl s
 have h1:=fun s=>alX s
 have h2:=fun s=>ahA p s
 unfold S0
 rcases Bool.eq_false_or_eq_true (decide (p.Eo≤20000))with hw|hw
 case inr=>
  simp only[hw]at h2
  refine aE.go nW rfl fun B Q hB hQ=>?_
  have⟨hD,gA,gB,gC⟩:=cd
  repeat' (first
 |simp only[go_sem,hD,gA,gB,gC]
 |(with_reducible refine CU (h1 _) ?_)
 |(with_reducible refine CU (h2 _) ?_)
 |(with_reducible first|refine bg fun hc=>?_|refine bh fun hc=>?_|refine bj (fun hc=>?_) fun hc=>?_)<;>(try simp only[hc,bs,↓reduceIte]at h)<;>try simp only[hc]
 |(with_reducible refine aD hQ ?_;exact fM)
 |(cases h;replace h:=hr;clear hr;(try simp only[bs,↓reduceIte]at h))
 |(cases h;done))
 simp only[hw]at h2
 obtain⟨dO,al3⟩:=Tv (of_decide_eq_true hw)
 have ho:p.jv:=⟨al3,by omega⟩
 have h3:=fun s=>NY ho s
 rcases Bool.eq_false_or_eq_true (p.check.1==0)with hc|hc
 case inr=>
  rw[hc]at h3
  refine aE.go nW rfl fun B Q hB hQ=>?_
  have⟨hD,gA,gB,gC⟩:=cd
  repeat' (first
 |simp only[go_sem,hD,gA,gB,gC]
 |(with_reducible refine CU (h1 _) ?_)
 |(with_reducible refine CU (h2 _) ?_)
 |(with_reducible refine CU (h3 _) ?_)
 |(with_reducible first|refine bg fun hc=>?_|refine bh fun hc=>?_|refine bj (fun hc=>?_) fun hc=>?_)<;>(try simp only[hc,bs,↓reduceIte]at h)<;>try simp only[hc]
 |(with_reducible refine aD hQ ?_;exact fM)
 |(cases h;replace h:=hr;clear hr;(try simp only[bs,↓reduceIte]at h))
 |(cases h;done))
 rw[hc]at h3
 rcases Bool.eq_false_or_eq_true (decide ((T.length:Int) > 100))with hT|hT
 ·refine aE.go nW rfl fun B Q hB hQ=> ?_
  have⟨hD,gA,gB,gC⟩:=cd
  repeat' (first
 |simp only[go_sem,hD,gA,gB,gC,hT]
 |(with_reducible refine CU (h1 _) ?_)
 |(with_reducible refine CU (h2 _) ?_)
 |(with_reducible refine CU (h3 _) ?_)
 |(with_reducible first|refine bg fun hc=>?_|refine bh fun hc=>?_|refine bj (fun hc=>?_) fun hc=>?_)<;>(try simp only[hc,bs,↓reduceIte]at h)<;>try simp only[hc]
 |(with_reducible refine aD hQ ?_;(try cases h);simp only[aT,aV,bD,bE,go_sem,hD,gA,gB,gC,hT];try exact bX)
 |(cases h;replace h:=hr;clear hr;(try simp only[bs,↓reduceIte]at h))
 |(cases h;done))
 have hTl:T.length≤100:=by simp at hT;omega
 have hr:=NN hc
 have aan:p.put ji=p:=Xo fun v m e=>by
  obtain⟨i,hi⟩:=List.getElem?_of_mem m
  have h1:=AR hr.may hi
  have h2:ji.id = -1:=rfl
  omega
 have h4:=fun s=>aeA (p:=p) (by omega) (Xp hr) aan s
 obtain⟨hq,T9⟩:=Xl hr
 have hqs:p.jK.number.size≤p.size:=by rw[Pg.NZ];exact p.sr
 generalize p.jK.number=q at *
 have Oy:q.jv:=⟨JK hq.may (by omega),by omega⟩
 have hcq:q.check=(0,0):=hq.check
 obtain⟨g,hg⟩ : ∃ g,q.find gi=some g:=by
  have:=hq.main
  unfold Pg.nB at this
  cases e:q.find gi with
  |none=>rw[e]at this;cases this
  |some g=>exact⟨g,rfl⟩
 obtain⟨j,_,hj⟩:=EA (k:=0) (show gQ gi q.procs=some g from hg)
 have Fj:=List.mem_of_getElem? hj
 have hS:=T9 g Fj (wY hg)
 have ub:=Oy.small Fj
 have sF:Sm.bZ g.body=g.body:=Fp fun s m=>⟨(hS s m).2.2.1,(hS s m).2.2.2.1⟩
 have hbl:g.body.length≤200:=by
  have e1:=(w5 hq.may).1
  have e2:=congrArg List.length (F1 hq.may).2
  rw[List.length_map]at e2
  obtain⟨a,b,e3⟩:=List.append_of_mem Fj
  have e4:q.pre.length=((a.map fun f=>Sm.bZ f.body).flatten).length+(g.body.length+((b.map fun f=>Sm.bZ f.body).flatten).length):=by
   unfold Pg.pre
   rw[e3,List.map_append,List.flatten_append,List.map_cons,List.flatten_cons,List.length_append,List.length_append,sF]
  omega
 obtain⟨m,r1,r2,r3⟩:=Ub hq hg hS (T:=T) (fuel:=300) (by omega)
 have H9:m.out.length≤200:=by
  have:=yX (names:=q.globals++g.own) (T:=T) g.body (List.replicate (q.globals++g.own).length 0) 0 0 []
  rw[r2]at this
  simp at this;omega
 have h5:=fun s=>(show aE Tryz.prog s8 [.agg (bJ q), .str [109,97,105,110]] s (.tuple [.agg (bG g), .bool true]) s by have:=adC Oy gi s;rw[hq.may,if_pos rfl,hg]at this;exact this)
 have h6:=fun s=>(show aE Tryz.prog qp [.agg (bJ q), .str [109,97,105,110]] s (.slice .shared 1 ((q.globals++g.own).map encStr)) s from W3 Oy hq.may hg s)
 have h7 : ∀ s,aE Tryz.prog uu [.agg (bJ q), .slice .shared 1 (T.map cq), .int .i64 300, .slice .full 0 []] s (.tuple [.agg (fz m), .int .i64 0]) s:=fun s=>by
  have h:=aiF Oy (T:=T) (W:= []) (by omega) (by simp) 300 s
  have e:ofM q T [] 300=(m,0):=by
   unfold ofM
   rw[if_neg,r1];rfl
   rw[hcq];simp
  rw[e]at h
  exact bW.o5 (.cons (Wk.refl _) (.cons (Wk.refl _) (.cons (Wk.refl _) (.cons (Wk.nil .full 0 1) .nil)))) h
 have h8:=fun s=>NY Oy s
 rw[hcq]at h8
 have h9:=fun s=>aeB (m:=m) rfl rfl rfl rfl r3 (by omega) (.tok 0) .full 1 0 (.inl rfl) s
 have hN:(q.globals++g.own).length≤3000000:=by
  have:=Oy.procs.2.2
  have:=ub.par
  have:=ub.vars
  simp[Pc.own,Pc.qz];omega
 have auG : ∀ v∈g.body,v.x.texts∧v.x.size<4611686018427387904:=fun v mv=>by
  have:=Oy.said Fj v (by rw[sF];exact mv)
  exact⟨this.1,by have:=this.2.2;omega⟩
 generalize hNs:q.globals++g.own=N at *
 have hgc:bG g = [.str g.name, .slice .shared 2 (g.params.map gp), .slice .shared 1 (g.vars.map encStr), .slice .shared 13 (g.body.map aS), .slice .shared 1 (g.fin.map encStr)]:=rfl
 have Wl:(bG g)[3]? = some (.slice .shared 13 (g.body.map aS)):=rfl
 have hz:=Xq N.length
 have hnn:(N.length:Int)=(N.length:Int)∧(0:Int)≤(N.length:Int)∧(N.length:Int)*((8:Nat)+1:Int)≤((bp:Nat):Int):=⟨rfl,by omega,by unfold bp;omega⟩
 have er:=List.length_replicate (n:=N.length) (a:=(0:Int))
 refine aE.go nW rfl fun B Q hB hQ=>?_
 have⟨hD,gA,gB,gC⟩:=cd
 repeat' (first
 |simp only[go_sem,hD,gA,gB,gC,hT,hz,hnn,and_self,if_true,Int.toNat_natCast]
 |(with_reducible refine CU (h1 _) ?_)
 |(with_reducible refine CU (h2 _) ?_)
 |(with_reducible refine CU (h3 _) ?_)
 |(with_reducible refine CU (h4 _) ?_)
 |(with_reducible refine CU (h5 _) ?_)
 |(with_reducible refine CU (h6 _) ?_)
 |(with_reducible first|refine bg fun hc=>?_|refine bh fun hc=>?_|refine bj (fun hc=>?_) fun hc=>?_)<;>(try simp only[hc,bs,↓reduceIte]at h)<;>try simp only[hc]
 |(with_reducible refine aD hQ ?_;(try cases h);simp only[aT,aV,bD,bE,go_sem,hD,gA,gB,gC,hT,hz,hnn,and_self,if_true,Int.toNat_natCast];try exact bX)
 |(cases h;replace h:=hr;clear hr;(try simp only[bs,↓reduceIte]at h))
 |(cases h;done))
 have p7 : ∀ (n m:Nat) (l:List Int),D.gT n m (l.map ic)=l.map ic:=fun n m l=>by
  rw[lM,List.map_map]
  exact List.map_congr_left fun x _=>by simp[ic,D.fg]
 have hcx:=fun {s:St} {bT:List Int} {x:Ex} (hx:x.texts∧x.size<4611686018427387904) (hl:bT.length=N.length) (e:s.ah[3]? = some (.int .i64 0::bT.map ic))=>
  (show aE Tryz.prog sy [.agg (bQ x), .slice .shared 1 (N.map encStr), .dD 1 3 0 N.length] s (zT (x.bM N bT)) s from
   aE.acb (v:= .dD 1 3 0 N.length) (l:=bT) (.inr ⟨3,0,[],by rw[List.length_map,hl],by rw[List.append_nil];exact e⟩) (fun s=>N6 hx.2 hx.1 (by omega) (by omega) s) (by simp[D.ok,jN]) (by simp[D.ok,Tag.ok,fe]) rfl)
 refine bl.ur 4 3 1 rfl rfl ?_
 simp only[go_sem,hD,gA,gB,gC]
 refine dW 5 1 ?_ ?_ (bl.ind (ι:=List Sm×Nat×List Int×Int×Int×List Int×Nat) (fun i=>g.body.drop i.2.1=i.1∧qU N T i.1 i.2.2.1 i.2.2.2.1 i.2.2.2.2.1 i.2.2.2.2.2.1 = ⟨m.fin,m.steps,m.reads,m.out⟩∧i.2.2.1.length=N.length∧i.2.2.2.2.2.2=i.2.2.2.2.2.1.length∧i.2.2.2.1=(i.2.1:Int)∧0≤i.2.2.2.2.1∧i.2.2.2.2.1≤(T.length:Int)∧i.2.2.2.2.2.1.length≤i.2.1) (fun i=>i.1.length)
  (fun i=> [(1, .slice .shared 1 (T.map cq)),(5, .ptr 1 0),(7, .bool true),(8, .slice .shared 1 (N.map encStr)),(9, .dD 1 3 0 N.length),(10, .ptr 4 0),(45, .slice .shared 13 (g.body.map aS)),(46, .int .i64 (g.body.length:Int)),(47, .int .i64 (i.2.1:Int))])
  (fun i=>⟨[bJ p,bJ q,bG g, .int .i64 0::(i.2.2.1.map ic),[.int .i64 1, .int .i64 i.2.2.2.1, .int .i64 i.2.2.2.2.1, .slice (.tok 0) 1 (i.2.2.2.2.2.1.map cq), .slice .full 0 []]],[some i.2.2.2.2.2.2]⟩) ?_ (g.body,0,List.replicate N.length 0,0,0,[],0) ⟨rfl,r2,by simp,rfl,rfl,Int.le_refl _,by simp,Nat.le_refl _⟩)
 ·(simp only[go_sem,hD,gA,gB,gC,p7];try exact bO)
 ·(simp only[go_sem,hD,gA,gB,gC,p7];try exact bO)
 rintro⟨rest,k,bT,steps,reads,out,c⟩ ⟨j1,j2,j3,j4,j5,j6,j7,j8⟩ IH
 dsimp only at j1 j2 j3 j4 j5 j6 j7 j8
 subst j4
 have z : ∀ x:Int,(x==x)=true:=fun x=>beq_self_eq_true x
 cases rest with
 |nil=>
  have hD:=drop_nil j1
  simp only[qU,Ln.mk.injEq]at j2
  obtain⟨k1,k2,k3,k4⟩:=j2
  subst k2 k3 k4
  rw[← k1]at h9
  repeat' (first
 |simp only[go_sem,hD,gA,gB,gC,z]
 |(with_reducible refine CU (h7 _) ?_)
 |(with_reducible refine CU (h8 _) ?_)
 |(with_reducible refine CU (h9 _) ?_)
 |(with_reducible first|refine bg fun hc=>?_|refine bh fun hc=>?_|refine bj (fun hc=>?_) fun hc=>?_)<;>(try simp only[hc,bs,↓reduceIte]at h)<;>try simp only[hc]
 |(with_reducible refine aD hQ ?_;(try cases h);simp only[aT,aV,bD,bE,go_sem,hD,gA,gB,gC,z];try exact bX)
 |(cases h;replace h:=hr;clear hr;(try simp only[bs,↓reduceIte]at h))
 |(cases h;done))
 | cons v rest=>
  obtain⟨gA,g2,hD,g4⟩:=drop_cons j1
  have hk:k<4611686018427387904:=by omega
  have wG:IntKind.wrap .i64 (steps+1)=steps+1:=eD (by omega) (by omega)
  have hv:=auG v (List.mem_of_getElem? gA)
  have oQ:=fun s=>hcx (s:=s) (bT:=bT) hv j3
  simp only[qU]at j2
  have Cl:=fun(al4:List Int) (aiV:Int) (dd:List Int) (c':Nat) (hc':c'=dd.length) h1 h2 h3 h4 h5=>IH (rest,k+1,al4,steps+1,aiV,dd,c') ⟨g2,h1,h2,hc',by dsimp only;omega,h3,h4,h5⟩ (Nat.lt_succ_self _)
  rcases Bool.eq_false_or_eq_true (v.kind==2)with b2|b2
  ·have sG:(v.kind==3)=false:=by simp at b2 ⊢;omega
   rw[if_pos b2]at j2
   generalize hW:v.x.bM N bT=R at *
   obtain⟨w,ok⟩:=R
   rcases Bool.eq_false_or_eq_true (reads==(T.length:Int))with br|br
   ·rw [if_pos br]at j2
    simp only[Ln.mk.injEq]at j2
    obtain⟨k1,k2,k3,k4⟩:=j2
    subst k3 k4
    rw[← k1, ← k2]at h9
    repeat' (first
 |simp only[go_sem,hD,gA,gB,gC,wG,b2,br,z]
 |(with_reducible refine CU (oQ _ (by with_unfolding_all rfl)) ?_)
 |(with_reducible refine CU (h7 _) ?_)
 |(with_reducible refine CU (h8 _) ?_)
 |(with_reducible refine CU (h9 _) ?_)
 |(with_reducible first|refine bg fun hc=>?_|refine bh fun hc=>?_|refine bj (fun hc=>?_) fun hc=>?_)<;>(try simp only[hc,bs,↓reduceIte]at h)<;>try simp only[hc]
 |(with_reducible refine aD hQ ?_;(try cases h);simp only[aT,aV,bD,bE,go_sem,hD,gA,gB,gC,wG,b2,br,z];try exact bX)
 |(cases h;replace h:=hr;clear hr;(try simp only[bs,↓reduceIte]at h))
 | (cases h;done))
   ·rw [if_neg (by simp [br])]at j2
    have IU:reads.toNat<T.length:=by simp at br;omega
    obtain⟨r,rfl⟩ : ∃ r:Nat,reads=(r:Int):=⟨reads.toNat,by omega⟩
    simp only[Int.toNat_natCast]at j2 IU
    have hgt:T[r]? = some (T.getD r 0):=by rw[List.getD_eq_getElem?_getD,List.getElem?_eq_getElem IU];rfl
    have wr:IntKind.wrap .i64 ((r:Int)+1)=(r:Int)+1:=eD (by omega) (by omega)
    generalize T.getD r 0=u at *
    generalize hV:kC N v.name u bT=V' at *
    have hVl:V'.length=N.length:=by rw[← hV,xZ j3.symm];exact j3
    have Cl:=Cl V' ((r:Int)+1) out out.length rfl j2 hVl (by dsimp only;omega) (by dsimp only;omega) (by dsimp only;omega)
    repeat' (first
 |simp only[go_sem,hD,gA,gB,gC,wG,wr,b2,br,hgt,sG]
 |(with_reducible refine CU (oQ _ (by with_unfolding_all rfl)) ?_)
 |(with_reducible first|refine bg fun hc=>?_|refine bh fun hc=>?_|refine bj (fun hc=>?_) fun hc=>?_)<;>(try simp only[hc,bs,↓reduceIte]at h)<;>try simp only[hc]
 |(with_reducible refine aD hQ ?_;(try cases h);simp only[aT,aV,bD,bE,go_sem,hD,gA,gB,gC,wG,wr,b2,br,hgt,sG];try exact bX)
 |(cases h;replace h:=hr;clear hr;(try simp only[bs,↓reduceIte]at h))
 | (cases h;done))
    refine dW 6 1 ?_ ?_ (bl.ind (ι:=List aF×List Int×Nat×List Int) (fun i=>N.drop i.2.2.1=i.1∧i.1.length=i.2.1.length∧i.2.2.1=i.2.2.2.length∧i.2.2.2++(if false then i.2.1 else kC i.1 v.name u i.2.1)=V') (fun i=>i.1.length)
     (fun i=> [(1, .slice .shared 1 (T.map cq)),(5, .ptr 1 0),(7, .bool true),(8, .slice .shared 1 (N.map encStr)),(9, .dD 1 3 0 N.length),(10, .ptr 4 0),(45, .slice .shared 13 (g.body.map aS)),(46, .int .i64 (g.body.length:Int)),(47, .int .i64 (k:Int)),(12, .ptr 5 0),(13, .int .i64 u),(94, .int .i64 (N.length:Int)),(95, .int .i64 (i.2.2.1:Int))]) (fun i=>⟨[bJ p,bJ q,bG g, .int .i64 0::((i.2.2.2++i.2.1).map ic),[.int .i64 1, .int .i64 (steps+1), .int .i64 ((r:Int)+1), .slice (.tok 0) 1 (out.map cq), .slice .full 0 []],aS v],[some out.length]⟩) ?_ (N,bT,0,[]) ⟨rfl,j3.symm,rfl,by simpa using hV⟩)
    ·(simp only[go_sem,hD,gA,gB,gC,p7];try exact bO)
    ·(simp only[go_sem,hD,gA,gB,gC,p7];try exact bO)
    rintro⟨rN,rV,k2,dV⟩ ⟨q1,q2,q3,q4⟩ sD
    dsimp only at q1 q2 q3 q4
    subst q3
    cases rN with
    |nil=>
     have xQ:=drop_nil q1
     have:rV = []:=List.eq_nil_of_length_eq_zero q2.symm
     subst this
     simp only[kC,List.append_nil,ite_self]at q4
     subst q4
     repeat' (first
 |simp only[go_sem,hD,gA,gB,gC,xQ]
 |(with_reducible first|refine bg fun hc=>?_|refine bh fun hc=>?_|refine bj (fun hc=>?_) fun hc=>?_)<;>(try simp only[hc,bs,↓reduceIte]at h)<;>try simp only[hc]
 |(with_reducible refine aD hQ ?_;(try cases h);simp only[aT,aV,bD,bE,go_sem,hD,gA,gB,gC,xQ];try exact bX)
 |(cases h;replace h:=hr;clear hr;(try simp only[bs,↓reduceIte]at h))
 | (cases h;done))
     refine dW 5 1 ?_ ?_ (Cl)
     ·(simp only[go_sem,hD,gA,gB,gC,aH hk,wG,p7,List.append_nil,List.map_append,List.map_cons,List.map_nil,cq];try exact bO)
     ·(simp only[go_sem,hD,gA,gB,gC,aH hk,wG,p7,List.append_nil,List.map_append,List.map_cons,List.map_nil,cq];try exact bO)
    | cons nm rN=>
     cases rV with
     |nil=>simp at q2
     | cons x rV=>
      obtain⟨wo,qd,Cm,q5⟩:=drop_cons q1
      have oU:dV.length<4611686018427387904:=by omega
      have sP:=fun(C:List D) (y:D)=>I8 (A:=dV.map ic) (C:=C) (n:=dV.length) (by simp) (ic x) y
      have Cn:(v.kind != 3) = !(v.kind==3):=rfl
      have sQ:(dV.length+1≤dV.length+(rV.length+1))=True:=by simp only[eq_iff_iff,iff_true];omega
      simp only[kC]at q4
      simp only[Bool.false_eq_true,if_false]at q4
      rcases Bool.eq_false_or_eq_true (nm==v.name)with bn|bn
      ·rw [if_pos bn]at q4
       repeat' (first
 |simp only[go_sem,hD,gA,gB,gC,wo,Cm,Cn,Bool.not_true,Bool.not_false,sG,bn,q5,sP,sQ,Nat.mul_one,List.map_append,List.map_cons,List.length_map]
 |(with_reducible first|refine bg fun hc=>?_|refine bh fun hc=>?_|refine bj (fun hc=>?_) fun hc=>?_)<;>(try simp only[hc,bs,↓reduceIte]at h)<;>try simp only[hc]
 |(with_reducible refine aD hQ ?_;(try cases h);simp only[aT,aV,bD,bE,go_sem,hD,gA,gB,gC,wo,Cm,Cn,Bool.not_true,Bool.not_false,sG,bn,q5,sP,sQ,Nat.mul_one,List.map_append,List.map_cons,List.length_map];try exact bX)
 |(cases h;replace h:=hr;clear hr;(try simp only[bs,↓reduceIte]at h))
 |(cases h;done))
       refine dW 6 1 ?_ ?_ (sD (rN,rV,dV.length+1,dV++ [u]) ⟨qd,by simpa using q2,by simp,by rw[← q4];simp⟩ (Nat.lt_succ_self _))
       ·(simp only[go_sem,hD,gA,gB,gC,aH oU,p7,List.map_append,List.map_cons,List.map_nil,List.append_assoc,List.cons_append,List.nil_append,ic];try exact bO)
       ·(simp only[go_sem,hD,gA,gB,gC,aH oU,p7,List.map_append,List.map_cons,List.map_nil,List.append_assoc,List.cons_append,List.nil_append,ic];try exact bO)
      ·rw [if_neg (by simp [bn])]at q4
       repeat' (first
 |simp only[go_sem,hD,gA,gB,gC,wo,Cm,Cn,Bool.not_true,Bool.not_false,sG,bn]
 |(with_reducible first|refine bg fun hc=>?_|refine bh fun hc=>?_|refine bj (fun hc=>?_) fun hc=>?_)<;>(try simp only[hc,bs,↓reduceIte]at h)<;>try simp only[hc]
 |(with_reducible refine aD hQ ?_;(try cases h);simp only[aT,aV,bD,bE,go_sem,hD,gA,gB,gC,wo,Cm,Cn,Bool.not_true,Bool.not_false,sG,bn];try exact bX)
 |(cases h;replace h:=hr;clear hr;(try simp only[bs,↓reduceIte]at h))
 | (cases h;done))
       refine dW 6 1 ?_ ?_ (sD (rN,rV,dV.length+1,dV++ [x]) ⟨qd,by simpa using q2,by simp,by rw[← q4];simp⟩ (Nat.lt_succ_self _))
       ·(simp only[go_sem,hD,gA,gB,gC,aH oU,p7,List.map_append,List.map_cons,List.map_nil,List.append_assoc,List.cons_append,List.nil_append,ic];try exact bO)
       ·(simp only[go_sem,hD,gA,gB,gC,aH oU,p7,List.map_append,List.map_cons,List.map_nil,List.append_assoc,List.cons_append,List.nil_append,ic];try exact bO)
  ·rw [if_neg (by simp [b2])]at j2
   generalize hW:v.x.bM N bT=R at *
   obtain⟨w,ok⟩:=R
   cases ok with
   |false=>
    simp only[Bool.false_eq_true,if_false,Ln.mk.injEq]at j2
    obtain⟨k1,k2,k3,k4⟩:=j2
    subst k3 k4
    rw[← k1, ← k2]at h9
    repeat' (first
 |simp only[go_sem,hD,gA,gB,gC,wG,b2,z]
 |(with_reducible refine CU (oQ _ (by with_unfolding_all rfl)) ?_)
 |(with_reducible refine CU (h7 _) ?_)
 |(with_reducible refine CU (h8 _) ?_)
 |(with_reducible refine CU (h9 _) ?_)
 |(with_reducible first|refine bg fun hc=>?_|refine bh fun hc=>?_|refine bj (fun hc=>?_) fun hc=>?_)<;>(try simp only[hc,bs,↓reduceIte]at h)<;>try simp only[hc]
 |(with_reducible refine aD hQ ?_;(try cases h);simp only[aT,aV,bD,bE,go_sem,hD,gA,gB,gC,wG,b2,z];try exact bX)
 |(cases h;replace h:=hr;clear hr;(try simp only[bs,↓reduceIte]at h))
 | (cases h;done))
   | true=>
    simp only[if_true]at j2
    rcases Bool.eq_false_or_eq_true (v.kind==3)with sG|sG
    ·rw [if_pos sG]at j2
     have fV:(out.length+1)*9≤bp:=by simp only[bp];omega
     obtain⟨V',hV⟩ : ∃ V',bT=V':=⟨_,rfl⟩
     have Cl:=Cl V' reads (out++ [w]) (out.length+1) (by simp) (by rw[← hV];exact j2) (by rw[← hV];exact j3) j6 j7 (by simp;omega)
     repeat' (first
 |simp only[go_sem,hD,gA,gB,gC,wG,b2,sG,fV]
 |(with_reducible refine CU (oQ _ (by with_unfolding_all rfl)) ?_)
 |(with_reducible first|refine bg fun hc=>?_|refine bh fun hc=>?_|refine bj (fun hc=>?_) fun hc=>?_)<;>(try simp only[hc,bs,↓reduceIte]at h)<;>try simp only[hc]
 |(with_reducible refine aD hQ ?_;(try cases h);simp only[aT,aV,bD,bE,go_sem,hD,gA,gB,gC,wG,b2,sG,fV];try exact bX)
 |(cases h;replace h:=hr;clear hr;(try simp only[bs,↓reduceIte]at h))
 |(cases h;done))
     refine dW 6 1 ?_ ?_ (bl.ind (ι:=List aF×List Int×Nat×List Int) (fun i=>N.drop i.2.2.1=i.1∧i.1.length=i.2.1.length∧i.2.2.1=i.2.2.2.length∧i.2.2.2++(if true then i.2.1 else kC i.1 v.name w i.2.1)=V') (fun i=>i.1.length)
      (fun i=> [(1, .slice .shared 1 (T.map cq)),(5, .ptr 1 0),(7, .bool true),(8, .slice .shared 1 (N.map encStr)),(9, .dD 1 3 0 N.length),(10, .ptr 4 0),(45, .slice .shared 13 (g.body.map aS)),(46, .int .i64 (g.body.length:Int)),(47, .int .i64 (k:Int)),(12, .ptr 5 0),(13, .int .i64 w),(94, .int .i64 (N.length:Int)),(95, .int .i64 (i.2.2.1:Int))]) (fun i=>⟨[bJ p,bJ q,bG g, .int .i64 0::((i.2.2.2++i.2.1).map ic),[.int .i64 1, .int .i64 (steps+1), .int .i64 reads, .slice (.tok 0) 1 ((out++ [w]).map cq), .slice .full 0 []],aS v],[some (out.length+1)]⟩) ?_ (N,bT,0,[]) ⟨rfl,j3.symm,rfl,by simpa using hV⟩)
     ·(simp only[go_sem,hD,gA,gB,gC,p7];try exact bO)
     ·(simp only[go_sem,hD,gA,gB,gC,p7];try exact bO)
     rintro⟨rN,rV,k2,dV⟩ ⟨q1,q2,q3,q4⟩ sD
     dsimp only at q1 q2 q3 q4
     subst q3
     cases rN with
     |nil=>
      have xQ:=drop_nil q1
      have:rV = []:=List.eq_nil_of_length_eq_zero q2.symm
      subst this
      simp only[kC,List.append_nil,ite_self]at q4
      subst q4
      repeat' (first
 |simp only[go_sem,hD,gA,gB,gC,xQ]
 |(with_reducible first|refine bg fun hc=>?_|refine bh fun hc=>?_|refine bj (fun hc=>?_) fun hc=>?_)<;>(try simp only[hc,bs,↓reduceIte]at h)<;>try simp only[hc]
 |(with_reducible refine aD hQ ?_;(try cases h);simp only[aT,aV,bD,bE,go_sem,hD,gA,gB,gC,xQ];try exact bX)
 |(cases h;replace h:=hr;clear hr;(try simp only[bs,↓reduceIte]at h))
 |(cases h;done))
      refine dW 5 1 ?_ ?_ (Cl)
      ·(simp only[go_sem,hD,gA,gB,gC,aH hk,wG,p7,List.append_nil,List.map_append,List.map_cons,List.map_nil,cq];try exact bO)
      ·(simp only[go_sem,hD,gA,gB,gC,aH hk,wG,p7,List.append_nil,List.map_append,List.map_cons,List.map_nil,cq];try exact bO)
     | cons nm rN=>
      cases rV with
      |nil=>simp at q2
      |cons x rV=>
       obtain⟨wo,qd,Cm,q5⟩:=drop_cons q1
       have oU:dV.length<4611686018427387904:=by omega
       have sP:=fun(C:List D) (y:D)=>I8 (A:=dV.map ic) (C:=C) (n:=dV.length) (by simp) (ic x) y
       have Cn:(v.kind != 3) = !(v.kind==3):=rfl
       have sQ:(dV.length+1≤dV.length+(rV.length+1))=True:=by simp only[eq_iff_iff,iff_true];omega
       simp only[kC]at q4
       simp only[if_true]at q4
       repeat' (first
 |simp only[go_sem,hD,gA,gB,gC,wo,Cm,Cn,Bool.not_true,Bool.not_false,sG]
 |(with_reducible first|refine bg fun hc=>?_|refine bh fun hc=>?_|refine bj (fun hc=>?_) fun hc=>?_)<;>(try simp only[hc,bs,↓reduceIte]at h)<;>try simp only[hc]
 |(with_reducible refine aD hQ ?_;(try cases h);simp only[aT,aV,bD,bE,go_sem,hD,gA,gB,gC,wo,Cm,Cn,Bool.not_true,Bool.not_false,sG];try exact bX)
 |(cases h;replace h:=hr;clear hr;(try simp only[bs,↓reduceIte]at h))
 | (cases h;done))
       refine dW 6 1 ?_ ?_ (sD (rN,rV,dV.length+1,dV++ [x]) ⟨qd,by simpa using q2,by simp,by rw[← q4];simp⟩ (Nat.lt_succ_self _))
       ·(simp only[go_sem,hD,gA,gB,gC,aH oU,p7,List.map_append,List.map_cons,List.map_nil,List.append_assoc,List.cons_append,List.nil_append,ic];try exact bO)
       ·(simp only[go_sem,hD,gA,gB,gC,aH oU,p7,List.map_append,List.map_cons,List.map_nil,List.append_assoc,List.cons_append,List.nil_append,ic];try exact bO)
    ·rw [if_neg (by simp [sG])]at j2
     generalize hV:kC N v.name w bT=V' at *
     have hVl:V'.length=N.length:=by rw[← hV,xZ j3.symm];exact j3
     have Cl:=Cl V' reads out out.length rfl j2 hVl j6 j7 (by dsimp only;omega)
     repeat' (first
 |simp only[go_sem,hD,gA,gB,gC,wG,b2,sG]
 |(with_reducible refine CU (oQ _ (by with_unfolding_all rfl)) ?_)
 |(with_reducible first|refine bg fun hc=>?_|refine bh fun hc=>?_|refine bj (fun hc=>?_) fun hc=>?_)<;>(try simp only[hc,bs,↓reduceIte]at h)<;>try simp only[hc]
 |(with_reducible refine aD hQ ?_;(try cases h);simp only[aT,aV,bD,bE,go_sem,hD,gA,gB,gC,wG,b2,sG];try exact bX)
 |(cases h;replace h:=hr;clear hr;(try simp only[bs,↓reduceIte]at h))
 |(cases h;done))
     refine dW 6 1 ?_ ?_ (bl.ind (ι:=List aF×List Int×Nat×List Int) (fun i=>N.drop i.2.2.1=i.1∧i.1.length=i.2.1.length∧i.2.2.1=i.2.2.2.length∧i.2.2.2++(if false then i.2.1 else kC i.1 v.name w i.2.1)=V') (fun i=>i.1.length)
      (fun i=> [(1, .slice .shared 1 (T.map cq)),(5, .ptr 1 0),(7, .bool true),(8, .slice .shared 1 (N.map encStr)),(9, .dD 1 3 0 N.length),(10, .ptr 4 0),(45, .slice .shared 13 (g.body.map aS)),(46, .int .i64 (g.body.length:Int)),(47, .int .i64 (k:Int)),(12, .ptr 5 0),(13, .int .i64 w),(94, .int .i64 (N.length:Int)),(95, .int .i64 (i.2.2.1:Int))]) (fun i=>⟨[bJ p,bJ q,bG g, .int .i64 0::((i.2.2.2++i.2.1).map ic),[.int .i64 1, .int .i64 (steps+1), .int .i64 reads, .slice (.tok 0) 1 (out.map cq), .slice .full 0 []],aS v],[some out.length]⟩) ?_ (N,bT,0,[]) ⟨rfl,j3.symm,rfl,by simpa using hV⟩)
     ·(simp only[go_sem,hD,gA,gB,gC,p7];try exact bO)
     ·(simp only[go_sem,hD,gA,gB,gC,p7];try exact bO)
     rintro⟨rN,rV,k2,dV⟩ ⟨q1,q2,q3,q4⟩ sD
     dsimp only at q1 q2 q3 q4
     subst q3
     cases rN with
     |nil=>
      have xQ:=drop_nil q1
      have:rV = []:=List.eq_nil_of_length_eq_zero q2.symm
      subst this
      simp only[kC,List.append_nil,ite_self]at q4
      subst q4
      repeat' (first
 |simp only[go_sem,hD,gA,gB,gC,xQ]
 |(with_reducible first|refine bg fun hc=>?_|refine bh fun hc=>?_|refine bj (fun hc=>?_) fun hc=>?_)<;>(try simp only[hc,bs,↓reduceIte]at h)<;>try simp only[hc]
 |(with_reducible refine aD hQ ?_;(try cases h);simp only[aT,aV,bD,bE,go_sem,hD,gA,gB,gC,xQ];try exact bX)
 |(cases h;replace h:=hr;clear hr;(try simp only[bs,↓reduceIte]at h))
 |(cases h;done))
      refine dW 5 1 ?_ ?_ (Cl)
      ·(simp only[go_sem,hD,gA,gB,gC,aH hk,wG,p7,List.append_nil,List.map_append,List.map_cons,List.map_nil,cq];try exact bO)
      ·(simp only[go_sem,hD,gA,gB,gC,aH hk,wG,p7,List.append_nil,List.map_append,List.map_cons,List.map_nil,cq];try exact bO)
     | cons nm rN=>
      cases rV with
      |nil=>simp at q2
      | cons x rV=>
       obtain⟨wo,qd,Cm,q5⟩:=drop_cons q1
       have oU:dV.length<4611686018427387904:=by omega
       have sP:=fun(C:List D) (y:D)=>I8 (A:=dV.map ic) (C:=C) (n:=dV.length) (by simp) (ic x) y
       have Cn:(v.kind != 3) = !(v.kind==3):=rfl
       have sQ:(dV.length+1≤dV.length+(rV.length+1))=True:=by simp only[eq_iff_iff,iff_true];omega
       simp only[kC]at q4
       simp only[Bool.false_eq_true,if_false]at q4
       rcases Bool.eq_false_or_eq_true (nm==v.name)with bn|bn
       ·rw [if_pos bn]at q4
        repeat' (first
 |simp only[go_sem,hD,gA,gB,gC,wo,Cm,Cn,Bool.not_true,Bool.not_false,sG,bn,q5,sP,sQ,Nat.mul_one,List.map_append,List.map_cons,List.length_map]
 |(with_reducible first|refine bg fun hc=>?_|refine bh fun hc=>?_|refine bj (fun hc=>?_) fun hc=>?_)<;>(try simp only[hc,bs,↓reduceIte]at h)<;>try simp only[hc]
 |(with_reducible refine aD hQ ?_;(try cases h);simp only[aT,aV,bD,bE,go_sem,hD,gA,gB,gC,wo,Cm,Cn,Bool.not_true,Bool.not_false,sG,bn,q5,sP,sQ,Nat.mul_one,List.map_append,List.map_cons,List.length_map];try exact bX)
 |(cases h;replace h:=hr;clear hr;(try simp only[bs,↓reduceIte]at h))
 |(cases h;done))
        refine dW 6 1 ?_ ?_ (sD (rN,rV,dV.length+1,dV++ [w]) ⟨qd,by simpa using q2,by simp,by rw[← q4];simp⟩ (Nat.lt_succ_self _))
        ·(simp only[go_sem,hD,gA,gB,gC,aH oU,p7,List.map_append,List.map_cons,List.map_nil,List.append_assoc,List.cons_append,List.nil_append,ic];try exact bO)
        ·(simp only[go_sem,hD,gA,gB,gC,aH oU,p7,List.map_append,List.map_cons,List.map_nil,List.append_assoc,List.cons_append,List.nil_append,ic];try exact bO)
       ·rw [if_neg (by simp [bn])]at q4
        repeat' (first
 |simp only[go_sem,hD,gA,gB,gC,wo,Cm,Cn,Bool.not_true,Bool.not_false,sG,bn]
 |(with_reducible first|refine bg fun hc=>?_|refine bh fun hc=>?_|refine bj (fun hc=>?_) fun hc=>?_)<;>(try simp only[hc,bs,↓reduceIte]at h)<;>try simp only[hc]
 |(with_reducible refine aD hQ ?_;(try cases h);simp only[aT,aV,bD,bE,go_sem,hD,gA,gB,gC,wo,Cm,Cn,Bool.not_true,Bool.not_false,sG,bn];try exact bX)
 |(cases h;replace h:=hr;clear hr;(try simp only[bs,↓reduceIte]at h))
 |(cases h;done))
        refine dW 6 1 ?_ ?_ (sD (rN,rV,dV.length+1,dV++ [x]) ⟨qd,by simpa using q2,by simp,by rw[← q4];simp⟩ (Nat.lt_succ_self _))
        ·(simp only[go_sem,hD,gA,gB,gC,aH oU,p7,List.map_append,List.map_cons,List.map_nil,List.append_assoc,List.cons_append,List.nil_append,ic];try exact bO)
        ·(simp only[go_sem,hD,gA,gB,gC,aH oU,p7,List.map_append,List.map_cons,List.map_nil,List.append_assoc,List.cons_append,List.nil_append,ic];try exact bO)
end Go.Abs
namespace Go.Abs
def M0:Map:=⟨fun _ _=>none,fun _=>(0, .any),fun _=>none⟩
def Kept (w w':World):Prop:=w.keptBut w' (fun _=>False)∧∀ a:Addr,a.block<w.heap.size→w'.frozen? a=w.frozen? a
theorem Kept.frame {w w':World} (h:Kept w w') (may:MemPlace→Prop):w.keptBut w' may:=World.keptBut_mono (fun _ f=>f.elim) h.1
theorem Ext.aiX {M M':Map} {s':St} {w w':World} (e:Ext M S0 w M' s' w'):Kept w w':=by
 have hh : ∀ b,b<w.heap.size→w'.heap[b]? = w.heap[b]? :=fun b hb=>
  e.kept b hb (fun o ho=>by simp[S0]at ho) (fun t c z hl=>by obtain⟨n,hn⟩:=hl;simp[S0]at hn)
 refine⟨⟨e.os,e.output,fun i hi=>?_⟩,fun a ha=>?_⟩
 ·rw [hh i hi]
  exact(World.keptBut_refl w (fun _=>False)).2.2 i hi
 ·simp only[World.frozen?,hh _ ha]
theorem auI (G:Nat→Nat→Option Value) (w:World) (h : ∀ b o v,G b o=some v→w.cell? ⟨b,o,none⟩=some v∧v.oneCell'=true):Rel ⟨G,fun _=>(0, .any),fun _=>none⟩ S0 w:=
 ⟨h,fun o ds e=>by simp [S0]at e,fun o ho=>by simp [S0]at ho,fun o o' ho=>by simp [S0]at ho,fun t n e=>by simp [S0]at e,
  fun t b c z o hl=>by obtain⟨n,hn⟩:=hl;simp[S0]at hn,fun t t' b c z c' z' hl=>by obtain⟨n,hn⟩:=hl;simp[S0]at hn⟩
def Ue (w:World):Prop:=∀ g cs,aeW g=some cs→∃ T fr,w.heap[g]? = some (.cells cs T fr)
theorem al5 (G:Nat→Nat→Option Value) {w:World} (h:Ue w):Laid ⟨G,fun _=>(0, .any),fun _=>none⟩ S0 w:=
 fun g cs hg=>⟨h g cs hg,fun o ho=>by simp[S0]at ho,fun t c z hl=>by obtain⟨n,hn⟩:=hl;simp[S0]at hn⟩
theorem Xs {P:Program} {f:FuncId} {args:List D} {gh:Array Value} {w:World} {G:Nat→Nat→Option Value} (h:bW P f args S0 fun d _=>d = .bool true)
 (hG : ∀ b o v,G b o=some v→w.cell? ⟨b,o,none⟩=some v∧v.oneCell'=true) (hl:gh.size=args.length)
 (ha : ∀ (i:Nat) (d:D) (v:Value),args[i]? = some d→gh[i]? = some v→RD ⟨G,fun _=>(0, .any),fun _=>none⟩ S0 d v) (kD:Ue w) :
 Calls P f gh w fun e w'=>e = .returned (.bool true)∧Kept w w':=by
 refine(h _ w gh (auI G w hG) (al5 G kD) hl ha).mono fun e w' hw=>?_
 obtain⟨M',d,v,s',rfl,rfl,he,_,hv⟩:=hw
 rw[hv.oY]
 exact⟨rfl,he.aiX⟩
section
variable {P:Program} {H:Type} {enc:TypeId×Value→H}
theorem Oz {f:Func} {s:ChangeSpec} {apart fresh handsOn again:Bool} {W W':World} {args:Array Value} {v:Value} {ds gs:List (DataW H)} {before pa pv:List MemPlace}
 (hW:DataW.Whole enc P f.params.toList s.vars apart W args.toList ds gs before)
 (TI : ∀ (b:Nat) (sp:Nat→Bool) (hd:Bool),DataW.TrodAll enc P W' b sp hd f.resultTypes.toList (v.resultList f.resultTypes.size) (s.fn H (ds++gs)).results [])
 (Bn : ∀ sp:Nat→Bool,(∀ p∈before,sp p.block=true)→DataW.TrodAll enc P W' 0 sp true f.params.toList args.toList (s.fn H (ds++gs)).args pa)
 (BW : ∀ sp:Nat→Bool,(∀ p∈before,sp p.block=true)→DataW.TrodVars enc P W' sp s.vars (s.fn H (ds++gs)).vars pv)
 (sC:before=pa++pv) (hk:Kept W W')
 (pT : ∀ (j:Nat) (t:TypeId) (r:Value),f.resultTypes[j]? = some t→(v.resultList f.resultTypes.size)[j]? = some r→Value.okWide P W' .any 0 t r) :
 s.post enc P f apart fresh handsOn again W args v W':=by
 have hD : ∀ p∈before,p.block<W.heap.size:=fun p hp=>hW.lt p hp
 have hold : ∀ p∈before,(fun b=>decide (b<W.heap.size)) p.block=true:=fun p hp=>by simpa using hD p hp
 refine⟨ds,gs,before,[],pa,pv,hW,TI _ _ _,Bn _ hold,BW _ hold,World.keptBut_mono (fun p hp=>⟨hp, ?_⟩) (hk.frame (· ∈before)),fun _=>?_⟩
 ·rw [sC,List.mem_append]at hp
  exact Or.inr hp
 ·obtain⟨_,_,_,_,_,hz,hn⟩:=hW
  refine⟨pT,_,_,([]++pa)++pv,⟨[]++pa,pv,ChangeShapes.trodAll_append (Bn _ (fun _ _=>rfl)) (TI _ _ _),BW _ (fun _ _=>rfl),rfl, ?_, ?_⟩, ?_⟩
  ·intro b off hp
   have n6:MemPlace.cell b off∈before:=by rw[sC];simpa using hp
   rw[hk.2 _ (hD _ n6)]
   exact hz b off n6
  ·intro ha
   have:=hn ha
   rw[sC]at this
   simpa using this
  ·intro p hp _
   rw[sC]
   simpa using hp
end
end Go.Abs
namespace Go.Abs
open Go.RowKit Go.ChangeShapes Go.WideShapes
def D5 (w:World) (b o:Nat):Option Value:=
 match w.cell? ⟨b,o,none⟩with
 |some v=>if v.oneCell'=true then some v else none
 |none=>none
theorem QH {w:World} (b o:Nat) (v:Value) (h:D5 w b o=some v):w.cell? ⟨b,o,none⟩=some v∧v.oneCell'=true:=by
 unfold D5 at h
 split at h
 ·split at h
  ·cases h;exact⟨‹_›, ‹_›⟩
  ·cases h
 ·cases h
def uM (w:World):Map:=⟨D5 w,fun _=>(0, .any),fun _=>none⟩
theorem Kept.sameAt {w w':World} (h:Kept w w') {p:MemPlace} (hp:p.block<w.heap.size):w.sameAt w' p:=by
 have hk:=h.1.2.2 p.block hp
 cases p with
 | cell b off=>
  simp only[MemPlace.block]at hk hp
  simp only[World.sameAt,World.cell?]
  split at hk
  ·rename_i c t fr c' t' Qy e e'
   rw[e,e']
   simp only[hk.2.2.2 off (fun f=>f)]
  ·rename_i es clock C2 aiY e e'
   rw[e,e']
  ·rw[hk]
 | map b=>
  simp only[MemPlace.block]at hk hp
  simp only[World.sameAt]
  split at hk
  ·rename_i c t fr c' t' Qy e e'
   rw[e,e']
   obtain⟨rfl,rfl,hs,hc⟩:=hk
   have:c'=c:=by
    apply Array.ext_getElem?
    intro i
    exact hc i (fun f=>f)
   rw[this]
  ·rename_i es clock C2 aiY e e'
   rcases hk with f|⟨rfl,rfl⟩
   ·exact f.elim
   ·rw[e,e']
  ·exact hk
section
variable {P:Program} {H:Type} {enc:TypeId×Value→H} {T:TypeId→Prop}
theorem Ia (K:Kids P T) (hz : ∀ {t e:TypeId},T t→P.underlying t=some (.slice e)→0<P.cellsOf e) {W W':World} (hk:Kept W W') {sp:Nat→Bool} :
 ∀ {ts:List TypeId} {vs:List Value} {ds:List (DataW H)} {ps:List MemPlace},(∀ t∈ts,T t)→(∀ p∈ps,p.block<W.heap.size)→(∀ p∈ps,sp p.block=true)→
  DataW.TrodAll enc P W 0 (fun _=>true) true ts vs ds ps→DataW.TrodAll enc P W' 0 sp true ts vs ds ps
 | [],[],[],_,_,_,_,h=>h
 |t::ts,v::vs,d::ds,ps,hT,hD,hs,⟨p,q,⟨n,h1⟩,h2,e⟩=>by
  subst e
  refine⟨p,q,⟨n,DataW.trod_stays K hz (fun f=>by cases f) (hT t (List.mem_cons_self ..)) h1 (fun x hx=>hk.sameAt (hD x (List.mem_append_left _ hx))) (fun x hx=>hs x (List.mem_append_left _ hx))⟩, ?_,rfl⟩
  exact Ia K hz hk (fun t ht=>hT t (List.mem_cons_of_mem _ ht)) (fun x hx=>hD x (List.mem_append_right _ hx)) (fun x hx=>hs x (List.mem_append_right _ hx)) h2
 | [],[],_::_,_,_,_,_,h=>h.elim
 | [],_::_,_,_,_,_,_,h=>h.elim
 |_::_,[],_,_,_,_,_,h=>h.elim
 |_::_,_::_,[],_,_,_,_,h=>h.elim
theorem aaq (K:Kids P T) (hz : ∀ {t e:TypeId},T t→P.underlying t=some (.slice e)→0<P.cellsOf e) {f:Func} {s:ChangeSpec} {apart fresh handsOn again:Bool} {tb:TypeId} {W W':World} {args:Array Value} {ds gs:List (DataW H)} {before:List MemPlace}
 (hT : ∀ t∈f.params.toList,T t) (hb:P.underlying tb=some .bool) (hr:f.resultTypes = #[tb]) (BW:s.vars = []) (hW:DataW.Whole enc P f.params.toList s.vars apart W args.toList ds gs before)
 (Ch:s.fn H (ds++gs) = {results:= [.lit (.bool true)],args:=ds}) (hk:Kept W W'):s.post enc P f apart fresh handsOn again W args (.bool true) W':=by
 have hW':=hW
 have hD : ∀ p∈before,p.block<W.heap.size:=fun p hp=>hW.lt p hp
 obtain⟨p,q,hA,hV,rfl,hfz,N8⟩:=hW
 rw[BW]at hV
 obtain⟨rfl,rfl⟩:=trodVars_none hV
 simp only[List.append_nil]at hD Ch
 refine Oz (pa:=p) (pv:= []) hW' (fun b sp hd=>?_) (fun sp Ap=>?_) (fun sp Ap=>?_) rfl hk (ok_one hr rfl (okWide_bool_mk hb _))
 ·rw [List.append_nil,Ch,hr]
  exact trodAll_cons_mk (shut_bool hb _) trodAll_mk0
 ·rw [List.append_nil,Ch]
  simp only[List.append_nil]at Ap
  exact Ia K hz hk hT hD Ap hA
 ·rw [List.append_nil,Ch,BW]
  rfl
theorem aeE {f:FuncId} {args:List D} {gh:Array Value} {w:World} (h:bW P f args S0 fun d _=>d = .bool true) (hl:gh.size=args.length)
 (ha : ∀ (i:Nat) (d:D) (v:Value),args[i]? = some d→gh[i]? = some v→RD (uM w) S0 d v) (kD:Ue w):Calls P f gh w fun e w'=>e = .returned (.bool true)∧Kept w w':=
 Xs (G:=D5 w) h QH hl ha kD
end
end Go.Abs
namespace Go.Abs
open Go.Proofs
def qG (n:Int):List D:= [.int .i64 n]
theorem al6 (n:Int):D.bK 0 0 (qG n)=true:=rfl
theorem ai0 (n m:Nat) (l:List Int):D.lC n m (l.map qG)=l.map qG:=mZ al6 n m l
attribute [go_sem] qG ai0
def al7 (op:Int):aF:=
 if op=5 then [42]else if op=6 then [47]else if op=7 then [37]else if op=8 then [43]else if op=9 then [45]else if op=10 then [60]else if op=11 then [60,61]
 else if op=12 then [62]else if op=13 then [62,61]else if op=14 then [61,61]else if op=15 then [33,61]else if op=16 then [38,38]else [124,124]
def aBP (op:Int):Int:=(agR (al7 op)).1
def Xt:Nat→List aF
 | 0=> []
 |n+1=>Xt n++ [[UInt8.ofNat (97+n)]]
end Go.Abs
namespace Go.Abs
open Go.RowKit Go.ChangeShapes Go.WideShapes
theorem aeF {W:World} {a:Addr} {len cap:Nat} {zs:List Int} (hl:len≤cap) (hz:len≤zs.length) (hc : ∀ i,i<zs.length→W.cell? (a.add i)=some (.int .i64 (zs.getD i 0))) :
 RD (uM W) S0 (.slice .shared 1 ((zs.take len).map qG)) (.slice (some a) len cap):=by
 by_cases h0:len=0
 ·subst h0
  exact .mD _ _ _
 ·obtain⟨b,off,rfl,ix⟩:=Go.ints_at hc (by omega)
  have hlen:((zs.take len).map qG).length=len:=by simp;omega
  have e:((zs.take len).map qG).length=len:=hlen
  have key : ∀ (i:Nat) (row:List D) (j:Nat) (d:D),((zs.take len).map qG)[i]? = some row→row[j]? = some d→(uM W).G b (off+(i*1+j))=some (.int .i64 (zs.getD i 0))∧d = .int .i64 (zs.getD i 0):=by
   intro i row j d h1 h2
   rw[List.getElem?_map,Option.map_eq_some_iff]at h1
   obtain⟨n,h1,rfl⟩:=h1
   rw[List.getElem?_take]at h1
   split at h1
   ·rename_i hi
    have hd:zs.getD i 0=n:=by rw[List.getD_eq_getElem?_getD,h1];rfl
    have ph:i<zs.length:=(List.getElem?_eq_some_iff.1 h1).1
    cases j with
    |zero=>
     simp[qG]at h2
     subst h2
     refine⟨?_,by rw[hd]⟩
     have:=ix i ph
     show D5 W b (off+(i*1+0))=_
     unfold D5
     rw[show off+(i*1+0)=off+i by omega,this]
     rfl
    |succ j=>simp[qG]at h2
   ·cases h1
  have:=RD.slice (M:=uM W) (s:=S0) .shared 1 ((zs.take len).map qG) b off cap (by omega) (fun row hr=>by obtain⟨n,_,rfl⟩:=List.mem_map.1 hr;rfl)
   (fun i row j d h1 h2=>⟨_,(key i row j d h1 h2).1⟩) (fun i row j d u h1 h2 hu=>by
    obtain⟨k1,k2⟩:=key i row j d h1 h2
    rw[k1]at hu
    cases hu
    rw[k2]
    exact .int _ _) trivial
  rw[hlen]at this
  exact this
end Go.Abs
namespace Go.Abs
open Go.RowKit Go.ChangeShapes Go.WideShapes
def fO (W:World) (ds:List D) (cs:List Value):Prop:=ds.length=cs.length∧(∀ (i:Nat) (d:D) (v:Value),ds[i]? = some d→cs[i]? = some v→RD (uM W) S0 d v)∧∀ v∈cs,v.oneCell'=true
theorem fO.one {W:World} {d:D} {v:Value} (h:RD (uM W) S0 d v) (hv:v.oneCell'=true):fO W [d] [v]:=by
 refine⟨rfl,fun i d' v' h1 h2=>?_,fun u hu=>by simp at hu;subst hu;exact hv⟩
 cases i with
 |zero=>simp at h1 h2;subst h1 h2;exact h
 |succ i=>simp at h1
theorem fO.app {W:World} {ds oN:List D} {cs ky:List Value} (h:fO W ds cs) (h':fO W oN ky):fO W (ds++oN) (cs++ky):=by
 obtain⟨a1,a2,a3⟩:=h
 obtain⟨b1,b2,b3⟩:=h'
 refine⟨by simp[a1,b1],fun i d v h1 h2=>?_,fun v hv=>?_⟩
 ·by_cases hi:i<ds.length
  ·rw [List.getElem?_append_left hi]at h1
   rw[List.getElem?_append_left (by omega)]at h2
   exact a2 i d v h1 h2
  ·rw [List.getElem?_append_right (by omega)]at h1
   rw[List.getElem?_append_right (by omega), ← a1]at h2
   exact b2 _ d v h1 h2
 ·rcases List.mem_append.1 hv with hv | hv
  ·exact a3 v hv
  ·exact b3 v hv
theorem fO.at {W:World} {ds oN:List D} {cs:List Value} {o n:Nat} (h:fO W ds ((cs.drop o).take n)) (h':fO W oN (cs.drop (o+n))):fO W (ds++oN) (cs.drop o):=by
 have e:cs.drop o=(cs.drop o).take n++cs.drop (o+n):=by rw[← List.drop_drop,List.take_append_drop]
 rw[e]
 exact h.app h'
theorem fO.end {W:World} {cs:List Value} {o:Nat} (h:cs.length=o):fO W [] (cs.drop o):=by
 rw[← h,List.drop_length]
 exact⟨rfl,fun i d v h=>by simp at h,fun v hv=>by cases hv⟩
section
variable {H:Type} {enc:TypeId×Value→H} {P:Program} {W:World} {sp:Nat→Bool}
def structOf (P:Program) (t:TypeId):List (TypeId×Nat):=
 match P.underlying t with
 |some (.struct fs)=>fs.toList.map fun f=>(f.type,f.offset)
 |_=> []
theorem ni {t:TypeId} {l:List (TypeId×Nat)} {fuel:Nat} {cs:List Value} {x:DataW H×List MemPlace} (h:structOf P t=l) (fm:l≠ []) (ht:DataW.trod enc P W 0 sp true fuel t cs=some x) :
 ∃ n,fuel=n+1∧cs.length=P.cellsOf t∧∀ (i:Nat) (f:TypeId×Nat),l[i]? = some f→∃ y,DataW.trod enc P W 0 sp true n f.1 ((cs.drop f.2).take (P.cellsOf f.1))=some y:=by
 unfold structOf at h
 split at h
 ·rename_i fs hu
  obtain⟨xs,n,e,_,hl,hlen,hf⟩:=DataW.trod_struct hu ht
  refine⟨n,e,hl,fun i f hi=>?_⟩
  subst h
  rw[List.getElem?_map,Option.map_eq_some_iff]at hi
  obtain⟨g,hg,rfl⟩:=hi
  have rA:fs[i]? = some g:=by simpa using hg
  have hi:i<xs.length:=by rw[hlen];exact(Array.getElem?_eq_some_iff.1 rA).1
  exact⟨xs[i],by rw[hf i g rA,List.getElem?_eq_getElem hi]⟩
 ·exact absurd h.symm fm
theorem KZ {t:TypeId} {l:List (TypeId×Nat)} (h:structOf P t=l) (fm:l≠ []) : ∃ fs,P.underlying t=some (.struct fs):=by
 unfold structOf at h
 split at h
 ·exact⟨_, ‹_›⟩
 ·exact absurd h.symm fm
theorem Fq {α:Type} {Q:Nat→α→Prop} : ∀ n,(∀ i,i<n→∃ y,Q i y)→∃ ys:List α,ys.length=n∧∀ i y,ys[i]? = some y→Q i y
 | 0,_=>⟨[],rfl,fun i y h=>by simp at h⟩
 | n+1,h=>by
  obtain⟨ys,h1,h2⟩:=Fq n fun i hi=>h i (by omega)
  obtain⟨y,hy⟩:=h n (by omega)
  refine⟨ys++ [y],by simp[h1],fun i z hz=>?_⟩
  by_cases hi:i<ys.length
  ·rw[List.getElem?_append_left hi]at hz;exact h2 i z hz
  ·rw [List.getElem?_append_right (by omega)]at hz
   have:i - ys.length=0:=by
    rcases Nat.eq_zero_or_pos (i - ys.length)with h|h
    ·exact h
    ·rw[List.getElem?_eq_none (by simp only[List.length_cons,List.length_nil];omega)]at hz;cases hz
   rw[this]at hz
   simp at hz
   subst hz
   have:i=n:=by omega
   subst this
   exact hy
theorem qH {α:Type} (en:α→List D) (good:α→Prop) {z:Nat} {t e:TypeId} {fuel:Nat} {cs:List Value} {x:DataW H×List MemPlace} (ht:P.underlying t=some (.slice e)) (hz:P.cellsOf e=z) (hz0:0<z) (hen : ∀ y,(en y).length=z)
 (hel : ∀ n<fuel,∀ cs x,DataW.trod enc P W 0 sp true n e cs=some x→∃ y,fO W (en y) cs∧good y) (h:DataW.trod enc P W 0 sp true fuel t cs=some x) :
 ∃ ys:List α,fO W [.slice .shared z (ys.map en)] cs∧∀ y∈ys,good y:=by
 rcases DataW.trod_slice ht h with ⟨rfl,_⟩|⟨a,len,cap,elems,rest,n,hn,rfl,_,hb,hl,hm,hlen,ix,_,_⟩
 ·exact⟨[],fO.one (.jy _ _ _ rfl trivial) rfl,fun y hy=>by cases hy⟩
 ·by_cases h0:len=0
  ·subst h0
   exact⟨[],fO.one (.mD _ _ _) rfl,fun y hy=>by cases hy⟩
  ·obtain⟨ys,hys,Bq⟩:=Fq (Q:=fun i y=>good y∧∃ ky,W.cells? 0 (a.add (i*z)) z=some ky∧fO W (en y) ky) len fun i hi=>by
    have hc:=ix i hi
    rw[List.getElem?_eq_getElem (by omega),hz,Option.bind_eq_some_iff]at hc
    obtain⟨ky,h1,h2⟩:=hc
    obtain⟨y,h3,h4⟩:=hel n (by omega) _ _ h2
    exact⟨y,h4,ky,h1,h3⟩
   have cell : ∀ i y,ys[i]? = some y→∀ (j:Nat) d,(en y)[j]? = some d→∃ v,W.cell? ((a.add (i*z)).add j)=some v∧RD (uM W) S0 d v∧v.oneCell'=true:=by
    intro i y hy j d hd
    obtain⟨_,ky,h1,h2,h3,h4⟩:=Bq i y hy
    obtain⟨_,k1,k2⟩:=World.cells?_some h1
    have hj:j<z:=by rw[← hen y];exact(List.getElem?_eq_some_iff.1 hd).1
    have hv:ky[j]? = some ky[j]:=List.getElem?_eq_getElem (by omega)
    exact⟨ky[j],by rw[k2 j hj,hv],h3 j d _ hd hv,h4 _ (List.getElem_mem _)⟩
   obtain⟨b,off,spot⟩:=a
   have al8:spot=none:=by
    have hy:ys[0]? = some (ys[0]'(by omega)):=List.getElem?_eq_getElem (by omega)
    obtain⟨d,hd⟩ : ∃ d,(en (ys[0]'(by omega)))[0]? = some d:=⟨_,List.getElem?_eq_getElem (show 0<(en (ys[0]'(by omega))).length by rw[hen];exact hz0)⟩
    obtain⟨v,hv,_⟩:=cell 0 _ hy 0 _ hd
    have:=World.cell?_spot hv
    simpa[Addr.add]using this
   subst al8
   have e:(ys.map en).length=len:=by simp[hys]
   have:=RD.slice (M:=uM W) (s:=S0) .shared z (ys.map en) b off cap (by omega) (fun row hr=>by obtain⟨y,_,rfl⟩:=List.mem_map.1 hr;exact hen y)
    (fun i row j d h1 h2=>by
     rw[List.getElem?_map,Option.map_eq_some_iff]at h1
     obtain⟨y,h1,rfl⟩:=h1
     obtain⟨v,hv,_,h4⟩:=cell i y h1 j d h2
     rw[add_plain,add_plain]at hv
     refine⟨v, ?_⟩
     show D5 W b (off+(i*z+j))=_
     unfold D5
     rw[show off+(i*z+j)=off+i*z+j by omega,hv]
     simp[h4])
    (fun i row j d u h1 h2 hu=>by
     rw[List.getElem?_map,Option.map_eq_some_iff]at h1
     obtain⟨y,h1,rfl⟩:=h1
     obtain⟨v,hv,h3,h4⟩:=cell i y h1 j d h2
     rw[add_plain,add_plain]at hv
     obtain⟨hu,_⟩:=QH _ _ _ hu
     rw[show off+(i*z+j)=off+i*z+j by omega,hv]at hu
     cases hu
     exact h3) trivial
   rw[e]at this
   refine⟨ys,fO.one this rfl,fun y hy=>?_⟩
   obtain⟨i,hi⟩:=List.getElem?_of_mem hy
   exact(Bq i y hi).1
theorem Ib {t:TypeId} {fuel:Nat} {cs:List Value} {x:DataW H×List MemPlace} (ht:P.underlying t=some (.int .i64)) (h:DataW.trod enc P W 0 sp true fuel t cs=some x) : ∃ n:Int,fO W [.int .i64 n] cs∧n≤9223372036854775807∧ -9223372036854775808≤n:=by
 obtain⟨n,rfl,_,hw⟩:=DataW.trod_int ht h
 simp[Lit.wf,IntKind.min,IntKind.max,IntKind.signed,IntKind.bits]at hw
 exact⟨n,fO.one (.int _ _) rfl,by omega,by omega⟩
theorem Jb {t:TypeId} {fuel:Nat} {cs:List Value} {x:DataW H×List MemPlace} (ht:P.underlying t=some .bool) (h:DataW.trod enc P W 0 sp true fuel t cs=some x) : ∃ b:Bool,fO W [.bool b] cs:=by
 obtain⟨n,rfl,_⟩:=DataW.trod_bool ht h
 exact⟨n,fO.one (.bool _) rfl⟩
theorem x7 {t:TypeId} {fuel:Nat} {cs:List Value} {x:DataW H×List MemPlace} (ht:P.underlying t=some .string) (h:DataW.trod enc P W 0 sp true fuel t cs=some x) : ∃ s:aF,fO W (encStr s) cs∧s.length≤maxLen:=by
 obtain⟨s,rfl,_,hm⟩:=DataW.trod_string ht h
 obtain⟨⟨l⟩⟩:=s
 exact⟨l,fO.one (.str l) rfl,hm⟩
theorem al9 {tE tI tN tS tK:TypeId} (hE:structOf P tE = [(tI,0),(tN,1),(tS,2),(tK,3)]) (hEc:P.cellsOf tE=4) (hI:P.underlying tI=some (.int .i64)) (hN:P.underlying tN=some (.int .i64)) (hS:P.underlying tS=some .string) (hK:P.underlying tK=some (.slice tE))
 (cI:P.cellsOf tI=1) (cN:P.cellsOf tN=1) (cS:P.cellsOf tS=1) (cK:P.cellsOf tK=1) :
 ∀ (fuel:Nat) (cs:List Value) (x:DataW H×List MemPlace),DataW.trod enc P W 0 sp true fuel tE cs=some x→∃ y:Ex,fO W (bQ y) cs∧y.tz:=by
 intro fuel
 induction fuel using Nat.strongRecOn with
 | _ fuel ih=>
  intro cs x h
  obtain⟨n,rfl,hl,hf⟩:=ni hE (by simp) h
  obtain⟨y0,h0⟩:=hf 0 _ rfl
  obtain⟨y1,h1⟩:=hf 1 _ rfl
  obtain⟨y2,h2⟩:=hf 2 _ rfl
  obtain⟨y3,h3⟩:=hf 3 _ rfl
  dsimp only at h0 h1 h2 h3
  rw[cI]at h0
  rw[cN]at h1
  rw[cS]at h2
  rw[cK]at h3
  obtain⟨op,r0,_⟩:=Ib hI h0
  obtain⟨m,r1,hm,_⟩:=Ib hN h1
  obtain⟨s,r2,_⟩:=x7 hS h2
  obtain⟨ks,r3,hg⟩:=qH (W:=W) bQ Ex.tz hK hEc (by decide) aaZ (fun k hk cs x hx=>ih k (by omega) cs x hx) h3
  refine⟨⟨op,m,s,ks⟩, ?_,hm, ?_⟩
  ·have:=r0.at (r1.at (r2.at (r3.at (fO.end (by rw [hl,hEc])))))
   rw[iz]
   simpa[encStr]using this
  ·clear r3
   induction ks with
   |nil=>exact trivial
   |cons k ks ihk=>exact⟨hg k (by simp),ihk fun y hy=>hg y (by simp[hy])⟩
theorem fO.agg {ds:List D} {v:Value} (h:fO W ds v.cells.toList) (hv : ∃ vs,v = .agg vs):RD (uM W) S0 (.agg ds) v:=by
 obtain⟨vs,rfl⟩:=hv
 obtain⟨h1,h2,h3⟩:=h
 have e:(Value.agg vs).cells=vs:=rfl
 rw[e]at h1 h2 h3
 refine .agg ds vs (by simpa using h1) (fun v hv=>h3 v (by simpa using hv)) fun i d v hd hv=>h2 i d v hd (by simpa using hv)
end
end Go.Abs
namespace Go.Abs
open Go.Proofs Go.RowKit Go.ChangeShapes Go.WideShapes
section
variable {H:Type} {enc:TypeId×Value→H} {W:World} {sp:Nat→Bool}
theorem Xu (fuel:Nat) (cs:List Value) (x:DataW H×List MemPlace) (h:DataW.trod enc Tryz.prog W 0 sp true fuel 54 cs=some x) : ∃ y:Ex,fO W (bQ y) cs∧y.tz:=
 al9 (tE:=54) (tI:=3) (tN:=2) (tS:=9) (tK:=52) (by kernel_rfl) (by kernel_rfl) (by kernel_rfl) (by kernel_rfl) (by kernel_rfl) (by kernel_rfl) (by kernel_rfl) (by kernel_rfl) (by kernel_rfl) (by kernel_rfl) _ _ _ h
theorem aeG:Tryz.prog.underlying 22=some (.slice 9):=by kernel_rfl
theorem A5:Tryz.prog.underlying 9=some .string:=by kernel_rfl
theorem Xv:Tryz.prog.underlying 3=some (.int .i64):=by kernel_rfl
theorem Jc:Tryz.prog.underlying 4=some .bool:=by kernel_rfl
theorem D6:Tryz.prog.cellsOf 9=1:=by kernel_rfl
theorem ai3:Tryz.prog.cellsOf 3=1:=by kernel_rfl
theorem Jd:Tryz.prog.cellsOf 4=1:=by kernel_rfl
theorem Je:Tryz.prog.cellsOf 22=1:=by kernel_rfl
theorem acr:Tryz.prog.cellsOf 54=4:=by kernel_rfl
theorem B0 {fuel:Nat} {cs:List Value} {x:DataW H×List MemPlace} (h:DataW.trod enc Tryz.prog W 0 sp true fuel 22 cs=some x) : ∃ l:List aF,fO W [.slice .shared 1 (l.map encStr)] cs:=by
 obtain⟨l,h,_⟩:=qH (W:=W) encStr (fun _=>True) aeG D6 (by decide) (fun _=>rfl) (fun k hk cs x hx=>by
  obtain⟨s,hs,_⟩:=x7 A5 hx
  exact⟨s,hs,trivial⟩) h
 exact⟨l,h⟩
theorem ai4 {fuel:Nat} {cs:List Value} {x:DataW H×List MemPlace} (h:DataW.trod enc Tryz.prog W 0 sp true fuel 75 cs=some x) : ∃ y:Pm,fO W (gp y) cs:=by
 obtain⟨n,rfl,hl,hf⟩:=ni (l:= [(9,0),(4,1)]) (by kernel_rfl) (by simp) h
 have hc:Tryz.prog.cellsOf 75=2:=by kernel_rfl
 obtain⟨y0,h0⟩:=hf 0 _ rfl
 obtain⟨y1,h1⟩:=hf 1 _ rfl
 dsimp only at h0 h1
 rw[D6]at h0
 rw[Jd]at h1
 obtain⟨s,r0,_⟩:=x7 A5 h0
 obtain⟨b,r1⟩:=Jb Jc h1
 refine⟨⟨s,b⟩, ?_⟩
 have:=r0.at (r1.at (fO.end (by rw[hl,hc])))
 simpa[encStr,gp]using this
theorem ai5 {fuel:Nat} {cs:List Value} {x:DataW H×List MemPlace} (h:DataW.trod enc Tryz.prog W 0 sp true fuel 115 cs=some x) : ∃ y:Ar,fO W (eR y) cs∧y.x.tz:=by
 obtain⟨n,rfl,hl,hf⟩:=ni (l:= [(4,0),(9,1),(54,2)]) (by kernel_rfl) (by simp) h
 have hc:Tryz.prog.cellsOf 115=6:=by kernel_rfl
 obtain⟨y0,h0⟩:=hf 0 _ rfl
 obtain⟨y1,h1⟩:=hf 1 _ rfl
 obtain⟨y2,h2⟩:=hf 2 _ rfl
 dsimp only at h0 h1 h2
 rw[Jd]at h0
 rw[D6]at h1
 rw[acr]at h2
 obtain⟨b,r0⟩:=Jb Jc h0
 obtain⟨s,r1,_⟩:=x7 A5 h1
 obtain⟨e,r2,hr⟩:=Xu _ _ _ h2
 refine⟨⟨b,s,e⟩, ?_,hr⟩
 have:=r0.at (r1.at (r2.at (fO.end (by rw[hl,hc]))))
 rw[iz]at this
 simpa[encStr,eR]using this
theorem B1 : ∀ {l:List Sm},(∀ s∈l,s.tz)→Sm.zE l
 | [],_=>trivial
 |s::l,h=>⟨h s (List.mem_cons_self ..),B1 fun t m=>h t (List.mem_cons_of_mem _ m)⟩
theorem ai6 : ∀ (fuel:Nat) (cs:List Value) (x:DataW H×List MemPlace),DataW.trod enc Tryz.prog W 0 sp true fuel 57 cs=some x→∃ y:Sm,fO W (aS y) cs∧y.tz:=by
 intro fuel
 induction fuel using Nat.strongRecOn with
 |_ fuel ih=>
  intro cs x h
  obtain⟨n,rfl,hl,hf⟩:=ni (l:= [(3,0),(3,1),(22,2),(9,3),(9,4),(54,5),(4,9),(55,10),(46,11),(46,12)]) (by kernel_rfl) (by simp) h
  have hc:Tryz.prog.cellsOf 57=13:=by kernel_rfl
  have ca:Tryz.prog.cellsOf 55=1:=by kernel_rfl
  have ky:Tryz.prog.cellsOf 46=1:=by kernel_rfl
  have ua:Tryz.prog.underlying 55=some (.slice 115):=by kernel_rfl
  have us:Tryz.prog.underlying 46=some (.slice 57):=by kernel_rfl
  have ca6:Tryz.prog.cellsOf 115=6:=by kernel_rfl
  obtain⟨y0,h0⟩:=hf 0 _ rfl
  obtain⟨y1,h1⟩:=hf 1 _ rfl
  obtain⟨y2,h2⟩:=hf 2 _ rfl
  obtain⟨y3,h3⟩:=hf 3 _ rfl
  obtain⟨y4,h4⟩:=hf 4 _ rfl
  obtain⟨y5,h5⟩:=hf 5 _ rfl
  obtain⟨y6,h6⟩:=hf 6 _ rfl
  obtain⟨y7,h7⟩:=hf 7 _ rfl
  obtain⟨y8,h8⟩:=hf 8 _ rfl
  obtain⟨y9,h9⟩:=hf 9 _ rfl
  dsimp only at h0 h1 h2 h3 h4 h5 h6 h7 h8 h9
  rw[ai3]at h0 h1
  rw[Je]at h2
  rw[D6]at h3 h4
  rw[acr]at h5
  rw[Jd]at h6
  rw[ca]at h7
  rw[ky]at h8 h9
  obtain⟨id,r0,_⟩:=Ib Xv h0
  obtain⟨kind,r1,_⟩:=Ib Xv h1
  obtain⟨labels,r2⟩:=B0 h2
  obtain⟨name,r3,_⟩:=x7 A5 h3
  obtain⟨proc,r4,_⟩:=x7 A5 h4
  obtain⟨e,r5,hr⟩:=Xu _ _ _ h5
  obtain⟨b,r6⟩:=Jb Jc h6
  obtain⟨args,r7,ha⟩:=qH (W:=W) eR (fun a=>a.x.tz) ua ca6 (by decide) (fun _=>rfl) (fun k hk cs x hx=>ai5 hx) h7
  obtain⟨aM,r8,ht⟩:=qH (W:=W) aS Sm.tz us hc (by decide) K5 (fun k hk cs x hx=>ih k (by omega) cs x hx) h8
  obtain⟨aL,r9,he⟩:=qH (W:=W) aS Sm.tz us hc (by decide) K5 (fun k hk cs x hx=>ih k (by omega) cs x hx) h9
  refine⟨⟨id,kind,labels,name,proc,e,b,args,aM,aL⟩, ?_,hr,ha,B1 ht,B1 he⟩
  have:=r0.at (r1.at (r2.at (r3.at (r4.at (r5.at (r6.at (r7.at (r8.at (r9.at (fO.end (by rw[hl,hc])))))))))))
  rw[iz]at this
  rw[dL]
  simpa[encStr]using this
theorem ai7 {fuel:Nat} {cs:List Value} {x:DataW H×List MemPlace} (h:DataW.trod enc Tryz.prog W 0 sp true fuel 48 cs=some x) : ∃ y:Pc,fO W (bG y) cs∧Sm.zE y.body:=by
 obtain⟨n,rfl,hl,hf⟩:=ni (l:= [(9,0),(45,1),(22,2),(46,3),(22,4)]) (by kernel_rfl) (by simp) h
 have hc:Tryz.prog.cellsOf 48=5:=by kernel_rfl
 have cp:Tryz.prog.cellsOf 45=1:=by kernel_rfl
 have ky:Tryz.prog.cellsOf 46=1:=by kernel_rfl
 have up:Tryz.prog.underlying 45=some (.slice 75):=by kernel_rfl
 have us:Tryz.prog.underlying 46=some (.slice 57):=by kernel_rfl
 have cp2:Tryz.prog.cellsOf 75=2:=by kernel_rfl
 have auJ:Tryz.prog.cellsOf 57=13:=by kernel_rfl
 obtain⟨y0,h0⟩:=hf 0 _ rfl
 obtain⟨y1,h1⟩:=hf 1 _ rfl
 obtain⟨y2,h2⟩:=hf 2 _ rfl
 obtain⟨y3,h3⟩:=hf 3 _ rfl
 obtain⟨y4,h4⟩:=hf 4 _ rfl
 dsimp only at h0 h1 h2 h3 h4
 rw[D6]at h0
 rw[cp]at h1
 rw[Je]at h2 h4
 rw[ky]at h3
 obtain⟨name,r0,_⟩:=x7 A5 h0
 obtain⟨ps,r1,_⟩:=qH (W:=W) gp (fun _=>True) up cp2 (by decide) (fun _=>rfl) (fun k hk cs x hx=>by
  obtain⟨y,hy⟩:=ai4 hx
  exact⟨y,hy,trivial⟩) h1
 obtain⟨vars,r2⟩:=B0 h2
 obtain⟨body,r3,hb⟩:=qH (W:=W) aS Sm.tz us auJ (by decide) K5 (fun k hk cs x hx=>ai6 k cs x hx) h3
 obtain⟨fin,r4⟩:=B0 h4
 refine⟨⟨name,ps,vars,body,fin⟩, ?_,B1 hb⟩
 have:=r0.at (r1.at (r2.at (r3.at (r4.at (fO.end (by rw[hl,hc]))))))
 simpa[encStr,bG]using this
theorem ai8 {fuel:Nat} {cs:List Value} {x:DataW H×List MemPlace} (h:DataW.trod enc Tryz.prog W 0 sp true fuel 25 cs=some x) : ∃ y:Pg,fO W (bJ y) cs∧y.tz:=by
 obtain⟨n,rfl,hl,hf⟩:=ni (l:= [(22,0),(23,1)]) (by kernel_rfl) (by simp) h
 have hc:Tryz.prog.cellsOf 25=2:=by kernel_rfl
 have cp:Tryz.prog.cellsOf 23=1:=by kernel_rfl
 have up:Tryz.prog.underlying 23=some (.slice 48):=by kernel_rfl
 have cp5:Tryz.prog.cellsOf 48=5:=by kernel_rfl
 obtain⟨y0,h0⟩:=hf 0 _ rfl
 obtain⟨y1,h1⟩:=hf 1 _ rfl
 dsimp only at h0 h1
 rw[Je]at h0
 rw[cp]at h1
 obtain⟨globals,r0⟩:=B0 h0
 obtain⟨procs,r1,hp⟩:=qH (W:=W) bG (fun f=>Sm.zE f.body) up cp5 (by decide) (fun _=>rfl) (fun k hk cs x hx=>ai7 hx) h1
 refine⟨⟨globals,procs⟩, ?_,hp⟩
 have:=r0.at (r1.at (fO.end (by rw[hl,hc])))
 simpa[bJ]using this
end
end Go.Abs
namespace Go.Abs
open Go.Proofs Go.ChangeShapes Go.WideShapes Go.ChangeAt Go.RowKit
theorem Ko {H:Type} {enc:TypeId×Value→H} {P:Program} {W:World} {sp:Nat→Bool} {t:TypeId} {ts:List TypeId} {ps:List MemPlace} : ∀ {l:List Value} {ds:List (DataW H)},DataW.TrodAll enc P W 0 sp true (t::ts) l ds ps→
 ∃ v l' d oN p q,l=v::l'∧ds=d::oN∧DataW.Trod enc P W 0 sp true t v d p∧DataW.TrodAll enc P W 0 sp true ts l' oN q
 |v::l,d::ds,⟨p,q,h1,h2,e⟩=>⟨v,l,d,ds,p,q,rfl,rfl,h1,h2⟩
 | [],[],h=>h.elim
 | [],_::_,h=>h.elim
 |_::_,[],h=>h.elim
theorem aar {H:Type} {enc:TypeId×Value→H} {P:Program} {W:World} {sp:Nat→Bool} {ps:List MemPlace} : ∀ {l:List Value} {ds:List (DataW H)},DataW.TrodAll enc P W 0 sp true [] l ds ps→l = []∧ds = []
 | [],[],_=>⟨rfl,rfl⟩
 | [],_::_,h=>h.elim
 |_::_,ds,h=>by cases ds<;>exact h.elim
end Go.Abs
