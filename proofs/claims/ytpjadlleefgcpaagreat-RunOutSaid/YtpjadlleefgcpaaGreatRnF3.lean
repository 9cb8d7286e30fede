/-
  What is proved here: part 3 of the road to the claim (Sc2, Sc3, ScP, Sc4, Rng, FineM, Sc5, Ar1, Ar2, Ar3, Srt1, Shelf, SortR, SrtP, Tc1, Tc2, Tc3, Bsl, Tc4, Tc5, Tc6, FlP, JmpP, Jm1, Jm2, MirRun, RunTot, RunFu, RunOk, Swap0, Swap2p, ToP, Al1, Al2, Al3, MirParse, Room1, Al4, Full1, Fits1, Fits2, MirEq, RefEq2, LawTo1, AlP, LawAl2, SwP, MirMapS, RightP, RunLo, RunNm, RunMc, RunI, Ev1, Ev2, Cp1).
  No conditions.
-/
import Derived.Test.YtpjadlleefgcpaaGreatRnF2
import Derived.Shelf.Small.Bits
import Derived.Shelf.Strconv.Itoa0
import Derived.Shelf.Sort.Plain
import Derived.Shelf.Slices.Turned
import Derived.Ground.Names2Prog
import Derived.Shelf.Slices.Clone
import Derived.Shelf.Slices.CompactS
import Derived.Shelf.Slices.Cells
import Derived.Shelf.Slices.In.SortNone
import Derived.Ground.SlgnProg
import Derived.Shelf.SlicesE.Clone
import Derived.Test.YtpjadlleefgcpaaGreatProg
import Derived.Sort.Walk0

set_option linter.unusedSimpArgs false
set_option linter.unusedVariables false
namespace Go.Abs
set_option maxRecDepth 8000
open Go.Proofs
def wS (vars globals:List aG) (name:aG):List Pm→Int
 | []=>if fu vars name then 4 else if fu globals name then 1 else 0
 |a::l=>if a.name==name then(if a.ref then 3 else 2)else wS vars globals name l
def Pc.lC (p:Pg) (f:Pc) (name:aG):Int:=wS f.vars p.globals name f.params
theorem JI {p:Pg} {f:Pc} (hp:f.params.length<1000000000) (hv:f.vars.length<1000000000) (hg:p.globals.length<1000000000) (name:aG) (s:St):aF Tryz.prog vF [.agg (cu p), .agg (cq f), .str name] s (.int .i64 (f.lC p name)) s:=by
 refine aF.pure ?_ (by simp[D.bL,D.ok,jc,xm]) rfl s
 have sa:=jB (l:=f.vars) (by omega) name
 have uE:=jB (l:=p.globals) (by omega) name
 generalize h:f.lC p name=q
 simp only[Pc.lC]at h
 unfold S0
 refine aF.go FG rfl fun B Q hB hQ=>?_
 have⟨hD,hY,hZ,gA⟩:=bP
 repeat' (first
 |simp only[go_sem,hD,hY,hZ,gA]
 |(with_reducible refine aD hQ ?_;exact bb))
 refine fa 2 0 (bl.ind (ι:=List Pm×Nat) (fun i=>f.params.drop i.2=i.1∧wS f.vars p.globals name i.1=q) (fun i=>i.1.length)
  (fun i=> [(2, .str name),(3, .ptr 0 0),(4, .ptr 1 0),(10, .slice .shared 2 (f.params.map iG)),(11, .int .i64 (f.params.length:Int)),(12, .int .i64 (i.2:Int))]) (fun i=>⟨[cu p,cq f],[]⟩) ?_ (f.params,0) ⟨rfl,h⟩)
 rintro⟨rest,k⟩ ⟨h1,h⟩ IH
 dsimp only at h1 h
 cases rest with
 | nil=>
  have hD:=drop_nil h1
  simp only[wS]at h
  rcases Bool.eq_false_or_eq_true (fu f.vars name)with b1|b1
  ·simp only [b1,if_true]at h
   subst h
   repeat' (first
 |simp only[go_sem,hD,hY,hZ,gA,b1]
 |(with_reducible refine CU (sa _ _) ?_)
 |(with_reducible refine CU (uE _ _) ?_)
 | (with_reducible refine aD hQ ?_;exact bb))
  ·simp only [b1,Bool.false_eq_true,if_false]at h
   rcases Bool.eq_false_or_eq_true (fu p.globals name)with b2|b2
   ·simp only [b2,if_true]at h
    subst h
    repeat' (first
 |simp only[go_sem,hD,hY,hZ,gA,b1,b2]
 |(with_reducible refine CU (sa _ _) ?_)
 |(with_reducible refine CU (uE _ _) ?_)
 | (with_reducible refine aD hQ ?_;exact bb))
   ·simp only [b2,Bool.false_eq_true,if_false]at h
    subst h
    repeat' (first
 |simp only[go_sem,hD,hY,hZ,gA,b1,b2]
 |(with_reducible refine CU (sa _ _) ?_)
 |(with_reducible refine CU (uE _ _) ?_)
 |(with_reducible refine aD hQ ?_;exact bb))
 | cons a rest=>
  obtain⟨hY,g2,hD,g4⟩:=drop_cons h1
  have bO:k<4611686018427387904:=by omega
  simp only[wS]at h
  rcases Bool.eq_false_or_eq_true (a.name==name)with b1|b1
  ·simp only [b1,if_true]at h
   rcases Bool.eq_false_or_eq_true a.ref with b2|b2
   ·simp only [b2,if_true]at h
    subst h
    repeat' (first
 |simp only[go_sem,hD,hY,hZ,gA,b1,b2]
 | (with_reducible refine aD hQ ?_;exact bb))
   ·simp only [b2,Bool.false_eq_true,if_false]at h
    subst h
    repeat' (first
 |simp only[go_sem,hD,hY,hZ,gA,b1,b2]
 | (with_reducible refine aD hQ ?_;exact bb))
  ·simp only [b1,Bool.false_eq_true,if_false]at h
   repeat' (first
 |simp only[go_sem,hD,hY,hZ,gA,b1]
 | (with_reducible refine aD hQ ?_;exact bb))
   refine eO 2 0 ?_ ?_ (IH (rest,k+1) ⟨g2,h⟩ (Nat.lt_succ_self _))
   ·(simp only[go_sem,hD,hY,hZ,gA,aI bO];try exact bW)
   ·(simp only[go_sem,hD,hY,hZ,gA,aI bO];try exact bW)
def iT (name:aG):List Pc→Option Pc
 | []=>none
 |f::l=>if f.name==name then some f else iT name l
def Pg.find (p:Pg) (name:aG):Option Pc:=iT name p.procs
def pc0:Pc:=⟨[],[],[],[],[]⟩
def aoo (r:Option Pc):D:= .tuple [.agg (cq (r.getD pc0)), .bool r.isSome]
set_option maxRecDepth 8000
open Go.Proofs
def Pc.tD (f:Pc):List aG:=f.params.map (·.name)
def Pc.own (f:Pc):List aG:=f.tD++f.vars
theorem XL {f:Pc} (hp:f.params.length<1000000) (hv:f.vars.length<1000000) (s:St):aF Tryz.prog sQ [.agg (cq f)] s (.slice .shared 1 (f.own.map encStr)) s:=by
 refine aF.pure ?_ (by simp[D.bL,D.ok,xm]) (by simp only[D.ok,Tag.ok,fb];rfl) s
 generalize hR:f.own=R
 simp only[Pc.own]at hR
 unfold S0
 refine aF.go HG rfl fun B Q hB hQ=>?_
 have⟨hD,hY,hZ,gA⟩:=bP
 repeat' (first
 |simp only[go_sem,hD,hY,hZ,gA]
 |(with_reducible refine aD hQ ?_;exact bb))
 refine bl.qC 3 1 rfl ?_
 simp only[go_sem,hD,hY,hZ,gA]
 refine fa 1 1 (bl.ind (ι:=List Pm×Nat×List aG×Nat) (fun i=>f.params.drop i.2.1=i.1∧i.2.2.1++i.1.map (·.name)=f.tD∧i.2.2.2=i.2.2.1.length) (fun i=>i.1.length)
  (fun i=> [(1, .ptr 0 0),(3, .slice (.tok 0) 1 (i.2.2.1.map encStr)),(7, .slice .shared 2 (f.params.map iG)),(8, .int .i64 (f.params.length:Int)),(9, .int .i64 (i.2.1:Int))]) (fun i=>⟨[cq f],[some i.2.2.2]⟩) ?_ (f.params,0,[],0) ⟨rfl,rfl,rfl⟩)
 rintro⟨rest,k,out,n⟩ ⟨h1,h2,h3⟩ IH
 dsimp only at h1 h2 h3
 subst h3
 have hlo:out.length+rest.length<1000000:=by
  have:=congrArg List.length h2
  simp only[List.length_append,List.length_map,Pc.tD]at this
  omega
 cases rest with
 |nil=>
  have hD:=drop_nil h1
  simp only[List.map_nil,List.append_nil]at h2
  subst hR
  rw[← h2]at hQ
  have eK:=kL (l:=out) (nx:=f.vars) rfl (by omega) (g:= .shared)
  repeat' (first
 |simp only[go_sem,hD,hY,hZ,gA,eK]
 |(with_reducible refine aD hQ ?_;exact bb))
 |cons a rest=>
  obtain⟨hY,g2,hD,g4⟩:=drop_cons h1
  have bO:k<4611686018427387904:=by omega
  have hZ:(out.length+1)*17≤bA:=by unfold bA;omega
  repeat' (first
 |simp only[go_sem,hD,hY,hZ,gA]
 |(with_reducible refine aD hQ ?_;exact bb))
  refine eO 1 1 ?_ ?_ (IH (rest,k+1,out++ [a.name],out.length+1) ⟨g2,by rw[← h2];simp,by simp⟩ (Nat.lt_succ_self _))
  ·(simp only[go_sem,hD,hY,hZ,gA,aI bO,List.map_append,List.map_cons,List.map_nil,encStr];try exact bW)
  ·(simp only[go_sem,hD,hY,hZ,gA,aI bO,List.map_append,List.map_cons,List.map_nil,encStr];try exact bW)
def iU:aG:= [109,97,105,110]
def Sm.known (p:Pg) (f:Pc) (procs:List aG) (v:Sm):Bool:=
 !(v.said.any fun n=>f.lC p n==0) && (v.kind != 4 ||(v.proc != iU && fu procs v.proc))
structure Pc.Small (p:Pg) (f:Pc):Prop where
 par:f.params.length<1000000
 vars:f.vars.length<1000000
 uv:p.globals.length<1000000
def Ck (p:Pg) (f:Pc):List aG→Bool
 | []=>true
 |n::l=>if f.lC p n==0 then false else Ck p f l
theorem GM (p:Pg) (f:Pc) : ∀ l,Ck p f l = !(l.any fun n=>f.lC p n==0)
 | []=>rfl
 |n::l=>by
  simp only[Ck,List.any_cons,GM p f l]
  cases (f.lC p n==0)<;>simp
theorem JK (v:Sm) (h:v.nw):v.said.length<3000000:=by
 have : ∀ (l:List Ar) (out:List aG),(Ar.said out l).length≤out.length+2*Ar.aY l:=by
  intro l
  induction l with
  |nil=>intro out;simp[Ar.said]
  |cons a l ih=>
   intro out
   simp only[Ar.said,Ar.aY]
   refine Nat.le_trans (ih _) ?_
   have:=lk a.x
   have:1≤a.x.size:=by obtain⟨_,_,_,_⟩:=a.x;simp[Ex.size]
   simp only[List.length_append]
   split<;>simp<;>omega
 have h1:=this v.args (v.sS++v.x.names)
 have h2:=lk v.x
 have h3:=h.2.2
 have h4:v.sS.length≤1:=by unfold Sm.sS;split<;>simp
 simp only[List.length_append]at h1
 unfold Sm.said
 omega
theorem Zu {p:Pg} {f:Pc} {procs:List aG} {v:Sm} (hs:f.Small p) (wT:procs.length<1000000) (hv:v.nw) (s:St):aF Tryz.prog qp [.agg (cu p), .agg (cq f), .slice .shared 1 (procs.map encStr), .agg (bd v)] s (.bool (v.known p f procs)) s:=by
 refine aF.pure ?_ (by simp[D.bL,D.ok,jc,xm,qD,Tag.ok,fb]) rfl s
 have hn:=fun s=>Bz hv s
 have hk:=fun n s=>JI (p:=p) (f:=f) (by have:=hs.par;omega) (by have:=hs.vars;omega) (by have:=hs.uv;omega) n s
 have ac5:=jB (l:=procs) (by omega) v.proc
 have hl:=JK v hv
 generalize h:v.known p f procs=q
 simp only[Sm.known, ← GM]at h
 unfold S0
 refine aF.go Et rfl fun B Q hB hQ=>?_
 have⟨hD,hY,hZ,gA⟩:=bP
 repeat' (first
 |simp only[go_sem,hD,hY,hZ,gA]
 |(with_reducible refine CU (hn _) ?_)
 |(with_reducible refine aD hQ ?_;exact bb))
 refine fa 3 0 (bl.ind (ι:=List aG×Nat) (fun i=>v.said.drop i.2=i.1∧(Ck p f i.1 && (v.kind != 4 ||(v.proc != iU && fu procs v.proc)))=q) (fun i=>i.1.length)
  (fun i=> [(2, .slice .shared 1 (procs.map encStr)),(4, .ptr 0 0),(5, .ptr 1 0),(7, .ptr 2 0),(12, .slice .shared 1 (v.said.map encStr)),(13, .int .i64 (v.said.length:Int)),(14, .int .i64 (i.2:Int))]) (fun i=>⟨[cu p,cq f,bd v],[]⟩) ?_ (v.said,0) ⟨rfl,h⟩)
 rintro⟨rest,k⟩ ⟨h1,h⟩ IH
 dsimp only at h1 h
 cases rest with
 | nil=>
  have hD:=drop_nil h1
  simp only[Ck,Bool.true_and]at h
  rcases Bool.eq_false_or_eq_true (v.kind != 4)with b1|b1
  ·simp only [b1,Bool.true_or]at h
   subst h
   repeat' (first
 |simp only[go_sem,hD,hY,hZ,gA,b1]
 | (with_reducible refine aD hQ ?_;exact bb))
  ·simp only [b1,Bool.false_or]at h
   rcases Bool.eq_false_or_eq_true (v.proc != iU)with b2|b2
   ·simp only [b2,Bool.true_and]at h
    unfold iU at b2
    have b3:(v.proc == [109,97,105,110]) = !(v.proc != [109,97,105,110]):=by simp only[bne,Bool.not_not]
    rw[b2]at b3
    simp only[Bool.not_true,Bool.not_false]at b3
    subst h
    repeat' (first
 |simp only[go_sem,hD,hY,hZ,gA,b1,b2,b3]
 |(with_reducible refine CU (ac5 _ _) ?_)
 | (with_reducible refine aD hQ ?_;exact bb))
   ·simp only [b2,Bool.false_and]at h
    unfold iU at b2
    have b3:(v.proc == [109,97,105,110]) = !(v.proc != [109,97,105,110]):=by simp only[bne,Bool.not_not]
    rw[b2]at b3
    simp only[Bool.not_true,Bool.not_false]at b3
    subst h
    repeat' (first
 |simp only[go_sem,hD,hY,hZ,gA,b1,b2,b3]
 |(with_reducible refine CU (ac5 _ _) ?_)
 |(with_reducible refine aD hQ ?_;exact bb))
 | cons a rest=>
  obtain⟨hY,g2,hD,g4⟩:=drop_cons h1
  have bO:k<4611686018427387904:=by omega
  simp only[Ck]at h
  rcases Bool.eq_false_or_eq_true (f.lC p a==0)with b1|b1
  ·simp only [b1,if_true,Bool.false_and]at h
   subst h
   repeat' (first
 |simp only[go_sem,hD,hY,hZ,gA,b1]
 |(with_reducible refine CU (hk _ _) ?_)
 | (with_reducible refine aD hQ ?_;exact bb))
  ·simp only [b1,Bool.false_eq_true,if_false]at h
   repeat' (first
 |simp only[go_sem,hD,hY,hZ,gA,b1]
 |(with_reducible refine CU (hk _ _) ?_)
 | (with_reducible refine aD hQ ?_;exact bb))
   refine eO 3 0 ?_ ?_ (IH (rest,k+1) ⟨g2,h⟩ (Nat.lt_succ_self _))
   ·(simp only[go_sem,hD,hY,hZ,gA,aI bO];try exact bW)
   ·(simp only[go_sem,hD,hY,hZ,gA,aI bO];try exact bW)
theorem LU : ∀ (l pre:List aG),qg pre l=true↔(∃ x∈l,x∈pre)∨¬ l.Nodup
 | [],pre=>by simp[qg]
 | s::l,pre=>by
  simp only[qg]
  by_cases h:fu pre s=true
  ·simp only [h,if_true,true_iff]
   exact .inl ⟨s,List.mem_cons_self,(jg _ _).1 h⟩
  ·have h':s∉pre:=fun m=>h ((jg _ _).2 m)
   simp only[h,if_false,Bool.false_eq_true]
   rw[LU l (pre++ [s])]
   simp only[List.mem_append,List.mem_singleton,List.mem_cons,List.nodup_cons,exists_eq_or_imp]
   constructor
   ·rintro(⟨x,m,h1 | h1⟩ | h1)
    ·exact .inl (.inr ⟨x,m,h1⟩)
    ·have h1:x=s:=by simpa using h1
     subst h1;exact .inr fun h=>h.1 m
    ·exact .inr fun h=>h1 h.2
   ·rintro((h1 | ⟨x,m,h1⟩) | h1)
    ·exact absurd h1 h'
    ·exact .inl ⟨x,m, .inl h1⟩
    ·by_cases m:s∈l
     ·exact .inl ⟨s,m, .inr (.inl rfl)⟩
     ·exact .inr fun h=>h1 ⟨m,h⟩
theorem GN (l:List aG):fF l=true↔¬ l.Nodup:=by
 unfold fF;rw[LU];simp
theorem RS (a b:List aG):fF (a++b)=(fF a ||(fF b ||b.any (fu a))):=by
 have h:fF (a++b)=true↔(fF a ||(fF b ||b.any (fu a)))=true:=by
  rw[GN,List.nodup_append]
  simp only[Bool.or_eq_true,GN,List.any_eq_true,jg]
  constructor
  ·intro h
   by_cases ha:a.Nodup
   ·by_cases hb:b.Nodup
    ·refine .inr (.inr (Classical.byContradiction fun hn=>h ⟨ha,hb,fun x hx y hy e=>hn ⟨y,hy,e ▸ hx⟩⟩))
    ·exact .inr (.inl hb)
   ·exact .inl ha
  ·rintro(h | h | ⟨x,h1,h2⟩) ⟨h3,h4,h5⟩
   ·exact h h3
   ·exact h h4
   ·exact h5 x h2 x h1 rfl
 cases h1:fF (a++b)<;>cases h2:(fF a ||(fF b ||b.any (fu a)))<;>simp_all
theorem JL (name:aG) : ∀ (l:List Pc) (k:Nat),(iT name l=none∧jf name (k:Int) (l.map (·.name)) = -1)∨∃ f j,iT name l=some f∧l[j]? = some f∧jf name (k:Int) (l.map (·.name))=((k+j:Nat):Int)
 | [],k=> .inl ⟨rfl,rfl⟩
 | f::l,k=>by
  by_cases h:f.name=name
  ·subst h
   refine .inr ⟨f,0,by simp[iT],rfl,by simp[jf]⟩
  ·have h1:(f.name==name)=false:=by simp [h]
   have h2:(name==f.name)=false:=by simp[Ne.symm h]
   simp only[iT,h1,Bool.false_eq_true,if_false,List.map_cons,jf,h2]
   rcases JL name l (k+1)with ⟨g1,g2⟩|⟨g,j,g1,g2,g3⟩
   ·exact .inl ⟨g1,by rw[← g2];rfl⟩
   ·refine .inr ⟨g,j+1,g1,by simpa using g2, ?_⟩
    rw[show((k:Int)+1)=((k+1:Nat):Int)from rfl,g3]
    congr 1;omega
theorem sx {name:aG} {f:Pc} : ∀ {l:List Pc},iT name l=some f→f∈l∧f.name=name
 |g::l,h=>by
  simp only[iT]at h
  split at h
  ·rename_i e;cases h;exact⟨List.mem_cons_self,by simpa using e⟩
  ·have:=sx h;exact⟨List.mem_cons_of_mem _ this.1,this.2⟩
mutual
theorem RT (deep cf:Int) (aR:Bool) (out:List It) : ∀ s:Sm,∃ e,iR deep cf aR out s=out++e
 | ⟨id,kind,labels,name,proc,x,has,args,aZ,e⟩=>by
  simp only[iR]
  split
  ·obtain⟨e1,h1⟩:=tF (deep+1) id false (out++ [⟨⟨id,kind,labels,name,proc,x,has,args,aZ,e⟩,deep,cf,aR⟩]) aZ
   obtain⟨e2,h2⟩:=tF (deep+1) id true (dQ (deep+1) id false (out++ [⟨⟨id,kind,labels,name,proc,x,has,args,aZ,e⟩,deep,cf,aR⟩]) aZ) e
   rw[h2,h1]
   exact⟨_,by rw[List.append_assoc,List.append_assoc]⟩
  ·exact⟨_,rfl⟩
theorem tF (deep cf:Int) (aR:Bool) (out:List It) : ∀ l:List Sm,∃ e,dQ deep cf aR out l=out++e
 | []=>⟨[],by simp[dQ]⟩
 | s::l=>by
  simp only[dQ]
  split
  ·obtain⟨e1,h1⟩:=RT deep cf aR out s
   obtain⟨e2,h2⟩:=tF deep cf aR (iR deep cf aR out s) l
   rw[h2,h1]
   exact⟨_,by rw[List.append_assoc]⟩
  ·exact⟨[],by simp⟩
end
mutual
theorem RU (deep cf:Int) (aR:Bool) (out:List It) : ∀ s:Sm,(iR deep cf aR out s).length≤200→(∀ i∈iR deep cf aR out s,i.deep≤12)→(iR deep cf aR out s).map It.s=out.map It.s++s.pre
 | ⟨id,kind,labels,name,proc,x,has,args,aZ,e⟩,h1,h2=>by
  simp only[iR,Sm.pre]at h1 h2 ⊢
  by_cases hd:deep≤12
  ·simp only [hd,decide_true,if_true]at h1 h2 ⊢
   obtain⟨e2,g2⟩:=tF (deep+1) id true (dQ (deep+1) id false (out++ [⟨⟨id,kind,labels,name,proc,x,has,args,aZ,e⟩,deep,cf,aR⟩]) aZ) e
   have k1:(dQ (deep+1) id false (out++ [⟨⟨id,kind,labels,name,proc,x,has,args,aZ,e⟩,deep,cf,aR⟩]) aZ).length≤200:=by
    rw[g2,List.length_append]at h1;omega
   have k2 : ∀ i∈dQ (deep+1) id false (out++ [⟨⟨id,kind,labels,name,proc,x,has,args,aZ,e⟩,deep,cf,aR⟩]) aZ,i.deep≤12:=fun i m=>h2 i (by rw[g2];exact List.mem_append_left _ m)
   rw[wU (deep+1) id true _ e h1 h2,wU (deep+1) id false _ aZ k1 k2]
   simp
  ·simp only [hd,decide_false,Bool.false_eq_true,if_false]at h1 h2
   exact absurd (h2 _ (List.mem_append_right _ (List.mem_singleton.2 rfl))) (by simpa using hd)
theorem wU (deep cf:Int) (aR:Bool) (out:List It) : ∀ l:List Sm,(dQ deep cf aR out l).length≤200→(∀ i∈dQ deep cf aR out l,i.deep≤12)→(dQ deep cf aR out l).map It.s=out.map It.s++Sm.dc l
 | [],h1,h2=>by simp[dQ,Sm.dc]
 | s::l,h1,h2=>by
  simp only[dQ,Sm.dc]at h1 h2 ⊢
  by_cases hc:(out.length:Int)≤200
  ·simp only [hc,decide_true,if_true]at h1 h2 ⊢
   obtain⟨e2,g2⟩:=tF deep cf aR (iR deep cf aR out s) l
   have k1:(iR deep cf aR out s).length≤200:=by rw[g2,List.length_append]at h1;omega
   have k2 : ∀ i∈iR deep cf aR out s,i.deep≤12:=fun i m=>h2 i (by rw[g2];exact List.mem_append_left _ m)
   rw[wU deep cf aR _ l h1 h2,RU deep cf aR out s k1 k2]
   simp
  ·simp only [hc,decide_false,Bool.false_eq_true,if_false]at h1
   omega
end
theorem JM : ∀ (l:List Pc) (out:List It),(allM out l).length≤200→(∀ i∈allM out l,i.deep≤12)→(∀ f∈l,f.flat.map It.s=Sm.dc f.body)∧(allM out l).map It.s=out.map It.s++(l.map fun f=>Sm.dc f.body).flatten
 | [],out,h1,h2=>⟨fun f m=>(by cases m),by simp[allM]⟩
 | f::l,out,h1,h2=>by
  simp only[allM]at h1 h2 ⊢
  by_cases hc:(((out++f.flat).length:Nat):Int) > 200
  ·simp only[hc,decide_true,if_true]at h1;omega
  ·simp only [hc,decide_false,Bool.false_eq_true,if_false]at h1 h2 ⊢
   obtain⟨k1,k2⟩:=JM l (out++f.flat) h1 h2
   have pW : ∀ (l:List Pc) (out:List It),∃ e,allM out l=out++e:=by
    intro l
    induction l with
    |nil=>intro out;exact⟨[],by simp[allM]⟩
    |cons g l ih=>
     intro out
     simp only[allM]
     split
     ·exact⟨_,rfl⟩
     ·obtain⟨e,h⟩:=ih (out++g.flat);exact⟨g.flat++e,by rw[h];simp⟩
   obtain⟨e,he⟩:=pW l (out++f.flat)
   have k3:f.flat.map It.s=Sm.dc f.body:=by
    have:=wU 1 0 false [] f.body (by
     have:f.flat.length≤200:=by simp only[List.length_append]at hc;omega
     exact this) (fun i m=>h2 i (by rw[he];exact List.mem_append_left _ (List.mem_append_right _ m)))
    simpa[Pc.flat]using this
   refine⟨fun g m=>?_, ?_⟩
   ·rcases List.mem_cons.1 m with rfl | m
    ·exact k3
    ·exact k1 g m
   ·rw[k2];simp[k3]
theorem BD : ∀ (l:List It) (n:Nat),It.fM n l=true→(∀ i∈l,i.deep≤12)∧∀ (j:Nat) (i:It),l[j]? = some i→i.s.id=((n+j+1:Nat):Int)
 | [],n,h=>⟨fun i m=>(by cases m),fun j i h=>by simp at h⟩
 | a::l,n,h=>by
  simp only[It.fM]at h
  split at h
  ·cases h
  ·rename_i c
   simp only[Bool.or_eq_true,not_or,bne_iff_ne,ne_eq,Decidable.not_not,decide_eq_true_eq,Int.not_lt,gt_iff_lt]at c
   obtain⟨k1,k2⟩:=BD l (n+1) h
   refine⟨fun i m=>?_,fun j i hj=>?_⟩
   ·rcases List.mem_cons.1 m with rfl | m
    ·exact c.1.2
    ·exact k1 i m
   ·cases j with
    |zero=>simp at hj;subst hj;rw[c.1.1]
    |succ j=>simp at hj;rw[k2 j i hj];congr 1;omega
theorem Cl {p:Pg} (h:p.may=true):p.all.length≤200∧It.fM 0 p.all=true:=by
 unfold Pg.may at h
 split at h
 ·cases h
 ·split at h
  ·cases h
  ·split at h
   ·cases h
   ·rename_i c
    exact⟨by simp only[decide_eq_true_eq,Int.not_lt,gt_iff_lt]at c;omega,h⟩
theorem zv {p:Pg} (h:p.may=true):(∀ f∈p.procs,f.flat.map It.s=Sm.dc f.body)∧p.all.map It.s=p.pre:=by
 obtain⟨h1,h2⟩:=Cl h
 have:=JM p.procs [] h1 (BD _ 0 h2).1
 simpa[Pg.pre,Pg.all]using this
theorem BE {p:Pg} (h:p.may=true) {i:Nat} {v:Sm} (hv:p.pre[i]? = some v):v.id=((i+1:Nat):Int):=by
 rw[← (zv h).2,List.getElem?_map,Option.map_eq_some_iff]at hv
 obtain⟨it,h1,rfl⟩:=hv
 have:=(BD _ 0 (Cl h).2).2 i it h1
 rw[this];congr 1;omega
set_option maxRecDepth 8000
open Go.Proofs
structure Pg.iM (p:Pg):Prop where
 O3:p.HZ
 sz:p.size≤900000
mutual
theorem ac6 : ∀ s:Sm,s.wM→s.size<1000000→∀ v∈s.pre,v.nw∧v.ur
 |⟨id,kind,labels,name,proc,x,has,args,aZ,aR⟩,h,hs,v,m=>by
  simp only[Sm.wM]at h
  simp only[Sm.size]at hs
  simp only[Sm.pre,List.mem_cons,List.mem_append]at m
  rcases m with rfl|m|m
  ·exact⟨⟨h.1.xt,fun a ha=>(h.1.arg a ha).2.1,by dsimp only;omega⟩,h.1⟩
  ·exact Cm aZ h.2.1 (by omega) v m
  ·exact Cm aR h.2.2 (by omega) v m
theorem Cm : ∀ l:List Sm,Sm.ky l→Sm.aY l<1000000→∀ v∈Sm.dc l,v.nw∧v.ur
 | [],h,hs,v,m=>by simp[Sm.dc]at m
 |s::l,h,hs,v,m=>by
  simp only[Sm.ky]at h
  simp only[Sm.aY]at hs
  simp only[Sm.dc,List.mem_append]at m
  rcases m with m|m
  ·exact ac6 s h.1 (by omega) v m
  ·exact Cm l h.2 (by omega) v m
end
theorem Pg.iM.said {p:Pg} (h:p.iM) {f:Pc} (hf:f∈p.procs) : ∀ v∈Sm.dc f.body,v.nw:=fun v m=>by
 have h1:=Pc.dd hf
 have h2:=h.sz
 simp only[Pg.size]at h2
 simp only[Pc.size]at h1
 exact(Cm f.body (h.O3.body f hf) (by omega) v m).1
theorem Pg.iM.small {p:Pg} (h:p.iM) {f:Pc} (hf:f∈p.procs):f.Small p:=by
 have h1:=Pc.dd hf
 have h2:=h.sz
 simp only[Pg.size]at h2
 simp only[Pc.size]at h1
 exact⟨by omega,by omega,by omega⟩
theorem Pg.iM.procs {p:Pg} (h:p.iM):p.procs.length≤900000∧Pc.aY p.procs≤900000∧p.globals.length≤900000:=by
 have h2:=h.sz
 have h3:=Pc.eB p.procs
 simp only[Pg.size]at h2
 omega
def Pg.pn (p:Pg):List aG:=p.procs.map (·.name)
def BF (p:Pg) (f:Pc) (procs:List aG):List Sm→Option Sm
 | []=>none
 |v::l=>if v.known p f procs then BF p f procs l else some v
def vO (p:Pg) (procs:List aG):List Pc→Int×Int
 | []=>(0,0)
 |f::l=>if fF (p.globals++f.own)then(5,0)else match BF p f procs (Sm.dc f.body)with|some v=>(5,v.id)|none=>vO p procs l
def Pg.tG (p:Pg):Bool:=match p.find iU with|none=>true|some m=>decide ((m.params.length:Int) > 0)
def Pg.scope (p:Pg):Int×Int:=
 if p.may then if fF p.globals ||(fF p.pn ||p.tG)then(5,0)else vO p p.pn p.procs else(1,0)
theorem Vk (p:Pg) (hl:p.globals.length<1000000) (n:aG):aF Tryz.prog oP ([.str n]++ [.ptr 0 0]) ⟨[cu p],[]⟩ (.bool (fu p.globals n)) ⟨[cu p],[]⟩:=by
 show aF Tryz.prog oP [.str n, .ptr 0 0] _ _ _
 have pI:=jB (l:=p.globals) (by omega) n
 refine aF.go CA rfl fun B Q hB hQ=>?_
 have⟨hD,hY,hZ,gA⟩:=bP
 repeat' (first
 |simp only[go_sem,hD,hY,hZ,gA]
 |(with_reducible refine CU (pI _ _) ?_)
 |(with_reducible refine aD hQ ?_;exact bb))
theorem XM (n m:Nat) (p:Pg):D.gu n m (fx p)=fx p:=ib n m _ (uu p)
attribute [go_sem] XM
theorem Zv {p:Pg} {f:Pc} {procs:List aG} {v:Sm} (hs:f.Small p) (wT:procs.length<1000000) (hv:v.nw) (g:Tag) (s:St):aF Tryz.prog qp [.agg (cu p), .agg (cq f), .slice g 1 (procs.map encStr), .agg (bd v)] s (.bool (v.known p f procs)) s:=
 bM.pR (.cons (Wk.refl _) (.cons (Wk.refl _) (.cons (Wk.shared g 1 _) (ju.refl _)))) (Zu hs wT hv s)
theorem vP {p:Pg} (h:p.iM) (s:St):aF Tryz.prog lW [.agg (cu p)] s (.agg [.int .i64 p.scope.1, .int .i64 p.scope.2]) s:=by
 refine aF.pure ?_ (by simp[D.bL,D.ok,jc]) rfl s
 have hm:=fun s=>JD h.O3 s
 simp only[Cj]at hm
 obtain⟨rj,qU,qT⟩:=h.procs
 have dh:=fun s=>Cf (p:=p) (by omega) s
 have pK:=fun s=>DC (l:=p.globals) (by omega) .shared s
 have hpn:p.pn.length=p.procs.length:=by simp[Pg.pn]
 have D7:=fun g s=>DC (l:=p.pn) (by omega) g s
 have JN:=fun g s=>(Cg (l:=p.pn) (by omega) iU s).XH (Wk.shared g 1 (p.pn.map encStr))
 have DD:=fun g s=>(show aF Tryz.prog fW [.slice g 1 (p.pn.map encStr), .str [109,97,105,110]] s (.int .i64 (jf iU 0 p.pn)) s from JN g s)
 generalize hR:p.scope=R
 simp only[Pg.scope]at hR
 unfold S0
 rcases Bool.eq_false_or_eq_true p.may with hb|hb
 case inr=>
  simp only[hb]at hm
  simp only[hb,Bool.false_eq_true,if_false]at hR
  subst hR
  refine aF.go wH rfl fun B Q hB hQ=>?_
  have⟨hD,hY,hZ,gA⟩:=bP
  repeat' (first
 |simp only[go_sem,hD,hY,hZ,gA]
 |(with_reducible refine CU (hm _) ?_)
 |(with_reducible refine aD hQ ?_;exact bb))
 simp only[hb]at hm
 simp only[hb,if_true]at hR
 refine aF.go wH rfl fun B Q hB hQ=>?_
 have⟨hD,hY,hZ,gA⟩:=bP
 repeat' (first
 |simp only[go_sem,hD,hY,hZ,gA]
 |(with_reducible refine CU (hm _) ?_)
 |(with_reducible refine aD hQ ?_;exact bb))
 refine bl.qC 3 1 rfl ?_
 simp only[go_sem,hD,hY,hZ,gA]
 refine fa 2 1 (bl.ind (ι:=List Pc×Nat×List aG×Nat) (fun i=>p.procs.drop i.2.1=i.1∧i.2.2.1++i.1.map (·.name)=p.pn∧i.2.2.2=i.2.2.1.length) (fun i=>i.1.length)
  (fun i=> [(1, .ptr 0 0),(2, .ptr 1 0),(3, .slice (.tok 0) 1 (i.2.2.1.map encStr)),(18, .slice .shared 5 (p.procs.map cq)),(19, .int .i64 (p.procs.length:Int)),(20, .int .i64 (i.2.1:Int))]) (fun i=>⟨[cu p,[.int .i64 0, .int .i64 0]],[some i.2.2.2]⟩) ?_ (p.procs,0,[],0) ⟨rfl,rfl,rfl⟩)
 rintro⟨rest,k,out,n⟩ ⟨h1,h2,h3⟩ IH
 dsimp only at h1 h2 h3
 subst h3
 have hlo:out.length+rest.length≤900000:=by
  have:=congrArg List.length h2
  simp only[List.length_append,List.length_map]at this
  omega
 cases rest with
 |cons a rest=>
  obtain⟨hY,g2,hD,g4⟩:=drop_cons h1
  have bO:k<4611686018427387904:=by omega
  have hZ:(out.length+1)*17≤bA:=by unfold bA;omega
  repeat' (first
 |simp only[go_sem,hD,hY,hZ,gA]
 |(with_reducible refine aD hQ ?_;exact bb))
  refine eO 2 1 ?_ ?_ (IH (rest,k+1,out++ [a.name],out.length+1) ⟨g2,by rw[← h2];simp,by simp⟩ (Nat.lt_succ_self _))
  ·(simp only[go_sem,hD,hY,hZ,gA,aI bO,List.map_append,List.map_cons,List.map_nil,encStr];try exact bW)
  ·(simp only[go_sem,hD,hY,hZ,gA,aI bO,List.map_append,List.map_cons,List.map_nil,encStr];try exact bW)
 | nil=>
  have hD:=drop_nil h1
  simp only[List.map_nil,List.append_nil]at h2
  subst h2
  rcases Bool.eq_false_or_eq_true (fF p.globals)with b1|b1
  ·simp only [b1,Bool.true_or,if_true]at hR
   subst hR
   repeat' (first
 |simp only[go_sem,hD,hY,hZ,gA,b1]
 |(with_reducible refine CU (DD _ _) ?_)
 |(with_reducible refine CU (pK _) ?_)
 |(with_reducible refine CU (D7 _ _) ?_)
 | (with_reducible refine aD hQ ?_;exact bb))
  rcases Bool.eq_false_or_eq_true (fF p.pn)with b2|b2
  ·simp only [b1,b2,Bool.true_or,Bool.or_true,if_true]at hR
   subst hR
   repeat' (first
 |simp only[go_sem,hD,hY,hZ,gA,b1,b2]
 |(with_reducible refine CU (DD _ _) ?_)
 |(with_reducible refine CU (pK _) ?_)
 |(with_reducible refine CU (D7 _ _) ?_)
 | (with_reducible refine aD hQ ?_;exact bb))
  rcases JL iU p.procs 0 with ⟨e1,e2⟩|⟨m,j,e1,e2,e3⟩
  ·have b3:p.tG=true:=by unfold Pg.tG Pg.find;rw [e1]
   have hi:jf iU 0 p.pn = -1:=e2
   simp only[b1,b2,b3,Bool.or_true,if_true]at hR
   subst hR
   simp only[hi]at DD
   have d1:decide ((-1:Int)<0)=true:=by decide
   repeat' (first
 |simp only[go_sem,hD,hY,hZ,gA,b1,b2,d1]
 |(with_reducible refine CU (DD _ _) ?_)
 |(with_reducible refine CU (pK _) ?_)
 |(with_reducible refine CU (D7 _ _) ?_)
 | (with_reducible refine aD hQ ?_;exact bb))
  have hi:jf iU 0 p.pn=((j:Nat):Int):=by rw[show p.pn=p.procs.map (·.name)from rfl];simpa using e3
  simp only[hi]at DD
  have d1:decide (((j:Nat):Int)<0)=false:=by simp
  have hj:j<p.procs.length:=(List.getElem?_eq_some_iff.1 e2).1
  have b3:p.tG=decide ((m.params.length:Int) > 0):=by unfold Pg.tG Pg.find;rw[e1]
  rw[b3]at hR
  rcases Bool.eq_false_or_eq_true (decide ((m.params.length:Int) > 0))with b4|b4
  ·simp only [b1,b2,b4,Bool.or_true,if_true]at hR
   subst hR
   repeat' (first
 |simp only[go_sem,hD,hY,hZ,gA,b1,b2,d1,e2,b4]
 |(with_reducible refine CU (DD _ _) ?_)
 |(with_reducible refine CU (pK _) ?_)
 |(with_reducible refine CU (D7 _ _) ?_)
 |(with_reducible refine aD hQ ?_;exact bb))
  simp only[b1,b2,b4,Bool.or_false,Bool.false_eq_true,if_false]at hR
  repeat' (first
 |simp only[go_sem,hD,hY,hZ,gA,b1,b2,d1,e2,b4]
 |(with_reducible refine CU (DD _ _) ?_)
 |(with_reducible refine CU (pK _) ?_)
 |(with_reducible refine CU (D7 _ _) ?_)
 |(with_reducible refine CU (dh _) ?_)
 | (with_reducible refine aD hQ ?_;exact bb))
  refine fa 2 1 (bl.ind (ι:=List Pc×Nat) (fun i=>p.procs.drop i.2=i.1∧vO p p.pn i.1=R) (fun i=>i.1.length)
   (fun i=> [(1, .ptr 0 0),(2, .ptr 1 0),(3, .slice (.tok 0) 1 (p.pn.map encStr)),(7, .dv (fx p) 0),(57, .slice .shared 5 (p.procs.map cq)),(58, .int .i64 (p.procs.length:Int)),(59, .int .i64 (i.2:Int))]) (fun i=>⟨[cu p,[.int .i64 0, .int .i64 0]],[some p.pn.length]⟩) ?_ (p.procs,0) ⟨rfl,hR⟩)
  clear IH h1 hD hR
  rintro⟨rest,k⟩ ⟨h1,hR⟩ IH
  dsimp only at h1 hR
  cases rest with
  |nil=>
   have hD:=drop_nil h1
   simp only[vO]at hR
   subst hR
   repeat' (first
 |simp only[go_sem,hD,hY,hZ,gA]
 | (with_reducible refine aD hQ ?_;exact bb))
  | cons f rest=>
   obtain⟨hY,g2,hD,g4⟩:=drop_cons h1
   have bO:k<4611686018427387904:=by omega
   have An:=List.mem_of_getElem? hY
   have vQ:=h.small An
   have RV:=fun s=>XL (f:=f) vQ.par vQ.vars s
   have iX:f.own.length<4611686018427387904:=by have h1:=vQ.par;have h2:=vQ.vars;unfold Pc.own Pc.tD;simp;omega
   have hto:=fun s=>DC (l:=f.own) iX .shared s
   have C3:=fun {s:St} {o:Nat} (ho:s.ah[o]? = some (cu p))=>yz (l:=f.own) iX (f:=oP) (row:=cu p) (b:=fu p.globals) (jc p) (by with_unfolding_all rfl) (fun x _=>Vk p vQ.uv x) ho
   have Vl:=fun {s:St} {o:Nat} (ho:s.ah[o]? = some (cu p))=>(show aF Tryz.prog fX [.slice .shared 1 (f.own.map encStr), .gd 130 [.ptr o 0]] s (.bool (f.own.any (fu p.globals))) s from C3 ho)
   simp only[vO,RS,b1,Bool.false_or]at hR
   rcases Bool.eq_false_or_eq_true (fF f.own)with c1|c1
   ·simp only [c1,Bool.true_or,if_true]at hR
    subst hR
    repeat' (first
 |simp only[go_sem,hD,hY,hZ,gA,c1]
 |(with_reducible refine CU (RV _) ?_)
 |(with_reducible refine CU (hto _) ?_)
 |(with_reducible refine CU (Vl (by with_unfolding_all rfl)) ?_)
 | (with_reducible refine aD hQ ?_;exact bb))
   rcases Bool.eq_false_or_eq_true (f.own.any (fu p.globals))with c2|c2
   ·simp only [c1,c2,Bool.false_or,if_true]at hR
    subst hR
    repeat' (first
 |simp only[go_sem,hD,hY,hZ,gA,c1,c2]
 |(with_reducible refine CU (RV _) ?_)
 |(with_reducible refine CU (hto _) ?_)
 |(with_reducible refine CU (Vl (by with_unfolding_all rfl)) ?_)
 | (with_reducible refine aD hQ ?_;exact bb))
   simp only[c1,c2,Bool.or_self,Bool.false_eq_true,if_false]at hR
   obtain⟨it,pN,wV⟩:=U2 hY (by omega)
   rw[← pN]at hR
   have ac8:it.length≤900000:=by
    have e:=congrArg List.length pN
    have e2:=(kx p).2 k f hY
    obtain⟨a,b,e',_,_,e3,e4⟩:=e2
    have e5:=pf p
    have e6:=congrArg List.length e3
    rw[e4]at e5
    simp only[List.length_map,List.length_append]at e e5 e6
    omega
   repeat' (first
 |simp only[go_sem,hD,hY,hZ,gA,c1,c2]
 |(with_reducible refine CU (RV _) ?_)
 |(with_reducible refine CU (hto _) ?_)
 |(with_reducible refine CU (Vl (by with_unfolding_all rfl)) ?_)
 |(with_reducible refine CU (wV _) ?_)
 | (with_reducible refine aD hQ ?_;exact bb))
   obtain⟨q,hq⟩ : ∃ q,BF p f p.pn (it.map Im.s)=q:=⟨_,rfl⟩
   rw[hq]at hR
   refine fa 3 1 (bl.ind (ι:=List Im×Nat) (fun i=>it.drop i.2=i.1∧BF p f p.pn (i.1.map Im.s)=q) (fun i=>i.1.length)
    (fun i=> [(1, .ptr 0 0),(2, .ptr 1 0),(3, .slice (.tok 0) 1 (p.pn.map encStr)),(7, .dv (fx p) 0),(9, .ptr 2 0),(57, .slice .shared 5 (p.procs.map cq)),(58, .int .i64 (p.procs.length:Int)),(59, .int .i64 (k:Int)),(76, .slice .shared 17 (it.map dt)),(77, .int .i64 (it.length:Int)),(78, .int .i64 (i.2:Int))]) (fun i=>⟨[cu p,[.int .i64 0, .int .i64 0],cq f],[some p.pn.length]⟩) ?_ (it,0) ⟨rfl,hq⟩)
   rintro⟨B6,n⟩ ⟨j1,j2⟩ XN
   dsimp only at j1 j2
   have Ac:=hD
   cases B6 with
   |nil=>
    have anH:=drop_nil j1
    simp only[List.map_nil,BF]at j2
    subst j2
    simp only at hR
    repeat' (first
 |simp only[go_sem,hD,hY,hZ,gA,anH]
 | (with_reducible refine aD hQ ?_;exact bb))
    refine eO 2 1 ?_ ?_ (IH (rest,k+1) ⟨g2,hR⟩ (Nat.lt_succ_self _))
    ·(simp only[go_sem,hD,hY,hZ,gA,aI bO];try exact bW)
    ·(simp only[go_sem,hD,hY,hZ,gA,aI bO];try exact bW)
   | cons i B6=>
    obtain⟨mH,LV,tH,jg4⟩:=drop_cons j1
    have uL:n<4611686018427387904:=by omega
    have EJ:i.s∈Sm.dc f.body:=by rw[← pN];exact List.mem_map_of_mem (List.mem_of_getElem? mH)
    have hkn:=Zv (v:=i.s) vQ (procs:=p.pn) (by omega) (h.said An _ EJ)
    simp only[List.map_cons,BF]at j2
    rcases Bool.eq_false_or_eq_true (i.s.known p f p.pn)with c3|c3
    ·simp only [c3,if_true]at j2
     repeat' (first
 |simp only[go_sem,hD,hY,hZ,gA,tH,mH,c3]
 |(with_reducible refine CU (hkn _ _) ?_)
 | (with_reducible refine aD hQ ?_;exact bb))
     refine eO 3 1 ?_ ?_ (XN (B6,n+1) ⟨LV,j2⟩ (Nat.lt_succ_self _))
     ·(simp only[go_sem,hD,hY,hZ,gA,aI uL];try exact bW)
     ·(simp only[go_sem,hD,hY,hZ,gA,aI uL];try exact bW)
    ·simp only [c3,Bool.false_eq_true,if_false]at j2
     subst j2
     simp only at hR
     subst hR
     repeat' (first
 |simp only[go_sem,hD,hY,hZ,gA,tH,mH,c3]
 |(with_reducible refine CU (hkn _ _) ?_)
 |(with_reducible refine aD hQ ?_;exact bb))
end Go.Abs
namespace Go.Abs
mutual
def Ex.rO:Ex→Prop
 |⟨_,n,_,kids⟩=>n≤9223372036854775807∧Ex.xD kids
def Ex.xD:List Ex→Prop
 | []=>True
 |x::l=>x.rO∧Ex.xD l
end
mutual
def Sm.rO:Sm→Prop
 |⟨_,_,_,_,_,x,_,args,aZ,aR⟩=>x.rO∧(∀ a∈args,a.x.rO)∧Sm.xD aZ∧Sm.xD aR
def Sm.xD:List Sm→Prop
 | []=>True
 |s::l=>s.rO∧Sm.xD l
end
def Pg.rO (p:Pg):Prop:=∀ f∈p.procs,Sm.xD f.body
theorem GO {f:Pc} : ∀ {l:List Pc} {n:Nat},Pc.fh n l=true→f∈l→(isName f.name=true∧fc f.vars=true∧fc f.fin=true∧Pm.fM f.params=true)∧∃ n,(Sm.gv 1 n f.body).1=true
 |g::l,n,h,m=>by
  simp only[Pc.fh]at h
  split at h
  ·cases h
  rename_i c1
  split at h
  ·cases h
  rename_i c2
  split at h
  ·cases h
  rename_i c3
  simp only[Bool.or_eq_true,Bool.not_eq_true',not_or,Bool.not_eq_false]at c1 c2 c3
  rcases List.mem_cons.1 m with rfl|m
  ·exact⟨⟨c1.1.1.2,c1.1.2,c1.2,c2⟩,n,c3⟩
  ·exact GO h m
mutual
theorem O4 : ∀ (s:Sm) (nest:Int) (n:Nat),(Sm.pV nest n s).1=true→s.size<4611686018427387000→s.wM
 |⟨id,kind,labels,name,proc,x,has,args,aZ,aR⟩,nest,n,hm,hs=>by
  obtain⟨_,_,h1,h2,h3,_⟩:=GK hm
  rw[DB]
  rw[(tB h2).2]at h2
  rw[(tB h3).2]at h3
  refine⟨JG h1 hs,uW aZ _ _ h2 ?_,uW aR _ _ h3 ?_⟩<;>simp only[Sm.size]at hs<;>omega
theorem uW : ∀ (l:List Sm) (nest:Int) (n:Nat),(Sm.fh nest n l).1=true→Sm.aY l<4611686018427387000→Sm.ky l
 | [],_,_,_,_=>by simp only[Sm.ky]
 |s::l,nest,n,hm,hs=>by
  simp only[Sm.fh]at hm
  simp only[Sm.aY]at hs
  split at hm
  ·cases hm
  rename_i hc
  simp only[Bool.not_eq_true',Bool.not_eq_false]at hc
  exact⟨O4 s nest n hc (by omega),uW l nest _ hm (by omega)⟩
end
theorem RW {p:Pg} (h:p.may=true) (hs:p.size<4611686018427387000):p.HZ:=by
 have hf:=Ve h hs
 rw[← Cj]at h
 unfold Pg.FR at h
 split at h
 ·cases h
 refine⟨hf.sz,hf.uv,hf.nY,fun f m=>?_⟩
 obtain⟨_,n,e⟩:=GO h m
 rw[(tB e).2]at e
 have:=Pc.dd m
 simp only[Pg.size]at hs
 exact uW f.body 1 n e (by unfold Pc.size at this;omega)
set_option maxRecDepth 8000
open Go.Proofs
theorem Vm (x:It):(fA x)[1]? = some (.int .i64 x.s.kind):=nd rfl
theorem Vn (x:It):(fA x)[3]? = some (.str x.s.name):=nd rfl
theorem Vo (x:It):(fA x)[4]? = some (.str x.s.proc):=nd rfl
theorem Zw (x:It):List.take 16 (fA x)=fA x:=nd rfl
attribute [go_sem] Vm Vn Vo Zw
end Go.Abs
namespace Go.Abs
set_option maxRecDepth 8000
open Go.Proofs
def EK:List Pm→List Ar→Bool
 | [],_=>true
 |_,[]=>true
 |a::l,b::m=>if a.ref==b.ref then EK l m else false
def Cn (l:List Pm) (m:List Ar):Bool:=if(l.length:Int)==(m.length:Int)then EK l m else false
def Sm.qq (p:Pg) (v:Sm):Bool:=v.kind==4 && match p.find v.proc with|none=>false|some q=>Cn q.params v.args
theorem ac9 {l:List Pm} {m:List Ar} (hl:l.length<1000000000) (hm:m.length<1000000000) (s:St):aF Tryz.prog vG [.slice .shared 2 (l.map iG), .slice .shared 6 (m.map ew)] s (.bool (Cn l m)) s:=by
 refine aF.pure ?_ (by simp[D.bL,D.ok,Tag.ok,afr,HU]) rfl s
 generalize h:Cn l m=q
 simp only[Cn]at h
 unfold S0
 have b0:((l.length:Int) != (m.length:Int)) = !((l.length:Int)==(m.length:Int)):=rfl
 rcases Bool.eq_false_or_eq_true ((l.length:Int)==(m.length:Int))with b1|b1
 case inr=>
  rw[b1]at b0
  simp only[b1,Bool.false_eq_true,if_false]at h
  subst h
  refine aF.go yp rfl fun B Q hB hQ=>?_
  have⟨hD,hY,hZ,gA⟩:=bP
  repeat' (first
 |simp only[go_sem,hD,hY,hZ,gA,b0,Bool.not_false]
 |(with_reducible refine aD hQ ?_;exact bb))
 rw[b1]at b0
 simp only[b1,if_true]at h
 have XO:l.length=m.length:=by have:=eq_of_beq b1;omega
 refine aF.go yp rfl fun B Q hB hQ=>?_
 have⟨hD,hY,hZ,gA⟩:=bP
 repeat' (first
 |simp only[go_sem,hD,hY,hZ,gA,b0,Bool.not_true]
 |(with_reducible refine aD hQ ?_;exact bb))
 refine fa 0 0 (bl.ind (ι:=List Pm×List Ar×Nat) (fun i=>l.drop i.2.2=i.1∧m.drop i.2.2=i.2.1∧EK i.1 i.2.1=q) (fun i=>i.1.length)
  (fun i=> [(1, .slice .shared 6 (m.map ew)),(12, .slice .shared 2 (l.map iG)),(13, .int .i64 (l.length:Int)),(14, .int .i64 (i.2.2:Int))]) (fun i=>⟨[],[]⟩) ?_ (l,m,0) ⟨rfl,rfl,h⟩)
 rintro⟨r1,r2,k⟩ ⟨h1,h2,h⟩ IH
 dsimp only at h1 h2 h
 cases r1 with
 |nil=>
  have hD:=drop_nil h1
  simp only[EK]at h
  subst h
  repeat' (first
 |simp only[go_sem,hD,hY,hZ,gA]
 |(with_reducible refine aD hQ ?_;exact bb))
 | cons a r1=>
  obtain⟨hY,g2,hD,g4⟩:=drop_cons h1
  cases r2 with
  |nil=>have:=List.drop_eq_nil_iff.1 h2;omega
  | cons b r2=>
   obtain⟨XP,b2,O5,_⟩:=drop_cons h2
   have bO:k<4611686018427387904:=by omega
   simp only[EK]at h
   have w1:(true==true)=true:=rfl
   have w2:(false==false)=true:=rfl
   have w3:(true==false)=false:=rfl
   have w4:(false==true)=false:=rfl
   have v1:(true != true)=false:=rfl
   have v2:(false != false)=false:=rfl
   have v3:(true != false)=true:=rfl
   have v4:(false != true)=true:=rfl
   rcases Bool.eq_false_or_eq_true a.ref with ea|ea
   ·rcases Bool.eq_false_or_eq_true b.ref with eb | eb
    ·simp only [ea,eb,w1,w2,if_true]at h
     repeat' (first
 |simp only[go_sem,hD,hY,hZ,gA,XP,O5,ea,eb,w1,w2,v1,v2]
 | (with_reducible refine aD hQ ?_;exact bb))
     refine eO 0 0 ?_ ?_ (IH (r1,r2,k+1) ⟨g2,b2,h⟩ (Nat.lt_succ_self _))
     ·(simp only[go_sem,hD,hY,hZ,gA,aI bO];try exact bW)
     ·(simp only[go_sem,hD,hY,hZ,gA,aI bO];try exact bW)
    ·simp only [ea,eb,w3,w4,Bool.false_eq_true,if_false]at h
     subst h
     repeat' (first
 |simp only[go_sem,hD,hY,hZ,gA,XP,O5,ea,eb,w3,w4,v3,v4]
 | (with_reducible refine aD hQ ?_;exact bb))
   ·rcases Bool.eq_false_or_eq_true b.ref with eb | eb
    ·simp only [ea,eb,w3,w4,Bool.false_eq_true,if_false]at h
     subst h
     repeat' (first
 |simp only[go_sem,hD,hY,hZ,gA,XP,O5,ea,eb,w3,w4,v3,v4]
 | (with_reducible refine aD hQ ?_;exact bb))
    ·simp only [ea,eb,w1,w2,if_true]at h
     repeat' (first
 |simp only[go_sem,hD,hY,hZ,gA,XP,O5,ea,eb,w1,w2,v1,v2]
 |(with_reducible refine aD hQ ?_;exact bb))
     refine eO 0 0 ?_ ?_ (IH (r1,r2,k+1) ⟨g2,b2,h⟩ (Nat.lt_succ_self _))
     ·(simp only[go_sem,hD,hY,hZ,gA,aI bO];try exact bW)
     ·(simp only[go_sem,hD,hY,hZ,gA,aI bO];try exact bW)
theorem ada {p:Pg} {v:Sm} (h:p.iM) (hv:v.nw) (s:St):aF Tryz.prog vD [.agg (cu p), .agg (bd v)] s (.bool (v.qq p)) s:=by
 refine aF.pure ?_ (by simp[D.bL,D.ok,jc,qD]) rfl s
 obtain⟨rj,qU,qT⟩:=h.procs
 have yf:v.args.length<1000000000:=by have:=Ar.eB v.args;have:=hv.2.2;omega
 generalize hR:v.qq p=R
 simp only[Sm.qq]at hR
 unfold S0
 have b0:(v.kind != 4) = !(v.kind==4):=rfl
 rcases Bool.eq_false_or_eq_true (v.kind==4)with b1|b1
 case inr=>
  rw[b1]at b0
  simp only[b1,Bool.false_and]at hR
  subst hR
  refine aF.go yu rfl fun B Q hB hQ=>?_
  have⟨hD,hY,hZ,gA⟩:=bP
  repeat' (first
 |simp only[go_sem,hD,hY,hZ,gA,b0,Bool.not_false]
 |(with_reducible refine aD hQ ?_;exact bb))
 rw[b1]at b0
 simp only[b1,Bool.true_and,Pg.find]at hR
 refine aF.go yu rfl fun B Q hB hQ=>?_
 have⟨hD,hY,hZ,gA⟩:=bP
 repeat' (first
 |simp only[go_sem,hD,hY,hZ,gA,b0,Bool.not_true]
 |(with_reducible refine aD hQ ?_;exact bb))
 refine fa 2 0 (bl.ind (ι:=List Pc×Nat) (fun i=>p.procs.drop i.2=i.1∧(match iT v.proc i.1 with|none=>false|some q=>Cn q.params v.args)=R) (fun i=>i.1.length)
  (fun i=> [(3, .ptr 1 0),(11, .slice .shared 5 (p.procs.map cq)),(12, .int .i64 (p.procs.length:Int)),(13, .int .i64 (i.2:Int))]) (fun i=>⟨[cu p,bd v],[]⟩) ?_ (p.procs,0) ⟨rfl,hR⟩)
 clear hR
 rintro⟨rest,k⟩ ⟨h1,hR⟩ IH
 dsimp only at h1 hR
 cases rest with
 |nil=>
  have hD:=drop_nil h1
  simp only[iT]at hR
  subst hR
  repeat' (first
 |simp only[go_sem,hD,hY,hZ,gA]
 |(with_reducible refine aD hQ ?_;exact bb))
 | cons a rest=>
  obtain⟨hY,g2,hD,g4⟩:=drop_cons h1
  have bO:k<4611686018427387904:=by omega
  have vQ:=h.small (List.mem_of_getElem? hY)
  have XJ:=fun s=>ac9 (l:=a.params) (m:=v.args) (by have:=vQ.par;omega) yf s
  simp only[iT]at hR
  rcases Bool.eq_false_or_eq_true (a.name==v.proc)with c1|c1
  ·simp only [c1,if_true]at hR
   subst hR
   repeat' (first
 |simp only[go_sem,hD,hY,hZ,gA,c1]
 |(with_reducible refine CU (XJ _) ?_)
 | (with_reducible refine aD hQ ?_;exact bb))
  ·simp only [c1,Bool.false_eq_true,if_false]at hR
   repeat' (first
 |simp only[go_sem,hD,hY,hZ,gA,c1]
 | (with_reducible refine aD hQ ?_;exact bb))
   refine eO 2 0 ?_ ?_ (IH (rest,k+1) ⟨g2,hR⟩ (Nat.lt_succ_self _))
   ·(simp only[go_sem,hD,hY,hZ,gA,aI bO];try exact bW)
   ·(simp only[go_sem,hD,hY,hZ,gA,aI bO];try exact bW)
def JO (p:Pg):List Sm→Option Sm
 | []=>none
 |v::l=>if v.kind==4 && !(v.qq p)then some v else JO p l
def qh (c:Int):Option Sm→Int×Int
 |some v=>(c,v.id)
 |none=>(0,0)
def Pg.arity (p:Pg):Int×Int:=if p.scope.1==0 then qh 6 (JO p p.pre)else(1,0)
theorem Pg.iM.pre {p:Pg} (h:p.iM) : ∀ v∈p.pre,v.nw:=fun v m=>by
 simp only[Pg.pre,List.mem_flatten,List.mem_map]at m
 obtain⟨l,⟨f,hf,rfl⟩,m⟩:=m
 exact h.said hf v m
theorem JP {p:Pg} (h:p.iM) (s:St):aF Tryz.prog qo [.agg (cu p)] s (.agg [.int .i64 p.arity.1, .int .i64 p.arity.2]) s:=by
 refine aF.pure ?_ (by simp[D.bL,D.ok,jc]) rfl s
 obtain⟨rj,qU,qT⟩:=h.procs
 have pI:=fun s=>vP h s
 have dh:=fun s=>Cf (p:=p) (by omega) s
 have hL:=(kx p).1
 have wW:=pf p
 generalize hR:p.arity=R
 simp only[Pg.arity]at hR
 unfold S0
 have b0:(p.scope.1 != 0) = !(p.scope.1==0):=rfl
 rcases Bool.eq_false_or_eq_true (p.scope.1==0)with b1|b1
 case inr=>
  rw[b1]at b0
  simp only[b1,Bool.false_eq_true,if_false]at hR
  subst hR
  refine aF.go wI rfl fun B Q hB hQ=>?_
  have⟨hD,hY,hZ,gA⟩:=bP
  repeat' (first
 |simp only[go_sem,hD,hY,hZ,gA,b0,Bool.not_false]
 |(with_reducible refine CU (pI _) ?_)
 |(with_reducible refine aD hQ ?_;exact bb))
 rw[b1]at b0
 simp only[b1,if_true, ← hL]at hR
 refine aF.go wI rfl fun B Q hB hQ=>?_
 have⟨hD,hY,hZ,gA⟩:=bP
 repeat' (first
 |simp only[go_sem,hD,hY,hZ,gA,b0,Bool.not_true,nZ]
 |(with_reducible refine CU (pI _) ?_)
 |(with_reducible refine CU (dh _) ?_)
 |(with_reducible refine aD hQ ?_;exact bb))
 refine fa 2 0 (bl.ind (ι:=List Im×Nat) (fun i=>p.aX.L.drop i.2=i.1∧qh 6 (JO p (i.1.map Im.s))=R) (fun i=>i.1.length)
  (fun i=> [(1, .ptr 0 0),(2, .ptr 1 0),(14, .slice .shared 17 (p.aX.L.map dt)),(15, .int .i64 (p.aX.L.length:Int)),(16, .int .i64 (i.2:Int))]) (fun i=>⟨[cu p,[.int .i64 0, .int .i64 0]],[]⟩) ?_ (p.aX.L,0) ⟨rfl,hR⟩)
 clear hR
 rintro⟨rest,k⟩ ⟨h1,hR⟩ IH
 dsimp only at h1 hR
 cases rest with
 |nil=>
  have hD:=drop_nil h1
  simp only[List.map_nil,JO,qh]at hR
  subst hR
  repeat' (first
 |simp only[go_sem,hD,hY,hZ,gA]
 |(with_reducible refine aD hQ ?_;exact bb))
 | cons a rest=>
  obtain⟨hY,g2,hD,g4⟩:=drop_cons h1
  have bO:k<4611686018427387904:=by omega
  have EJ:a.s∈p.pre:=by rw[← hL];exact List.mem_map_of_mem (List.mem_of_getElem? hY)
  have LW:=fun s=>ada h (h.pre _ EJ) s
  simp only[List.map_cons,JO]at hR
  rcases Bool.eq_false_or_eq_true (a.s.kind==4)with c1|c1
  ·rcases Bool.eq_false_or_eq_true (a.s.qq p)with c2 | c2
   ·simp only [c1,c2,Bool.not_true,Bool.and_false,Bool.false_eq_true,if_false]at hR
    repeat' (first
 |simp only[go_sem,hD,hY,hZ,gA,c1,c2]
 |(with_reducible refine CU (LW _) ?_)
 | (with_reducible refine aD hQ ?_;exact bb))
    refine eO 2 0 ?_ ?_ (IH (rest,k+1) ⟨g2,hR⟩ (Nat.lt_succ_self _))
    ·(simp only[go_sem,hD,hY,hZ,gA,aI bO];try exact bW)
    ·(simp only[go_sem,hD,hY,hZ,gA,aI bO];try exact bW)
   ·simp only [c1,c2,Bool.not_false,Bool.and_true,if_true,qh]at hR
    subst hR
    repeat' (first
 |simp only[go_sem,hD,hY,hZ,gA,c1,c2]
 |(with_reducible refine CU (LW _) ?_)
 | (with_reducible refine aD hQ ?_;exact bb))
  ·simp only [c1,Bool.false_and,Bool.false_eq_true,if_false]at hR
   repeat' (first
 |simp only[go_sem,hD,hY,hZ,gA,c1]
 |(with_reducible refine CU (LW _) ?_)
 | (with_reducible refine aD hQ ?_;exact bb))
   refine eO 2 0 ?_ ?_ (IH (rest,k+1) ⟨g2,hR⟩ (Nat.lt_succ_self _))
   ·(simp only[go_sem,hD,hY,hZ,gA,aI bO];try exact bW)
   ·(simp only[go_sem,hD,hY,hZ,gA,aI bO];try exact bW)
theorem BG {p:Pg} (h:(p.scope.1==0)=true):p.may=true:=by
 unfold Pg.scope at h
 split at h
 ·assumption
 ·cases h
def nz (out:List aG):List aG→aG→Bool→aG×Bool
 | [],c,a=>(c,a)
 |s::l,c,a=>if !(fu out s) && (!a ||bytesLess s c)then nz out l s true else nz out l c a
def RY (l out:List aG):List aG:=if(nz out l [] false).2 then out++ [(nz out l [] false).1]else out
def pG (l:List aG):Nat→List aG→List aG
 | 0,out=>out
 |n+1,out=>pG l n (RY l out)
def km (l:List aG):List aG:=pG l l.length []
end Go.Abs
namespace Go.Proofs
open Go.Shelf
def Tryz.Li:Go.Shelf.Ren:=⟨fun| 190=>173| 125=>194| 258=>193| 128=>217| 129=>218| 302=>208| 303=>209| 304=>210| 305=>211| 306=>212| 307=>213| 308=>214| 309=>215| 310=>216| 333=>224| 329=>225| 330=>226| 334=>227| 335=>228| 336=>229| 344=>230|n=>n,fun| 31=>22| 9=>9| 3=>3| 46=>208| 0=>0| 51=>227| 53=>194| 4=>4| 183=>220| 182=>219| 131=>139| 5=>5| 218=>231| 222=>235| 228=>237| 229=>238|n=>n,fun|n=>n⟩
theorem Tryz.LX:Go.Proofs.Lays.n190 Tryz.prog Tryz.Li:= {
 mixed:=by kernel_rfl
 f125:=Tryz.func194.trans (congrArg some (by kernel_rfl))
 f128:=Tryz.func217.trans (congrArg some (by kernel_rfl))
 f129:=Tryz.func218.trans (congrArg some (by kernel_rfl))
 f190:=Tryz.func173.trans (congrArg some (by kernel_rfl))
 f258:=Tryz.func193.trans (congrArg some (by kernel_rfl))
 f302:=Tryz.func208.trans (congrArg some (by kernel_rfl))
 f303:=Tryz.func209.trans (congrArg some (by kernel_rfl))
 f304:=Tryz.func210.trans (congrArg some (by kernel_rfl))
 f305:=Tryz.func211.trans (congrArg some (by kernel_rfl))
 f306:=Tryz.func212.trans (congrArg some (by kernel_rfl))
 f307:=Tryz.func213.trans (congrArg some (by kernel_rfl))
 f308:=Tryz.func214.trans (congrArg some (by kernel_rfl))
 f309:=Tryz.func215.trans (congrArg some (by kernel_rfl))
 f310:=Tryz.func216.trans (congrArg some (by kernel_rfl))
 f329:=Tryz.func225.trans (congrArg some (by kernel_rfl))
 f330:=Tryz.func226.trans (congrArg some (by kernel_rfl))
 f333:=Tryz.func224.trans (congrArg some (by kernel_rfl))
 f334:=Tryz.func227.trans (congrArg some (by kernel_rfl))
 f335:=Tryz.func228.trans (congrArg some (by kernel_rfl))
 f336:=Tryz.func229.trans (congrArg some (by kernel_rfl))
 f344:=Tryz.func230.trans (congrArg some (by kernel_rfl))
 t0:=Tryz.underlying0
 a0:=Tryz.isAgg0
 z0:=Tryz.sizeOf0
 v0:=Tryz.zeroValue0
 t3:=Tryz.underlying3
 a3:=Tryz.isAgg3
 z3:=Tryz.sizeOf3
 v3:=Tryz.zeroValue3
 t4:=Tryz.underlying4
 a4:=Tryz.isAgg4
 z4:=Tryz.sizeOf4
 v4:=Tryz.zeroValue4
 t5:=Tryz.underlying5
 a5:=Tryz.isAgg5
 z5:=Tryz.sizeOf5
 v5:=Tryz.zeroValue5
 t9:=Tryz.underlying9
 a9:=Tryz.isAgg9
 z9:=Tryz.sizeOf9
 v9:=Tryz.zeroValue9
 t31:=Tryz.underlying22
 a31:=Tryz.isAgg22
 z31:=Tryz.sizeOf22
 v31:=Tryz.zeroValue22
 t46:=Tryz.underlying208
 a46:=Tryz.isAgg208
 z46:=Tryz.sizeOf208
 v46:=Tryz.zeroValue208
 t51:=Tryz.underlying227
 a51:=Tryz.isAgg227
 z51:=Tryz.sizeOf227
 v51:=Tryz.zeroValue227
 t53:=Tryz.underlying194
 a53:=Tryz.isAgg194
 z53:=Tryz.sizeOf194
 v53:=Tryz.zeroValue194
 t131:=Tryz.underlying139
 a131:=Tryz.isAgg139
 z131:=Tryz.sizeOf139
 v131:=Tryz.zeroValue139
 t182:=Tryz.underlying219
 a182:=Tryz.isAgg219
 z182:=Tryz.sizeOf219
 v182:=Tryz.zeroValue219
 t183:=Tryz.underlying220
 a183:=Tryz.isAgg220
 z183:=Tryz.sizeOf220
 v183:=Tryz.zeroValue220
 t218:=Tryz.underlying231
 a218:=Tryz.isAgg231
 z218:=Tryz.sizeOf231
 v218:=Tryz.zeroValue231
 t222:=Tryz.underlying235
 a222:=Tryz.isAgg235
 z222:=Tryz.sizeOf235
 v222:=Tryz.zeroValue235
 t228:=Tryz.underlying237
 a228:=Tryz.isAgg237
 z228:=Tryz.sizeOf237
 v228:=Tryz.zeroValue237
 t229:=Tryz.underlying238
 a229:=Tryz.isAgg238
 z229:=Tryz.sizeOf238
 v229:=Tryz.zeroValue238}
open Go.Sort Go.RowKit in
theorem Tryz.slices_Sort_string (BH off cap:Nat) (ss:List (List UInt8)) (w:World) (hH:Holds encStr w BH off ss.toArray) (anI:BH<w.heap.size) (dM:ss.length<4611686018427387904) :
 Calls Tryz.prog 173 #[.slice (some ⟨BH,off,none⟩) ss.length cap] w fun e w'=>
  e = .returned (.tuple #[])∧∃ n os,w'=grow (putRow encStr (Sort.ahead w n) BH off (ss.mergeSort fun x y=>decide (x≤y)).toArray) os:=Any.slices_Sort_string Tryz.LX BH off cap ss w hH anI dM
def Tryz.Lj:Go.Shelf.Ren:=⟨fun| 194=>174|n=>n,fun| 31=>22| 9=>9| 3=>3| 4=>4| 0=>0|n=>n,fun|n=>n⟩
theorem Tryz.LY:Go.Proofs.Lays.n194 Tryz.prog Tryz.Lj:= {
 mixed:=by kernel_rfl
 f194:=Tryz.func174.trans (congrArg some (by kernel_rfl))
 t0:=Tryz.underlying0
 a0:=Tryz.isAgg0
 z0:=Tryz.sizeOf0
 v0:=Tryz.zeroValue0
 t3:=Tryz.underlying3
 a3:=Tryz.isAgg3
 z3:=Tryz.sizeOf3
 v3:=Tryz.zeroValue3
 t4:=Tryz.underlying4
 a4:=Tryz.isAgg4
 z4:=Tryz.sizeOf4
 v4:=Tryz.zeroValue4
 t9:=Tryz.underlying9
 a9:=Tryz.isAgg9
 z9:=Tryz.sizeOf9
 v9:=Tryz.zeroValue9
 t31:=Tryz.underlying22
 a31:=Tryz.isAgg22
 z31:=Tryz.sizeOf22
 v31:=Tryz.zeroValue22}
open Go.RowKit Go.Lib Go.Sort in
theorem Tryz.slices_Compact_string (BH off cap:Nat) (zs:List (List UInt8)) (w:World) (hH:Holds encStr w BH off zs.toArray) (dM:zs.length≤9223372036854775807) (tU:zs.length≤cap) :
 Calls Tryz.prog 174 #[.slice (some ⟨BH,off,none⟩) zs.length cap] w fun e w'=>e = .returned (.slice (some ⟨BH,off,none⟩) (Lib.compact zs).length cap)∧∃ q,w'=putRow encStr (Sort.ahead w q) BH off (Lib.compact zs++List.replicate (zs.length - (Lib.compact zs).length) []).toArray:=Any.slices_Compact_string Tryz.LY BH off cap zs w hH dM tU
open Go.RowKit Go.Lib Go.Sort in
theorem Tryz.slices_Compact_string_empty (a:Option Addr) (cap:Nat) (w:World) :
 Calls Tryz.prog 174 #[.slice a 0 cap] w fun e w'=>e = .returned (.slice a 0 cap)∧w'=w:=Any.slices_Compact_string_empty Tryz.LY a cap w
open Go.RowKit Go.Sort in
theorem Tryz.slices_Sort_string_none (p:Option Addr) (cap:Nat) (w:World) :
 Calls Tryz.prog 173 #[.slice p 0 cap] w fun e w'=>e = .returned (.tuple #[])∧w'=w:=Any.slices_Sort_string_none Tryz.LX p cap w
end Go.Proofs
namespace Go.Abs
open Go.Proofs
section
variable {P:Program} {B:fU} {nt:Nat}
theorem Zx {x:Operand} {t:Nat} (h:cX x=some (.s t)):x = .tmp t:=by
 unfold cX at h
 split at h
 ·cases h;rfl
 ·obtain⟨d,_,h⟩:=map_some h;cases h
 ·cases h
 ·cases h
theorem O7 {ops:Array Oper} {o:Oper} {g g':Option (Nat×Bool)} {dst:Option Nat} {f:Nat} {xs:List X} (h:sD P ops o g=some (.call dst g' f xs)) :
 g'=g∧∃ args mK,o.op = .call ⟨.value (.func f),args,mK⟩∧enters P f=true∧xR args.toList=some xs:=by
 unfold sD at h
 split at h
 ·rename_i f' args mK mJ
  split at h
  ·rename_i he
   obtain⟨xs',h1,h2⟩:=map_some h
   cases h2
   exact⟨rfl,args,mK,mJ,he,h1⟩
  ·cases h
 ·obtain⟨_,_,h⟩:=map_some h;cases h
 ·split at h
  ·cases h
  ·split at h<;>cases h
theorem RZ {ops:Array Oper} {o:Oper} {tmps:Array Value} (hg:vj ops o.guard=some none):Region.wanted o (yielded ops tmps)=true:=by
 have:o.guard=none:=by
  cases Ge:o.guard with
  |none=>rfl
  |some p=>
   obtain⟨j,b⟩:=p
   rw[Ge]at hg
   unfold vj at hg
   simp only at hg
   split at hg<;>cases hg
 simp[Region.wanted,this]
theorem Sem.ade {a k b f:Nat} {is:List AI} {Q:Exit→Tm→St→Prop} {tm:Tm} {s:St}
 (O8 : ∀ act w,Holds B nt (tm.put (some a) (tm.get k)) s act w→Calls P f #[act.tmps.getD a Go.undef] w fun e w'=>∃ v,e = .returned v∧∃ bu s',Holds B nt bu s' (act.put (some b) v) w'∧iY P is (Q .normal) bu s') :
 Sem P B nt (.run (.op (some a) none (.mv (.s k)):: .call (some b) none f [.s a]::is)) Q tm s:=by
 intro c hc act w hh
 obtain⟨id,ops,rfl,hi⟩:=lF hc
 refine wp_region ?_
 have key : ∀ (l:List Nat) (ol:List Oper),l.map (ops[·]?)=ol.map some→q5 P nt ops ol=some (.op (some a) none (.mv (.s k)):: .call (some b) none f [.s a]::is)→wpOps P ops (pP B nt Q) l act w:=by
  intro l ol hl xl
  match ol,l,hl with
  | [],_,_=>simp[q5]at xl
  |o0::ol,[],hl=>simp at hl
  | o0::ol,j0::l,hl=>
   simp only[List.map_cons,List.cons.injEq]at hl
   obtain⟨hj0,hl⟩:=hl
   unfold q5 at xl
   split at xl
   ·rename_i i0 is0 h1 h2
    cases xl
    match ol,l,hl,h2 with
    | [],_,_,h2=>simp[q5]at h2
    |o1::ol,[],hl,_=>simp at hl
    | o1::ol,j1::l,hl,h2=>
     simp only[List.map_cons,List.cons.injEq]at hl
     obtain⟨hj1,hl⟩:=hl
     unfold q5 at h2
     split at h2
     ·rename_i i1 is1 h3 h4
      cases h2
      obtain⟨M,e,r,ht,hn,hd⟩:=hh
      have Gy:=tj h1
      have GQ:=tj h3
      simp only[AI.dst]at Gy GQ
      refine xk (K':=fun bu s'=>bu=tm.put (some a) (tm.get k)∧s'=s) hj0 h1 r (B.laid.ext e) ht (by simp only[iY,guarded,aJ,X.ev,and_self]) (fun d v s1 w1 M1 hk e1 r1 hv=>?_)
      obtain⟨wj,rfl⟩:=hk
      have hH:=Holds.put e ht hn hd (x9 h1) e1 r1 hv
      simp only[AI.dst]at wj
      rw[← Gy]at hH ⊢
      rw[wj]at hH
      obtain⟨g,hg,_,hb⟩:=Be h3
      obtain⟨rfl,args,mK,mJ,yV,oM⟩:=O7 hb
      simp only[wpOps,hj1,RZ hg,if_true]
      left
      have anJ:args.map (act.put (some a) v).eval = #[(act.put (some a) v).tmps.getD a Go.undef]:=by
       have:args.toList = [.tmp a]:=by
        match hA:args.toList with
        | []=>rw[hA]at oM;simp[xR]at oM
        | [x]=>
         rw[hA]at oM
         simp only[xR]at oM
         split at oM
         ·rename_i x' r' hx hr
          cases oM
          rw[Zx hx]
         ·cases oM
        | x::y::z=>
         rw[hA]at oM
         simp only[xR]at oM
         split at oM
         ·rename_i x' r' hx hr
          cases oM
          split at hr
          ·cases hr
          ·cases hr
         ·cases oM
       have:args = #[.tmp a]:=by rw[← Array.toArray_toList (xs:=args),this]
       rw[this]
       simp only[List.map_toArray,List.map_cons,List.map_nil]
       rfl
      have hex:(execOp (act.put (some a) v).eval o1).run P w1 = .ok (.enter f #[(act.put (some a) v).tmps.getD a Go.undef]) w1:=by
       obtain⟨dst,op,type,pos,after,guard⟩:=o1
       simp only at mJ
       subst mJ
       rw[← anJ]
       exact xf (act.put (some a) v).eval dst f args mK type pos after guard rfl yV w1
      unfold Oper.wp
      rw[hex,Oper.upon_enter]
      refine(O8 _ _ hH).mono ?_
      rintro en w' ⟨v',rfl,bu,s',hH',hvc⟩
      rw[← GQ]
      exact Ba (Q:=Q) l ol _ hl h4 bu s' _ w' hvc hH'
     ·cases h2
   ·cases xl
 exact key _ _ (Bb ops) hi
theorem GR (hB:B.s = ⟨[],[]⟩) {tm:Tm} {s:St} {act:Act} {w:World} (h:Holds B nt tm s act w) {t:Nat} {l:List aG} (ht:s.aw[t]? = some (some l.length)) {k0:Nat} (hk0:tm.get k0 = .slice (.tok t) 1 (l.map encStr)) :
 (l = []∧∀ k,tm.get k = .slice (.tok t) 1 (l.map encStr)→(act.tmps.getD k Go.undef = .slice none 0 0∨∃ b q,act.tmps.getD k Go.undef = .slice (some ⟨b,q,none⟩) 0 0))∨
 ∃ (b cap:Nat) (vs:Array Value) (T:TypeId),(∀ k,tm.get k = .slice (.tok t) 1 (l.map encStr)→act.tmps.getD k Go.undef = .slice (some ⟨b,0,none⟩) l.length cap)∧l.length≤cap∧w.heap[b]? = some (.cells vs T (0,0))∧vs.size=cap∧B.w.heap.size≤b∧
  ∀ j (hj:j<l.length),vs[j]? = some (.string ⟨⟨l[j]⟩⟩):=by
 obtain⟨M,e,r,hr,_,_⟩:=h
 rcases r.tok t _ ht with ⟨h3,h4⟩|⟨b,cap,z,vs,T,h3,h4,h5,h6,h7⟩
 ·have hl:l = []:=List.eq_nil_of_length_eq_zero h4
  subst hl
  refine .inl ⟨rfl,fun k hk=>?_⟩
  have hv:=hr k
  rw[hk]at hv
  generalize act.tmps.getD k Go.undef=v at hv
  cases hv with
  |iK _ _ cap hc pK=>subst hc;exact .inl rfl
  |slice _ _ _ b q cap hl hs h1 h2 pK=>
   rcases(pK.2 _ ht).2 rfl with ⟨_,h0,_⟩|⟨b',_,kN⟩
   ·subst h0;exact .inr ⟨b,q,rfl⟩
   ·rw[h3]at kN;cases kN
 ·right
  have each : ∀ k,tm.get k = .slice (.tok t) 1 (l.map encStr)→z=1∧act.tmps.getD k Go.undef = .slice (some ⟨b,0,none⟩) l.length cap∧l.length≤cap∧∀ j (hj:j<l.length),∃ u,M.G b j=some u∧RD M s (.str l[j]) u:=by
   intro k hk
   have hv:=hr k
   rw[hk]at hv
   generalize act.tmps.getD k Go.undef=v at hv
   generalize ki:l.map encStr=rows at hv
   cases hv with
   |iK _ _ cap hc pK=>
    have hl:l = []:=by cases l<;>simp at ki;rfl
    subst hl
    rcases(pK.2 _ ht).2 rfl with ⟨h0,_⟩|⟨b',h0,_⟩
    ·rw[h3]at h0;cases h0
    ·cases h0
   | slice _ _ _ b2 q avO hl hs h1 h2 pK=>
    subst ki
    rw[List.length_map]at hl pK
    rcases(pK.2 _ ht).2 rfl with ⟨h0,_⟩|⟨b',hb,kN⟩
    ·rw[h3]at h0;cases h0
    ·cases hb
     rw[h3]at kN
     cases kN
     refine⟨rfl,by rw[List.length_map],hl,fun j hj=>?_⟩
     have e1:(l.map encStr)[j]? = some [.str l[j]]:=by rw[List.getElem?_map,List.getElem?_eq_getElem hj];rfl
     obtain⟨u,hu⟩:=h1 j _ 0 _ e1 rfl
     refine⟨u,by simpa using hu,h2 j _ 0 _ u e1 rfl hu⟩
  obtain⟨rfl,_,tU,mg⟩:=each k0 hk0
  have dh:B.w.heap.size≤b:=by
   rcases e.qu t b cap 1 ⟨_,ht⟩ h3 with ⟨⟨n,hn⟩,_⟩|h
   ·rw[hB]at hn;simp at hn
   ·exact h
  refine⟨b,cap,vs,T,fun k hk=>(each k hk).2.1,tU,h4,by simpa[zs]using h5,dh,fun j hj=>?_⟩
  obtain⟨u,hu,jt⟩:=mg j hj
  have:=(r.comm _ _ _ hu).1
  rw[jh h4,jt.lr]at this
  exact this
theorem JQ (hB:B.s = ⟨[],[]⟩) {tm:Tm} {s:St} {act uw:Act} {w w':World} (h:Holds B nt tm s act w) {b cap:Nat} {vs:Array Value} {T:TypeId} (dM:vs.size=cap) (wE:B.w.heap.size≤b)
 (lZ : ∀ q,q<B.w.heap.size→w'.heap[q]? = w.heap[q]?) (dY:w'.heap[b]? = some (.cells vs T (0,0))) (uC:w.heap.size≤w'.heap.size) (uD:w'.os=w.os) (D7:w'.tape=w.tape) (Fo:w'.output=w.output)
 {l:List aG} (hl:l.length≤cap) (mg : ∀ j (hj:j<l.length),vs[j]? = some (.string ⟨⟨l[j]⟩⟩)) {k:Nat} (O9:uw.tmps.getD k Go.undef = .slice (some ⟨b,0,none⟩) l.length cap) (hn:uw.tmps.size=nt) (hd:uw.defers = []) :
 Holds B nt [(k, .slice (.tok 0) 1 (l.map encStr))] ⟨[],[some l.length]⟩ uw w':=by
 obtain⟨M,e,r,hr,_,_⟩:=h
 let M':Map:=⟨fun q o=>if q=b then(if o<l.length then(l[o]?).map fun x=>Value.string ⟨⟨x⟩⟩else none)else B.M.G q o,B.M.loc,fun _=>some (b,cap,1)⟩
 have hGb : ∀ q o v,B.M.G q o=some v→q<B.w.heap.size∧w'.cell? ⟨q,o,none⟩=some v∧v.oneCell'=true:=by
  intro q o v hq
  obtain⟨h1,h2⟩:=r.comm q o v (e.le.G q o v hq)
  have hD:=B.CP q o v hq
  refine⟨hD, ?_,h2⟩
  rw[← h1]
  simp[World.cell?,lZ q hD]
 have iE : ∀ j (hj:j<l.length),w'.cell? ⟨b,j,none⟩=some (.string ⟨⟨l[j]⟩⟩):=fun j hj=>by rw[jh dY];exact mg j hj
 have hY : ∀ (j:Nat) v,(if j<l.length then(l[j]?).map fun x=>Value.string ⟨⟨x⟩⟩else none)=some v→∃ hj:j<l.length,v = .string ⟨⟨l[j]⟩⟩:=by
  intro j v hv
  split at hv
  ·rename_i hj
   rw[List.getElem?_eq_getElem hj]at hv
   exact⟨hj,by simpa using hv.symm⟩
  ·cases hv
 refine⟨M',⟨⟨fun q o v hq=>?_,by simp[hB],fun o ho=> .refl _,by rw[hB];exact Nat.zero_le _,fun t n' ht _=>by rw[hB]at ht;exact absurd ht (Nat.not_lt_zero _)⟩,fun q hq _ _=>?_,fun o _ h2=>absurd h2 (Nat.not_lt_zero _),fun t q c z _ hb=>?_,fun q o eJ=>?_,Nat.le_trans e.size uC,uD.trans e.os,D7.trans e.tape,Fo.trans e.output⟩,
  ⟨fun q o v hq=>?_,fun o ds ho=>by simp at ho,fun o ho=>absurd ho (Nat.not_lt_zero _),fun o o' ho=>absurd ho (Nat.not_lt_zero _),fun t n ht=>?_,fun t q c z o _ _ ho=>absurd ho (Nat.not_lt_zero _),fun t t' q c z c' z' uK iL _ _=>?_⟩,fun u=>?_,hn,hd⟩
 ·show(if q=b then _ else B.M.G q o)=some v
  rw[if_neg (by have:=(hGb q o v hq).1;omega)]
  exact hq
 ·rw [lZ q hq]
  exact e.kept q hq (fun o ho=>by rw[hB]at ho;exact absurd ho (Nat.not_lt_zero _)) (fun t c z iL=>by rw[hB]at iL;obtain⟨n,Am⟩:=iL;simp at Am)
 ·cases hb;exact .inr wE
 ·by_cases hq:q=b
  ·subst hq;exact .inl wE
  ·exact absurd (show(if q=b then _ else B.M.G q o)=B.M.G q o from if_neg hq) eJ
 ·have mI:(if q=b then(if o<l.length then(l[o]?).map fun x=>Value.string ⟨⟨x⟩⟩else none)else B.M.G q o)=some v:=hq
  by_cases hqb:q=b
  ·rw [if_pos hqb]at mI
   obtain⟨hj,rfl⟩:=hY o v mI
   rw[hqb]
   exact⟨iE o hj,rfl⟩
  ·rw [if_neg hqb]at mI
   exact(hGb q o v mI).2
 ·match t with
  | 0=>
   simp at ht
   subst ht
   refine .inr ⟨b,cap,1,vs,T,rfl,dY,by simp[zs,dM],hl,fun off ho=>?_,fun h=>by cases h⟩
   show(if b=b then(if off<l.length then _ else none)else B.M.G b off)=none
   rw[if_pos rfl,if_neg (by simp[zs]at ho;omega)]
  |t+1=>simp at ht
 ·obtain⟨n1,h1⟩:=uK
  obtain⟨n2,h2⟩:=iL
  have a1:=(List.getElem?_eq_some_iff.1 h1).1
  have a2:=(List.getElem?_eq_some_iff.1 h2).1
  simp at a1 a2
  omega
 ·simp only [Tm.get]
  split
  ·rename_i hku
   subst hku
   rw[O9]
   have:=RD.slice (M:=M') (s:=⟨[],[some l.length]⟩) (.tok 0) 1 (l.map encStr) b 0 cap (by simpa using hl) (fun row hr=>by
    obtain⟨x,_,rfl⟩:=List.mem_map.1 hr;rfl) (fun i row j d e1 e2=>?_) (fun i row j d u e1 e2 eu=>?_) ⟨by simp,fun n Am=>by
    simp at Am
    subst Am
    exact⟨by simp,fun _=> .inr ⟨b,rfl,rfl⟩⟩⟩
   ·simpa using this
   ·rw [List.getElem?_map]at e1
    cases Ae:l[i]? with
    |none=>rw[Ae]at e1;cases e1
    |some x=>
     have qQ:=(List.getElem?_eq_some_iff.1 Ae).1
     rw[Ae]at e1
     cases e1
     have hj:j=0:=by cases j with|zero=>rfl|succ j=>simp[encStr]at e2
     subst hj
     refine⟨.string ⟨⟨x⟩⟩, ?_⟩
     show(if b=b then(if 0+(i*1+0)<l.length then _ else none)else _)=_
     rw[if_pos rfl,if_pos (by omega)]
     simp[Ae]
   ·rw [List.getElem?_map]at e1
    cases Ae:l[i]? with
    |none=>rw[Ae]at e1;cases e1
    |some x=>
     have qQ:=(List.getElem?_eq_some_iff.1 Ae).1
     rw[Ae]at e1
     cases e1
     have hj:j=0:=by cases j with|zero=>rfl|succ j=>simp[encStr]at e2
     subst hj
     have Ej:(if b=b then(if 0+(i*1+0)<l.length then(l[0+(i*1+0)]?).map fun x=>Value.string ⟨⟨x⟩⟩else none)else B.M.G b (0+(i*1+0)))=some u:=eu
     rw[if_pos rfl,if_pos (by omega)]at Ej
     simp[Ae]at Ej
     subst Ej
     simp[encStr]at e2
     subst e2
     exact .str x
  ·exact .junk _
theorem LZ (hB:B.s = ⟨[],[]⟩) {tm:Tm} {s:St} {act uw:Act} {w:World} (h:Holds B nt tm s act w) {k:Nat} (O9:uw.tmps.getD k Go.undef = .slice none 0 0∨∃ b q,uw.tmps.getD k Go.undef = .slice (some ⟨b,q,none⟩) 0 0) (hn:uw.tmps.size=nt) (hd:uw.defers = []) :
 Holds B nt [(k, .slice (.tok 0) 1 (([] : List aG).map encStr))] ⟨[],[some 0]⟩ uw w:=by
 obtain⟨M,e,r,hr,_,_⟩:=h
 let M':Map:=⟨B.M.G,B.M.loc,fun _=>none⟩
 refine⟨M',⟨⟨fun q o v hq=>hq,by simp[hB],fun o ho=> .refl _,by rw[hB];exact Nat.zero_le _,fun t n' ht _=>by rw[hB]at ht;exact absurd ht (Nat.not_lt_zero _)⟩,fun q hq _ _=>?_,fun o _ h2=>absurd h2 (Nat.not_lt_zero _),fun t q c z _ hb=>(by cases hb),fun q o eJ=>absurd rfl eJ,e.size,e.os,e.tape,e.output⟩,
  ⟨fun q o v hq=>r.comm q o v (e.le.G q o v hq),fun o ds ho=>by simp at ho,fun o ho=>absurd ho (Nat.not_lt_zero _),fun o o' ho=>absurd ho (Nat.not_lt_zero _),fun t n ht=>?_,fun t q c z o _ _ ho=>absurd ho (Nat.not_lt_zero _),fun t t' q c z c' z' uK iL h1 _=>by cases h1⟩,fun u=>?_,hn,hd⟩
 ·exact e.kept q hq (fun o ho=>by rw[hB]at ho;exact absurd ho (Nat.not_lt_zero _)) (fun t c z iL=>by rw[hB]at iL;obtain⟨n,Am⟩:=iL;simp at Am)
 ·match t with
  | 0=>simp at ht;subst ht;exact .inl ⟨rfl,rfl⟩
  |t+1=>simp at ht
 ·simp only [Tm.get]
  split
  ·rename_i hku
   subst hku
   have pK : ∀ base,iO M' ⟨[],[some 0]⟩ (.tok 0) 1 0 base 0:=fun base=>⟨by simp,fun n Am=>by
    simp at Am
    subst Am
    exact⟨Nat.le_refl _,fun _=> .inl ⟨rfl,rfl,fun h=>by cases h⟩⟩⟩
   rcases O9 with h|⟨b,q,h⟩
   ·rw[h];exact .iK _ _ 0 rfl (pK none)
   ·rw[h];exact .slice (.tok 0) 1 [] b q 0 (Nat.le_refl _) (by simp) (by simp) (by simp) (pK _)
  ·exact .junk _
theorem JR {α:Type} [Inhabited α] (enc:α→Value) (d:Array α) (c:Array Value) (j:Nat):(Sort.putCells enc 0 d c)[j]? = if j<d.size then(c[j]?).map fun _=>enc d[j]! else c[j]? :=by
 simp only[Sort.putCells,Array.getElem?_mapIdx]
 cases h:c[j]? with
 |none=>simp
 |some x=>by_cases hj:j<d.size<;>simp[hj]
theorem GU {w:World} {b n cap:Nat} {vs:Array Value} {T:TypeId} (dY:w.heap[b]? = some (.cells vs T (0,0))) (dM:vs.size=cap) (l:List aG) (hl:l.length≤cap) (os:Array Obj) :
 (∀ q,q≠b→q<w.heap.size→(Sort.grow (Sort.putRow Go.Proofs.encStr (Sort.ahead w n) b 0 l.toArray) os).heap[q]? = w.heap[q]?)∧
 (Sort.grow (Sort.putRow Go.Proofs.encStr (Sort.ahead w n) b 0 l.toArray) os).heap[b]? = some (.cells (Sort.putCells Go.Proofs.encStr 0 l.toArray vs) T (0,0))∧w.heap.size≤(Sort.grow (Sort.putRow Go.Proofs.encStr (Sort.ahead w n) b 0 l.toArray) os).heap.size∧
 (Sort.putCells Go.Proofs.encStr 0 l.toArray vs).size=cap∧∀ j (hj:j<l.length),(Sort.putCells Go.Proofs.encStr 0 l.toArray vs)[j]? = some (.string ⟨⟨l[j]⟩⟩):=by
 have hb:b<w.heap.size:=(Array.getElem?_eq_some_iff.1 dY).1
 refine⟨fun q hq hD=>?_, ?_, ?_, ?_,fun j hj=>?_⟩
 ·simp only [Sort.grow,Sort.putRow,Sort.mapBlock,Sort.ahead]
  rw[Array.getElem?_append_left (by simpa using hD),Array.getElem?_modify]
  simp[Ne.symm hq]
 ·simp only [Sort.grow,Sort.putRow,Sort.mapBlock,Sort.ahead]
  rw[Array.getElem?_append_left (by simpa using hb),Array.getElem?_modify]
  simp[dY,Sort.onCells]
 ·simp[Sort.grow,Sort.putRow,Sort.mapBlock,Sort.ahead]
 ·simp[Sort.putCells,dM]
 ·rw [JR]
  have h1:j<l.toArray.size:=by simpa using hj
  have h2:vs[j]? = some vs[j]:=Array.getElem?_eq_getElem (by omega)
  rw[if_pos h1,h2]
  simp[hj]
def ml (l:List aG):List aG:=l.mergeSort fun x y=>decide (x≤y)
theorem JS {act:Act} {b:Nat} {v:Value} {u:Nat} (h:u≠b):(act.put (some b) v).tmps.getD u Go.undef=act.tmps.getD u Go.undef:=by
 simp only[Act.put,Array.getD_eq_getD_getElem?]
 rw[Array.getElem?_setIfInBounds_ne (fun e=>h e.symm)]
theorem GV {act:Act} {b:Nat} {v:Value} (h:b<act.tmps.size):(act.put (some b) v).tmps.getD b Go.undef=v:=by
 simp only[Act.put,Array.getD_eq_getD_getElem?]
 simp[h]
theorem Sem.sort (hB:B.s = ⟨[],[]⟩) {a k b t:Nat} {l:List aG} {is:List AI} {Q:Exit→Tm→St→Prop} {tm:Tm} {s:St} (hak:a≠k) (hbk:b≠k) (XI:a≠b)
 (hk:tm.get k = .slice (.tok t) 1 (l.map encStr)) (ht:s.aw[t]? = some (some l.length)) (hl:l.length<4611686018427387904)
 (h:iY Tryz.prog is (Q .normal) [(k, .slice (.tok 0) 1 ((ml l).map encStr))] ⟨[],[some l.length]⟩) :
 Sem Tryz.prog B nt (.run (.op (some a) none (.mv (.s k)):: .call (some b) none jz [.s a]::is)) Q tm s:=by
 refine Sem.ade fun act w hh=>?_
 have Aa:(tm.put (some a) (tm.get k)).get k = .slice (.tok t) 1 (l.map encStr):=by rw[Tm.lz,if_neg (by simpa using hak)];exact hk
 have JT:(tm.put (some a) (tm.get k)).get a = .slice (.tok t) 1 (l.map encStr):=by rw[Tm.lz,if_pos rfl];exact hk
 have EL:(ml l).length=l.length:=List.length_mergeSort l
 have hn:(act.put (some b) (.tuple #[])).tmps.size=nt:=by obtain⟨_,_,_,_,h1,_⟩:=hh;simpa[Act.put]using h1
 have hd:(act.put (some b) (.tuple #[])).defers = []:=by obtain⟨_,_,_,_,_,h1⟩:=hh;simpa[Act.put]using h1
 have dM:(act.tmps).size=nt:=by obtain⟨_,_,_,_,h1,_⟩:=hh;exact h1
 rcases GR hB hh ht JT with ⟨rfl,hv⟩|⟨b',cap,vs,T,hv,tU,dY,oY,wE,mg⟩
 ·rw [show ml [] = [] by simp [ml]]at h
  have call : ∀ p,act.tmps.getD a Go.undef = .slice p 0 0→Calls Tryz.prog jz #[act.tmps.getD a Go.undef] w fun e w'=>∃ v,e = .returned v∧∃ bu s',Holds B nt bu s' (act.put (some b) v) w'∧iY Tryz.prog is (Q .normal) bu s':=by
   intro p hp
   rw[hp]
   refine(Tryz.slices_Sort_string_none p 0 w).mono ?_
   rintro e w' ⟨rfl,rfl⟩
   refine⟨_,rfl,_,_,LZ hB hh (k:=k) ?_ hn hd,h⟩
   rw[JS (Ne.symm hbk)]
   exact hv k Aa
  rcases hv a JT with h1|⟨b',q,h1⟩
  ·exact call _ h1
  ·exact call _ h1
 ·rw [hv a JT]
  have hD:b'<w.heap.size:=(Array.getElem?_eq_some_iff.1 dY).1
  refine(Tryz.slices_Sort_string b' 0 cap l w (fun j hj=>?_) hD hl).mono ?_
  ·have R0:j<l.length:=by simpa using hj
   refine⟨?_,by simp[World.frozen?,dY]⟩
   rw[Nat.zero_add,jh dY,mg j R0]
   simp[R0]
  ·rintro e w' ⟨rfl,n,os,rfl⟩
   obtain⟨p1,p2,p3,p4,p5⟩:=GU (n:=n) dY oY (ml l) (by omega) os
   have hH:=JQ hB hh (uw:=act.put (some b) (.tuple #[])) (l:=ml l) (k:=k) p4 wE (fun q hq=>p1 q (by omega) (by obtain⟨M,e,_⟩:=hh;exact Nat.lt_of_lt_of_le hq e.size)) p2 p3 rfl rfl rfl (by omega) p5 (by rw[JS (Ne.symm hbk),hv k Aa,EL]) hn hd
   rw[EL]at hH
   exact⟨_,rfl,_,_,hH,h⟩
theorem Lk (l:List aG):(Lib.compact l).length≤l.length:=by
 unfold Lib.compact Lib.compactUpTo
 rw[List.length_map]
 exact Nat.le_trans (List.length_filter_le _ _) (by simp)
theorem Sem.compact (hB:B.s = ⟨[],[]⟩) {a k b t:Nat} {l:List aG} {is:List AI} {Q:Exit→Tm→St→Prop} {tm:Tm} {s:St} (hbt:b<nt)
 (hk:tm.get k = .slice (.tok t) 1 (l.map encStr)) (ht:s.aw[t]? = some (some l.length)) (hl:l.length<4611686018427387904)
 (h:iY Tryz.prog is (Q .normal) [(b, .slice (.tok 0) 1 ((Lib.compact l).map encStr))] ⟨[],[some (Lib.compact l).length]⟩) :
 Sem Tryz.prog B nt (.run (.op (some a) none (.mv (.s k)):: .call (some b) none jP [.s a]::is)) Q tm s:=by
 refine Sem.ade fun act w hh=>?_
 have JT:(tm.put (some a) (tm.get k)).get a = .slice (.tok t) 1 (l.map encStr):=by rw[Tm.lz,if_pos rfl];exact hk
 have dM:(act.tmps).size=nt:=by obtain⟨_,_,_,_,h1,_⟩:=hh;exact h1
 have hn : ∀ v,(act.put (some b) v).tmps.size=nt:=fun v=>by simpa[Act.put]using dM
 have hd : ∀ v,(act.put (some b) v).defers = []:=by obtain⟨_,_,_,_,_,h1⟩:=hh;intro v;simpa[Act.put]using h1
 rcases GR hB hh ht JT with ⟨rfl,hv⟩|⟨b',cap,vs,T,hv,tU,dY,oY,wE,mg⟩
 ·rw [show Lib.compact ([] : List aG) = []from rfl]at h
  have call : ∀ p,act.tmps.getD a Go.undef = .slice p 0 0→(p=none∨∃ b q,p=some ⟨b,q,none⟩)→Calls Tryz.prog jP #[act.tmps.getD a Go.undef] w fun e w'=>∃ v,e = .returned v∧∃ bu s',Holds B nt bu s' (act.put (some b) v) w'∧iY Tryz.prog is (Q .normal) bu s':=by
   intro p hp hq
   rw[hp]
   refine(Tryz.slices_Compact_string_empty p 0 w).mono ?_
   rintro e w' ⟨rfl,rfl⟩
   refine⟨_,rfl,_,_,LZ hB hh (k:=b) ?_ (hn _) (hd _),h⟩
   rw[GV (by omega)]
   rcases hq with rfl|⟨x,y,rfl⟩
   ·exact .inl rfl
   ·exact .inr ⟨x,y,rfl⟩
  rcases hv a JT with h1|⟨b',q,h1⟩
  ·exact call _ h1 (.inl rfl)
  ·exact call _ h1 (.inr ⟨b',q,rfl⟩)
 ·rw [hv a JT]
  have oK:(Lib.compact l).length≤l.length:=Lk l
  refine(Tryz.slices_Compact_string b' 0 cap l w (fun j hj=>?_) (by omega) tU).mono ?_
  ·have R0:j<l.length:=by simpa using hj
   refine⟨?_,by simp[World.frozen?,dY]⟩
   rw[Nat.zero_add,jh dY,mg j R0]
   simp[R0]
  ·rintro e w' ⟨rfl,q,rfl⟩
   obtain⟨p1,p2,p3,p4,p5⟩:=GU (n:=q) dY oY (Lib.compact l++List.replicate (l.length - (Lib.compact l).length) []) (by simp;omega) #[]
   rw[Sort.grow_empty]at p1 p2 p3
   have hH:=JQ hB hh (uw:=act.put (some b) (.slice (some ⟨b',0,none⟩) (Lib.compact l).length cap)) (l:=Lib.compact l) (k:=b) p4 wE (fun q hq=>p1 q (by omega) (by obtain⟨M,e,_⟩:=hh;exact Nat.lt_of_lt_of_le hq e.size)) p2 p3 rfl rfl rfl (by omega)
    (fun j hj=>by
     have:=p5 j (by simp;omega)
     rw[List.getElem_append_left hj]at this
     exact this) (GV (by omega)) (hn _) (hd _)
   exact⟨_,rfl,_,_,hH,h⟩
end
end Go.Abs
namespace Go.Abs
theorem EM {a b:UInt8} : a<b↔a.toNat<b.toNat:=UInt8.lt_iff_toNat_lt
theorem yB : ∀ a:aG,bytesLess a a=false
 | []=>rfl
 |x::a=>by
  show Go.Op.bytesLess (x::a) (x::a)=false
  have h:=yB a
  have h:Go.Op.bytesLess a a=false:=h
  simp[Go.Op.bytesLess,h]
theorem yC : ∀ a b:aG,bytesLess a b=true∨a=b∨bytesLess b a=true
 | [],[]=> .inr (.inl rfl)
 | [],y::b=> .inl rfl
 |x::a,[]=> .inr (.inr rfl)
 | x::a,y::b=>by
  show Go.Op.bytesLess (x::a) (y::b)=true∨_∨Go.Op.bytesLess (y::b) (x::a)=true
  have h:Go.Op.bytesLess a b=true∨a=b∨Go.Op.bytesLess b a=true:=yC a b
  simp only[Go.Op.bytesLess,Bool.or_eq_true,Bool.and_eq_true,decide_eq_true_eq,beq_iff_eq,List.cons.injEq]
  by_cases e:x=y
  ·subst e
   rcases h with h|h|h
   ·exact .inl (.inr ⟨rfl,h⟩)
   ·exact .inr (.inl ⟨rfl,h⟩)
   ·exact .inr (.inr (.inr ⟨rfl,h⟩))
  ·have:x.toNat≠y.toNat:=fun h=>e (UInt8.toNat_inj.1 h)
   rcases Nat.lt_or_gt_of_ne this with h|h
   ·exact .inl (.inl (EM.2 h))
   ·exact .inr (.inr (.inl (EM.2 h)))
theorem EN : ∀ a b c:aG,bytesLess a b=true→bytesLess b c=true→bytesLess a c=true
 |a,b,[],h1,h2=>by cases b<;>cases h2
 |a,[],z::c,h1,h2=>by cases a<;>cases h1
 | [],y::b,z::c,h1,h2=>rfl
 | x::a,y::b,z::c,h1,h2=>by
  have h1:Go.Op.bytesLess (x::a) (y::b)=true:=h1
  have h2:Go.Op.bytesLess (y::b) (z::c)=true:=h2
  show Go.Op.bytesLess (x::a) (z::c)=true
  simp only[Go.Op.bytesLess,Bool.or_eq_true,Bool.and_eq_true,decide_eq_true_eq,beq_iff_eq]at h1 h2 ⊢
  rcases h1 with e1|⟨i1,e1⟩
  ·rcases h2 with e2 | ⟨i2,e2⟩
   ·exact .inl (EM.2 (Nat.lt_trans (EM.1 e1) (EM.1 e2)))
   ·exact .inl (i2 ▸ e1)
  ·rcases h2 with e2 | ⟨i2,e2⟩
   ·exact .inl (i1 ▸ e2)
   ·exact .inr ⟨i1.trans i2,EN a b c e1 e2⟩
def BI (l:List aG):Prop:=l.Pairwise fun a b=>bytesLess a b=true
theorem xE : ∀ {a b:List aG},BI a→BI b→(∀ x,x∈a↔x∈b)→a=b
 | [],[],_,_,_=>rfl
 | [],y::b,_,_,h=>absurd ((h y).2 List.mem_cons_self) (by simp)
 |x::a,[],_,_,h=>absurd ((h x).1 List.mem_cons_self) (by simp)
 | x::a,y::b,h1,h2,h=>by
  obtain⟨g1,g2⟩:=List.pairwise_cons.1 h1
  obtain⟨g3,g4⟩:=List.pairwise_cons.1 h2
  have e:x=y:=by
   rcases List.mem_cons.1 ((h x).1 List.mem_cons_self)with e|m
   ·exact e
   ·rcases List.mem_cons.1 ((h y).2 List.mem_cons_self)with e | m'
    ·exact e.symm
    ·have:=EN _ _ _ (g3 x m) (g1 y m');rw[yB]at this;cases this
  subst e
  rw[xE g2 g4 fun z=>?_]
  constructor
  ·intro m
   rcases List.mem_cons.1 ((h z).1 (List.mem_cons_of_mem _ m))with e|m'
   ·subst e;have:=g1 z m;rw[yB]at this;cases this
   ·exact m'
  ·intro m
   rcases List.mem_cons.1 ((h z).2 (List.mem_cons_of_mem _ m))with e|m'
   ·subst e;have:=g3 z m;rw[yB]at this;cases this
   ·exact m'
theorem uX (out:List aG) : ∀ (l:List aG) (c:aG) (a:Bool),
 let q:=nz out l c a
 (q.2=false↔a=false∧∀ x∈l,x∈out)∧(q.2=true→((a=true∧q.1=c)∨(q.1∈l∧q.1∉out))∧(a=true→bytesLess c q.1=false)∧∀ x∈l,x∉out→bytesLess x q.1=false)
 | [],c,a=>by
  simp only[nz]
  refine⟨by simp,fun h=>⟨.inl ⟨h,by trivial⟩,fun _=>yB c,fun x m=>(by cases m)⟩⟩
 | s::l,c,a=>by
  simp only[nz]
  by_cases h1:fu out s=true
  ·have m:=(jg _ _).1 h1
   simp only[h1,Bool.not_true,Bool.false_and,Bool.false_eq_true,if_false]
   obtain⟨k1,k2⟩:=uX out l c a
   refine⟨k1.trans ⟨fun h=>⟨h.1,fun x hx=>?_⟩,fun h=>⟨h.1,fun x hx=>h.2 x (List.mem_cons_of_mem _ hx)⟩⟩,fun h=>?_⟩
   ·rcases List.mem_cons.1 hx with rfl | hx
    ·exact m
    ·exact h.2 x hx
   ·obtain⟨g1,g2,g3⟩:=k2 h
    refine⟨g1.imp_right fun h=>⟨List.mem_cons_of_mem _ h.1,h.2⟩,g2,fun x hx hn=>?_⟩
    rcases List.mem_cons.1 hx with rfl|hx
    ·exact absurd m hn
    ·exact g3 x hx hn
  ·have m:s∉out:=fun m=>h1 ((jg _ _).2 m)
   have sa:fu out s=false:=by simpa using h1
   by_cases h2:(!a ||bytesLess s c)=true
   ·simp only [sa,h2,Bool.not_false,Bool.and_self,if_true]
    obtain⟨k1,k2⟩:=uX out l s true
    refine⟨⟨fun h=>absurd (k1.1 h).1 (by simp),fun h=>absurd (h.2 s List.mem_cons_self) m⟩,fun h=>?_⟩
    obtain⟨g1,g2,g3⟩:=k2 h
    have g4:=g2 rfl
    refine⟨.inr ?_,fun ha=>?_,fun x hx hn=>?_⟩
    ·rcases g1 with ⟨_,e⟩ | g1
     ·rw[e];exact⟨List.mem_cons_self,m⟩
     ·exact⟨List.mem_cons_of_mem _ g1.1,g1.2⟩
    ·have h3:bytesLess s c=true:=by simpa [ha]using h2
     cases hh:bytesLess c (nz out l s true).1
     ·rfl
     ·have:=EN _ _ _ h3 hh;rw[g4]at this;cases this
    ·rcases List.mem_cons.1 hx with rfl | hx
     ·exact g4
     ·exact g3 x hx hn
   ·have uE:(!a || bytesLess s c)=false:=by simpa using h2
    have ha:a=true:=by cases a<;>simp_all
    have h3:bytesLess s c=false:=by cases a<;>simp_all
    simp only[sa,uE,Bool.not_false,Bool.and_false,Bool.false_eq_true,if_false]
    obtain⟨k1,k2⟩:=uX out l c a
    refine⟨⟨fun h=>absurd (k1.1 h).1 (by simp[ha]),fun h=>absurd h.1 (by simp[ha])⟩,fun h=>?_⟩
    obtain⟨g1,g2,g3⟩:=k2 h
    refine⟨g1.imp_right fun h=>⟨List.mem_cons_of_mem _ h.1,h.2⟩,g2,fun x hx hn=>?_⟩
    rcases List.mem_cons.1 hx with rfl|hx
    ·cases hh:bytesLess x (nz out l c a).1
     ·rfl
     ·have g4:=g2 ha
      rcases yC x c with e|e|e
      ·rw[h3]at e;cases e
      ·subst e;rw[g4]at hh;cases hh
      ·have:=EN _ _ _ e hh;rw[g4]at this;cases this
    ·exact g3 x hx hn
theorem xF (l:List aG) : ∀ (n:Nat) (out:List aG),BI out→(∀ x∈out,x∈l)→(∀ x∈out,∀ y∈l,y∉out→bytesLess x y=true)→
 BI (pG l n out)∧(∀ x∈pG l n out,x∈l)∧(∀ x∈out,x∈pG l n out)∧((∀ x∈l,x∈pG l n out)∨(pG l n out).length=out.length+n)
 | 0,out,h1,h2,h3=>⟨h1,h2,fun x m=>m, .inr rfl⟩
 | n+1,out,h1,h2,h3=>by
  simp only[pG,RY]
  obtain⟨k1,k2⟩:=uX out l [] false
  cases hq:(nz out l [] false).2
  ·simp only [Bool.false_eq_true,if_false]
   obtain⟨g1,g2,g3,g4⟩:=xF l n out h1 h2 h3
   exact⟨g1,g2,g3, .inl fun x m=>g3 x ((k1.1 hq).2 x m)⟩
  ·simp only [if_true]
   obtain⟨g1,_,g3⟩:=k2 hq
   have g1:(nz out l [] false).1∈l∧(nz out l [] false).1∉out:=by
    rcases g1 with ⟨h,_⟩|g1
    ·cases h
    ·exact g1
   generalize (nz out l [] false).1=c at g1 g3
   obtain⟨r1,r2,r3,r4⟩:=xF l n (out++ [c])
    (by
     refine List.pairwise_append.2 ⟨h1,by simp,fun x hx y hy=>?_⟩
     have:y=c:=by simpa using hy
     subst this
     exact h3 x hx y g1.1 g1.2)
    (fun x hx=>by
     rcases List.mem_append.1 hx with hx|hx
     ·exact h2 x hx
     ·have:x=c:=by simpa using hx
      subst this;exact g1.1)
    (fun x hx y hy hn=>by
     have hyo:y∉out:=fun m=>hn (List.mem_append_left _ m)
     have hyc:y≠c:=fun e=>hn (List.mem_append_right _ (by simp[e]))
     rcases List.mem_append.1 hx with hx|hx
     ·exact h3 x hx y hy hyo
     ·have:x=c:=by simpa using hx
      subst this
      rcases yC x y with h|h|h
      ·exact h
      ·exact absurd h.symm hyc
      ·rw[g3 y hy hyo]at h;cases h)
   refine⟨r1,r2,fun x m=>r3 x (List.mem_append_left _ m),r4.imp_right fun h=>?_⟩
   rw[h];simp;omega
theorem wX : ∀ (a l:List aG),a.Nodup→(∀ x∈a,x∈l)→a.length≤l.length
 | [],l,_,_=>Nat.zero_le _
 |x::a,l,h,hm=>by
  obtain⟨h1,h2⟩:=List.nodup_cons.1 h
  have m:=hm x List.mem_cons_self
  have:=wX a (l.erase x) h2 fun y hy=>(List.mem_erase_of_ne (fun e=>h1 (by rw[← e];exact hy))).2 (hm y (List.mem_cons_of_mem _ hy))
  rw[List.length_erase_of_mem m]at this
  have:0<l.length:=List.length_pos_of_mem m
  simp only[List.length_cons];omega
theorem uY {l:List aG} (h:BI l):l.Nodup:=h.imp fun {a b} h e=>by subst e;rw[yB]at h;cases h
theorem mn (l:List aG):BI (km l)∧∀ x,x∈km l↔x∈l:=by
 obtain⟨h1,h2,h3,h4⟩:=xF l l.length [] List.Pairwise.nil (fun x m=>(by cases m)) (fun x m=>(by cases m))
 refine⟨h1,fun x=>⟨h2 x,fun m=>?_⟩⟩
 rcases h4 with h4|h4
 ·exact h4 x m
 ·refine Classical.byContradiction fun hn=> ?_
  have:=wX (x::pG l l.length []) l (List.nodup_cons.2 ⟨hn,uY h1⟩) fun y hy=>by
   rcases List.mem_cons.1 hy with rfl|hy
   ·exact m
   ·exact h2 y hy
  simp only[List.length_cons,h4,List.length_nil]at this
  omega
theorem Ll (zs:List aG) (hs:zs.Pairwise fun a b=>bytesLess b a=false) : ∀ m,m≤zs.length→
 BI (Lib.compactUpTo zs.toArray m)∧(∀ x,x∈Lib.compactUpTo zs.toArray m↔x∈zs.take m):=by
 intro m
 induction m with
 |zero=>intro _;exact⟨by simp[Lib.compactUpTo,BI],fun x=>by simp[Lib.compactUpTo]⟩
 | succ m ih=>
  intro hm
  obtain⟨h1,h2⟩:=ih (by omega)
  have hz:zs[m]? = some zs[m]:=List.getElem?_eq_getElem (by omega)
  have e1:zs.toArray[m]! = zs[m]:=by simp[hm,Nat.lt_of_succ_le hm]
  have et:zs.take (m+1)=zs.take m++ [zs[m]]:=by rw[List.take_add_one,hz];rfl
  rw[Lib.compactUpTo_succ,e1,et]
  by_cases hk:Lib.keeps zs.toArray m=true
  ·rw [if_pos hk]
   refine⟨List.pairwise_append.2 ⟨h1,by simp,fun x hx y hy=>?_⟩,fun x=>by rw[List.mem_append,List.mem_append,h2]⟩
   have hy:y=zs[m]:=by simpa using hy
   subst hy
   have hx:=(h2 x).1 hx
   simp only[Lib.keeps,decide_eq_true_eq]at hk
   rcases hk with rfl|hk
   ·simp at hx
   ·have ny:m - 1<zs.length:=by omega
    have e2:zs.toArray[m - 1]! = zs[m - 1]:=by simp[ny]
    rw[e1,e2]at hk
    have h0:0<m:=by
     cases m with
     |zero=>simp at hx
     |succ m=>omega
    have hle : ∀ i j (hi:i<zs.length) (hj:j<zs.length),i<j→bytesLess zs[j] zs[i] = false:=fun i j hi hj Wj=>List.pairwise_iff_getElem.1 hs i j hi hj Wj
    have g1:bytesLess zs[m] zs[m - 1] = false:=hle (m - 1) m ny (by omega) (by omega)
    have g2:bytesLess zs[m - 1] zs[m] = true:=by
     rcases yC zs[m - 1] zs[m]with h|h|h
     ·exact h
     ·exact absurd h.symm hk
     ·rw[g1]at h;cases h
    obtain⟨i,hi,rfl⟩:=List.mem_iff_getElem.1 hx
    rw[List.length_take]at hi
    rw[List.getElem_take]
    by_cases nK:i=m - 1
    ·subst nK;exact g2
    ·have g3:=hle i (m - 1) (by omega) ny (by omega)
     rcases yC zs[i] zs[m - 1]with h|h|h
     ·exact EN _ _ _ h g2
     ·rw[h];exact g2
     ·rw[g3]at h;cases h
  ·rw [if_neg hk]
   simp only[List.append_nil]
   refine⟨h1,fun x=>?_⟩
   rw[h2]
   simp only[Lib.keeps,decide_eq_true_eq,not_or,ne_eq,Decidable.not_not]at hk
   obtain⟨k1,k2⟩:=hk
   have ny:m - 1<zs.length:=by omega
   have e2:zs.toArray[m - 1]! = zs[m - 1]:=by simp[ny]
   rw[e1,e2]at k2
   simp only[List.mem_append,List.mem_singleton]
   constructor
   ·exact .inl
   ·rintro(h | rfl)
    ·exact h
    ·rw [k2]
     exact List.mem_iff_getElem.2 ⟨m - 1,by rw[List.length_take];omega,by rw[List.getElem_take]⟩
theorem GX (l:List aG):(ml l).Pairwise fun a b=>bytesLess b a=false:=by
 have h:=List.pairwise_mergeSort (le:=fun x y:aG=>decide (x≤y)) (fun a b c h1 h2=>?_) (fun a b=>?_) l
 ·refine h.imp fun {a b} h=> ?_
  rw[decide_eq_true_eq]at h
  show Go.Op.bytesLess b a=false
  rw[Go.Proofs.bytesLess_eq]
  simpa using h
 ·rw [decide_eq_true_eq]at h1 h2 ⊢
  exact List.le_trans h1 h2
 ·have:=List.le_total a b
  simpa using this
theorem BJ (l:List aG):Lib.compact (ml l)=km l:=by
 obtain⟨h1,h2⟩:=Ll (ml l) (GX l) (ml l).length (Nat.le_refl _)
 obtain⟨h3,h4⟩:=mn l
 refine xE h1 h3 fun x=>?_
 rw[h4]
 refine(h2 x).trans ?_
 rw[List.take_length]
 exact(List.mergeSort_perm _ _).mem_iff
set_option maxRecDepth 8000
open Go.Proofs
def lX:List Sm→List aG
 | []=> []
 |v::l=>if v.kind==4 then v.proc::lX l else lX l
theorem C4 : ∀ l:List Sm,(lX l).length≤l.length
 | []=>Nat.le_refl _
 |v::l=>by
  simp only[lX]
  have:=C4 l
  split<;>simp<;>omega
def Pc.calls (f:Pc):List aG:=km (lX (Sm.dc f.body))
theorem BK {name:aG} : ∀ {l:List Pc} {k:Nat} {f:Pc},iT name l=some f→∃ j,l[j]? = some f∧kZ (fun f:Pc=>f.name==name) (k:Int) l=((k+j:Nat):Int)
 | g::l,k,f,h=>by
  simp only[iT]at h
  cases e:(g.name==name)
  ·rw [e]at h
   simp only[Bool.false_eq_true,if_false]at h
   obtain⟨j,h1,h2⟩:=BK (k:=k+1) h
   refine⟨j+1,by simpa using h1, ?_⟩
   simp only[kZ,e,Bool.false_eq_true,if_false]
   rw[show((k:Int)+1)=((k+1:Nat):Int)from rfl,h2]
   congr 1;omega
  ·rw [e]at h
   simp only[if_true,Option.some.injEq]at h
   exact⟨0,by simpa using h,by simp[kZ,e]⟩
theorem Zy {p:Pg} (h:p.iM) {name:aG} {f:Pc} (hf:p.find name=some f) (s:St):aF Tryz.prog uj [.dv (fx p) 0, .str name] s (.slice .shared 1 (f.calls.map encStr)) s:=by
 refine aF.pure ?_ (by simp[D.bL,D.ok,uu]) (by simp only[D.ok,Tag.ok,fb];rfl) s
 obtain⟨rj,qU,qT⟩:=h.procs
 obtain⟨j,hj,rm⟩:=BK (k:=0) hf
 have rm:p.at name=((j:Nat):Int):=by unfold Pg.at;simpa using rm
 have wT:=fun s=>Ez (p:=p) (by omega) name s
 rw[rm]at wT
 obtain⟨it,pN,wV⟩:=U2 hj (by omega)
 have ac8:it.length≤900000:=by
  have e:=congrArg List.length pN
  obtain⟨a,b,e',_,_,e3,e4⟩:=(kx p).2 j f hj
  have e5:=pf p
  have e6:=congrArg List.length e3
  rw[e4]at e5
  simp only[List.length_map,List.length_append]at e e5 e6
  omega
 unfold S0
 obtain⟨fn,Ao,C3⟩:=Ep
 refine aF.intro ⟨fn,Ao,C3⟩ (Nat.le_of_ble_eq_true rfl) fun B hB=>?_
 generalize hQ:pS (⟨[],[]⟩:St).ah.length (⟨[],[]⟩:St).aw.length _ _ (⟨[],[]⟩:St)=Q
 have⟨hD,hY,hZ,gA⟩:=bP
 refine Sem.ni ?_
 repeat' (first
 |simp only[go_sem,hD,hY,hZ,gA]
 |(with_reducible refine aD hQ ?_;exact bb))
 refine Sem.ni ?_
 repeat' (first
 |simp only[go_sem,hD,hY,hZ,gA]
 |(with_reducible refine aD hQ ?_;exact bb))
 refine Sem.ni ?_
 repeat' (first
 |simp only[go_sem,hD,hY,hZ,gA]
 |(with_reducible refine CU (wT _) ?_)
 |(with_reducible refine CU (wV _) ?_)
 |(with_reducible refine aD hQ ?_;exact bb))
 refine bl.qC 5 1 rfl ?_
 simp only[go_sem,hD,hY,hZ,gA]
 obtain⟨R,hR⟩ : ∃ R,R=lX (Sm.dc f.body):=⟨_,rfl⟩
 have hRl:R.length≤900000:=by rw[hR, ← pN];have:=C4 (it.map Im.s);rw[List.length_map]at this;omega
 refine fa 0 1 (bl.ind (ι:=List Im×Nat×List aG×Nat) (fun i=>it.drop i.2.1=i.1∧i.2.2.1++lX (i.1.map Im.s)=R∧i.2.2.2=i.2.2.1.length) (fun i=>i.1.length)
  (fun i=> [(5, .slice (.tok 0) 1 (i.2.2.1.map encStr)),(12, .slice .shared 17 (it.map dt)),(13, .int .i64 (it.length:Int)),(14, .int .i64 (i.2.1:Int))]) (fun i=>⟨[],[some i.2.2.2]⟩) ?_ (it,0,[],0) ⟨rfl,by rw[hR,pN];rfl,rfl⟩)
 rintro⟨rest,k,out,n⟩ ⟨h1,h2,h3⟩ IH
 dsimp only at h1 h2 h3
 subst h3
 have iX:out.length≤900000:=by have:=congrArg List.length h2;rw[List.length_append]at this;omega
 cases rest with
 | cons a rest=>
  obtain⟨hY,g2,hD,g4⟩:=drop_cons h1
  have bO:k<4611686018427387904:=by omega
  have hZ:(out.length+1)*17≤bA:=by unfold bA;omega
  simp only[List.map_cons,lX]at h2
  rcases Bool.eq_false_or_eq_true (a.s.kind==4)with c1|c1
  ·simp only [c1,if_true]at h2
   repeat' (first
 |simp only[go_sem,hD,hY,hZ,gA,c1]
 | (with_reducible refine aD hQ ?_;exact bb))
   refine eO 0 1 ?_ ?_ (IH (rest,k+1,out++ [a.s.proc],out.length+1) ⟨g2,by rw[← h2];simp,by simp⟩ (Nat.lt_succ_self _))
   ·(simp only[go_sem,hD,hY,hZ,gA,aI bO,List.map_append,List.map_cons,List.map_nil,encStr];try exact bW)
   ·(simp only[go_sem,hD,hY,hZ,gA,aI bO,List.map_append,List.map_cons,List.map_nil,encStr];try exact bW)
  ·simp only [c1,Bool.false_eq_true,if_false]at h2
   repeat' (first
 |simp only[go_sem,hD,hY,hZ,gA,c1]
 | (with_reducible refine aD hQ ?_;exact bb))
   refine eO 0 1 ?_ ?_ (IH (rest,k+1,out,_) ⟨g2,h2,rfl⟩ (Nat.lt_succ_self _))
   ·(simp only[go_sem,hD,hY,hZ,gA,aI bO];try exact bW)
   ·(simp only[go_sem,hD,hY,hZ,gA,aI bO];try exact bW)
 |nil=>
  have hD:=drop_nil h1
  simp only[List.map_nil,lX,List.append_nil]at h2
  subst h2
  have EL:(ml out).length=out.length:=List.length_mergeSort out
  repeat' (first
 |simp only[go_sem,hD,hY,hZ,gA]
 |(with_reducible refine aD hQ ?_;exact bb))
  refine Sem.seq (Sem.sort (k:=5) (t:=0) (l:=out) hB (by decide) (by decide) (by decide) rfl rfl (by omega) ?_)
  show Sem _ _ _ _ _ _ _
  refine Sem.seq (Sem.compact (k:=5) (t:=0) (l:=ml out) hB (by decide) rfl (by rw[EL];rfl) (by rw[EL];omega) ?_)
  rw[BJ]
  have anM:f.calls=km out:=by unfold Pc.calls;rw[hR]
  rw[anM]at hQ
  refine iF (ac:= .ret) (Q:=Q) (tm:= [(32, .slice (.tok 0) 1 ((km out).map encStr)),(4, .slice (.tok 0) 1 ((km out).map encStr))]) (s:=⟨[],[some (km out).length]⟩) ?_
  repeat' (first
 |simp only[go_sem,hD,hY,hZ,gA]
 |(with_reducible refine aD hQ ?_;exact bb))
theorem GY {name:aG} : ∀ {l:List Pc},name∈l.map (·.name)→∃ f,iT name l=some f
 | f::l,h=>by
  simp only[iT]
  cases e:(f.name==name)
  ·simp only [Bool.false_eq_true,if_false]
   refine GY ?_
   rcases List.mem_cons.1 h with h|h
   ·rw[h]at e;simp at e
   ·exact h
  ·exact⟨f,rfl⟩
theorem GZ {p:Pg} {f:Pc} {procs:List aG} : ∀ {l:List Sm},BF p f procs l=none→∀ v∈l,v.known p f procs=true
 | v::l,h,w,m=>by
  simp only[BF]at h
  split at h
  ·rename_i e
   rcases List.mem_cons.1 m with rfl|m
   ·exact e
   ·exact GZ h w m
  ·cases h
theorem G0 {p:Pg} {procs:List aG} : ∀ {l:List Pc},((vO p procs l).1==0)=true→∀ f∈l,fF (p.globals++f.own)=false∧∀ v∈Sm.dc f.body,v.known p f procs=true
 | g::l,h,f,m=>by
  simp only[vO]at h
  split at h
  ·cases h
  ·rename_i e
   split at h
   ·cases h
   ·rename_i e2
    rcases List.mem_cons.1 m with rfl|m
    ·exact⟨by simpa using e,GZ e2⟩
    ·exact G0 h f m
theorem DE {p:Pg} (h:(p.scope.1==0)=true):fF p.globals=false∧fF p.pn=false∧p.tG=false∧∀ f∈p.procs,fF (p.globals++f.own)=false∧∀ v∈Sm.dc f.body,v.known p f p.pn=true:=by
 unfold Pg.scope at h
 split at h
 ·split at h
  ·cases h
  ·rename_i e
   simp only[Bool.or_eq_true,not_or,Bool.not_eq_true]at e
   exact⟨e.1,e.2.1,e.2.2,G0 h⟩
 ·cases h
theorem xG {x:aG} : ∀ {l:List Sm},x∈lX l↔∃ v∈l,v.kind=4∧v.proc=x
 | []=>by simp[lX]
 | v::l=>by
  simp only[lX]
  cases e:(v.kind==4)
  ·have:v.kind≠4:=by simpa using e
   simp[this,xG (l:=l)]
  ·have:v.kind=4:=by simpa using e
   simp only[if_true,List.mem_cons,xG (l:=l),exists_eq_or_imp,this,true_and]
   constructor
   ·rintro(h | h)
    ·exact .inl h.symm
    ·exact .inr h
   ·rintro(h | h)
    ·exact .inl h.symm
    ·exact .inr h
theorem R3 {f:Pc} {x:aG} : x∈f.calls↔∃ v∈Sm.dc f.body,v.kind=4∧v.proc=x:=by
 unfold Pc.calls;rw[(mn _).2,xG]
theorem C5 {p:Pg} (h:(p.scope.1==0)=true) {f:Pc} (hf:f∈p.procs) {x:aG} (m:x∈f.calls) : ∃ g,p.find x=some g:=by
 obtain⟨v,hv,h4,rfl⟩:=R3.1 m
 have hk:=((DE h).2.2.2 f hf).2 v hv
 simp only[Sm.known,h4,Bool.and_eq_true,Bool.or_eq_true]at hk
 rcases hk.2 with h|⟨_,h⟩
 ·simp at h
 ·exact GY ((jg _ _).1 h)
def EO (p:Pg) (x:aG):List aG:=match p.find x with|some f=>f.calls|none=> []
def DF (out:List aG):List aG→List aG
 | []=>out
 |x::l=>DF (Ci out x) l
def wY (p:Pg):Nat→Nat→List aG→List aG
 | 0,_,out=>out
 |n+1,i,out=>match out[i]? with
  |some x=>wY p n (i+1) (DF out (EO p x))
  |none=>out
def Pg.work (p:Pg) (name:aG):List aG:=wY p (p.procs.length+1) 0 [name]
def Good (p:Pg) (out:List aG):Prop:=out.Nodup∧∀ x∈out,∃ f,p.find x=some f
theorem Good.len {p:Pg} {out:List aG} (h:Good p out):out.length≤p.procs.length:=by
 have:=wX out p.pn h.1 fun x m=>by
  obtain⟨f,hf⟩:=h.2 x m
  obtain⟨h1,h2⟩:=sx hf
  rw[← h2];exact List.mem_map_of_mem h1
 simpa[Pg.pn]using this
theorem Good.spk {p:Pg} {out:List aG} (h:Good p out) {x:aG} (hx : ∃ f,p.find x=some f):Good p (Ci out x):=by
 unfold Ci
 split
 ·exact h
 ·rename_i e
  have:x∉out:=fun m=>e ((jg _ _).2 m)
  refine⟨List.nodup_append.2 ⟨h.1,by simp,fun a ha b hb e'=>?_⟩,fun y hy=>?_⟩
  ·have hbx:b=x:=by simpa using hb
   rw[e',hbx]at ha;exact this ha
  ·rcases List.mem_append.1 hy with hy | hy
   ·exact h.2 y hy
   ·have:y=x:=by simpa using hy
    subst this;exact hx
theorem Good.add {p:Pg} : ∀ {l out:List aG},Good p out→(∀ x∈l,∃ f,p.find x=some f)→Good p (DF out l)
 | [],out,h,_=>h
 |x::l,out,h,hx=>Good.add (l:=l) (out:=Ci out x) (Good.spk h (hx x List.mem_cons_self)) fun y m=>hx y (List.mem_cons_of_mem _ m)
def tgB:Bool→Tag
 |true=> .tok 0
 |false=> .full
def tkB:Bool→Nat→List (Option Nat)
 |true,n=> [some n]
 |false,_=> []
def zw:AI→AI
 | .op d g (.du z k n ps)=> .op d g (.vg z k n ps)
 |a=>a
section
variable {P:Program}
theorem Lm {nt:Nat} {ops:Array Oper} {i:Nat} {o:Oper} {ai:AI} (hi:ops[i]? = some o) (hc:cI P nt ops o=some ai)
 {M:Map} {s:St} {w:World} {tm:Tm} {act:Act} (r:Rel M s w) (kA:Laid M s w) (ht:l5 M s tm act.tmps) {K':Tm→St→Prop} (h:iY P [zw ai] K' tm s)
 {K:Act→World→Prop} {Q:Exit→Act→World→Prop}
 (hK : ∀ d v s1 w1 M1,K' (tm.put ai.dst d) s1→Ext M s w M1 s1 w1→Rel M1 s1 w1→RD M1 s1 d v→K (act.put o.dst v) w1):wpOp P ops Q i K act w:=by
 by_cases hb : ∃ d g z k n ps,ai = .op d g (.du z k n ps)
 ·obtain⟨d0,g0,z,k,n,ps,rfl⟩:=hb
  obtain⟨g,hg,_,hb⟩:=Be hc
  rw[ti hb]at hK
  simp only[wpOp,hi]
  have skip:K' (tm.put o.dst (.tuple [])) s→K (act.put o.dst Go.undef) w:=fun hk=>hK _ _ _ _ _ hk (Ext.refl M s w) r .undef
  have hd:=ti hb
  simp only[AI.dst]at hd
  subst hd
  have oe:DY P o=some (.du z k n ps)∧g0=g:=by
   unfold sD at hb
   split at hb
   ·split at hb
    ·obtain⟨xs,_,h⟩:=map_some hb;cases h
    ·cases hb
   ·obtain⟨xs,_,h⟩:=map_some hb;cases h
   ·split at hb
    ·cases hb
    ·split at hb
     ·rename_i oe
      simp only[Option.some.injEq,AI.op.injEq,true_and]at hb
      obtain⟨h1,h2⟩:=hb
      split at h2
      ·cases h2
      ·cases h2;exact⟨oe,h1.symm⟩
     ·rename_i ao eJ oe
      simp only[Option.some.injEq,AI.op.injEq,true_and]at hb
      obtain⟨h1,h2⟩:=hb
      subst h2
      exact⟨oe,h1.symm⟩
     ·cases hb
  obtain⟨oe,rfl⟩:=oe
  simp only[zw,iY]at h
  rcases kj hg ht h with ⟨hw,hA⟩|⟨hw,hB⟩
  ·simp only [hw,if_true]
   left
   split at hA
   ·rename_i d s' qP
    obtain⟨v,w',M',dE,r',hv,e'⟩:=yU oe r ht qP
    unfold Oper.wp
    rcases dE with dE|⟨dE,rfl⟩
    ·rw [dE,Oper.upon_value]
     exact hK _ _ _ _ _ hA e' r' hv
    ·rw [dE,Oper.upon_skip]
     exact hK _ _ _ _ _ hA e' r' hv
   ·exact hA.elim
  ·simp only [hw]
   exact skip hB
 ·have hs:zw ai=ai:=by
   unfold zw
   split
   ·rename_i d g z k n ps;exact absurd ⟨d,g,z,k,n,ps,rfl⟩ hb
   ·rfl
  rw[hs]at h
  exact xk hi hc r kA ht h hK
theorem Zz {a:AI} {r:List AI} {K:Tm→St→Prop} {tm:Tm} {s:St} (h:iY P (a::r) K tm s):iY P [a] (iY P r K) tm s:=by
 cases a<;>exact h
theorem G1 {B:fU} {nt:Nat} {ops:Array Oper} {Q:Exit→Tm→St→Prop} : ∀ (l:List Nat) (ol:List Oper) (is:List AI),l.map (ops[·]?)=ol.map some→q5 P nt ops ol=some is→
 ∀ (tm:Tm) (s:St) (act:Act) (w:World),iY P (is.map zw) (Q .normal) tm s→Holds B nt tm s act w→wpOps P ops (pP B nt Q) l act w
 | [],[],is,_,hc,tm,s,act,w,h,hh=>by cases hc;exact⟨tm,s,h,hh⟩
 | [],_::_,_,hl,_,_,_,_,_,_,_=>by simp at hl
 |_::_,[],_,hl,_,_,_,_,_,_,_=>by simp at hl
 | i::l,o::ol,is,hl,hc,tm,s,act,w,h,hh=>by
  simp only[List.map_cons,List.cons.injEq]at hl
  obtain⟨hi,hl⟩:=hl
  unfold q5 at hc
  split at hc
  ·rename_i ai Qm h1 h2
   cases hc
   obtain⟨M,e,r,ht,hn,hd⟩:=hh
   have qA:=x9 h1
   have hdd:=tj h1
   rw[List.map_cons]at h
   have key:=Lm (K:=fun act w=>wpOps P ops (pP B nt Q) l act w) (Q:=pP B nt Q) hi h1 r (B.laid.ext e) ht (Zz h) (fun d v s1 w1 M1 hk e1 r1 hv=>
    G1 (Q:=Q) l ol Qm hl h2 _ _ _ _ hk (hdd ▸ Holds.put e ht hn hd qA e1 r1 hv))
   simpa only[wpOps,wpOp,hi]using key
  ·cases hc
theorem Sem.swap {B:fU} {nt:Nat} {is:List AI} {Q:Exit→Tm→St→Prop} {tm:Tm} {s:St} (h:kb P B nt (.run (is.map zw)) Q tm s):Sem P B nt (.run is) Q tm s:=by
 intro c hc act w hh
 obtain⟨id,ops,rfl,hi⟩:=lF hc
 refine wp_region ?_
 exact G1 _ _ is (Bb ops) hi tm s act w (oq h) hh
end
end Go.Abs
namespace Go.Abs
set_option maxRecDepth 8000
open Go.Proofs
theorem Pa {l:List aG} (h:l.Nodup):ml l=km l:=by
 refine xE ?_ (mn l).1 fun x=>?_
 ·have h1:=GX l
  have h2:(ml l).Nodup:=(List.mergeSort_perm l _).nodup_iff.2 h
  refine(List.pairwise_and_iff.2 ⟨h1,h2⟩).imp fun {a b} XI=>?_
  rcases yC a b with e|e|e
  ·exact e
  ·exact absurd e XI.2
  ·rw[XI.1]at e;cases e
 ·rw[(mn l).2];exact(List.mergeSort_perm l _).mem_iff
theorem BL {p:Pg} (nM:(p.scope.1==0)=true) : ∀ (n i:Nat) (out:List aG),Good p out→Good p (wY p n i out)
 | 0,i,out,h=>h
 | n+1,i,out,h=>by
  simp only[wY]
  split
  ·rename_i x hx
   obtain⟨g,hg⟩:=h.2 x (List.mem_of_getElem? hx)
   refine BL nM n _ _ (h.add fun y m=>?_)
   unfold EO at m
   rw[hg]at m
   exact C5 nM (sx hg).1 m
  ·exact h
theorem DG {p:Pg} {name:aG} {f:Pc} (hf:p.find name=some f):Good p [name]:=
 ⟨by simp,fun x m=>by
  have:x=name:=by simpa using m
  subst this;exact⟨f,hf⟩⟩
theorem ZA {p:Pg} (h:p.iM) (nM:(p.scope.1==0)=true) {name:aG} {f:Pc} (hf:p.find name=some f) (s:St):aF Tryz.prog xy [.dv (fx p) 0, .str name] s (.slice .shared 1 ((km (p.work name)).map encStr)) s:=by
 refine aF.pure ?_ (by simp[D.bL,D.ok,uu]) (by simp only[D.ok,Tag.ok,fb];rfl) s
 obtain⟨rj,qU,qT⟩:=h.procs
 obtain⟨R,hR⟩ : ∃ R,p.work name=R:=⟨_,rfl⟩
 have hgR:Good p R:=hR ▸ BL nM _ _ _ (DG hf)
 rw[hR, ← Pa hgR.1]
 unfold Pg.work at hR
 have hg0:Good p [name]:=DG hf
 have hRl:=hgR.len
 unfold S0
 obtain⟨fn,Ao,C3⟩:=HD
 refine aF.intro ⟨fn,Ao,C3⟩ (Nat.le_of_ble_eq_true rfl) fun B hB=>?_
 generalize hQ:pS (⟨[],[]⟩:St).ah.length (⟨[],[]⟩:St).aw.length _ _ (⟨[],[]⟩:St)=Q
 have⟨hD,hY,hZ,gA⟩:=bP
 refine Sem.ni ?_
 repeat' (first
 |simp only[go_sem,hD,hY,hZ,gA]
 |(with_reducible first|refine bo fun hc=>?_|refine bp fun hc=>?_|refine bq (fun hc=>?_) fun hc=>?_)<;>(try simp only[hc,bs,↓reduceIte]at h)<;>try simp only[hc]
 |(with_reducible refine aD hQ ?_;exact ga)
 |(cases h;done))
 refine Sem.seq (Sem.swap ?_)
 simp only[List.map_cons,List.map_nil,zw]
 repeat' (first
 |simp only[go_sem,hD,hY,hZ,gA]
 |(with_reducible first|refine bo fun hc=>?_|refine bp fun hc=>?_|refine bq (fun hc=>?_) fun hc=>?_)<;>(try simp only[hc,bs,↓reduceIte]at h)<;>try simp only[hc]
 |(with_reducible refine aD hQ ?_;exact ga)
 |(cases h;done))
 refine Sem.ni ?_
 repeat' (first
 |simp only[go_sem,hD,hY,hZ,gA]
 |(with_reducible first|refine bo fun hc=>?_|refine bp fun hc=>?_|refine bq (fun hc=>?_) fun hc=>?_)<;>(try simp only[hc,bs,↓reduceIte]at h)<;>try simp only[hc]
 |(with_reducible refine aD hQ ?_;exact ga)
 |(cases h;done))
 refine fa 0 1 (bl.ind (ι:=Nat×Nat×List aG×Nat) (fun i=>wY p i.1 i.2.1 i.2.2.1=R∧Good p i.2.2.1∧i.1+i.2.1=p.procs.length+1∧i.2.2.2=i.2.2.1.length) (fun i=>i.1)
  (fun i=> [(0, .dv (fx p) 0),(5, .slice (.tok 0) 1 (i.2.2.1.map encStr)),(6, .int .i64 (i.2.1:Int))]) (fun i=>⟨[],[some i.2.2.2]⟩) ?_ (p.procs.length+1,0,[name],1) ⟨hR,hg0,rfl,rfl⟩)
 rintro⟨n,i,out,no⟩ ⟨h1,h2,h3,h4⟩ IH
 dsimp only at h1 h2 h3 h4
 subst h4
 have iX:=h2.len
 cases hx:out[i]? with
 | none=>
  have hD:decide ((i:Int)<(out.length:Int))=false:=by have:=List.getElem?_eq_none_iff.1 hx;simp;omega
  have:R=out:=by
   cases n with
   |zero=>simpa[wY]using h1.symm
   |succ n=>simp only[wY,hx]at h1;exact h1.symm
  subst this
  repeat' (first
 |simp only[go_sem,hD,hY,hZ,gA]
 |(with_reducible first|refine bo fun hc=>?_|refine bp fun hc=>?_|refine bq (fun hc=>?_) fun hc=>?_)<;>(try simp only[hc,bs,↓reduceIte]at h)<;>try simp only[hc]
 |(with_reducible refine aD hQ ?_;exact ga)
 |(cases h;done))
  refine Sem.seq (Sem.sort (k:=5) (t:=0) (l:=R) hB (by decide) (by decide) (by decide) rfl rfl (by omega) ?_)
  refine iF (ac:=acN) (Q:=Q) (tm:= [(5, .slice (.tok 0) 1 ((ml R).map encStr))]) (s:=⟨[],[some R.length]⟩) ?_
  repeat' (first
 |simp only[go_sem,hD,hY,hZ,gA]
 |(with_reducible first|refine bo fun hc=>?_|refine bp fun hc=>?_|refine bq (fun hc=>?_) fun hc=>?_)<;>(try simp only[hc,bs,↓reduceIte]at h)<;>try simp only[hc]
 |(with_reducible refine aD hQ ?_;exact ga)
 |(cases h;done))
 |some x=>
  have qQ:=(List.getElem?_eq_some_iff.1 hx).1
  have hD:decide ((i:Int)<(out.length:Int))=true:=by simp;omega
  have nK:i<4611686018427387904:=by omega
  cases n with
  |zero=>omega
  |succ n=>
  simp only[wY,hx]at h1
  obtain⟨g,JU⟩:=h2.2 x (List.mem_of_getElem? hx)
  have R4:=(sx JU).1
  have XQ:=fun s=>Zy h JU s
  have hcn:EO p x=g.calls:=by unfold EO;rw[JU]
  rw[hcn]at h1
  have hth : ∀ y∈g.calls,∃ f,p.find y=some f:=fun y m=>C5 nM R4 m
  have avP:g.calls.length≤p.procs.length:=Good.len ⟨uY (mn _).1,hth⟩
  obtain⟨W,hW⟩ : ∃ W,DF out g.calls=W:=⟨_,rfl⟩
  rw[hW]at h1
  repeat' (first
 |simp only[go_sem,hD,hY,hZ,gA,hx]
 |(with_reducible refine CU (XQ _) ?_)
 |(with_reducible first|refine bo fun hc=>?_|refine bp fun hc=>?_|refine bq (fun hc=>?_) fun hc=>?_)<;>(try simp only[hc,bs,↓reduceIte]at h)<;>try simp only[hc]
 |(with_reducible refine aD hQ ?_;(try cases h);simp only[aU,aV,bH,bI,go_sem,hD,hY,hZ,gA,hx];try exact cv)
 | (cases h;done))
  refine fa 0 1 (bl.ind (ι:=List aG×Nat×List aG×Nat) (fun j=>g.calls.drop j.2.1=j.1∧DF j.2.2.1 j.1=W∧Good p j.2.2.1∧j.2.2.2=j.2.2.1.length) (fun j=>j.1.length)
   (fun j=> [(0, .dv (fx p) 0),(5, .slice (.tok 0) 1 (j.2.2.1.map encStr)),(6, .int .i64 (i:Int)),(22, .slice .shared 1 (g.calls.map encStr)),(23, .int .i64 (g.calls.length:Int)),(24, .int .i64 (j.2.1:Int))]) (fun j=>⟨[],[some j.2.2.2]⟩) ?_ (g.calls,0,out,out.length) ⟨rfl,hW,h2,rfl⟩)
  clear hW
  rintro⟨rest,k,cE,n'⟩ ⟨j1,j2,j3,j4⟩ XN
  dsimp only at j1 j2 j3 j4
  subst j4
  have avQ:=j3.len
  cases rest with
  |nil=>
   have adj:=drop_nil j1
   simp only[DF]at j2
   subst j2
   repeat' (first
 |simp only[go_sem,hD,hY,hZ,gA,adj]
 |(with_reducible first|refine bo fun hc=>?_|refine bp fun hc=>?_|refine bq (fun hc=>?_) fun hc=>?_)<;>(try simp only[hc,bs,↓reduceIte]at h)<;>try simp only[hc]
 |(with_reducible refine aD hQ ?_;(try cases h);simp only[aU,aV,bH,bI,go_sem,hD,hY,hZ,gA,adj];try exact cv)
 | (cases h;done))
   refine eO 0 1 ?_ ?_ (IH (n,i+1,cE,cE.length) ⟨h1,j3,by dsimp only;omega,rfl⟩ (Nat.lt_succ_self _))
   ·(simp only[go_sem,hD,hY,hZ,gA,aI nK];try exact bW)
   ·(simp only[go_sem,hD,hY,hZ,gA,aI nK];try exact bW)
  | cons y rest=>
   obtain⟨mH,LV,tH,jg4⟩:=drop_cons j1
   have uL:k<4611686018427387904:=by omega
   have hZ:(cE.length+1)*17≤bA:=by unfold bA;omega
   have G2:=fun g s=>jB (l:=cE) (by omega) y g s
   have hy:=hth y (List.mem_of_getElem? mH)
   have CW:=j3.spk hy
   simp only[DF]at j2
   rcases Bool.eq_false_or_eq_true (fu cE y)with c1|c1
   ·simp only [Ci,c1,if_true]at j2
    repeat' (first
 |simp only[go_sem,hD,hY,hZ,gA,tH,mH,c1]
 |(with_reducible refine CU (G2 _ _) ?_)
 |(with_reducible first|refine bo fun hc=>?_|refine bp fun hc=>?_|refine bq (fun hc=>?_) fun hc=>?_)<;>(try simp only[hc,bs,↓reduceIte]at h)<;>try simp only[hc]
 |(with_reducible refine aD hQ ?_;(try cases h);simp only[aU,aV,bH,bI,go_sem,hD,hY,hZ,gA,tH,mH,c1];try exact cv)
 | (cases h;done))
    refine eO 0 1 ?_ ?_ (XN (rest,k+1,cE,cE.length) ⟨LV,j2,j3,rfl⟩ (Nat.lt_succ_self _))
    ·(simp only[go_sem,hD,hY,hZ,gA,aI uL];try exact bW)
    ·(simp only[go_sem,hD,hY,hZ,gA,aI uL];try exact bW)
   ·simp only [Ci,c1,Bool.false_eq_true,if_false]at j2 CW
    repeat' (first
 |simp only[go_sem,hD,hY,hZ,gA,tH,mH,c1]
 |(with_reducible refine CU (G2 _ _) ?_)
 |(with_reducible first|refine bo fun hc=>?_|refine bp fun hc=>?_|refine bq (fun hc=>?_) fun hc=>?_)<;>(try simp only[hc,bs,↓reduceIte]at h)<;>try simp only[hc]
 |(with_reducible refine aD hQ ?_;(try cases h);simp only[aU,aV,bH,bI,go_sem,hD,hY,hZ,gA,tH,mH,c1];try exact cv)
 | (cases h;done))
    refine eO 0 1 ?_ ?_ (XN (rest,k+1,cE++ [y],cE.length+1) ⟨LV,j2,CW,by simp⟩ (Nat.lt_succ_self _))
    ·(simp only[go_sem,hD,hY,hZ,gA,aI uL,List.map_append,List.map_cons,List.map_nil,encStr];try exact bW)
    ·(simp only[go_sem,hD,hY,hZ,gA,aI uL,List.map_append,List.map_cons,List.map_nil,encStr];try exact bW)
theorem JV (name:aG) : ∀ l:List Pc,l.any (fun f=>f.name==name)=(iT name l).isSome
 | []=>rfl
 |f::l=>by
  simp only[List.any_cons,iT]
  cases e:(f.name==name)
  ·simp[JV name l]
  ·simp
theorem Vq (name:aG) (f:Pc):aF Tryz.prog oQ ([.agg (cq f)]++ [.ptr 0 0]) ⟨[[.str name]],[]⟩ (.bool (f.name==name)) ⟨[[.str name]],[]⟩:=by
 show aF Tryz.prog oQ [.agg (cq f), .ptr 0 0] _ _ _
 refine aF.go Cy rfl fun B Q hB hQ=>?_
 have⟨hD,hY,hZ,gA⟩:=bP
 repeat' (first
 |simp only[go_sem,hD,hY,hZ,gA]
 |(with_reducible refine aD hQ ?_;exact bb))
def Pg.zz (p:Pg) (name:aG):Option Pc:=if p.scope.1==0 then p.find name else none
theorem Vr {p:Pg} (h:p.iM) (name:aG) (s:St):aF Tryz.prog ui [.agg (cu p), .str name] s (.bool (p.zz name).isSome) s:=by
 refine aF.pure ?_ (by simp[D.bL,D.ok,jc]) rfl s
 obtain⟨rj,qU,qT⟩:=h.procs
 have pI:=fun s=>vP h s
 have hi:=fun {s:St} {o:Nat} (ho:s.ah[o]? = some [.str name])=>Bu (Ax (l:=p.procs) (f:=oQ) (row:= [.str name]) (b:=fun f:Pc=>f.name==name) (by omega) rfl (by with_unfolding_all rfl) (fun x _=>Vq name x)) rfl (wC _) rfl ho
 have gY:=fun {s:St} {o:Nat} (ho:s.ah[o]? = some [.str name])=>(show aF Tryz.prog gN [.slice .shared 5 (p.procs.map cq), .gd 191 [.ptr o 0]] s (.bool (p.procs.any fun f:Pc=>f.name==name)) s from hi ho)
 simp only[JV]at gY
 unfold Pg.zz Pg.find
 unfold S0
 rcases Bool.eq_false_or_eq_true (p.scope.1==0)with b1|b1
 ·simp only [b1,if_true]
  refine aF.go wK rfl fun B Q hB hQ=>?_
  have⟨hD,hY,hZ,gA⟩:=bP
  repeat' (first
 |simp only[go_sem,hD,hY,hZ,gA,b1]
 |(with_reducible refine CU (pI _) ?_)
 |(with_reducible refine CU (gY (by with_unfolding_all rfl)) ?_)
 |(with_reducible refine aD hQ ?_;exact bb))
 ·simp only [b1,Bool.false_eq_true,if_false,Option.isSome_none]
  refine aF.go wK rfl fun B Q hB hQ=>?_
  have⟨hD,hY,hZ,gA⟩:=bP
  repeat' (first
 |simp only[go_sem,hD,hY,hZ,gA,b1]
 |(with_reducible refine CU (pI _) ?_)
 |(with_reducible refine CU (gY (by with_unfolding_all rfl)) ?_)
 |(with_reducible refine aD hQ ?_;exact bb))
def Pg.auz (p:Pg) (name:aG):List aG:=match p.zz name with|some f=>f.calls|none=> []
def Pg.anN (p:Pg) (name:aG):List aG:=match p.zz name with|some _=>km (p.work name)|none=> []
theorem G3 {p:Pg} {name:aG} {f:Pc} (h:p.zz name=some f):(p.scope.1==0)=true∧p.find name=some f:=by
 unfold Pg.zz at h
 split at h
 ·exact⟨by assumption,h⟩
 ·cases h
def sT (p:Pg) (out:List aG):List aG→List aG
 | []=>out
 |v::l=>sT p (if fu p.globals v then out++ [v]else out) l
def sU (p:Pg) (out:List aG):List Sm→List aG
 | []=>out
 |v::l=>sU p (sT p out v.said) l
def tJ (p:Pg) (n:aG):List Sm:=match p.find n with|some f=>Sm.dc f.body|none=> []
def uZ (p:Pg) (out:List aG):List aG→List aG
 | []=>out
 |n::l=>uZ p (sU p out (tJ p n)) l
theorem zA (p:Pg) : ∀ (l out:List aG),out.length≤(sT p out l).length∧(sT p out l).length≤out.length+l.length
 | [],out=>⟨Nat.le_refl _,Nat.le_refl _⟩
 |v::l,out=>by
  simp only[sT]
  have h:=zA p l (if fu p.globals v then out++ [v]else out)
  have h2:out.length≤(if fu p.globals v then out++ [v]else out).length∧(if fu p.globals v then out++ [v]else out).length≤out.length+1:=by split<;>simp
  simp only[List.length_cons]
  omega
def oR:List Sm→Nat
 | []=>0
 |v::l=>v.said.length+oR l
theorem BM : ∀ a b:List Sm,oR (a++b)=oR a+oR b
 | [],b=>by simp[oR]
 |v::a,b=>by simp only[List.cons_append,oR,BM a b];omega
theorem ZB (v:Sm):v.said.length≤1+v.x.size+2*Ar.aY v.args:=by
 have : ∀ (l:List Ar) (out:List aG),(Ar.said out l).length≤out.length+2*Ar.aY l:=by
  intro l
  induction l with
  |nil=>intro out;simp[Ar.said]
  |cons a l ih=>
   intro out
   simp only[Ar.said,Ar.aY]
   refine Nat.le_trans (ih _) ?_
   have:=lk a.x
   have:1≤a.x.size:=by obtain⟨_,_,_,_⟩:=a.x;simp[Ex.size]
   simp only[List.length_append]
   split<;>simp<;>omega
 have h1:=this v.args (v.sS++v.x.names)
 have h2:=lk v.x
 have h4:v.sS.length≤1:=by unfold Sm.sS;split<;>simp
 simp only[List.length_append]at h1
 unfold Sm.said
 omega
mutual
theorem R5 : ∀ s:Sm,oR s.pre≤2*s.size
 |⟨id,kind,labels,name,proc,x,has,args,aZ,aR⟩=>by
  simp only[Sm.pre,oR,BM,Sm.size]
  have h1:=ZB ⟨id,kind,labels,name,proc,x,has,args,aZ,aR⟩
  have h2:=u5 aZ
  have h3:=u5 aR
  dsimp only at h1
  omega
theorem u5 : ∀ l:List Sm,oR (Sm.dc l)≤2*Sm.aY l
 | []=>by simp[Sm.dc,oR,Sm.aY]
 |s::l=>by
  simp only[Sm.dc,BM,Sm.aY]
  have:=R5 s;have:=u5 l;omega
end
theorem zB (p:Pg) : ∀ (l:List Sm) (out:List aG),out.length≤(sU p out l).length∧(sU p out l).length≤out.length+oR l
 | [],out=>⟨Nat.le_refl _,Nat.le_refl _⟩
 |v::l,out=>by
  simp only[sU,oR]
  have h:=zB p l (sT p out v.said)
  have h2:=zA p v.said out
  omega
theorem zC {p:Pg} (h:p.iM) : ∀ (l out:List aG),out.length≤(uZ p out l).length∧(uZ p out l).length≤out.length+l.length*1800000
 | [],out=>⟨Nat.le_refl _,by simp[uZ]⟩
 | n::l,out=>by
  simp only[uZ]
  have h1:=zC h l (sU p out (tJ p n))
  have h2:=zB p (tJ p n) out
  have h3:oR (tJ p n)≤1800000:=by
   unfold tJ
   split
   ·rename_i f hf
    have:=u5 f.body
    have h4:=Pc.dd (sx hf).1
    have h5:=h.procs.2.1
    simp only[Pc.size]at h4
    omega
   ·simp[oR]
  simp only[List.length_cons]
  omega
theorem R6 {p:Pg} (h:p.may=true):p.procs.length≤16:=by
 unfold Pg.may at h
 split at h
 ·cases h
 ·rename_i c
  simp only[Bool.or_eq_true,decide_eq_true_eq,not_or,Int.not_lt,gt_iff_lt]at c
  have:=c.1.2
  omega
def Pg.sy (p:Pg) (name:aG):List aG:=uZ p [] (km (p.work name))
def Pg.qi (p:Pg) (name:aG):List aG:=match p.zz name with|some _=>km (p.sy name)|none=> []
theorem JW {p:Pg} (nM:(p.scope.1==0)=true) {name:aG} {f:Pc} (hf:p.find name=some f):Good p (km (p.work name)):=by
 have h:=BL nM (p.procs.length+1) 0 [name] (DG hf)
 refine⟨uY (mn _).1,fun x m=>h.2 x ?_⟩
 exact((mn _).2 x).1 m
theorem R7 {p:Pg} (h:p.iM) (name:aG) (s:St):aF Tryz.prog rF [.agg (cu p), .str name] s (.slice .shared 1 ((p.qi name).map encStr)) s:=by
 refine aF.pure ?_ (by simp[D.bL,D.ok,jc]) (by simp only[D.ok,Tag.ok,fb];rfl) s
 have hk:=fun s=>Vr h name s
 have dh:=fun s=>Cf (p:=p) (by have:=h.procs;omega) s
 unfold Pg.qi
 unfold S0
 cases Vs:p.zz name with
 |none=>
  simp only[Vs,Option.isSome_none]at hk
  simp only[List.map_nil]
  refine aF.go uI rfl fun B Q hB hQ=>?_
  have⟨hD,hY,hZ,gA⟩:=bP
  repeat' (first
 |simp only[go_sem,hD,hY,hZ,gA]
 |(with_reducible refine CU (hk _) ?_)
 |(with_reducible refine aD hQ ?_;exact bb))
 |some f=>
 obtain⟨nM,hf⟩:=G3 Vs
 simp only[Vs,Option.isSome_some]at hk
 dsimp only
 obtain⟨rj,qU,qT⟩:=h.procs
 have hN:=JW nM hf
 obtain⟨N,hNe⟩ : ∃ N,km (p.work name)=N:=⟨_,rfl⟩
 rw[hNe]at hN
 have hNl:=hN.len
 obtain⟨R,hR⟩ : ∃ R,p.sy name=R:=⟨_,rfl⟩
 rw[hR]
 unfold Pg.sy at hR
 rw[hNe]at hR
 have hRl:R.length≤28800000:=by
  have:=(zC h N []).2
  rw[hR]at this
  have h4:=R6 (BG nM)
  have h3:N.length*1800000≤16*1800000:=Nat.mul_le_mul_right _ (by omega)
  simp only[List.length_nil]at this
  omega
 have XQ:=fun s=>ZA h nM hf s
 simp only[hNe]at XQ
 obtain⟨fn,Ao,C3⟩:=uI
 refine aF.intro ⟨fn,Ao,C3⟩ (Nat.le_of_ble_eq_true rfl) fun B hB=>?_
 generalize hQ:pS (⟨[],[]⟩:St).ah.length (⟨[],[]⟩:St).aw.length _ _ (⟨[],[]⟩:St)=Q
 have⟨hD,hY,hZ,gA⟩:=bP
 refine Sem.ni ?_
 repeat' (first
 |simp only[go_sem,hD,hY,hZ,gA]
 |(with_reducible refine aD hQ ?_;exact bb))
 refine Sem.ni ?_
 repeat' (first
 |simp only[go_sem,hD,hY,hZ,gA]
 |(with_reducible refine CU (hk _) ?_)
 |(with_reducible refine aD hQ ?_;exact bb))
 refine Sem.ni ?_
 repeat' (first
 |simp only[go_sem,hD,hY,hZ,gA]
 |(with_reducible refine CU (dh _) ?_)
 |(with_reducible refine aD hQ ?_;exact bb))
 refine Sem.ni ?_
 repeat' (first
 |simp only[go_sem,hD,hY,hZ,gA]
 |(with_reducible refine aD hQ ?_;exact bb))
 refine Sem.ni ?_
 repeat' (first
 |simp only[go_sem,hD,hY,hZ,gA]
 |(with_reducible refine CU (XQ _) ?_)
 |(with_reducible refine aD hQ ?_;exact bb))
 refine bl.qC 6 1 rfl ?_
 simp only[go_sem,hD,hY,hZ,gA]
 refine fa 1 1 (bl.ind (ι:=List aG×Nat×List aG×Nat) (fun i=>N.drop i.2.1=i.1∧uZ p i.2.2.1 i.1=R∧i.2.2.1.length≤R.length∧i.2.2.2=i.2.2.1.length) (fun i=>i.1.length)
  (fun i=> [(2, .ptr 0 0),(5, .dv (fx p) 0),(6, .slice (.tok 0) 1 (i.2.2.1.map encStr)),(21, .slice .shared 1 (N.map encStr)),(22, .int .i64 (N.length:Int)),(23, .int .i64 (i.2.1:Int))]) (fun i=>⟨[cu p],[some i.2.2.2]⟩) ?_ (N,0,[],0) ⟨rfl,hR,Nat.zero_le _,rfl⟩)
 rintro⟨rest,k,out,no⟩ ⟨h1,h2,h3,h4⟩ IH
 dsimp only at h1 h2 h3 h4
 subst h4
 cases rest with
 |nil=>
  have hD:=drop_nil h1
  simp only[uZ]at h2
  subst h2
  have EL:(ml out).length=out.length:=List.length_mergeSort out
  repeat' (first
 |simp only[go_sem,hD,hY,hZ,gA]
 |(with_reducible refine aD hQ ?_;exact bb))
  refine Sem.seq (Sem.sort (k:=6) (t:=0) (l:=out) hB (by decide) (by decide) (by decide) rfl rfl (by omega) ?_)
  refine Sem.seq (Sem.compact (k:=6) (t:=0) (l:=ml out) hB (by decide) rfl (by rw[EL];rfl) (by rw[EL];omega) ?_)
  rw[BJ]
  refine iF (ac:= .ret) (Q:=Q) (tm:= [(59, .slice (.tok 0) 1 ((km out).map encStr)),(4, .slice (.tok 0) 1 ((km out).map encStr))]) (s:=⟨[],[some (km out).length]⟩) ?_
  repeat' (first
 |simp only[go_sem,hD,hY,hZ,gA]
 |(with_reducible refine aD hQ ?_;exact bb))
 | cons x rest=>
  obtain⟨hY,g2,hD,g4⟩:=drop_cons h1
  have bO:k<4611686018427387904:=by omega
  obtain⟨g,JU⟩:=hN.2 x (List.mem_of_getElem? hY)
  have R4:=(sx JU).1
  have hbd:tJ p x=Sm.dc g.body:=by unfold tJ;rw[JU]
  simp only[uZ,hbd]at h2
  obtain⟨j,hj,rm⟩:=BK (k:=0) JU
  have rm:p.at x=((j:Nat):Int):=by unfold Pg.at;simpa using rm
  have wT:=fun s=>Ez (p:=p) (by omega) x s
  simp only[rm]at wT
  obtain⟨it,pN,wV⟩:=U2 hj (by omega)
  have ac8:it.length≤900000:=by
   have e:=congrArg List.length pN
   obtain⟨a,b,e',_,_,e3,e4⟩:=(kx p).2 j g hj
   have e5:=pf p
   have e6:=congrArg List.length e3
   rw[e4]at e5
   simp only[List.length_map,List.length_append]at e e5 e6
   omega
  rw[← pN]at h2
  repeat' (first
 |simp only[go_sem,hD,hY,hZ,gA,hY]
 |(with_reducible refine CU (wT _) ?_)
 |(with_reducible refine CU (wV _) ?_)
 | (with_reducible refine aD hQ ?_;exact bb))
  obtain⟨W,hW⟩ : ∃ W,sU p out (it.map Im.s)=W:=⟨_,rfl⟩
  rw[hW]at h2
  have hWR:W.length≤R.length:=by have:=(zC h rest W).1;rw[h2]at this;exact this
  have RV:out.length≤W.length:=by have:=(zB p (it.map Im.s) out).1;rw[hW]at this;exact this
  refine fa 1 1 (bl.ind (ι:=List Im×Nat×List aG×Nat) (fun i=>it.drop i.2.1=i.1∧sU p i.2.2.1 (i.1.map Im.s)=W∧i.2.2.1.length≤W.length∧i.2.2.2=i.2.2.1.length) (fun i=>i.1.length)
   (fun i=> [(2, .ptr 0 0),(5, .dv (fx p) 0),(6, .slice (.tok 0) 1 (i.2.2.1.map encStr)),(21, .slice .shared 1 (N.map encStr)),(22, .int .i64 (N.length:Int)),(23, .int .i64 (k:Int)),(31, .slice .shared 17 (it.map dt)),(32, .int .i64 (it.length:Int)),(33, .int .i64 (i.2.1:Int))]) (fun i=>⟨[cu p],[some i.2.2.2]⟩) ?_ (it,0,out,out.length) ⟨rfl,hW,RV,rfl⟩)
  rintro⟨qs,k2,DH,no⟩ ⟨j1,j2,j3,j4⟩ By
  dsimp only at j1 j2 j3 j4
  subst j4
  cases qs with
  |nil=>
   have adl:=drop_nil j1
   simp only[List.map_nil,sU]at j2
   subst j2
   repeat' (first
 |simp only[go_sem,hD,hY,hZ,gA,adl]
 | (with_reducible refine aD hQ ?_;exact bb))
   refine eO 1 1 ?_ ?_ (IH (rest,k+1,DH,DH.length) ⟨g2,h2,hWR,rfl⟩ (Nat.lt_succ_self _))
   ·(simp only[go_sem,hD,hY,hZ,gA,aI bO];try exact bW)
   ·(simp only[go_sem,hD,hY,hZ,gA,aI bO];try exact bW)
  |cons y qs=>
   obtain⟨mH,LV,tH,jg4⟩:=drop_cons j1
   have uL:k2<4611686018427387904:=by omega
   have hym:y.s∈Sm.dc g.body:=by rw[← pN];exact List.mem_map_of_mem (List.mem_of_getElem? mH)
   have rZ:=h.said R4 _ hym
   have XJ:=fun s=>Bz rZ s
   have EL:=JK _ rZ
   simp only[List.map_cons,sU]at j2
   repeat' (first
 |simp only[go_sem,hD,hY,hZ,gA,tH,mH]
 |(with_reducible refine CU (XJ _) ?_)
 | (with_reducible refine aD hQ ?_;exact bb))
   obtain⟨V,hV⟩ : ∃ V,sT p DH y.s.said=V:=⟨_,rfl⟩
   rw[hV]at j2
   have hVW:V.length≤W.length:=by have:=(zB p (qs.map Im.s) V).1;rw[j2]at this;exact this
   have hoV:DH.length≤V.length:=by have:=(zA p y.s.said DH).1;rw[hV]at this;exact this
   refine fa 1 1 (bl.ind (ι:=List aG×Nat×List aG×Nat) (fun i=>y.s.said.drop i.2.1=i.1∧sT p i.2.2.1 i.1=V∧i.2.2.1.length≤V.length∧i.2.2.2=i.2.2.1.length) (fun i=>i.1.length)
    (fun i=> [(2, .ptr 0 0),(5, .dv (fx p) 0),(6, .slice (.tok 0) 1 (i.2.2.1.map encStr)),(21, .slice .shared 1 (N.map encStr)),(22, .int .i64 (N.length:Int)),(23, .int .i64 (k:Int)),(31, .slice .shared 17 (it.map dt)),(32, .int .i64 (it.length:Int)),(33, .int .i64 (k2:Int)),(39, .slice .shared 1 (y.s.said.map encStr)),(40, .int .i64 (y.s.said.length:Int)),(41, .int .i64 (i.2.1:Int))]) (fun i=>⟨[cu p],[some i.2.2.2]⟩) ?_ (y.s.said,0,DH,DH.length) ⟨rfl,hV,hoV,rfl⟩)
   rintro⟨EP,k3,zD,no⟩ ⟨l1,l2,l3,l4⟩ IH3
   dsimp only at l1 l2 l3 l4
   subst l4
   cases EP with
   |nil=>
    have anO:=drop_nil l1
    simp only[sT]at l2
    subst l2
    repeat' (first
 |simp only[go_sem,hD,hY,hZ,gA,anO]
 | (with_reducible refine aD hQ ?_;exact bb))
    refine eO 1 1 ?_ ?_ (By (qs,k2+1,zD,zD.length) ⟨LV,j2,hVW,rfl⟩ (Nat.lt_succ_self _))
    ·(simp only[go_sem,hD,hY,hZ,gA,aI uL];try exact bW)
    ·(simp only[go_sem,hD,hY,hZ,gA,aI uL];try exact bW)
   | cons z EP=>
    obtain⟨adn,lg2,llt,lg4⟩:=drop_cons l1
    have G4:k3<4611686018427387904:=by omega
    have G2:=fun g s=>jB (l:=p.globals) (by omega) z g s
    simp only[sT]at l2
    rcases Bool.eq_false_or_eq_true (fu p.globals z)with c1|c1
    ·simp only [c1,if_true]at l2
     have hZ:(zD.length+1)*17≤bA:=by unfold bA;omega
     have hoo:(zD++ [z]).length≤V.length:=by have:=(zA p EP (zD++ [z])).1;rw[l2]at this;exact this
     repeat' (first
 |simp only[go_sem,hD,hY,hZ,gA,llt,adn,c1]
 |(with_reducible refine CU (G2 _ _) ?_)
 | (with_reducible refine aD hQ ?_;exact bb))
     refine eO 1 1 ?_ ?_ (IH3 (EP,k3+1,zD++ [z],zD.length+1) ⟨lg2,l2,hoo,by simp⟩ (Nat.lt_succ_self _))
     ·(simp only[go_sem,hD,hY,hZ,gA,aI G4,List.map_append,List.map_cons,List.map_nil,encStr];try exact bW)
     ·(simp only[go_sem,hD,hY,hZ,gA,aI G4,List.map_append,List.map_cons,List.map_nil,encStr];try exact bW)
    ·simp only [c1,Bool.false_eq_true,if_false]at l2
     repeat' (first
 |simp only[go_sem,hD,hY,hZ,gA,llt,adn,c1]
 |(with_reducible refine CU (G2 _ _) ?_)
 |(with_reducible refine aD hQ ?_;exact bb))
     refine eO 1 1 ?_ ?_ (IH3 (EP,k3+1,zD,zD.length) ⟨lg2,l2,l3,rfl⟩ (Nat.lt_succ_self _))
     ·(simp only[go_sem,hD,hY,hZ,gA,aI G4];try exact bW)
     ·(simp only[go_sem,hD,hY,hZ,gA,aI G4];try exact bW)
mutual
def Sm.its (deep cf:Int) (aR:Bool):Sm→List It
 |⟨id,kind,labels,name,proc,x,has,args,aZ,e⟩=>⟨⟨id,kind,labels,name,proc,x,has,args,aZ,e⟩,deep,cf,aR⟩::(Sm.Vt (deep+1) id false aZ++Sm.Vt (deep+1) id true e)
def Sm.Vt (deep cf:Int) (aR:Bool):List Sm→List It
 | []=> []
 |s::l=>s.its deep cf aR++Sm.Vt deep cf aR l
end
def fZ (l:List Sm) (none:Int):Int:=match l with| []=>none|t::_=>t.id
mutual
def Sm.vR (proc up next loop:Int):Sm→List Im
 |⟨id,kind,labels,name,pc,x,has,args,aZ,aR⟩=>⟨⟨id,kind,labels,name,pc,x,has,args,aZ,aR⟩,proc,up,next,loop⟩::
  (Sm.jO proc id (if kind==6 then id else next) (if kind==6 then id else loop) aZ++Sm.jO proc id (if kind==6 then id else next) (if kind==6 then id else loop) aR)
def Sm.jO (proc up next loop:Int):List Sm→List Im
 | []=> []
 |s::l=>s.vR proc up (fZ l next) loop++Sm.jO proc up next loop l
end
def oG (n:Nat) (l:List Sm):Prop:=∀ (i:Nat) (v:Sm),l[i]? = some v→v.id=((n+i+1:Nat):Int)
theorem oG.head {n:Nat} {v:Sm} {l:List Sm} (h:oG n (v::l)):v.id=((n+1:Nat):Int):=h 0 v rfl
theorem oG.tail {n:Nat} {v:Sm} {l:List Sm} (h:oG n (v::l)):oG (n+1) l:=fun i w hw=>by
 rw[h (i+1) w (by simpa using hw)];congr 1;omega
theorem oG.left {n:Nat} {a b:List Sm} (h:oG n (a++b)):oG n a:=fun i w hw=>h i w (by rw[List.getElem?_append_left (List.getElem?_eq_some_iff.1 hw).1];exact hw)
theorem oG.right {n:Nat} {a b:List Sm} (h:oG n (a++b)):oG (n+a.length) b:=fun i w hw=>by
 rw[h (a.length+i) w (by rw[List.getElem?_append_right (by omega)];simpa using hw)];congr 1;omega
theorem Vu (s:Sm):s.pre=s::(Sm.dc s.aZ++Sm.dc s.aR):=Sm.qf s
mutual
theorem L0 : ∀ s:Sm,s.jy=s.pre.length
 |⟨id,kind,labels,name,proc,x,has,args,aZ,aR⟩=>by
  simp only[Sm.jy,Sm.pre,List.length_cons,List.length_append,zE aZ,zE aR];omega
theorem zE : ∀ l:List Sm,Sm.jd l=(Sm.dc l).length
 | []=>rfl
 |s::l=>by simp only[Sm.jd,Sm.dc,List.length_append,L0 s,zE l]
end
mutual
theorem XR (proc up next loop:Int) : ∀ s:Sm,(s.vR proc up next loop).map Im.s=s.pre
 |⟨id,kind,labels,name,pc,x,has,args,aZ,aR⟩=>by
  simp only[Sm.vR,Sm.pre,List.map_cons,List.map_append,rP _ _ _ _ aZ,rP _ _ _ _ aR]
theorem rP (proc up next loop:Int) : ∀ l:List Sm,(Sm.jO proc up next loop l).map Im.s=Sm.dc l
 | []=>rfl
 |s::l=>by simp only[Sm.jO,Sm.dc,List.map_append,XR _ _ _ _ s,rP _ _ _ _ l]
end
theorem ZC (proc up next loop:Int) (s:Sm):(s.vR proc up next loop).length=s.pre.length:=by rw[← XR proc up next loop s,List.length_map]
theorem DI (proc up next loop:Int) (l:List Sm):(Sm.jO proc up next loop l).length=(Sm.dc l).length:=by rw[← rP proc up next loop l,List.length_map]
mutual
theorem ZD (proc up next loop:Int) (out:List Im) : ∀ s:Sm,oG out.length s.pre→Im.one proc up next loop out s=out++s.vR proc up next loop
 | ⟨id,kind,labels,name,pc,x,has,args,aZ,aR⟩,h=>by
  simp only[Sm.pre]at h
  have h0:id=((out.length+1:Nat):Int):=h.head
  have h1:=h.tail.left
  have h2:=h.tail.right
  have e0:((out.length:Int)+1)=id:=by rw[h0];rfl
  simp only[Im.one,Sm.vR,e0]
  rw[vS proc id _ _ (out++ [_]) aZ (by rw[List.length_append];exact h1)]
  rw[vS proc id _ _ _ aR (by
   rw[List.length_append,List.length_append,DI];exact h2)]
  simp
theorem vS (proc up next loop:Int) (out:List Im) : ∀ l:List Sm,oG out.length (Sm.dc l)→Im.rows proc up next loop out l=out++Sm.jO proc up next loop l
 | [],h=>by simp[Im.rows,Sm.jO]
 | s::l,h=>by
  simp only[Sm.dc]at h
  have e:(if l.length=0 then next else(out.length:Int)+1+(s.jy:Int))=fZ l next:=by
   cases l with
   |nil=>rfl
   |cons t l=>
    have h2:=h.right
    simp only[Sm.dc]at h2
    rw[Vu t]at h2
    simp only[List.length_cons,fZ]
    rw[if_neg (by omega),h2.head,L0]
    omega
  simp only[Im.rows,Sm.jO,e]
  rw[ZD proc up _ loop out s h.left,vS proc up next loop _ l (by rw[List.length_append,ZC];exact h.right)]
  simp
end
def pX (n:Nat):List Pc→List Im
 | []=> []
 |f::l=>Sm.jO n 0 (-1) 0 f.body++pX (n+1) l
theorem R9 : ∀ (l:List Pc) (n:Nat) (h:Sh),oG h.L.length ((l.map fun f=>Sm.dc f.body).flatten)→(Sh.go n h l).L=h.L++pX n l
 | [],n,h,_=>by simp[Sh.go,pX]
 | f::l,n,h,hi=>by
  simp only[List.map_cons,List.flatten_cons]at hi
  simp only[Sh.go,pX]
  have e:=vS (n:Int) 0 (-1) 0 h.L f.body hi.left
  rw[R9 l (n+1) _ (by
   show oG (Im.rows (n:Int) 0 (-1) 0 h.L f.body).length _
   rw[e,List.length_append,DI];exact hi.right)]
  show Im.rows (n:Int) 0 (-1) 0 h.L f.body++_=_
  rw[e];simp
theorem L1 {p:Pg} (h:p.may=true):oG 0 p.pre:=fun i v hv=>by rw[BE h hv];congr 1;omega
theorem Sb {p:Pg} (h:p.may=true):p.aX.L=pX 0 p.procs:=by
 have:=R9 p.procs 0 ⟨[],[],[]⟩ (L1 h)
 simpa[Pg.aX]using this
def Sc (l:List It):Nat→Int→Int
 | 0,_=>0
 |n+1,cf=>if cf==0 then 0 else match l[n]? with
  |none=>0
  |some x=>if x.s.id != cf then Sc l n cf else if x.s.kind==6 then cf else Sc l n x.cf
def Up (L:List It) (k:Nat) (its:List It) (vR:List Im):Prop:=∀ (i:Nat) (a:It) (b:Im),its[i]? = some a→vR[i]? = some b→a.s=b.s∧a.cf=b.up∧Sc L (k+i) a.cf=b.loop
def iV (seen:List aG):List aG→List aG×Bool
 | []=>(seen,true)
 |n::l=>if fu seen n then(seen,false)else iV (seen++ [n]) l
theorem BN : ∀ (l seen:List aG),iV seen l=(if qg seen l then((iV seen l).1,false)else(seen++l,true))
 | [],seen=>by simp[iV,qg]
 | n::l,seen=>by
  simp only[iV,qg]
  split
  ·rfl
  ·rw [BN l (seen++ [n])]
   split
   ·rfl
   ·simp
theorem L2 : ∀ (a b seen:List aG),qg seen (a++b)=(qg seen a ||qg (seen++a) b)
 | [],b,seen=>by simp[qg]
 |x::a,b,seen=>by
  simp only[List.cons_append,qg]
  split
  ·rfl
  ·rw[L2 a b (seen++ [x])];simp
theorem G5 : ∀ (l seen:List aG),seen.length≤(iV seen l).1.length∧(iV seen l).1.length≤seen.length+l.length
 | [],seen=>by simp[iV]
 |n::l,seen=>by
  simp only[iV]
  split
  ·simp
  ·have:=G5 l (seen++ [n]);simp at this ⊢;omega
def qt (zF:List aG) (v:Sm) (loop:Int):Bool:=if v.kind==7 ||v.kind==8 then loop != 0 else if v.kind==10 then fu zF v.name else true
def sV (zF fin seen:List aG):List (Sm×Int)→Option Int
 | []=>if(iV seen fin).2 then none else some 0
 |(v,lp)::l=>if(iV seen v.labels).2 then(if qt zF v lp then sV zF fin (iV seen v.labels).1 l else some v.id)else some v.id
def il:List Sm→List aG
 | []=> []
 |v::l=>v.labels++il l
def Pc.labels (f:Pc):List aG:=il (Sm.dc f.body)++f.fin
def Im.pair (m:Im):Sm×Int:=(m.s,m.loop)
def Pc.wZ (f:Pc):List (Sm×Int):=(Sm.jO 0 0 (-1) 0 f.body).map Im.pair
def sW:List Pc→Option Int
 | []=>none
 |f::l=>match sV f.labels f.fin [] f.wZ with
  |some id=>some id
  |none=>sW l
def yD (c:Int):Option Int→Int×Int
 |some id=>(c,id)
 |none=>(0,0)
def Pg.jump (p:Pg):Int×Int:=if p.scope.1==0 then yD 7 (sW p.procs)else(1,0)
mutual
theorem Vv (proc up next u6 Sd next' loop:Int) : ∀ s:Sm,(s.vR proc up next loop).map Im.pair=(s.vR u6 Sd next' loop).map Im.pair
 |⟨id,kind,labels,name,pc,x,has,args,aZ,aR⟩=>by
  simp only[Sm.vR,List.map_cons,List.map_append,Im.pair]
  rw[w5 proc id _ u6 id (if kind==6 then id else next') _ aZ,w5 proc id _ u6 id (if kind==6 then id else next') _ aR]
theorem w5 (proc up next u6 Sd next' loop:Int) : ∀ l:List Sm,(Sm.jO proc up next loop l).map Im.pair=(Sm.jO u6 Sd next' loop l).map Im.pair
 | []=>rfl
 |s::l=>by
  simp only[Sm.jO,List.map_append]
  rw[Vv proc up _ u6 Sd (fZ l next') loop s,w5 proc up next u6 Sd next' loop l]
end
theorem JX (n:Int) (f:Pc):(Sm.jO n 0 (-1) 0 f.body).map Im.pair=f.wZ:=w5 _ _ _ _ _ _ _ _
theorem ZE (f:Pc):f.wZ.map Prod.fst=Sm.dc f.body:=by
 unfold Pc.wZ
 rw[List.map_map, ← rP 0 0 (-1) 0 f.body]
 rfl
def L3 (l:List It):Nat→Int→Int
 | 0,_=>0
 |n+1,id=>match l[n]? with
  |none=>0
  |some x=>if x.s.id != id then L3 l n id else if Sc l n x.cf != 0 then Sc l n x.cf else L3 l n id
theorem L4 : ∀ (l:List Pc) (n:Nat) (h:Sh),h.lo.length=n→h.hi.length=n→oG h.L.length ((l.map fun f=>Sm.dc f.body).flatten)→
 ∃ lo hi,Sh.go n h l = ⟨h.L++pX n l,h.lo++lo,h.hi++hi⟩∧lo.length=l.length∧hi.length=l.length∧
  ∀ (i:Nat) (f:Pc),l[i]? = some f→∃ a e:List Im,lo[i]? = some (((h.L++a).length:Int)+1)∧hi[i]? = some (((h.L++a++Sm.jO ((n+i:Nat):Int) 0 (-1) 0 f.body).length:Int)+1)∧pX n l=a++Sm.jO ((n+i:Nat):Int) 0 (-1) 0 f.body++e
 | [],n,h,hl,hh,_=>⟨[],[],by simp[Sh.go,pX],rfl,rfl,fun i f h=>by simp at h⟩
 | f::l,n,h,hl,hh,hi=>by
  simp only[List.map_cons,List.flatten_cons]at hi
  simp only[Sh.go,pX]
  have e1:=vS (n:Int) 0 (-1) 0 h.L f.body hi.left
  obtain⟨lo,gY,h2,h3,h4,h5⟩:=L4 l (n+1) ⟨Im.rows (n:Int) 0 (-1) 0 h.L f.body,h.lo++ [(h.L.length:Int)+1],h.hi++ [((Im.rows (n:Int) 0 (-1) 0 h.L f.body).length:Int)+1]⟩ (by simp[hl]) (by simp[hh]) (by
   show oG (Im.rows (n:Int) 0 (-1) 0 h.L f.body).length _
   rw[e1,List.length_append,DI];exact hi.right)
  refine⟨((h.L.length:Int)+1)::lo,(((Im.rows (n:Int) 0 (-1) 0 h.L f.body).length:Int)+1)::gY, ?_,by simp[h3],by simp[h4],fun i g gY=>?_⟩
  ·rw[h2,e1];simp
  ·cases i with
   |zero=>
    simp only[List.getElem?_cons_zero,Option.some.injEq]at gY
    subst gY
    exact⟨[],pX (n+1) l,by simp,by rw[e1];simp,by simp⟩
   |succ i=>
    simp only[List.getElem?_cons_succ]at gY
    obtain⟨a,e,g1,g2,g3⟩:=h5 i g gY
    have en:n+1+i=n+(i+1):=by omega
    rw[en]at g2 g3
    refine⟨Sm.jO n 0 (-1) 0 f.body++a,e, ?_, ?_,by rw[g3];simp⟩
    ·rw[List.getElem?_cons_succ,g1,e1];simp
    ·rw[List.getElem?_cons_succ,g2,e1];simp
theorem adp {p:Pg} (hb:p.may=true) {i:Nat} {f:Pc} (hf:p.procs[i]? = some f) (hs:Pc.aY p.procs<1000000000) (s:St) :
 aF Tryz.prog gM [.dv (fx p) 0, .int .i64 (i:Int)] s (.slice .shared 17 ((Sm.jO (i:Int) 0 (-1) 0 f.body).map dt)) s:=by
 obtain⟨lo,hi,h1,h2,h3,h4⟩:=L4 p.procs 0 ⟨[],[],[]⟩ rfl rfl (L1 hb)
 obtain⟨a,e,g1,g2,g3⟩:=h4 i f hf
 simp only[Nat.zero_add,List.nil_append]at g1 g2 g3 h1
 refine acW hs (a:=a) (e:=e) ?_ ?_ ?_ s
 ·show(Sh.go 0 ⟨[],[],[]⟩ p.procs).lo[i]? = _
  rw[h1];exact g1
 ·show(Sh.go 0 ⟨[],[],[]⟩ p.procs).hi[i]? = _
  rw[h1];exact g2
 ·show(Sh.go 0 ⟨[],[],[]⟩ p.procs).L=_
  rw[h1];exact g3
theorem aF.anP {P:Program} {f:FuncId} {pre post:List D} {rows oJ:List (List D)} {z z' k k':Nat} {b:Bool} (h:aF P f (pre++ .slice (.tok 0) z rows::post) ⟨[],[some k]⟩ (.tuple [.slice (.tok 0) z' oJ, .bool b]) ⟨[],[some k']⟩)
 (hp:D.bL 0 0 pre=true) (ha:D.bL 0 0 post=true) (hw:D.gS 0 0 rows=true) (hw':D.gS 0 0 oJ=true)
 {s:St} {t:Nat} (ht:s.aw[t]? = some (some k)):aF P f (pre++ .slice (.tok t) z rows::post) s (.tuple [.slice (.tok t) z' oJ, .bool b]) ⟨s.ah,s.aw.set t (some k')⟩:=by
 refine bM.frame [] [t] h (by simp) (by simp) (by simp) (by simpa using (List.getElem?_eq_some_iff.1 ht).1) rfl (fun i o' ds e1 e2=>by simp at e1) rfl (fun i t' e1=>?_)
  ?_ ?_ ?_
 ·cases i with
  |zero=>simp at e1;subst e1;simp[ht]
  |succ i=>simp at e1
 ·have h1:=fB [] [t] _ hp
  have h2:=fB [] [t] _ ha
  rw[fN]at h1 h2
  simp[fN,D.cU,Tag.cU,h1,h2,jk _ _ _ hw]
 ·have h1:=iy (n':=0) (m':=1) (Nat.le_refl 0) (Nat.zero_le 1) _ hp
  have h2:=iy (n':=0) (m':=1) (Nat.le_refl 0) (Nat.zero_le 1) _ ha
  rw[ya]at h1 h2 ⊢
  simp only[List.length_nil,List.length_cons,List.all_append,h1,Bool.true_and,List.all_cons,h2,Bool.and_true,D.ok,Tag.ok,mA (Nat.zero_le 0) (Nat.zero_le 1) _ hw]
  rfl
 ·rintro _ _ ⟨rfl,rfl⟩
  refine⟨by simp[D.back,D.cU,D.e9,Tag.cU,kB,jk _ _ _ hw'], ?_⟩
  simp[St.back,kF]
theorem adq {seen l:List aG} (hl:seen.length+l.length<1000000000):aF Tryz.prog qe [.slice (.tok 0) 1 (seen.map encStr), .slice .shared 1 (l.map encStr)] ⟨[],[some seen.length]⟩
 (.tuple [.slice (.tok 0) 1 ((iV seen l).1.map encStr), .bool (iV seen l).2]) ⟨[],[some (iV seen l).1.length]⟩:=by
 generalize hR:iV seen l=R
 refine aF.go HH rfl fun B Q hB hQ=>?_
 have⟨hD,hY,hZ,gA⟩:=bP
 repeat' (first
 |simp only[go_sem,hD,hY,hZ,gA]
 |(with_reducible refine aD hQ ?_;exact bb))
 refine fa 0 1 (bl.ind (ι:=List aG×Nat×List aG×Nat) (fun i=>l.drop i.2.1=i.1∧iV i.2.2.1 i.1=R∧i.2.2.2=i.2.2.1.length∧i.2.2.1.length+i.1.length<1000000000) (fun i=>i.1.length)
  (fun i=> [(0, .slice (.tok 0) 1 (i.2.2.1.map encStr)),(8, .slice .shared 1 (l.map encStr)),(9, .int .i64 (l.length:Int)),(10, .int .i64 (i.2.1:Int))]) (fun i=>⟨[],[some i.2.2.2]⟩) ?_ (l,0,seen,seen.length) ⟨rfl,hR,rfl,hl⟩)
 clear hR
 rintro⟨rest,k,out,n⟩ ⟨h1,h2,h3,h4⟩ IH
 dsimp only at h1 h2 h3 h4
 subst h3
 cases rest with
 |nil=>
  have hD:=drop_nil h1
  simp only[iV]at h2
  subst h2
  repeat' (first
 |simp only[go_sem,hD,hY,hZ,gA]
 |(with_reducible refine aD hQ ?_;exact bb))
 | cons x rest=>
  obtain⟨hY,g2,hD,g4⟩:=drop_cons h1
  have bO:k<4611686018427387904:=by omega
  simp only[List.length_cons]at h4
  have hZ:(out.length+1)*17≤bA:=by unfold bA;omega
  have G2:=fun g s=>jB (l:=out) (by omega) x g s
  simp only[iV]at h2
  rcases Bool.eq_false_or_eq_true (fu out x)with c1|c1
  ·simp only [c1,if_true]at h2
   subst h2
   repeat' (first
 |simp only[go_sem,hD,hY,hZ,gA,c1]
 |(with_reducible refine CU (G2 _ _) ?_)
 | (with_reducible refine aD hQ ?_;exact bb))
  ·simp only [c1,Bool.false_eq_true,if_false]at h2
   repeat' (first
 |simp only[go_sem,hD,hY,hZ,gA,c1]
 |(with_reducible refine CU (G2 _ _) ?_)
 | (with_reducible refine aD hQ ?_;exact bb))
   refine eO 0 1 ?_ ?_ (IH (rest,k+1,out++ [x],out.length+1) ⟨g2,h2,by simp,by simp;omega⟩ (Nat.lt_succ_self _))
   ·(simp only[go_sem,hD,hY,hZ,gA,aI bO,List.map_append,List.map_cons,List.map_nil,encStr];try exact bW)
   ·(simp only[go_sem,hD,hY,hZ,gA,aI bO,List.map_append,List.map_cons,List.map_nil,encStr];try exact bW)
theorem Se {seen l:List aG} (hl:seen.length+l.length<1000000000) {s:St} {t:Nat} (ht:s.aw[t]? = some (some seen.length)):aF Tryz.prog qe [.slice (.tok t) 1 (seen.map encStr), .slice .shared 1 (l.map encStr)] s
 (.tuple [.slice (.tok t) 1 ((iV seen l).1.map encStr), .bool (iV seen l).2]) ⟨s.ah,s.aw.set t (some (iV seen l).1.length)⟩:=
 (adq hl).anP (pre:= []) (post:= [_]) rfl (by simp[D.bL,D.ok,Tag.ok,fb]) (fb _) (fb _) ht
theorem Vw (x:Im):(dt x)[2]? = some (.slice .shared 1 (x.s.labels.map encStr)):=nd rfl
theorem Sf (x:Im):(dt x)[3]? = some (.str x.s.name):=nd rfl
attribute [go_sem] Vw Sf
def la (fin:List aG) (label:aG):List Sm→Int×Bool
 | []=>if fu fin label then(-1,true)else(0,false)
 |v::l=>if fu v.labels label then(v.id,true)else la fin label l
theorem BO (fin:List aG) (label:aG) : ∀ l:List Sm,(la fin label l).2=fu (il l++fin) label
 | []=>by simp only[la,il,List.nil_append];split<;>simp_all
 | v::l=>by
  simp only[la,il,List.append_assoc]
  have h:=BO fin label l
  rw[Bool.eq_iff_iff,jg]at h
  split
  ·rename_i c
   exact((jg _ _).2 (List.mem_append.2 (.inl ((jg _ _).1 c)))).symm
  ·rename_i c
   have:label∉v.labels:=fun m=>c ((jg _ _).2 m)
   rw[Bool.eq_iff_iff,h,jg]
   exact⟨fun m=>List.mem_append.2 (.inr m),fun m=>(List.mem_append.1 m).resolve_left this⟩
theorem JY {p:Pg} {v:Sm} (ho:p.iM) {f:Pc} (hf:f∈p.procs) (hv:v∈Sm.dc f.body):v.labels.length≤900000:=by
 have key : ∀ n:Nat,(∀ s:Sm,s.pre.length≤n→∀ v∈s.pre,v.labels.length≤s.size)∧(∀ l:List Sm,(Sm.dc l).length≤n→∀ v∈Sm.dc l,v.labels.length≤Sm.aY l):=by
  intro n
  induction n with
  |zero=>
   refine⟨fun s h=>by rw[Sm.qf]at h;simp at h,fun l h v m=>?_⟩
   have:=List.eq_nil_of_length_eq_zero (Nat.le_zero.1 h)
   rw[this]at m;cases m
  | succ n ih=>
   have h1 : ∀ s:Sm,s.pre.length≤n+1→∀ v∈s.pre,v.labels.length≤s.size:=by
    intro s h v m
    rw[Sm.qf]at h m
    simp only[List.length_cons,List.length_append]at h
    obtain⟨id,kind,labels,name,proc,x,has,args,aZ,aR⟩:=s
    simp only[Sm.size]
    rcases List.mem_cons.1 m with rfl|m
    ·dsimp only;omega
    ·rcases List.mem_append.1 m with m | m
     ·have:=ih.2 aZ (by dsimp only at h;omega) v m;omega
     ·have:=ih.2 aR (by dsimp only at h;omega) v m;omega
   refine⟨h1,fun l=>?_⟩
   induction l with
   |nil=>intro _ v m;cases m
   |cons s l Sg=>
    intro h v m
    simp only[Sm.dc,List.length_append]at h
    simp only[Sm.dc]at m
    simp only[Sm.aY]
    rcases List.mem_append.1 m with m|m
    ·have:=h1 s (by omega) v m;omega
    ·have:=Sg (by omega) v m;omega
 have h1:=(key (Sm.dc f.body).length).2 f.body (Nat.le_refl _) v hv
 have h2:=Pc.dd hf
 have h3:=ho.procs.2.1
 simp only[Pc.size]at h2
 omega
theorem G6 {p:Pg} (ho:p.iM) {f:Pc} (hf:f∈p.procs):f.fin.length≤900000:=by
 have h2:=Pc.dd hf
 have h3:=ho.procs.2.1
 simp only[Pc.size]at h2
 omega
theorem ER {p:Pg} (ho:p.iM) {f:Pc} (hf:f∈p.procs):(Sm.dc f.body).length≤900000:=by
 rw[← zE]
 have:=nL f.body
 have h2:=Pc.dd hf
 have h3:=ho.procs.2.1
 simp only[Pc.size]at h2
 omega
theorem adr {p:Pg} (ho:p.iM) (hb:p.may=true) {i:Nat} {f:Pc} (hf:p.procs[i]? = some f) (label:aG) (s:St) :
 aF Tryz.prog oO [.dv (fx p) 0, .int .i64 (i:Int), .str label] s (.tuple [.int .i64 (la f.fin label (Sm.dc f.body)).1, .bool (la f.fin label (Sm.dc f.body)).2]) s:=by
 refine aF.pure ?_ (by simp[D.bL,D.ok,uu]) rfl s
 obtain⟨rj,qU,qT⟩:=ho.procs
 have An:=List.mem_of_getElem? hf
 have wV:=fun s=>adp hb hf (by omega) s
 have pW:=rP (i:Int) 0 (-1) 0 f.body
 have JZ:=ER ho An
 have vT:=G6 ho An
 have C3:=fun s=>rN (l:=f.fin) (by omega) label s
 have qQ:i<p.procs.length:=(List.getElem?_eq_some_iff.1 hf).1
 generalize hI:Sm.jO (i:Int) 0 (-1) 0 f.body=I at *
 have hIl:I.length≤900000:=by rw[← pW,List.length_map]at JZ;exact JZ
 obtain⟨R,hR⟩ : ∃ R,la f.fin label (Sm.dc f.body)=R:=⟨_,rfl⟩
 rw[hR]
 rw[← pW]at hR
 unfold S0
 refine aF.go Cx rfl fun B Q hB hQ=>?_
 have⟨hD,hY,hZ,gA⟩:=bP
 repeat' (first
 |simp only[go_sem,hD,hY,hZ,gA]
 |(with_reducible refine CU (wV _) ?_)
 |(with_reducible refine aD hQ ?_;exact bb))
 refine fa 0 0 (bl.ind (ι:=List Im×Nat) (fun j=>I.drop j.2=j.1∧la f.fin label (j.1.map Im.s)=R) (fun j=>j.1.length)
  (fun j=> [(0, .dv (fx p) 0),(1, .int .i64 (i:Int)),(2, .str label),(12, .slice .shared 17 (I.map dt)),(13, .int .i64 (I.length:Int)),(14, .int .i64 (j.2:Int))]) (fun j=>⟨[],[]⟩) ?_ (I,0) ⟨rfl,hR⟩)
 clear hR
 rintro⟨rest,k⟩ ⟨h1,h2⟩ IH
 dsimp only at h1 h2
 cases rest with
 | nil=>
  have hD:=drop_nil h1
  simp only[List.map_nil,la]at h2
  rcases Bool.eq_false_or_eq_true (fu f.fin label)with c1|c1
  ·simp only [c1,if_true]at h2
   subst h2
   repeat' (first
 |simp only[go_sem,hD,hY,hZ,gA,nZ,hf,c1]
 |(with_reducible refine CU (C3 _) ?_)
 | (with_reducible refine aD hQ ?_;exact bb))
  ·simp only [c1,Bool.false_eq_true,if_false]at h2
   subst h2
   repeat' (first
 |simp only[go_sem,hD,hY,hZ,gA,nZ,hf,c1]
 |(with_reducible refine CU (C3 _) ?_)
 |(with_reducible refine aD hQ ?_;exact bb))
 | cons a rest=>
  obtain⟨hY,g2,hD,g4⟩:=drop_cons h1
  have bO:k<4611686018427387904:=by omega
  have EJ:a.s∈Sm.dc f.body:=by rw[← pW];exact List.mem_map_of_mem (List.mem_of_getElem? hY)
  have oK:=fun s=>rN (l:=a.s.labels) (by have:=JY ho An EJ;omega) label s
  simp only[List.map_cons,la]at h2
  rcases Bool.eq_false_or_eq_true (fu a.s.labels label)with c1|c1
  ·simp only [c1,if_true]at h2
   subst h2
   repeat' (first
 |simp only[go_sem,hD,hY,hZ,gA,c1]
 |(with_reducible refine CU (oK _) ?_)
 | (with_reducible refine aD hQ ?_;exact bb))
  ·simp only [c1,Bool.false_eq_true,if_false]at h2
   repeat' (first
 |simp only[go_sem,hD,hY,hZ,gA,c1]
 |(with_reducible refine CU (oK _) ?_)
 | (with_reducible refine aD hQ ?_;exact bb))
   refine eO 0 0 ?_ ?_ (IH (rest,k+1) ⟨g2,h2⟩ (Nat.lt_succ_self _))
   ·(simp only[go_sem,hD,hY,hZ,gA,aI bO];try exact bW)
   ·(simp only[go_sem,hD,hY,hZ,gA,aI bO];try exact bW)
theorem ZF {p:Pg} (ho:p.iM) (hb:p.may=true) {i:Nat} {f:Pc} (hf:p.procs[i]? = some f) (m:Im) (hm:m.proc=(i:Int)) (s:St) :
 aF Tryz.prog vE [.dv (fx p) 0, .agg (dt m)] s (.bool (qt f.labels m.s m.loop)) s:=by
 refine aF.pure ?_ (by simp[D.bL,D.ok,uu,OX]) rfl s
 have rm:=fun s=>adr ho hb hf m.s.name s
 have adt:=BO f.fin m.s.name (Sm.dc f.body)
 rw[← hm]at rm
 obtain⟨A,hA⟩ : ∃ A,la f.fin m.s.name (Sm.dc f.body)=A:=⟨_,rfl⟩
 rw[hA]at rm adt
 obtain⟨R,hR⟩ : ∃ R,qt f.labels m.s m.loop=R:=⟨_,rfl⟩
 rw[hR]
 unfold qt Pc.labels at hR
 unfold S0
 rcases Bool.eq_false_or_eq_true (m.s.kind==7)with c1|c1
 ·simp only [c1,Bool.true_or,if_true]at hR
  subst hR
  refine aF.go pD rfl fun B Q hB hQ=>?_
  have⟨hD,hY,hZ,gA⟩:=bP
  repeat' (first
 |simp only[go_sem,hD,hY,hZ,gA,c1]
 |(with_reducible refine aD hQ ?_;exact bb))
 rcases Bool.eq_false_or_eq_true (m.s.kind==8)with c2|c2
 ·simp only [c1,c2,Bool.or_true,if_true]at hR
  subst hR
  refine aF.go pD rfl fun B Q hB hQ=>?_
  have⟨hD,hY,hZ,gA⟩:=bP
  repeat' (first
 |simp only[go_sem,hD,hY,hZ,gA,c1,c2]
 |(with_reducible refine aD hQ ?_;exact bb))
 rcases Bool.eq_false_or_eq_true (m.s.kind==10)with c3|c3
 ·simp only [c1,c2,c3,Bool.or_self,Bool.false_eq_true,if_false,if_true, ← adt]at hR
  subst hR
  refine aF.go pD rfl fun B Q hB hQ=>?_
  have⟨hD,hY,hZ,gA⟩:=bP
  repeat' (first
 |simp only[go_sem,hD,hY,hZ,gA,c1,c2,c3]
 |(with_reducible refine CU (rm _) ?_)
 |(with_reducible refine aD hQ ?_;exact bb))
 ·simp only [c1,c2,c3,Bool.or_self,Bool.false_eq_true,if_false]at hR
  subst hR
  refine aF.go pD rfl fun B Q hB hQ=>?_
  have⟨hD,hY,hZ,gA⟩:=bP
  repeat' (first
 |simp only[go_sem,hD,hY,hZ,gA,c1,c2,c3]
 |(with_reducible refine aD hQ ?_;exact bb))
end Go.Abs
namespace Go.Abs
def ES (x:Int):Int:=IntKind.wrap .i64 x
def ux (b:Bool):Int:=if b then 1 else 0
def Pb (op a:Int):Int×Bool:=if op==3 then(ES (0 - a),true)else if op==4 then(ux (a==0),true)else(0,false)
def Pe (op a b:Int):Int×Bool:=
 if b==0 then(0,false)
 else if b == -1 then if op==7 then(0,true)else if a == -9223372036854775808 then(a,true)else(ES (0 - a),true)
 else if op==7 then(a.tmod b,true)else(ES (a.tdiv b),true)
def Pf (op a b:Int):Int×Bool:=
 if op==10 then(ux (decide (a<b)),true)else if op==11 then(ux (decide (a≤b)),true)else if op==12 then(ux (decide (a > b)),true)
 else if op==13 then(ux (decide (a≥b)),true)else if op==14 then(ux (a==b),true)else if op==15 then(ux (!(a==b)),true)else(0,false)
def Ph (op a b:Int):Int×Bool:=
 if op==8 then(ES (a+b),true)else if op==9 then(ES (a - b),true)else if op==5 then(ES (a*b),true)
 else if op==6 ||op==7 then Pe op a b
 else if op==16 then(ux (!(a==0) && !(b==0)),true)else if op==17 then(ux (!(a==0) || !(b==0)),true)
 else Pf op a b
def Pj (name:aG) (names:List aG) (bV:List Int):Int:=if jf name 0 names≥0 then bV.getD (jf name 0 names).toNat 0 else 0
def H0 (op:Int):List (Int×Bool)→Int×Bool
 | []=>(0,false)
 | [a]=>if a.2 then Pb op a.1 else(0,false)
 |a::b::_=>if !a.2 then(0,false)else if op==16 && a.1==0 then(0,true)else if op==17 && !(a.1==0)then(1,true)else if !b.2 then(0,false)else Ph op a.1 b.1
mutual
def Ex.val (names:List aG) (bV:List Int):Ex→Int×Bool
 |⟨op,n,name,kids⟩=>if op==1 then(n,true)else if op==2 then(Pj name names bV,true)else H0 op (Ex.Pk names bV kids)
def Ex.Pk (names:List aG) (bV:List Int):List Ex→List (Int×Bool)
 | []=> []
 |x::l=>x.val names bV::Ex.Pk names bV l
end
def Ex.bC (x:Ex) (names:List aG) (bV:List Int):Int×Bool:=if x.may then x.val names bV else(0,false)
structure Fr where
 proc:Int
 names:List aG
 vars:List Nat
 call:Int
structure Mc where
 st:List Fr
 mem:List Int
 fin:Int
 steps:Int
 reads:Int
 out:List Int
 trace:List (Int×List Int)
def Mc.event (W:List Int) (m:Mc) (id:Int) (bV:List Int):Mc:=if W.contains id then {m with trace:=m.trace++ [(id,bV)]}else m
def Mc.top (m:Mc):Fr:=m.st.headD ⟨0,[],[],0⟩
def Mc.bV (m:Mc):List Int:=m.top.vars.map fun c=>m.mem.getD c 0
def Mc.cell (m:Mc) (name:aG):Nat:=m.top.vars.getD (jf name 0 m.top.names).toNat 0
def Mc.set (m:Mc) (name:aG) (v:Int):Mc:= {m with mem:=m.mem.set (m.cell name) v}
def Mc.bC (m:Mc) (x:Ex):(Int×Bool)×Mc:=
 let r:=x.bC m.top.names m.bV
 (r,if r.2 then m else {m with fin:=4})
def Mc.open (p:Pg) (m:Mc) (i:Int) (params:List Nat) (call:Int):Int×Mc:=
 match p.procs[i.toNat]? with
 |none=>(-1,m)
 |some f=>(fZ f.body (-1),{m with st:=⟨i,p.globals++f.own,List.range p.globals.length++params++(List.range f.vars.length).map (m.mem.length + ·),call⟩::m.st,mem:=m.mem++List.replicate f.vars.length 0})
def fy (L:List Im) (id:Int):Im:=L.getD (id - 1).toNat ⟨I9,0,0,0,0⟩
def Mc.close (L:List Im) (m:Mc) (xH:Int):Int×Mc:=
 let call:=m.top.call
 let m:= {m with st:=m.st.tail}
 if call==0 then(-1,{m with fin:=1})
 else
  let it:=fy L call
  (it.next,if it.s.name == []then m else m.set it.s.name xH)
def Mc.fz (W:List Int) (m:Mc) (s:Sm):Int×Mc:=
 if s.has then
  let r:=m.bC s.x
  (r.1.1,if r.1.2 then r.2.event W s.id [r.1.1]else r.2)
 else(0,m.event W s.id [])
def Mc.args:List Ar→Mc→List Nat→Option (List Nat)×Mc
 | [],m,out=>(some out,m)
 | a::l,m,out=>
  if a.ref then Mc.args l m (out++ [m.cell a.name])
  else
   let r:=m.bC a.x
   if r.1.2 then Mc.args l {r.2 with mem:=r.2.mem++ [r.1.1]} (out++ [r.2.mem.length])else(none,r.2)
def Mc.call (p:Pg) (W:List Int) (m:Mc) (s:Sm):Int×Mc:=
 match Mc.args s.args m []with
 |(none,m)=>(-1,m)
 |(some l,m)=>if m.st.length > 100 then(-1,{m with fin:=5})else(m.event W s.id []).open p (p.at s.proc) l s.id
def firstM (l:List Sm) (other:Int):Int:=fZ l other
def Mc.do (p:Pg) (L:List Im) (tape W:List Int) (m:Mc) (it:Im):Int×Mc:=
 let s:=it.s
 if s.kind==7 then((fy L it.loop).next,m.event W s.id [])
 else if s.kind==8 then(it.loop,m.event W s.id [])
 else if s.kind==10 then((match p.procs[it.proc.toNat]? with|some f=>(la f.fin s.name (Sm.dc f.body)).1|none=>0),m.event W s.id [])
 else if s.kind==2 then
  match tape[m.reads.toNat]? with
  |none=>(-1,{m with fin:=3})
  |some n=>(it.next,(({m with reads:=m.reads+1} : Mc).set s.name n).event W s.id [n])
 else
  let r:=m.bC s.x
  if r.1.2 then
   let m:=r.2.event W s.id [r.1.1]
   let n:=r.1.1
   if s.kind==1 then(it.next,m.set s.name n)
   else if s.kind==3 then(it.next,{m with out:=m.out++ [n]})
   else if s.kind==5 then(if n==0 then firstM s.aR it.next else firstM s.aZ it.next,m)
   else if s.kind==6 then(if n==0 then it.next else firstM s.aZ s.id,m)
   else(it.next,m)
  else(-1,r.2)
def Mc.back (L:List Im) (m:Mc) (xH:Int):Option Int×Mc:=
 let r:=m.close L xH
 (if r.2.fin==0 then some r.1 else none,r.2)
def Mc.next (p:Pg) (L:List Im) (tape W:List Int) (fuel:Int) (at_:Int) (m:Mc):Option Int×Mc:=
 if at_ == -1 then m.back L 0
 else if m.steps==fuel then(none,{m with fin:=2})
 else
  let m:= {m with steps:=m.steps+1}
  let it:=fy L at_
  if it.s.kind==4 then
   let r:=m.call p W it.s
   (if r.2.fin==0 then some r.1 else none,r.2)
  else if it.s.kind==9 then
   let r:=m.fz W it.s
   if r.2.fin==0 then r.2.back L r.1 else(none,r.2)
  else
   let r:=m.do p L tape W it
   (if r.2.fin==0 then some r.1 else none,r.2)
def Mc.go (p:Pg) (L:List Im) (tape W:List Int) (fuel:Int):Nat→Int→Mc→Option Mc
 | 0,_,_=>none
 |N+1,at_,m=>
  match m.next p L tape W fuel at_ with
  |(none,m)=>some m
  |(some a,m)=>Mc.go p L tape W fuel N a m
def ke (p:Pg):Mc:=⟨[],List.replicate p.globals.length 0,0,0,0,[],[]⟩
def runM (p:Pg) (tape W:List Int) (fuel:Int):Option Mc:=
 let r:=(ke p).open p (p.at iU) [] 0
 Mc.go p p.aX.L tape W fuel (2*fuel.toNat+3) r.1 r.2
theorem eW (W:List Int) (m:Mc) (id:Int) (bV:List Int):(m.event W id bV).st=m.st∧(m.event W id bV).mem=m.mem∧(m.event W id bV).fin=m.fin∧(m.event W id bV).steps=m.steps∧(m.event W id bV).reads=m.reads∧(m.event W id bV).out=m.out:=by
 unfold Mc.event;split<;>exact⟨rfl,rfl,rfl,rfl,rfl,rfl⟩
theorem gG (m:Mc) (x:Ex):(m.bC x).2.st=m.st∧(m.bC x).2.mem=m.mem∧(m.bC x).2.steps=m.steps∧(m.bC x).2.reads=m.reads∧(m.bC x).2.out=m.out∧(m.bC x).2.trace=m.trace:=by
 unfold Mc.bC;dsimp only;split<;>exact⟨rfl,rfl,rfl,rfl,rfl,rfl⟩
theorem vf : ∀ (l:List Ar) (m:Mc) (out:List Nat),(Mc.args l m out).2.st=m.st∧(Mc.args l m out).2.steps=m.steps
 | [],m,out=>⟨rfl,rfl⟩
 | a::l,m,out=>by
  simp only[Mc.args]
  split
  ·exact vf l m _
  ·have h:=gG m a.x
   split
   ·have:=vf l {(m.bC a.x).2 with mem:=(m.bC a.x).2.mem++ [(m.bC a.x).1.1]} (out++ [(m.bC a.x).2.mem.length])
    exact⟨this.1.trans h.1,this.2.trans h.2.2.1⟩
   ·exact⟨h.1,h.2.2.1⟩
theorem yE (p:Pg) (m:Mc) (i:Int) (l:List Nat) (c:Int):(m.open p i l c).2.st.length≤m.st.length+1∧(m.open p i l c).2.steps=m.steps:=by
 unfold Mc.open;split
 ·exact⟨Nat.le_succ _,rfl⟩
 ·exact⟨Nat.le_refl _,rfl⟩
theorem L5 (p:Pg) (W:List Int) (m:Mc) (s:Sm):(m.call p W s).2.st.length≤m.st.length+1∧(m.call p W s).2.steps=m.steps:=by
 have h:=vf s.args m []
 unfold Mc.call
 generalize Mc.args s.args m [] = r at *
 obtain⟨o,m1⟩:=r
 dsimp only at h
 cases o with
 |none=>dsimp only;rw[h.1,h.2];exact⟨Nat.le_succ _,rfl⟩
 | some l=>
  dsimp only
  split
  ·dsimp only;rw[h.1,h.2];exact⟨Nat.le_succ _,rfl⟩
  ·have h2:=yE p (m1.event W s.id []) (p.at s.proc) l s.id
   rw[(eW ..).1,(eW ..).2.2.2.1,h.1,h.2]at h2
   exact h2
theorem zG (W:List Int) (m:Mc) (s:Sm):(m.fz W s).2.st=m.st∧(m.fz W s).2.steps=m.steps:=by
 have h:=gG m s.x
 unfold Mc.fz
 dsimp only
 split
 ·split
  ·exact⟨(eW ..).1.trans h.1,(eW ..).2.2.2.1.trans h.2.2.1⟩
  ·exact⟨h.1,h.2.2.1⟩
 ·exact⟨(eW ..).1,(eW ..).2.2.2.1⟩
theorem Pl (p:Pg) (L:List Im) (tape W:List Int) (m:Mc) (it:Im):(m.do p L tape W it).2.st=m.st∧(m.do p L tape W it).2.steps=m.steps:=by
 have h:=gG m it.s.x
 have e:=fun(m:Mc) id bV=>(⟨(eW W m id bV).1,(eW W m id bV).2.2.2.1⟩:(m.event W id bV).st=m.st∧(m.event W id bV).steps=m.steps)
 unfold Mc.do
 dsimp only
 repeat' split
 all_goals first
  |exact e ..
  |exact⟨rfl,rfl⟩
  |exact⟨(e ..).1.trans h.1,(e ..).2.trans h.2.2.1⟩
  |exact⟨h.1,h.2.2.1⟩
theorem J0 (L:List Im) (m:Mc) (g:Int):(m.close L g).2.st=m.st.tail∧(m.close L g).2.steps=m.steps∧(m.st = []→(m.close L g).2.fin=1):=by
 unfold Mc.close
 dsimp only
 split
 ·exact⟨rfl,rfl,fun _=>rfl⟩
 ·rename_i hc
  refine⟨by split<;>rfl,by split<;>rfl,fun e=>absurd ?_ hc⟩
  simp[Mc.top,e]
theorem back_eq {L:List Im} {m:Mc} {g:Int} {a:Int} {m':Mc} (h:m.back L g=(some a,m')):m'.st.length<m.st.length∧m'.steps=m.steps:=by
 obtain⟨h1,h2,h3⟩:=J0 L m g
 unfold Mc.back at h
 dsimp only at h
 split at h
 ·rename_i hf
  simp only[Prod.mk.injEq]at h
  rw[← h.2]
  refine⟨?_,h2⟩
  rw[h1,List.length_tail]
  cases e:m.st with
  |nil=>rw[h3 e]at hf;cases hf
  |cons x l=>simp
 ·simp at h
theorem L6 {p:Pg} {L:List Im} {tape W:List Int} {fuel a a':Int} {m m':Mc} (hs:m.steps≤fuel) (h:m.next p L tape W fuel a=(some a',m')) :
 m'.steps≤fuel∧2*(fuel - m'.steps)+m'.st.length<2*(fuel - m.steps)+m.st.length:=by
 unfold Mc.next at h
 split at h
 ·have:=back_eq h;omega
 split at h
 ·simp at h
 rename_i eJ
 have hD:m.steps<fuel:=by(have:m.steps≠fuel:=by simpa using eJ);omega
 dsimp only at h
 split at h
 ·have h1:=L5 p W {m with steps:=m.steps+1} (fy L a).s
  simp only[Prod.mk.injEq]at h
  rw[← h.2]
  dsimp only at h1
  omega
 split at h
 ·have h1:=zG W {m with steps:=m.steps+1} (fy L a).s
  dsimp only at h1
  split at h
  ·have h2:=back_eq h
   rw[h1.1,h1.2]at h2
   omega
  ·simp at h
 ·have h1:=Pl p L tape W {m with steps:=m.steps+1} (fy L a)
  simp only[Prod.mk.injEq]at h
  rw[← h.2,h1.1,h1.2]
  dsimp only
  omega
theorem L7 (p:Pg) (L:List Im) (tape W:List Int) (fuel:Int) : ∀ (N:Nat) (a:Int) (m:Mc),m.steps≤fuel→2*(fuel - m.steps)+m.st.length<N→∃ m',Mc.go p L tape W fuel N a m=some m'
 | 0,_,_,_,h=>by omega
 | N+1,a,m,hs,h=>by
  simp only[Mc.go]
  cases e:m.next p L tape W fuel a with
  | mk o m1=>
   cases o with
   |none=>exact⟨m1,rfl⟩
   |some a1=>
    have:=L6 hs e
    exact L7 p L tape W fuel N a1 m1 this.1 (by omega)
theorem G7 (p:Pg) (tape W:List Int) {fuel:Int} (h:0≤fuel) : ∃ m,runM p tape W fuel=some m:=by
 unfold runM
 have h1:=yE p (ke p) (p.at iU) [] 0
 have e1:(ke p).st.length=0:=rfl
 have e2:(ke p).steps=0:=rfl
 rw[e1,e2]at h1
 exact L7 p _ tape W fuel _ _ _ (by rw[h1.2];exact h) (by rw[h1.2];omega)
structure Grow (m m':Mc):Prop where
 trace : ∃ t,m'.trace=m.trace++t
 out : ∃ t,m'.out=m.out++t
 reads:m.reads≤m'.reads
 steps:m.steps≤m'.steps
def n6 (L:List Im) (a:Int):Prop:=a = -1∨(1≤a∧a≤(L.length:Int))
theorem ph {L:List Im} {a:Int} (h:n6 L a) (hn:a≠ -1):fy L a∈L:=by
 rcases h with h|⟨h1,h2⟩
 ·exact absurd h hn
 ·unfold fy
  rw[List.getD_eq_getElem?_getD,List.getElem?_eq_getElem (show(a - 1).toNat<L.length by omega)]
  exact List.getElem_mem _
structure Ap (p:Pg) (L:List Im):Prop where
 id : ∀ x∈L,1≤x.s.id∧x.s.id≤(L.length:Int)
 next : ∀ x∈L,n6 L x.next
 loop : ∀ x∈L,x.s.kind=7∨x.s.kind=8→1≤x.loop∧x.loop≤(L.length:Int)
 FT : ∀ x∈L,x.s.kind=10→∃ f,p.procs[x.proc.toNat]? = some f∧n6 L (la f.fin x.s.name (Sm.dc f.body)).1
 aZ : ∀ x∈L,n6 L (fZ x.s.aZ (-1))
 aR : ∀ x∈L,n6 L (fZ x.s.aR (-1))
 nY : ∀ f∈p.procs,n6 L (fZ f.body (-1))
def oH (L:List Im) (m:Mc):Prop:=∀ fr∈m.st,fr.call=0∨(1≤fr.call∧fr.call≤(L.length:Int))
theorem DJ {L:List Im} {l:List Sm} {o:Int} (h:n6 L (fZ l (-1))) (ho:n6 L o):n6 L (firstM l o):=by
 cases l with
 |nil=>exact ho
 |cons s l=>exact h
theorem oH.of {L:List Im} {m m':Mc} (h:oH L m) (e:m'.st=m.st):oH L m':=by unfold oH;rw[e];exact h
def Told (L:List Im) (r:Option Int×Mc):Prop:=
 match r.1 with
 |some a=>n6 L a∧oH L r.2∧r.2.fin=0∧(r.2.trace.length:Int)=r.2.steps
 |none=>((r.2.fin=1∨r.2.fin=2)∧(r.2.trace.length:Int)=r.2.steps)∨((r.2.fin=3∨r.2.fin=4∨r.2.fin=5)∧(r.2.trace.length:Int)+1=r.2.steps)
theorem u7 {W:List Int} {m:Mc} {id:Int} {bV:List Int} (h:W.contains id=true):(m.event W id bV).trace=m.trace++ [(id,bV)]∧(m.event W id bV).fin=m.fin:=by
 unfold Mc.event;rw[if_pos h];exact⟨rfl,rfl⟩
theorem BP (m:Mc) (x:Ex) (h:m.fin=0):((m.bC x).1.2=true→(m.bC x).2.fin=0)∧((m.bC x).1.2=false→(m.bC x).2.fin=4):=by
 unfold Mc.bC
 dsimp only
 constructor
 ·intro e;rw[if_pos e];exact h
 ·intro e;rw[e];rfl
theorem G8 {p:Pg} {L:List Im} (hL:Ap p L) {m:Mc} {g:Int} (hs:oH L m) (hf:m.fin=0) (ht:(m.trace.length:Int)=m.steps):Told L (m.back L g):=by
 unfold Mc.back Mc.close
 dsimp only
 by_cases hc:(m.top.call==0)=true
 ·rw [if_pos hc]
  exact .inl ⟨.inl rfl,ht⟩
 ·rw [if_neg hc]
  have eJ:m.top.call≠0:=by simpa using hc
  have O8:1≤m.top.call∧m.top.call≤(L.length:Int):=by
   cases e:m.st with
   |nil=>simp[Mc.top,e]at eJ
   |cons fr l=>
    have:m.top=fr:=by simp[Mc.top,e]
    rw[this]at eJ ⊢
    exact(hs fr (by rw[e];exact List.mem_cons_self ..)).resolve_left eJ
  have gC:=ph (L:=L) (.inr O8) (by omega)
  have ji:oH L {m with st:=m.st.tail}:=fun fr sb=>hs fr (List.mem_of_mem_tail sb)
  have e0 : ∀ m1:Mc,m1.fin=0→(m1.fin==0)=true:=fun m1 h=>by rw[h];rfl
  split
  ·rw[if_pos (e0 _ hf)];exact⟨hL.next _ gC,ji,hf,ht⟩
  ·rw[if_pos (e0 _ (by exact hf))];exact⟨hL.next _ gC,ji.of rfl,hf,ht⟩
theorem zH : ∀ (l:List Ar) (m:Mc) (out:List Nat),m.fin=0→(Mc.args l m out).2.trace=m.trace∧(match (Mc.args l m out).1 with|some _=>(Mc.args l m out).2.fin=0|none=>(Mc.args l m out).2.fin=4)
 | [],m,out,h=>⟨rfl,h⟩
 | a::l,m,out,h=>by
  have hw:=BP m a.x h
  have he:=gG m a.x
  simp only[Mc.args]
  by_cases c:a.ref=true
  ·rw[if_pos c];exact zH l m _ h
  ·rw [if_neg c]
   by_cases c2:(m.bC a.x).1.2=true
   ·rw [if_pos c2]
    obtain⟨h1,h2⟩:=zH l {(m.bC a.x).2 with mem:=(m.bC a.x).2.mem++ [(m.bC a.x).1.1]} (out++ [(m.bC a.x).2.mem.length]) (hw.1 c2)
    exact⟨h1.trans he.2.2.2.2.2,h2⟩
   ·rw [if_neg c2]
    exact⟨he.2.2.2.2.2,hw.2 (by simpa using c2)⟩
def BQ (L:List Im) (r:Int×Mc):Prop:=
 (r.2.fin=0∧n6 L r.1∧oH L r.2∧(r.2.trace.length:Int)=r.2.steps)∨((r.2.fin=3∨r.2.fin=4∨r.2.fin=5)∧(r.2.trace.length:Int)+1=r.2.steps)
theorem BQ.told {L:List Im} {r:Int×Mc} (h:BQ L r):Told L (if r.2.fin==0 then some r.1 else none,r.2):=by
 obtain⟨a,m⟩:=r
 rcases h with ⟨h1,h2,h3,h4⟩|⟨h1,h2⟩
 ·dsimp only at h1 h2 h3 h4 ⊢
  rw[if_pos (by rw[h1];rfl)]
  exact⟨h2,h3,h1,h4⟩
 ·dsimp only at h1 h2 ⊢
  rw[if_neg (by simp only[beq_iff_eq];omega)]
  exact .inr ⟨h1,h2⟩
theorem Si {p:Pg} {L:List Im} (hL:Ap p L) {W:List Int} {m:Mc} {x:Im} (hx:x∈L) (hw:W.contains x.s.id=true) (hs:oH L m) (hf:m.fin=0) (ht:(m.trace.length:Int)+1=m.steps) :
 BQ L (m.call p W x.s):=by
 have h:=vf x.s.args m []
 have h2:=zH x.s.args m [] hf
 unfold Mc.call
 generalize Mc.args x.s.args m [] = r at *
 obtain⟨o,m1⟩:=r
 dsimp only at h h2
 cases o with
 |none=>
  dsimp only at h2 ⊢
  exact .inr ⟨.inr (.inl h2.2),by dsimp only;rw[h2.1,h.2];exact ht⟩
 | some l=>
  dsimp only at h2 ⊢
  by_cases c:m1.st.length > 100
  ·rw [if_pos c]
   exact .inr ⟨.inr (.inr rfl),by dsimp only;rw[h2.1,h.2];exact ht⟩
  ·rw [if_neg c]
   obtain⟨e1,e2⟩:=u7 (m:=m1) (bV:= []) hw
   have e3:=eW W m1 x.s.id []
   have vl:oH L (m1.event W x.s.id []):=hs.of (e3.1.trans h.1)
   have wO:((m1.event W x.s.id []).trace.length:Int)=(m1.event W x.s.id []).steps:=by
    rw[e1,e3.2.2.2.1,h2.1,h.2,List.length_append]
    simp only[List.length_cons,List.length_nil];omega
   have LW:(m1.event W x.s.id []).fin=0:=e2.trans h2.2
   unfold Mc.open
   cases hp:p.procs[(p.at x.s.proc).toNat]? with
   |none=>exact .inl ⟨LW, .inl rfl,vl,wO⟩
   |some f=>
    refine .inl ⟨LW,hL.nY f (List.mem_of_getElem? hp),fun fr sb=>?_,wO⟩
    rcases List.mem_cons.1 sb with rfl|sb
    ·exact .inr (hL.id x hx)
    ·exact vl fr sb
theorem Pn {p:Pg} {L:List Im} (hL:Ap p L) {W:List Int} {m:Mc} {x:Im} (hw:W.contains x.s.id=true) (hs:oH L m) (hf:m.fin=0) (ht:(m.trace.length:Int)+1=m.steps) :
 Told L (if(m.fz W x.s).2.fin==0 then(m.fz W x.s).2.back L (m.fz W x.s).1 else(none,(m.fz W x.s).2)):=by
 have he:=zG W m x.s
 have key:((m.fz W x.s).2.fin=0∧((m.fz W x.s).2.trace.length:Int)=(m.fz W x.s).2.steps)∨((m.fz W x.s).2.fin=4∧((m.fz W x.s).2.trace.length:Int)+1=(m.fz W x.s).2.steps):=by
  rw[he.2]
  unfold Mc.fz
  have Sj:=BP m x.s.x hf
  have G9:=gG m x.s.x
  by_cases c:x.s.has=true
  ·rw [if_pos c]
   dsimp only
   by_cases c2:(m.bC x.s.x).1.2=true
   ·rw [if_pos c2]
    obtain⟨e1,e2⟩:=u7 (m:=(m.bC x.s.x).2) (bV:= [(m.bC x.s.x).1.1]) hw
    refine .inl ⟨e2.trans (Sj.1 c2), ?_⟩
    rw[e1,G9.2.2.2.2.2,List.length_append]
    simp only[List.length_cons,List.length_nil];omega
   ·rw [if_neg c2]
    exact .inr ⟨Sj.2 (by simpa using c2),by rw[G9.2.2.2.2.2];exact ht⟩
  ·rw [if_neg c]
   obtain⟨e1,e2⟩:=u7 (m:=m) (bV:= []) hw
   refine .inl ⟨e2.trans hf, ?_⟩
   dsimp only
   rw[e1,List.length_append]
   simp only[List.length_cons,List.length_nil];omega
 generalize m.fz W x.s=r at *
 rcases key with ⟨k1,k2⟩|⟨k1,k2⟩
 ·rw [if_pos (by rw [k1];rfl)]
  exact G8 hL (hs.of he.1) k1 k2
 ·rw [if_neg (by simp only [beq_iff_eq];omega)]
  exact .inr ⟨.inr (.inl k1),k2⟩
theorem ZG {p:Pg} {L:List Im} (hL:Ap p L) {tape W:List Int} {m:Mc} {x:Im} (hx:x∈L) (hw:W.contains x.s.id=true) (hs:oH L m) (hf:m.fin=0) (ht:(m.trace.length:Int)+1=m.steps) :
 BQ L (m.do p L tape W x):=by
 have go : ∀ {m1:Mc} {a:Int} {bV:List Int},m1.trace=m.trace→m1.steps=m.steps→m1.st=m.st→m1.fin=0→n6 L a→BQ L (a,m1.event W x.s.id bV):=fun {m1 a bV} e1 e2 e3 e4 ha=>by
  obtain⟨g1,g2⟩:=u7 (m:=m1) (bV:=bV) hw
  have g3:=eW W m1 x.s.id bV
  refine .inl ⟨g2.trans e4,ha,hs.of (g3.1.trans e3), ?_⟩
  dsimp only
  rw[g1,g3.2.2.2.1,e1,e2,List.length_append]
  simp only[List.length_cons,List.length_nil];omega
 have Sj:=BP m x.s.x hf
 have G9:=gG m x.s.x
 have Sk:=hL.id x hx
 unfold Mc.do
 dsimp only
 split
 ·rename_i c
  have hl:=hL.loop x hx (.inl (by simpa using c))
  exact go rfl rfl rfl hf (hL.next _ (ph (.inr hl) (by omega)))
 split
 ·rename_i c
  exact go rfl rfl rfl hf (.inr (hL.loop x hx (.inr (by simpa using c))))
 split
 ·rename_i c
  obtain⟨f,h1,h2⟩:=hL.FT x hx (by simpa using c)
  rw[h1]
  exact go rfl rfl rfl hf h2
 split
 ·split
  ·exact .inr ⟨.inl rfl,ht⟩
  ·exact go rfl rfl rfl hf (hL.next x hx)
 ·by_cases c2:(m.bC x.s.x).1.2=true
  ·rw [if_pos c2]
   have base:=fun(a:Int) (ha:n6 L a)=>go (m1:=(m.bC x.s.x).2) (a:=a) (bV:= [(m.bC x.s.x).1.1]) G9.2.2.2.2.2 G9.2.2.1 G9.1 (Sj.1 c2) ha
   have same : ∀ {a:Int} {m1 m2:Mc},BQ L (a,m1)→m2.fin=m1.fin→m2.st=m1.st→m2.trace=m1.trace→m2.steps=m1.steps→BQ L (a,m2):=fun {a m1 m2} h q1 q2 q3 q4=>by
    unfold BQ oH at *
    dsimp only at *
    rw[q1,q2,q3,q4];exact h
   split
   ·exact same (base _ (hL.next x hx)) rfl rfl rfl rfl
   split
   ·exact same (base _ (hL.next x hx)) rfl rfl rfl rfl
   split
   ·refine base _ ?_
    split
    ·exact DJ (hL.aR x hx) (hL.next x hx)
    ·exact DJ (hL.aZ x hx) (hL.next x hx)
   split
   ·refine base _ ?_
    split
    ·exact hL.next x hx
    ·exact DJ (hL.aZ x hx) (.inr Sk)
   ·exact base _ (hL.next x hx)
  ·rw [if_neg c2]
   exact .inr ⟨.inr (.inl (Sj.2 (by simpa using c2))),by dsimp only;rw[G9.2.2.2.2.2,G9.2.2.1];exact ht⟩
theorem Ha {p:Pg} {L:List Im} (hL:Ap p L) {tape W:List Int} (hW : ∀ x∈L,W.contains x.s.id=true) {fuel a:Int} {m:Mc} (ha:n6 L a) (hs:oH L m) (hf:m.fin=0) (ht:(m.trace.length:Int)=m.steps) :
 Told L (m.next p L tape W fuel a):=by
 unfold Mc.next
 by_cases c1:(a == -1)=true
 ·rw[if_pos c1];exact G8 hL hs hf ht
 ·rw [if_neg c1]
  by_cases c2:(m.steps==fuel)=true
  ·rw[if_pos c2];exact .inl ⟨.inr rfl,ht⟩
  ·rw [if_neg c2]
   have hx:=ph ha (by simpa using c1)
   have mZ:oH L {m with steps:=m.steps+1}:=hs.of rfl
   have Eb:((({m with steps:=m.steps+1} : Mc).trace.length:Nat):Int)+1=({m with steps:=m.steps+1} : Mc).steps:=by dsimp only;omega
   dsimp only
   split
   ·exact(Si hL hx (hW _ hx) mZ hf Eb).told
   split
   ·exact Pn hL (hW _ hx) mZ hf Eb
   ·exact(ZG hL hx (hW _ hx) mZ hf Eb).told
def Vy (m:Mc):Prop:=((m.fin=1∨m.fin=2)∧(m.trace.length:Int)=m.steps)∨((m.fin=3∨m.fin=4∨m.fin=5)∧(m.trace.length:Int)+1=m.steps)
theorem L8 {p:Pg} {L:List Im} (hL:Ap p L) {tape W:List Int} (hW : ∀ x∈L,W.contains x.s.id=true) {fuel:Int} : ∀ (N:Nat) (a:Int) (m m':Mc),n6 L a→oH L m→m.fin=0→(m.trace.length:Int)=m.steps→
 Mc.go p L tape W fuel N a m=some m'→Vy m'
 | 0,_,_,_,_,_,_,_,h=>by simp[Mc.go]at h
 |N+1,a,m,m',ha,hs,hf,ht,h=>by
  have hn:=Ha (fuel:=fuel) (tape:=tape) hL hW ha hs hf ht
  simp only[Mc.go]at h
  split at h
  ·rename_i m1 e;rw[e]at hn;cases h;exact hn
  ·rename_i a1 m1 e;rw[e]at hn;exact L8 hL hW N a1 m1 m' hn.1 hn.2.1 hn.2.2.1 hn.2.2.2 h
theorem J1 {p:Pg} {L:List Im} (hL:Ap p L):n6 L ((ke p).open p (p.at iU) [] 0).1∧oH L ((ke p).open p (p.at iU) [] 0).2∧((ke p).open p (p.at iU) [] 0).2.fin=0∧
 ((((ke p).open p (p.at iU) [] 0).2.trace.length:Nat):Int)=((ke p).open p (p.at iU) [] 0).2.steps:=by
 unfold Mc.open
 cases hp:p.procs[(p.at iU).toNat]? with
 |none=>exact⟨.inl rfl,fun fr h=>by simp[ke]at h,rfl,rfl⟩
 |some f=>
  refine⟨hL.nY f (List.mem_of_getElem? hp),fun fr h=>?_,rfl,rfl⟩
  rcases List.mem_cons.1 h with rfl|h
  ·exact .inl rfl
  ·simp[ke]at h
theorem Sl {p:Pg} (hL:Ap p p.aX.L) {tape W:List Int} (hW : ∀ x∈p.aX.L,W.contains x.s.id=true) {fuel:Int} {m:Mc} (h:runM p tape W fuel=some m):Vy m:=by
 obtain⟨h1,h2,h3,h4⟩:=J1 hL
 exact L8 hL hW _ _ _ _ h1 h2 h3 h4 h
theorem J2 (p:Pg) (L:List Im) (tape W:List Int) {fuel:Int} : ∀ (N:Nat) (a:Int) (m m':Mc),m.steps≤fuel→Mc.go p L tape W fuel N a m=some m'→m'.steps≤fuel
 | 0,_,_,_,_,h=>by simp[Mc.go]at h
 | N+1,a,m,m',hs,h=>by
  simp only[Mc.go]at h
  cases e:m.next p L tape W fuel a with
  | mk o m1=>
   rw[e]at h
   cases o with
   |some a1=>exact J2 p L tape W N a1 m1 m' (L6 hs e).1 h
   | none=>
    cases h
    unfold Mc.next at e
    have hb : ∀ {m:Mc} {g:Int} {o:Option Int} {m2:Mc},m.back L g=(o,m2)→m2.steps=m.steps:=fun {m g o m2} h=>by
     have:=(J0 L m g).2.1
     unfold Mc.back at h
     simp only[Prod.mk.injEq]at h
     rw[← h.2];exact this
    split at e
    ·rw[hb e];exact hs
    split at e
    ·simp only[Prod.mk.injEq,true_and]at e;rw[← e];exact hs
    rename_i eJ
    have hD:m.steps<fuel:=by(have:m.steps≠fuel:=by simpa using eJ);omega
    dsimp only at e
    split at e
    ·have h1:=(L5 p W {m with steps:=m.steps+1} (fy L a).s).2
     simp only[Prod.mk.injEq]at e
     rw[← e.2,h1];dsimp only;omega
    split at e
    ·have h1:=(zG W {m with steps:=m.steps+1} (fy L a).s).2
     split at e
     ·rw[hb e,h1];dsimp only;omega
     ·simp only[Prod.mk.injEq,true_and]at e;rw[← e,h1];dsimp only;omega
    ·have h1:=(Pl p L tape W {m with steps:=m.steps+1} (fy L a)).2
     simp only[Prod.mk.injEq]at e
     rw[← e.2,h1];dsimp only;omega
def C6 (a b t:aG):aG:=if t==a then b else if t==b then a else t
mutual
def Ex.swap (a b:aG):Ex→Ex
 |⟨op,n,name,kids⟩=>⟨op,n,C6 a b name,Ex.zI a b kids⟩
def Ex.zI (a b:aG):List Ex→List Ex
 | []=> []
 |x::l=>x.swap a b::Ex.zI a b l
end
def Ar.swap (a b:aG) (x:Ar):Ar:=⟨x.ref,C6 a b x.name,x.x.swap a b⟩
mutual
def Sm.swap (a b:aG):Sm→Sm
 |⟨id,kind,labels,name,proc,x,has,args,aZ,aR⟩=>⟨id,kind,labels.map (C6 a b),C6 a b name,C6 a b proc,x.swap a b,has,args.map (Ar.swap a b),Sm.zI a b aZ,Sm.zI a b aR⟩
def Sm.zI (a b:aG):List Sm→List Sm
 | []=> []
 |s::l=>s.swap a b::Sm.zI a b l
end
def Pm.swap (a b:aG) (x:Pm):Pm:=⟨C6 a b x.name,x.ref⟩
def Pc.swap (a b:aG) (f:Pc):Pc:=⟨C6 a b f.name,f.params.map (Pm.swap a b),f.vars.map (C6 a b),Sm.zI a b f.body,f.fin.map (C6 a b)⟩
def Pg.swap (a b:aG) (p:Pg):Pg:=⟨p.globals.map (C6 a b),p.procs.map (Pc.swap a b)⟩
def It.swap (a b:aG) (i:It):It:=⟨i.s.swap a b,i.deep,i.cf,i.aR⟩
def XS:List Sm→List aG
 | []=> []
 |v::l=>v.said++XS l
def ahc (p:Pg):List aG→List aG
 | []=> []
 |n::l=>XS (tJ p n)++ahc p l
set_option maxRecDepth 8000
open Go.Proofs
def pH (nm:aG) (T:List aG) (seen:List aG):List Ar→Bool
 | []=>true
 |a::l=>if a.ref then(if fu seen a.name ||(a.name==nm ||fu T a.name)then false else pH nm T (seen++ [a.name]) l)else pH nm T seen l
def apM (T:List aG) (seen:List aG):List Ar→Bool
 | []=>true
 |a::l=>if a.ref then(if fu seen a.name ||fu T a.name then false else apM T (seen++ [a.name]) l)else apM T seen l
def Sm.anQ (v:Sm):List aG:=if v.name != []then [v.name]else []
theorem Vz {v:Sm} (yf:v.args.length<1000000000) {T:List aG} (hT:T.length<4611686018427387904) (s:St) :
 aF Tryz.prog sq [.agg (bd v), .slice .shared 1 (T.map encStr)] s (.bool (pH v.name T [] v.args)) s:=by
 refine aF.pure ?_ (by simp[D.bL,D.ok,qD,Tag.ok,fb]) rfl s
 generalize hR:pH v.name T [] v.args=R
 have XT:=fun x s=>rN hT x s
 unfold S0
 refine aF.go Dz rfl fun B Q hB hQ=>?_
 have⟨hD,hY,hZ,gA⟩:=bP
 repeat' (first
 |simp only[go_sem,hD,hY,hZ,gA]
 |(with_reducible refine aD hQ ?_;exact bb))
 refine bl.qC 5 1 rfl ?_
 simp only[go_sem,hD,hY,hZ,gA]
 refine fa 1 1 (bl.ind (ι:=List Ar×Nat×List aG×Nat) (fun i=>v.args.drop i.2.1=i.1∧pH v.name T i.2.2.1 i.1=R∧i.2.2.1.length≤i.2.1∧i.2.2.2=i.2.2.1.length) (fun i=>i.1.length)
  (fun i=> [(1, .slice .shared 1 (T.map encStr)),(2, .ptr 0 0),(5, .slice (.tok 0) 1 (i.2.2.1.map encStr)),(9, .slice .shared 6 (v.args.map ew)),(10, .int .i64 (v.args.length:Int)),(11, .int .i64 (i.2.1:Int))]) (fun i=>⟨[bd v],[some i.2.2.2]⟩) ?_ (v.args,0,[],0) ⟨rfl,hR,Nat.le_refl _,rfl⟩)
 clear hR
 rintro⟨rest,k,seen,n'⟩ ⟨h1,h2,h3,h4⟩ IH
 dsimp only at h1 h2 h3 h4
 subst h4
 cases rest with
 |nil=>
  have hD:=drop_nil h1
  simp only[pH]at h2
  subst h2
  repeat' (first
 |simp only[go_sem,hD,hY,hZ,gA]
 |(with_reducible refine aD hQ ?_;exact bb))
 | cons a rest=>
  obtain⟨hY,g2,hD,g4⟩:=drop_cons h1
  have bO:k<4611686018427387904:=by omega
  have hZ:(seen.length+1)*17≤bA:=by unfold bA;omega
  have nJ:=fun g s=>jB (l:=seen) (by omega) a.name g s
  simp only[pH]at h2
  rcases Bool.eq_false_or_eq_true a.ref with c1|c1
  case inr=>
   simp only[c1,Bool.false_eq_true,if_false]at h2
   repeat' (first
 |simp only[go_sem,hD,hY,hZ,gA,c1,Bool.not_false]
 | (with_reducible refine aD hQ ?_;exact bb))
   refine eO 1 1 ?_ ?_ (IH (rest,k+1,seen,_) ⟨g2,h2,by dsimp only;omega,rfl⟩ (Nat.lt_succ_self _))
   ·(simp only[go_sem,hD,hY,hZ,gA,aI bO];try exact bW)
   ·(simp only[go_sem,hD,hY,hZ,gA,aI bO];try exact bW)
  simp only[c1,if_true]at h2
  rcases Bool.eq_false_or_eq_true (fu seen a.name)with c2|c2
  ·simp only [c2,Bool.true_or,if_true]at h2
   subst h2
   repeat' (first
 |simp only[go_sem,hD,hY,hZ,gA,c1,c2,Bool.not_true]
 |(with_reducible refine CU (nJ _ _) ?_)
 |(with_reducible refine CU (XT _ _) ?_)
 | (with_reducible refine aD hQ ?_;exact bb))
  rcases Bool.eq_false_or_eq_true (a.name==v.name)with c3|c3
  ·simp only [c2,c3,Bool.false_or,Bool.true_or,if_true]at h2
   subst h2
   repeat' (first
 |simp only[go_sem,hD,hY,hZ,gA,c1,c2,c3,Bool.not_true]
 |(with_reducible refine CU (nJ _ _) ?_)
 |(with_reducible refine CU (XT _ _) ?_)
 | (with_reducible refine aD hQ ?_;exact bb))
  rcases Bool.eq_false_or_eq_true (fu T a.name)with c4|c4
  ·simp only [c2,c3,c4,Bool.false_or,if_true]at h2
   subst h2
   repeat' (first
 |simp only[go_sem,hD,hY,hZ,gA,c1,c2,c3,c4,Bool.not_true]
 |(with_reducible refine CU (nJ _ _) ?_)
 |(with_reducible refine CU (XT _ _) ?_)
 | (with_reducible refine aD hQ ?_;exact bb))
  ·simp only [c2,c3,c4,Bool.false_or,Bool.false_eq_true,if_false]at h2
   repeat' (first
 |simp only[go_sem,hD,hY,hZ,gA,c1,c2,c3,c4,Bool.not_true]
 |(with_reducible refine CU (nJ _ _) ?_)
 |(with_reducible refine CU (XT _ _) ?_)
 | (with_reducible refine aD hQ ?_;exact bb))
   refine eO 1 1 ?_ ?_ (IH (rest,k+1,seen++ [a.name],seen.length+1) ⟨g2,h2,by simp;omega,by simp⟩ (Nat.lt_succ_self _))
   ·(simp only[go_sem,hD,hY,hZ,gA,aI bO,List.map_append,List.map_cons,List.map_nil,encStr];try exact bW)
   ·(simp only[go_sem,hD,hY,hZ,gA,aI bO,List.map_append,List.map_cons,List.map_nil,encStr];try exact bW)
def nA (p:Pg):List Pc→List D
 | []=> []
 |f::l=> .str f.name:: .slice .shared 1 ((p.qi f.name).map encStr)::nA p l
theorem Sn (p:Pg) : ∀ l,D.bL 0 0 (nA p l)=true
 | []=>rfl
 |f::l=>by simp only[nA,D.bL,D.ok,Tag.ok,fb,Sn p l];rfl
theorem ZH (n m:Nat) (p:Pg) (l:List Pc):D.gu n m (nA p l)=nA p l:=ib n m _ (Sn p l)
attribute [go_sem] ZH
theorem J3 (p:Pg) : ∀ l m,nA p (l++m)=nA p l++nA p m
 | [],m=>rfl
 |f::l,m=>by simp only[List.cons_append,nA,J3 p l m]
theorem J4 {p:Pg} {nm:aG} {d:D} : ∀ {l:List Pc},nm∉l.map (·.name)→xb nm d (nA p l)=some (nA p l++ [.str nm,d])
 | [],_=>rfl
 |f::l,h=>by
  simp only[List.map_cons,List.mem_cons,not_or]at h
  have:(f.name==nm)=false:=by simpa using fun e=>h.1 e.symm
  simp only[nA,xb,this,Bool.false_eq_true,if_false,J4 h.2,List.cons_append]
theorem J5 {p:Pg} {nm:aG} {z:D} : ∀ {l:List Pc} {f:Pc},iT nm l=some f→yK nm z (nA p l)=some (.slice .shared 1 ((p.qi nm).map encStr))
 | g::l,f,h=>by
  simp only[iT]at h
  simp only[nA,yK]
  split at h
  ·rename_i e
   rw[if_pos e,eq_of_beq e]
  ·rename_i e
   rw[if_neg e]
   exact J5 h
theorem ZI (l:List aG) : ∀ (s:List aG),qg s l=false→∀ a x b,l=a++x::b→x∉s++a:=by
 induction l with
 |nil=>intro s _ a x b e;cases a<;>cases e
 | cons y l ih=>
  intro s h a x b e
  simp only[qg]at h
  split at h
  ·cases h
  ·rename_i hy
   cases a with
   |nil=>cases e;simpa[← jg]using hy
   |cons z a=>
    cases e
    have:=ih (s++ [y]) h a x b rfl
    simpa using this
end Go.Abs
namespace Go.Abs
set_option maxRecDepth 8000
open Go.Proofs
theorem J6 {p:Pg} (h:(p.arity.1==0)=true):(p.scope.1==0)=true∧∀ v∈p.pre,(v.kind==4)=true→v.qq p=true:=by
 unfold Pg.arity at h
 split at h
 ·rename_i e
  refine⟨e,fun v hv hk=>?_⟩
  have : ∀ l:List Sm,((qh 6 (JO p l)).1==0)=true→∀ v∈l,(v.kind==4)=true→v.qq p=true:=by
   intro l
   induction l with
   |nil=>intro _ v m;cases m
   | cons a l ih=>
    intro h v m hk
    simp only[JO]at h
    split at h
    ·cases h
    ·rename_i c
     rcases List.mem_cons.1 m with rfl|m
     ·simpa[hk]using c
     ·exact ih h v m hk
  exact this _ h v hv hk
 ·cases h
theorem Hb {p:Pg} {v:Sm} (h:v.qq p=true) : ∃ f,p.find v.proc=some f:=by
 unfold Sm.qq at h
 cases e:p.find v.proc with
 |some f=>exact⟨f,rfl⟩
 |none=>rw[e]at h;simp at h
theorem J7 : ∀ {l:List It} {n:Nat} {i:It},It.fM n l=true→i∈l→i.s.one=true
 | j::l,n,i,h,m=>by
  simp only[It.fM]at h
  split at h
  ·cases h
  ·rename_i c
   simp only[Bool.or_eq_true,not_or,Bool.not_eq_true',Bool.not_eq_false]at c
   rcases List.mem_cons.1 m with rfl|m
   ·exact c.2
   ·exact J7 h m
theorem L9 {p:Pg} (h:p.may=true) : ∀ v∈p.pre,v.one=true:=fun v m=>by
 rw[← (zv h).2,List.mem_map]at m
 obtain⟨i,hi,rfl⟩:=m
 exact J7 (Cl h).2 hi
def Sm.yF (p:Pg) (v:Sm):Bool:=pH v.name (p.qi v.proc) [] v.args
def J8 (p:Pg):List Sm→Option Sm
 | []=>none
 |v::l=>if v.kind==4 && !(v.yF p)then some v else J8 p l
def Pg.alias (p:Pg):Int×Int:=if p.arity.1==0 then qh 8 (J8 p p.pre)else(1,0)
theorem J9 {p:Pg} (h:p.iM) (nm:aG):(p.qi nm).length<4611686018427387904:=by
 unfold Pg.qi
 cases hs:p.zz nm with
 |none=>dsimp only;decide
 |some f=>
  obtain⟨nM,hf⟩:=G3 hs
  have h1:=(JW nM hf).len
  have h2:=h.procs
  have h3:=(zC h (km (p.work nm)) []).2
  have h4:(km (p.work nm)).length*1800000≤900000*1800000:=Nat.mul_le_mul_right _ (by omega)
  have h5:(km (p.sy nm)).length≤(p.sy nm).length:=wX _ _ (uY (mn _).1) fun x m=>((mn _).2 x).1 m
  dsimp only
  unfold Pg.sy at *
  simp only[List.length_nil]at h3
  omega
theorem Po {v:Sm} (hv:v.nw):v.args.length<1000000000:=by have:=Ar.eB v.args;have:=hv.2.2;omega
theorem Sp {p:Pg} (h:p.iM) (s:St):aF Tryz.prog uf [.agg (cu p)] s (.agg [.int .i64 p.alias.1, .int .i64 p.alias.2]) s:=by
 refine aF.pure ?_ (by simp[D.bL,D.ok,jc]) rfl s
 obtain⟨rj,qU,qT⟩:=h.procs
 have pI:=fun s=>JP h s
 have dh:=fun s=>Cf (p:=p) (by omega) s
 have hL:=(kx p).1
 have wW:=pf p
 generalize hR:p.alias=R
 simp only[Pg.alias]at hR
 unfold S0
 have b0:(p.arity.1 != 0) = !(p.arity.1==0):=rfl
 rcases Bool.eq_false_or_eq_true (p.arity.1==0)with b1|b1
 case inr=>
  rw[b1]at b0
  simp only[b1,Bool.false_eq_true,if_false]at hR
  subst hR
  refine aF.go wJ rfl fun B Q hB hQ=>?_
  have⟨hD,hY,hZ,gA⟩:=bP
  repeat' (first
 |simp only[go_sem,hD,hY,hZ,gA,b0,Bool.not_false]
 |(with_reducible refine CU (pI _) ?_)
 |(with_reducible refine aD hQ ?_;exact bb))
 rw[b1]at b0
 obtain⟨nM,jo⟩:=J6 b1
 have htw:=(DE nM).2.1
 simp only[b1,if_true, ← hL]at hR
 refine aF.go wJ rfl fun B Q hB hQ=>?_
 have⟨hD,hY,hZ,gA⟩:=bP
 repeat' (first
 |simp only[go_sem,hD,hY,hZ,gA,b0,Bool.not_true]
 |(with_reducible refine CU (pI _) ?_)
 |(with_reducible refine aD hQ ?_;exact bb))
 refine eO 3 0 ?_ ?_ (bl.ind (ι:=List Pc×Nat×List Pc) (fun i=>p.procs.drop i.2.1=i.1∧p.procs=i.2.2++i.1) (fun i=>i.1.length)
  (fun i=> [(1, .ptr 0 0),(2, .ptr 1 0),(3, .fP 2),(15, .slice .shared 5 (p.procs.map cq)),(16, .int .i64 (p.procs.length:Int)),(17, .int .i64 (i.2.1:Int))]) (fun i=>⟨[cu p,[.int .i64 0, .int .i64 0],nA p i.2.2],[]⟩) ?_ (p.procs,0,[]) ⟨rfl,rfl⟩)
 ·(simp only[go_sem,hD,hY,hZ,gA,nA];try exact bW)
 ·(simp only[go_sem,hD,hY,hZ,gA,nA];try exact bW)
 rintro⟨rest,k,done⟩ ⟨h1,h2⟩ IH
 dsimp only at h1 h2
 cases rest with
 | cons a rest=>
  obtain⟨hY,g2,hD,g4⟩:=drop_cons h1
  have bO:k<4611686018427387904:=by omega
  have xX:=fun s=>R7 h a.name s
  have hnm:a.name∉done.map (·.name):=by
   have:=ZI _ [] htw (done.map (·.name)) a.name (rest.map (·.name)) (by simp[Pg.pn,h2])
   simpa using this
  have hmp:xb a.name (.slice .shared 1 ((p.qi a.name).map encStr)) (nA p done)=some (nA p (done++ [a])):=by
   rw[J4 hnm,J3];rfl
  repeat' (first
 |simp only[go_sem,hD,hY,hZ,gA,hmp]
 |(with_reducible refine CU (xX _) ?_)
 |(with_reducible refine aD hQ ?_;exact bb))
  refine eO 3 0 ?_ ?_ (IH (rest,k+1,done++ [a]) ⟨g2,by rw[h2];simp⟩ (Nat.lt_succ_self _))
  ·(simp only[go_sem,hD,hY,hZ,gA,aI bO];try exact bW)
  ·(simp only[go_sem,hD,hY,hZ,gA,aI bO];try exact bW)
 |nil=>
  have hD:=drop_nil h1
  rw[List.append_nil]at h2
  subst h2
  repeat' (first
 |simp only[go_sem,hD,hY,hZ,gA,nZ]
 |(with_reducible refine CU (dh _) ?_)
 | (with_reducible refine aD hQ ?_;exact bb))
  refine fa 3 0 (bl.ind (ι:=List Im×Nat) (fun i=>p.aX.L.drop i.2=i.1∧qh 8 (J8 p (i.1.map Im.s))=R) (fun i=>i.1.length)
   (fun i=> [(1, .ptr 0 0),(2, .ptr 1 0),(3, .fP 2),(33, .slice .shared 17 (p.aX.L.map dt)),(34, .int .i64 (p.aX.L.length:Int)),(35, .int .i64 (i.2:Int))]) (fun i=>⟨[cu p,[.int .i64 0, .int .i64 0],nA p p.procs],[]⟩) ?_ (p.aX.L,0) ⟨rfl,hR⟩)
  clear hR
  rintro⟨rest,k⟩ ⟨h1,hR⟩ IH
  dsimp only at h1 hR
  cases rest with
  |nil=>
   have hD:=drop_nil h1
   simp only[List.map_nil,J8,qh]at hR
   subst hR
   repeat' (first
 |simp only[go_sem,hD,hY,hZ,gA]
 | (with_reducible refine aD hQ ?_;exact bb))
  | cons a rest=>
   obtain⟨hY,g2,hD,g4⟩:=drop_cons h1
   have bO:k<4611686018427387904:=by omega
   have EJ:a.s∈p.pre:=by rw[← hL];exact List.mem_map_of_mem (List.mem_of_getElem? hY)
   have vl:=fun s=>Vz (Po (h.pre _ EJ)) (J9 h a.s.proc) s
   simp only[List.map_cons,J8,Sm.yF]at hR
   rcases Bool.eq_false_or_eq_true (a.s.kind==4)with c1|c1
   ·obtain⟨f,hf⟩:=Hb (jo _ EJ c1)
    have hmg:=fun z=>J5 (p:=p) (z:=z) hf
    rcases Bool.eq_false_or_eq_true (pH a.s.name (p.qi a.s.proc) [] a.s.args)with c2|c2
    ·simp only [c1,c2,Bool.not_true,Bool.and_false,Bool.false_eq_true,if_false]at hR
     repeat' (first
 |simp only[go_sem,hD,hY,hZ,gA,c1,c2,hmg]
 |(with_reducible refine CU (vl _) ?_)
 | (with_reducible refine aD hQ ?_;exact bb))
     refine eO 3 0 ?_ ?_ (IH (rest,k+1) ⟨g2,hR⟩ (Nat.lt_succ_self _))
     ·(simp only[go_sem,hD,hY,hZ,gA,aI bO];try exact bW)
     ·(simp only[go_sem,hD,hY,hZ,gA,aI bO];try exact bW)
    ·simp only [c1,c2,Bool.not_false,Bool.and_true,if_true,qh]at hR
     subst hR
     repeat' (first
 |simp only[go_sem,hD,hY,hZ,gA,c1,c2,hmg]
 |(with_reducible refine CU (vl _) ?_)
 | (with_reducible refine aD hQ ?_;exact bb))
   ·simp only [c1,Bool.false_and,Bool.false_eq_true,if_false]at hR
    repeat' (first
 |simp only[go_sem,hD,hY,hZ,gA,c1]
 |(with_reducible refine CU (vl _) ?_)
 | (with_reducible refine aD hQ ?_;exact bb))
    refine eO 3 0 ?_ ?_ (IH (rest,k+1) ⟨g2,hR⟩ (Nat.lt_succ_self _))
    ·(simp only[go_sem,hD,hY,hZ,gA,aI bO];try exact bW)
    ·(simp only[go_sem,hD,hY,hZ,gA,aI bO];try exact bW)
def Sm.adw (p:Pg) (v:Sm):Bool:=v.qq p && apM (p.qi v.proc) v.anQ v.args
def apF (p:Pg):List Sm→Option Sm
 | []=>none
 |v::l=>if v.kind==4 && !(v.adw p)then some v else apF p l
def rd0 (l:List qa):Rd:=⟨l,0,0,0,0⟩
def auJ (m:Nat) (text:aG):Option (Pg×Int×Int):=
 if(yw text).2.1 != 0 then some (pg0,(yw text).2)
 else(Rd.program m (rd0 (yw text).1)).bind fun p=>if p.2.code != 0 then some (pg0,p.2.code,p.2.Jg)else(p.1.Zc).bind fun q=>some (q,0,0)
def avA (m:Nat) (text:aG):Option (Ex×Int×Int):=
 if(yw text).2.1 != 0 then some (ry,(yw text).2)
 else(Rd.whole m (rd0 (yw text).1)).bind fun x=>x.2.Rp.bind fun b=>
  if b then(x.2.bad 3).bind fun r=>if !r.good then some (ry,r.code,r.Jg)else some (x.1,0,0)
  else if !x.2.good then some (ry,x.2.code,x.2.Jg)else some (x.1,0,0)
def adx (n k:Int):Int:=if Int.tmod n k<0 then Int.tmod n k+k else Int.tmod n k
def ahd (t:aG):Nat→aG
 | 0=> []
 |n+1=>ahd t n++t
def two (i:Nat):aG:= [UInt8.ofNat (48+i / 10),UInt8.ofNat (48+i % 10)]
def ady (ahead:aG):Nat→aG
 | 0=> []
 |n+1=>(if n=0 then ady ahead n else ady ahead n++ [44])++(ahead++ [97]++two n)
def adz:Nat→aG
 | 0=> []
 |n+1=>adz n++([112,114,111,99,32,112]++two n++ [40,41,123,125])
def oI (k:Int):List It→List Int
 | []=> []
 |i::l=>if k==0 ||i.s.kind==k then i.s.id::oI k l else oI k l
theorem DK (k:Int) : ∀ l,(oI k l).length≤l.length
 | []=>Nat.le_refl _
 |i::l=>by
  have:=DK k l
  simp only[oI]
  split<;>simp<;>omega
theorem ahe {p:Pg} (hs:Pc.aY p.procs<4611686018427387000) (wW:p.all.length≤1000) (kd:Int) (s:St):aF Tryz.prog zb [.agg (cu p), .int .i64 kd] s (.slice .shared 1 ((oI kd p.all).map bE)) s:=by
 refine aF.pure ?_ (by simp[D.bL,D.ok,jc]) (by simp only[D.ok,Tag.ok,iw];rfl) s
 have yf:=fun s=>ag5 hs s
 obtain⟨R,hR⟩ : ∃ R,oI kd p.all=R:=⟨_,rfl⟩
 rw[hR]
 have hRl:R.length≤1000:=by rw[← hR];exact Nat.le_trans (DK kd p.all) wW
 unfold S0
 refine aF.go Jp rfl fun B Q hB hQ=>?_
 have⟨hD,hY,hZ,gA⟩:=bP
 repeat' (first
 |simp only[go_sem,hD,hY,hZ,gA]
 |(with_reducible refine CU (yf _) ?_)
 |(with_reducible refine aD hQ ?_;exact bb))
 refine bl.qC 5 1 rfl ?_
 simp only[go_sem,hD,hY,hZ,gA]
 refine fa 1 1 (bl.ind (ι:=List It×Nat×List Int×Nat) (fun i=>p.all.drop i.2.1=i.1∧i.2.2.1++oI kd i.1=R∧i.2.2.2=i.2.2.1.length) (fun i=>i.1.length)
  (fun i=> [(1, .int .i64 kd),(2, .ptr 0 0),(5, .slice (.tok 0) 1 (i.2.2.1.map bE)),(9, .slice .shared 16 (p.all.map fA)),(10, .int .i64 (p.all.length:Int)),(11, .int .i64 (i.2.1:Int))]) (fun i=>⟨[cu p],[some i.2.2.2]⟩) ?_ (p.all,0,[],0) ⟨rfl,hR,rfl⟩)
 clear hR
 rintro⟨rest,k,out,n'⟩ ⟨h1,h2,h3⟩ IH
 dsimp only at h1 h2 h3
 subst h3
 have iX:out.length≤1000:=by have:=congrArg List.length h2;rw[List.length_append]at this;omega
 cases rest with
 |nil=>
  have hD:=drop_nil h1
  simp only[oI,List.append_nil]at h2
  subst h2
  repeat' (first
 |simp only[go_sem,hD,hY,hZ,gA]
 |(with_reducible refine aD hQ ?_;exact bb))
 | cons a rest=>
  obtain⟨hY,g2,hD,g4⟩:=drop_cons h1
  have bO:k<4611686018427387904:=by omega
  have hZ:(out.length+1)*9≤bA:=by unfold bA;omega
  simp only[oI]at h2
  rcases Bool.eq_false_or_eq_true (kd==0)with c1|c1
  ·simp only [c1,Bool.true_or,if_true]at h2
   repeat' (first
 |simp only[go_sem,hD,hY,hZ,gA,c1]
 | (with_reducible refine aD hQ ?_;exact bb))
   refine eO 1 1 ?_ ?_ (IH (rest,k+1,out++ [a.s.id],out.length+1) ⟨g2,by rw[← h2];simp,by simp⟩ (Nat.lt_succ_self _))
   ·(simp only[go_sem,hD,hY,hZ,gA,aI bO,List.map_append,List.map_cons,List.map_nil,bE];try exact bW)
   ·(simp only[go_sem,hD,hY,hZ,gA,aI bO,List.map_append,List.map_cons,List.map_nil,bE];try exact bW)
  rcases Bool.eq_false_or_eq_true (a.s.kind==kd)with c2|c2
  ·simp only [c1,c2,Bool.or_true,if_true]at h2
   repeat' (first
 |simp only[go_sem,hD,hY,hZ,gA,c1,c2]
 | (with_reducible refine aD hQ ?_;exact bb))
   refine eO 1 1 ?_ ?_ (IH (rest,k+1,out++ [a.s.id],out.length+1) ⟨g2,by rw[← h2];simp,by simp⟩ (Nat.lt_succ_self _))
   ·(simp only[go_sem,hD,hY,hZ,gA,aI bO,List.map_append,List.map_cons,List.map_nil,bE];try exact bW)
   ·(simp only[go_sem,hD,hY,hZ,gA,aI bO,List.map_append,List.map_cons,List.map_nil,bE];try exact bW)
  ·simp only [c1,c2,Bool.or_false,Bool.false_eq_true,if_false]at h2
   repeat' (first
 |simp only[go_sem,hD,hY,hZ,gA,c1,c2]
 | (with_reducible refine aD hQ ?_;exact bb))
   refine eO 1 1 ?_ ?_ (IH (rest,k+1,out,_) ⟨g2,h2,rfl⟩ (Nat.lt_succ_self _))
   ·(simp only[go_sem,hD,hY,hZ,gA,aI bO];try exact bW)
   ·(simp only[go_sem,hD,hY,hZ,gA,aI bO];try exact bW)
def avB (l:List Int) (n:Int):Int:=match l[(adx n l.length).toNat]? with|some x=>x|none=>0
def u9 (id:Int):List It→Option It
 | []=>none
 |i::l=>if i.s.id==id then some i else u9 id l
def oT (id:Int):List Pc→Option (It×aG)
 | []=>none
 |f::l=>match u9 id f.flat with|some i=>some (i,f.name)|none=>oT id l
def it0:It:=⟨I9,0,0,false⟩
def n7 (r:Option (It×aG)):D:=match r with
 |some (i,nm)=> .tuple [.agg (fA i), .str nm, .bool true]
 |none=> .tuple [.agg (fA it0), .str [], .bool false]
theorem ZJ (r:Option (It×aG)):D.ok 0 0 (n7 r)=true:=by cases r<;>simp[n7,D.ok,D.bL,O0]
theorem ET:fA it0 = [.int .i64 0, .int .i64 0, .slice .shared 1 [], .str [], .str [], .int .i64 0, .int .i64 0, .str [], .slice .shared 4 [], .bool false, .slice .shared 6 [], .slice .shared 13 [], .slice .shared 13 [], .int .i64 0, .int .i64 0, .bool false]:=nd rfl
theorem adB {p:Pg} (hs:Pc.aY p.procs<4611686018427387000) (hp:p.procs.length<1000000) (id:Int) (s:St):aF Tryz.prog xv [.agg (cu p), .int .i64 id] s (n7 (oT id p.procs)) s:=by
 refine aF.pure ?_ (by simp[D.bL,D.ok,jc]) (ZJ _) s
 obtain⟨R,hR⟩ : ∃ R,oT id p.procs=R:=⟨_,rfl⟩
 rw[hR]
 unfold S0
 refine aF.go Hy rfl fun B Q hB hQ=>?_
 have⟨hD,hY,hZ,gA⟩:=bP
 repeat' (first
 |simp only[go_sem,hD,hY,hZ,gA]
 |(with_reducible first|refine bo fun hc=>?_|refine bp fun hc=>?_|refine bq (fun hc=>?_) fun hc=>?_)<;>(try simp only[hc,bs,↓reduceIte]at h)<;>try simp only[hc]
 |(with_reducible refine aD hQ ?_;exact bb))
 refine fa 2 0 (bl.ind (ι:=List Pc×Nat) (fun i=>p.procs.drop i.2=i.1∧oT id i.1=R) (fun i=>i.1.length)
  (fun i=> [(1, .int .i64 id),(2, .ptr 0 0),(4, .ptr 1 0),(5, .str []),(6, .bool false),(12, .slice .shared 5 (p.procs.map cq)),(13, .int .i64 (p.procs.length:Int)),(14, .int .i64 (i.2:Int))]) (fun i=>⟨[cu p,[.int .i64 0, .int .i64 0, .slice .full 0 [], .str [], .str [], .int .i64 0, .int .i64 0, .str [], .slice .full 0 [], .bool false, .slice .full 0 [], .slice .full 0 [], .slice .full 0 [], .int .i64 0, .int .i64 0, .bool false]],[]⟩) ?_ (p.procs,0) ⟨rfl,hR⟩)
 clear hR
 rintro⟨rest,k⟩ ⟨h1,h2⟩ IH
 dsimp only at h1 h2
 cases rest with
 |nil=>
  have hD:=drop_nil h1
  simp only[oT]at h2
  subst h2
  repeat' (first
 |simp only[go_sem,hD,hY,hZ,gA,n7,ET]
 |(with_reducible first|refine bo fun hc=>?_|refine bp fun hc=>?_|refine bq (fun hc=>?_) fun hc=>?_)<;>(try simp only[hc,bs,↓reduceIte]at h)<;>try simp only[hc]
 |(with_reducible refine aD hQ ?_;simp only[aU,aV,bH,bI,go_sem,hD,hY,hZ,gA,n7,ET];try exact cv))
 |cons f rest=>
  obtain⟨hY,g2,hD,g4⟩:=drop_cons h1
  have bO:k<4611686018427387904:=by omega
  have gR:=fun s=>RF (f:=f) (by have:=Pc.dd (List.mem_of_getElem? hY);unfold Pc.size at this;omega) s
  have avR:=Pc.JC f
  simp only[oT]at h2
  repeat' (first
 |simp only[go_sem,hD,hY,hZ,gA]
 |(with_reducible refine CU (gR _) ?_)
 | (with_reducible refine aD hQ ?_;exact bb))
  refine fa 3 0 (bl.ind (ι:=List It×Nat) (fun i=>f.flat.drop i.2=i.1∧(match u9 id i.1 with|some i=>some (i,f.name)|none=>oT id rest)=R) (fun i=>i.1.length)
   (fun i=> [(1, .int .i64 id),(2, .ptr 0 0),(4, .ptr 1 0),(5, .str []),(6, .bool false),(8, .ptr 2 0),(12, .slice .shared 5 (p.procs.map cq)),(13, .int .i64 (p.procs.length:Int)),(14, .int .i64 (k:Int)),
    (19, .slice .shared 16 (f.flat.map fA)),(20, .int .i64 (f.flat.length:Int)),(21, .int .i64 (i.2:Int))]) (fun i=>⟨[cu p,[.int .i64 0, .int .i64 0, .slice .full 0 [], .str [], .str [], .int .i64 0, .int .i64 0, .str [], .slice .full 0 [], .bool false, .slice .full 0 [], .slice .full 0 [], .slice .full 0 [], .int .i64 0, .int .i64 0, .bool false],cq f],[]⟩) ?_ (f.flat,0) ⟨rfl,h2⟩)
  clear h2
  rintro⟨qs,k'⟩ ⟨j1,j2⟩ By
  dsimp only at j1 j2
  cases qs with
  |nil=>
   have Ka:=drop_nil j1
   simp only[u9]at j2
   repeat' (first
 |simp only[go_sem,hD,hY,hZ,gA,Ka]
 |(with_reducible first|refine bo fun hc=>?_|refine bp fun hc=>?_|refine bq (fun hc=>?_) fun hc=>?_)<;>(try simp only[hc,bs,↓reduceIte]at h)<;>try simp only[hc]
 | (with_reducible refine aD hQ ?_;simp only [aU,aV,bH,bI,go_sem,hD,hY,hZ,gA,Ka];try exact cv))
   refine eO 2 0 ?_ ?_ (IH (rest,k+1) ⟨g2,j2⟩ (Nat.lt_succ_self _))
   ·(simp only[go_sem,hD,hY,hZ,gA,aI bO];try exact bW)
   ·(simp only[go_sem,hD,hY,hZ,gA,aI bO];try exact bW)
  | cons a qs=>
   obtain⟨mH,j3,tH,j4⟩:=drop_cons j1
   have uL:k'<4611686018427387904:=by omega
   simp only[u9]at j2
   rcases Bool.eq_false_or_eq_true (a.s.id==id)with c1|c1
   ·simp only [c1,if_true]at j2
    subst j2
    repeat' (first
 |simp only[go_sem,hD,hY,hZ,gA,mH,tH,c1,n7,ET]
 |(with_reducible first|refine bo fun hc=>?_|refine bp fun hc=>?_|refine bq (fun hc=>?_) fun hc=>?_)<;>(try simp only[hc,bs,↓reduceIte]at h)<;>try simp only[hc]
 | (with_reducible refine aD hQ ?_;simp only [aU,aV,bH,bI,go_sem,hD,hY,hZ,gA,mH,tH,c1,n7,ET];try exact cv))
   ·simp only [c1,Bool.false_eq_true,if_false]at j2
    repeat' (first
 |simp only[go_sem,hD,hY,hZ,gA,mH,tH,c1]
 | (with_reducible refine aD hQ ?_;exact bb))
    refine eO 3 0 ?_ ?_ (By (qs,k'+1) ⟨j3,j2⟩ (Nat.lt_succ_self _))
    ·(simp only[go_sem,hD,hY,hZ,gA,aI uL];try exact bW)
    ·(simp only[go_sem,hD,hY,hZ,gA,aI uL];try exact bW)
def Pg.n8 (p:Pg) (id:Int):Sm:=match oT id p.procs with|some (i,_)=>i.s|none=>I9
theorem adC {p:Pg} (hs:Pc.aY p.procs<4611686018427387000) (hp:p.procs.length<1000000) (id:Int) (s:St):aF Tryz.prog xp [.agg (cu p), .int .i64 id] s (.agg (bd (p.n8 id))) s:=by
 refine aF.pure ?_ (by simp[D.bL,D.ok,jc]) (by simp[D.ok,qD]) s
 have hf:=fun s=>adB hs hp id s
 unfold Pg.n8
 generalize oT id p.procs=r at hf ⊢
 unfold S0
 cases r with
 |none=>
  simp only[n7]at hf
  refine aF.go Ai rfl fun B Q hB hQ=>?_
  have⟨hD,hY,hZ,gA⟩:=bP
  repeat' (first
 |simp only[go_sem,hD,hY,hZ,gA,JA,it0]
 |(with_reducible refine CU (hf _) ?_)
 |(with_reducible refine aD hQ ?_;exact bb))
 |some x=>
  obtain⟨i,nm⟩:=x
  simp only[n7]at hf
  refine aF.go Ai rfl fun B Q hB hQ=>?_
  have⟨hD,hY,hZ,gA⟩:=bP
  repeat' (first
 |simp only[go_sem,hD,hY,hZ,gA,JA]
 |(with_reducible refine CU (hf _) ?_)
 |(with_reducible refine aD hQ ?_;exact bb))
def c6 (t:aG) (n:Int):Int:=if n > 20000 then 20001 else if(t.length:Int)≥20000 - n then 20001 else n+1+t.length
mutual
def fe:Ex→Int→Int
 |⟨_,_,name,kids⟩,n=>nB kids (c6 name n)
def nB:List Ex→Int→Int
 | [],n=>n
 |x::l,n=>if n≤20000 then nB l (fe x n)else n
end
theorem mr {t:aG} {n:Int} (h0:0≤n):c6 t n≤20001∧(n≤20000→n+1≤c6 t n)∧0≤c6 t n∧(c6 t n≤20000→n+1+t.length=c6 t n):=by
 unfold c6;split
 ·omega
 ·split<;>omega
theorem vU : ∀ (m:Nat) (x:Ex),x.size≤m→∀ n:Int,0≤n→fe x n≤20001∧(n≤20000→n+1≤fe x n)∧0≤fe x n∧(fe x n≤20000→(x.size:Int)+1≤2*(fe x n - n)∧x.texts):=by
 intro m
 induction m with
 |zero=>rintro⟨op,v,name,kids⟩ h;simp only[Ex.size]at h;omega
 | succ m ih=>
  rintro⟨op,v,name,kids⟩ h n h0
  simp only[Ex.size]at h
  obtain⟨t1,t2,t3,t4⟩:=mr (t:=name) h0
  have go : ∀ (l:List Ex),Ex.aY l≤m→∀ c:Int,0≤c→c≤20001→nB l c≤20001∧c≤nB l c∧(nB l c≤20000→(Ex.aY l:Int)≤2*(nB l c - c)∧Ex.vK l):=by
   intro l
   induction l with
   |nil=>intro _ c h0 h1;simp only[nB,Ex.aY];exact⟨h1,Int.le_refl _,fun _=>⟨by omega,trivial⟩⟩
   | cons y l Sg=>
    intro hs c h0 h1
    simp only[Ex.aY]at hs ⊢
    simp only[nB]
    split
    ·rename_i hc
     obtain⟨a1,a2,a3,a4⟩:=ih y (by omega) c h0
     obtain⟨b1,b2,b3⟩:=Sg (by omega) (fe y c) a3 a1
     have:=a2 hc
     refine⟨b1,by omega,fun hw=>?_⟩
     obtain⟨c1,c2⟩:=b3 hw
     obtain⟨d1,d2⟩:=a4 (by omega)
     exact⟨by omega,d2,c2⟩
    ·exact⟨h1,Int.le_refl _,fun hw=>by omega⟩
  obtain⟨g1,g2,g3⟩:=go kids (by omega) (c6 name n) t3 t1
  simp only[fe,Ex.size]
  refine⟨g1,fun hn=>by have:=t2 hn;omega,by omega,fun hw=>?_⟩
  obtain⟨k1,k2⟩:=g3 hw
  have:=t4 (by omega)
  exact⟨by omega,by omega,k2⟩
theorem qL (t:aG) {n:Int} (h0:0≤n) (h1:n≤20001) (s:St):aF Tryz.prog gn [.str t, .int .i64 n] s (.int .i64 (c6 t n)) s:=by
 refine aF.pure ?_ rfl rfl s
 unfold S0
 have w1:IntKind.wrap .i64 (20000 - n)=20000 - n:=eg (by omega) (by omega)
 have w2:IntKind.wrap .i64 (n+1)=n+1:=eg (by omega) (by omega)
 by_cases c:n > 20000
 ·have c1:decide (n > 20000)=true:=by simp;omega
  have e:c6 t n=20001:=by simp[c6,c]
  rw[e]
  refine aF.go pd rfl fun B Q hB hQ=>?_
  have⟨hD,hY,hZ,gA⟩:=bP
  repeat' (first
 |simp only[go_sem,hD,hY,hZ,gA,c1,w1,w2]
 |(with_reducible refine aD hQ ?_;exact bb))
 ·have c1:decide (n > 20000)=false:=by simp;omega
  by_cases d:(t.length:Int)≥20000 - n
  ·have d1:decide ((t.length:Int)≥20000 - n)=true:=by simp;omega
   have e:c6 t n=20001:=by unfold c6;rw[if_neg c,if_pos d]
   rw[e]
   refine aF.go pd rfl fun B Q hB hQ=>?_
   have⟨hD,hY,hZ,gA⟩:=bP
   repeat' (first
 |simp only[go_sem,hD,hY,hZ,gA,c1,d1,w1,w2]
 | (with_reducible refine aD hQ ?_;exact bb))
  ·have d1:decide ((t.length:Int)≥20000 - n)=false:=by simp;omega
   have e:c6 t n=n+1+t.length:=by unfold c6;rw[if_neg c,if_neg d]
   have w3:IntKind.wrap .i64 (n+1+t.length)=n+1+t.length:=eg (by omega) (by omega)
   rw[e]
   refine aF.go pd rfl fun B Q hB hQ=>?_
   have⟨hD,hY,hZ,gA⟩:=bP
   repeat' (first
 |simp only[go_sem,hD,hY,hZ,gA,c1,d1,w1,w2,w3]
 |(with_reducible refine aD hQ ?_;exact bb))
theorem Kb : ∀ (m:Nat) (x:Ex),x.size≤m→∀ {n:Int},0≤n→n≤20000→∀ s:St,aF Tryz.prog jY [.agg (cj x), .int .i64 n] s (.int .i64 (fe x n)) s:=by
 intro m
 induction m with
 |zero=>rintro⟨op,v,name,kids⟩ h;simp only[Ex.size]at h;omega
 |succ m ih=>
  rintro⟨op,v,name,kids⟩ dM n h0 h1 s
  refine aF.pure ?_ (by simp[D.bL,D.ok,lR]) rfl s
  simp only[Ex.size]at dM
  have hk : ∀ y∈kids,∀ {n:Int},0≤n→n≤20000→∀ s:St,aF Tryz.prog jY [.agg (cj y), .int .i64 n] s (.int .i64 (fe y n)) s:=fun y hy=>ih y (by have:=Ex.dd hy;omega)
  have ht:=fun s=>qL name h0 (by omega) s
  obtain⟨t1,t2,t3,t4⟩:=mr (t:=name) h0
  unfold S0
  generalize h:fe ⟨op,v,name,kids⟩ n=p
  simp only[fe]at h
  refine aF.go Bq rfl fun B Q hB hQ=>?_
  have⟨hD,hY,hZ,gA⟩:=bP
  repeat' (first
 |simp only[go_sem,hD,hY,hZ,gA]
 |(with_reducible refine CU (ht _) ?_)
 |(with_reducible first|refine bo fun hc=>?_|refine bp fun hc=>?_|refine bq (fun hc=>?_) fun hc=>?_)<;>(try simp only[hc,bs,↓reduceIte]at h)<;>try simp only[hc]
 | (with_reducible refine aD hQ ?_;exact ga))
  refine fa 1 0 (bl.ind (ι:=List Ex×Nat×Int) (fun i=>kids.drop i.2.1=i.1∧nB i.1 i.2.2=p∧(i.2.1:Int)≤i.2.2∧i.2.2≤20001) (fun i=>i.1.length)
   (fun i=> [(1, .int .i64 i.2.2),(2, .ptr 0 0),(5, .int .i64 (i.2.1:Int))]) (fun i=>⟨[cj ⟨op,v,name,kids⟩],[]⟩) ?_ (kids,0,c6 name n) ⟨rfl,h,t3,t1⟩)
  rintro⟨rest,k,c⟩ ⟨g1,h,g3,g4⟩ IH
  dsimp only at g1 h g3 g4
  cases rest with
  |nil=>
   have hD:=drop_nil g1
   simp only[nB]at h
   repeat' (first
 |simp only[go_sem,hD,hY,hZ,gA]
 |(with_reducible first|refine bo fun hc=>?_|refine bp fun hc=>?_|refine bq (fun hc=>?_) fun hc=>?_)<;>(try simp only[hc,bs,↓reduceIte]at h)<;>try simp only[hc]
 | (with_reducible refine aD hQ ?_;exact ga))
  | cons y rest=>
   obtain⟨hY,g2,hD,g5⟩:=drop_cons g1
   simp only[nB]at h
   by_cases hc:c≤20000
   ·have c1:decide (c≤20000)=true:=by simp;omega
    have hy:=fun s=>hk y (List.mem_of_getElem? hY) (n:=c) (by omega) hc s
    obtain⟨a1,a2,a3,a4⟩:=vU _ y (Nat.le_refl _) c (by omega)
    have:=a2 hc
    have w3:IntKind.wrap .i64 ((k:Int)+1)=((k+1:Nat):Int):=by rw[eg]<;>omega
    rw[if_pos hc]at h
    repeat' (first
 |simp only[go_sem,hD,hY,hZ,gA,c1,w3]
 |(with_reducible refine CU (hy _) ?_)
 |(with_reducible first|refine bo fun hc=>?_|refine bp fun hc=>?_|refine bq (fun hc=>?_) fun hc=>?_)<;>(try simp only[hc,bs,↓reduceIte]at h)<;>try simp only[hc]
 | (with_reducible refine aD hQ ?_;(try cases h);simp only [aU,aV,bH,bI,go_sem,hD,hY,hZ,gA,c1,w3];try exact cv))
    refine fa 1 0 (IH (rest,k+1,fe y c) ⟨g2,h,by dsimp only;omega,a1⟩ (Nat.lt_succ_self _))
   ·have c1:decide (c≤20000)=false:=by simp;omega
    rw[if_neg hc]at h
    repeat' (first
 |simp only[go_sem,hD,hY,hZ,gA,c1]
 |(with_reducible first|refine bo fun hc=>?_|refine bp fun hc=>?_|refine bq (fun hc=>?_) fun hc=>?_)<;>(try simp only[hc,bs,↓reduceIte]at h)<;>try simp only[hc]
 |(with_reducible refine aD hQ ?_;(try cases h);simp only[aU,aV,bH,bI,go_sem,hD,hY,hZ,gA,c1];try exact cv))
def dK:List aG→Int→Int
 | [],n=>n
 |t::l,n=>if n≤20000 then dK l (c6 t n)else n
def iJ:List Ar→Int→Int
 | [],n=>n
 |a::l,n=>if n≤20000 then iJ l (c6 a.name (fe a.x n))else n
def kD:List Pm→Int→Int
 | [],n=>n
 |a::l,n=>if n≤20000 then kD l (c6 a.name n)else n
mutual
def rQ:Sm→Int→Int
 |⟨_,_,labels,name,proc,x,_,args,aZ,aR⟩,n=>fC aR (fC aZ (iJ args (c6 proc (c6 name (dK labels (fe x n))))))
def fC:List Sm→Int→Int
 | [],n=>n
 |s::l,n=>if n≤20000 then fC l (rQ s n)else n
end
theorem Sr (s:Sm) (n:Int):rQ s n=fC s.aR (fC s.aZ (iJ s.args (c6 s.proc (c6 s.name (dK s.labels (fe s.x n)))))):=by cases s;simp only[rQ]
def tL (f:Pc) (n:Int):Int:=fC f.body (kD f.params (dK f.fin (dK f.vars (c6 f.name n))))
def nC:List Pc→Int→Int
 | [],n=>n
 |f::l,n=>if n≤20000 then nC l (tL f n)else n
def Pg.Co (p:Pg):Int:=nC p.procs (dK p.globals 0)
theorem lb : ∀ (l:List aG) {n:Int},0≤n→n≤20001→dK l n≤20001∧n≤dK l n∧(dK l n≤20000→n+l.length≤dK l n∧∀ t∈l,t.length<4611686018427387904)
 | [],n,h0,h1=>by simp only[dK];exact⟨h1,Int.le_refl _,fun _=>⟨by simp,by simp⟩⟩
 | t::l,n,h0,h1=>by
  simp only[dK]
  split
  ·rename_i hc
   obtain⟨a1,a2,a3,a4⟩:=mr (t:=t) h0
   obtain⟨b1,b2,b3⟩:=lb l (n:=c6 t n) a3 a1
   have:=a2 hc
   refine⟨b1,by omega,fun hw=>?_⟩
   obtain⟨c1,c2⟩:=b3 hw
   have:=a4 (by omega)
   refine⟨by simp only[List.length_cons];omega,fun s m=>?_⟩
   rcases List.mem_cons.1 m with rfl|m
   ·omega
   ·exact c2 s m
  ·exact⟨h1,Int.le_refl _,fun hw=>by omega⟩
theorem zJ : ∀ (l:List Pm) {n:Int},0≤n→n≤20001→kD l n≤20001∧n≤kD l n∧(kD l n≤20000→n+l.length≤kD l n∧∀ t∈l,t.name.length<4611686018427387904)
 | [],n,h0,h1=>by simp only[kD];exact⟨h1,Int.le_refl _,fun _=>⟨by simp,by simp⟩⟩
 | t::l,n,h0,h1=>by
  simp only[kD]
  split
  ·rename_i hc
   obtain⟨a1,a2,a3,a4⟩:=mr (t:=t.name) h0
   obtain⟨b1,b2,b3⟩:=zJ l (n:=c6 t.name n) a3 a1
   have:=a2 hc
   refine⟨b1,by omega,fun hw=>?_⟩
   obtain⟨c1,c2⟩:=b3 hw
   have:=a4 (by omega)
   refine⟨by simp only[List.length_cons];omega,fun s m=>?_⟩
   rcases List.mem_cons.1 m with rfl|m
   ·omega
   ·exact c2 s m
  ·exact⟨h1,Int.le_refl _,fun hw=>by omega⟩
theorem zK : ∀ (l:List Ar) {n:Int},0≤n→n≤20001→iJ l n≤20001∧n≤iJ l n∧
 (iJ l n≤20000→(Ar.aY l:Int)≤2*(iJ l n - n)∧∀ a∈l,a.x.size<4611686018427387904∧a.x.texts∧a.name.length<4611686018427387904)
 | [],n,h0,h1=>by simp only[iJ];exact⟨h1,Int.le_refl _,fun _=>⟨by simp[Ar.aY],by simp⟩⟩
 | a::l,n,h0,h1=>by
  simp only[iJ]
  split
  ·rename_i hc
   obtain⟨a1,a2,a3,a4⟩:=vU _ a.x (Nat.le_refl _) n h0
   obtain⟨e1,e2,e3,e4⟩:=mr (t:=a.name) a3
   obtain⟨b1,b2,b3⟩:=zK l (n:=c6 a.name (fe a.x n)) e3 e1
   have:=a2 hc
   have:fe a.x n≤c6 a.name (fe a.x n):=by
    by_cases h:fe a.x n≤20000
    ·have:=e2 h;omega
    ·have:c6 a.name (fe a.x n)=20001:=by unfold c6;rw [if_pos (by omega)]
     omega
   refine⟨b1,by omega,fun hw=>?_⟩
   obtain⟨c1,c2⟩:=b3 hw
   have:=e4 (by omega)
   obtain⟨d1,d2⟩:=a4 (by omega)
   refine⟨by simp only[Ar.aY];omega,fun s m=>?_⟩
   rcases List.mem_cons.1 m with rfl|m
   ·exact⟨by omega,d2,by omega⟩
   ·exact c2 s m
  ·exact⟨h1,Int.le_refl _,fun hw=>by omega⟩
theorem ll {t:aG} {n:Int} (h0:0≤n) (h1:n≤20001):n≤c6 t n∧c6 t n≤20001∧(c6 t n≤20000→n+1≤c6 t n∧t.length<4611686018427387904):=by
 obtain⟨e1,e2,e3,e4⟩:=mr (t:=t) h0
 by_cases h:n≤20000
 ·have:=e2 h
  exact⟨by omega,e1,fun hw=>⟨by omega,by have:=e4 hw;omega⟩⟩
 ·have:c6 t n=20001:=by unfold c6;rw [if_pos (by omega)]
  exact⟨by omega,e1,fun hw=>by omega⟩
mutual
theorem Hc : ∀ (s:Sm) {n:Int},0≤n→n≤20000→rQ s n≤20001∧n+1≤rQ s n∧(rQ s n≤20000→(s.size:Int)+1≤2*(rQ s n - n)∧s.wM)
 |⟨id,kind,labels,name,proc,x,has,args,aZ,aR⟩,n,h0,h1=>by
  obtain⟨a1,a2,a3,a4⟩:=vU _ x (Nat.le_refl _) n h0
  have a2:=a2 h1
  obtain⟨b1,b2,b3⟩:=lb labels a3 a1
  obtain⟨c1,c2,c3⟩:=ll (t:=name) (n:=dK labels (fe x n)) (by omega) b1
  obtain⟨d1,d2,d3⟩:=ll (t:=proc) (n:=c6 name (dK labels (fe x n))) (by omega) c2
  obtain⟨e1,e2,e3⟩:=zK args (n:=c6 proc (c6 name (dK labels (fe x n)))) (by omega) d2
  obtain⟨f1,f2,f3⟩:=rR aZ (n:=iJ args (c6 proc (c6 name (dK labels (fe x n))))) (by omega) e1
  obtain⟨g1,g2,g3⟩:=rR aR (n:=fC aZ (iJ args (c6 proc (c6 name (dK labels (fe x n)))))) (by omega) f1
  simp only[rQ,Sm.size]
  refine⟨g1,by omega,fun hw=>?_⟩
  obtain⟨g4,g5⟩:=g3 hw
  obtain⟨f4,f5⟩:=f3 (by omega)
  obtain⟨e4,e5⟩:=e3 (by omega)
  obtain⟨d4,d5⟩:=d3 (by omega)
  obtain⟨c4,c5⟩:=c3 (by omega)
  obtain⟨b4,b5⟩:=b3 (by omega)
  obtain⟨a5,a6⟩:=a4 (by omega)
  have:=Ar.eB args
  refine⟨by omega, ?_⟩
  rw[DB]
  exact⟨⟨b5,by dsimp only;omega,c5,d5,by dsimp only;omega,a6,by dsimp only;omega,e5⟩,f5,g5⟩
theorem rR : ∀ (l:List Sm) {n:Int},0≤n→n≤20001→fC l n≤20001∧n≤fC l n∧(fC l n≤20000→(Sm.aY l:Int)≤2*(fC l n - n)∧Sm.ky l)
 | [],n,h0,h1=>by simp only[fC];exact⟨h1,Int.le_refl _,fun _=>⟨by simp[Sm.aY],by simp only[Sm.ky]⟩⟩
 | s::l,n,h0,h1=>by
  simp only[fC]
  split
  ·rename_i hc
   obtain⟨a1,a2,a3⟩:=Hc s h0 hc
   obtain⟨b1,b2,b3⟩:=rR l (n:=rQ s n) (by omega) a1
   refine⟨b1,by omega,fun hw=>?_⟩
   obtain⟨c1,c2⟩:=b3 hw
   obtain⟨d1,d2⟩:=a3 (by omega)
   exact⟨by simp only[Sm.aY];omega,d2,c2⟩
  ·exact⟨h1,Int.le_refl _,fun hw=>by omega⟩
end
theorem Hd (f:Pc) {n:Int} (h0:0≤n) (h1:n≤20000):tL f n≤20001∧n+1≤tL f n∧(tL f n≤20000→(f.size:Int)+1≤2*(tL f n - n)∧
 (f.name.length<4611686018427387904∧(∀ t∈f.vars,t.length<4611686018427387904)∧(∀ t∈f.fin,t.length<4611686018427387904)∧∀ a∈f.params,a.name.length<4611686018427387904)∧Sm.ky f.body):=by
 obtain⟨c1,c2,c3⟩:=ll (t:=f.name) h0 (by omega:n≤20001)
 have c4:=(mr (t:=f.name) h0).2.1 h1
 obtain⟨d1,d2,d3⟩:=lb f.vars (n:=c6 f.name n) (by omega) c2
 obtain⟨e1,e2,e3⟩:=lb f.fin (n:=dK f.vars (c6 f.name n)) (by omega) d1
 obtain⟨g1,g2,g3⟩:=zJ f.params (n:=dK f.fin (dK f.vars (c6 f.name n))) (by omega) e1
 obtain⟨k1,k2,k3⟩:=rR f.body (n:=kD f.params (dK f.fin (dK f.vars (c6 f.name n)))) (by omega) g1
 unfold tL Pc.size
 refine⟨k1,by omega,fun hw=>?_⟩
 obtain⟨k4,k5⟩:=k3 hw
 obtain⟨g4,g5⟩:=g3 (by omega)
 obtain⟨e4,e5⟩:=e3 (by omega)
 obtain⟨d4,d5⟩:=d3 (by omega)
 obtain⟨_,c5⟩:=c3 (by omega)
 exact⟨by omega,⟨c5,d5,e5,g5⟩,k5⟩
theorem EU : ∀ (l:List Pc) {n:Int},0≤n→n≤20001→nC l n≤20001∧n≤nC l n∧(nC l n≤20000→(Pc.aY l:Int)≤2*(nC l n - n)∧∀ f∈l,
 (f.name.length<4611686018427387904∧(∀ t∈f.vars,t.length<4611686018427387904)∧(∀ t∈f.fin,t.length<4611686018427387904)∧∀ a∈f.params,a.name.length<4611686018427387904)∧Sm.ky f.body)
 | [],n,h0,h1=>by simp only[nC];exact⟨h1,Int.le_refl _,fun _=>⟨by simp[Pc.aY],by simp⟩⟩
 | f::l,n,h0,h1=>by
  simp only[nC]
  split
  ·rename_i hc
   obtain⟨a1,a2,a3⟩:=Hd f h0 hc
   obtain⟨b1,b2,b3⟩:=EU l (n:=tL f n) (by omega) a1
   refine⟨b1,by omega,fun hw=>?_⟩
   obtain⟨c1,c2⟩:=b3 hw
   obtain⟨d1,d2⟩:=a3 (by omega)
   refine⟨by simp only[Pc.aY];omega,fun s m=>?_⟩
   rcases List.mem_cons.1 m with rfl|m
   ·exact d2
   ·exact c2 s m
  ·exact⟨h1,Int.le_refl _,fun hw=>by omega⟩
theorem Pp {p:Pg} (h:p.Co≤20000):p.size≤40001∧p.HZ:=by
 unfold Pg.Co at h
 obtain⟨a1,a2,a3⟩:=lb p.globals (n:=0) (by omega) (by omega)
 obtain⟨b1,b2,b3⟩:=EU p.procs (n:=dK p.globals 0) (by omega) a1
 obtain⟨c1,c2⟩:=b3 h
 obtain⟨d1,d2⟩:=a3 (by omega)
 have:p.size≤40001:=by unfold Pg.size;omega
 exact⟨this,by omega,d2,fun f m=>(c2 f m).1,fun f m=>(c2 f m).2⟩
theorem w6 {l:List aG} {n:Int} (h0:0≤n) (h1:n≤20001) (s:St):aF Tryz.prog jH [.slice .shared 1 (l.map encStr), .int .i64 n] s (.int .i64 (dK l n)) s:=by
 refine aF.pure ?_ (by simp[D.bL,D.ok,fb,Tag.ok]) rfl s
 unfold S0
 generalize h:dK l n=p
 refine aF.go Au rfl fun B Q hB hQ=>?_
 have⟨hD,hY,hZ,gA⟩:=bP
 repeat' (first
 |simp only[go_sem,hD,hY,hZ,gA]
 |(with_reducible refine aD hQ ?_;exact bb))
 refine fa 0 0 (bl.ind (ι:=List aG×Nat×Int) (fun i=>l.drop i.2.1=i.1∧dK i.1 i.2.2=p∧(i.2.1:Int)≤i.2.2∧i.2.2≤20001) (fun i=>i.1.length)
  (fun i=> [(0, .slice .shared 1 (l.map encStr)),(1, .int .i64 i.2.2),(5, .int .i64 (i.2.1:Int))]) (fun i=>⟨[],[]⟩) ?_ (l,0,n) ⟨rfl,h,h0,h1⟩)
 rintro⟨rest,k,c⟩ ⟨g1,h,g3,g4⟩ IH
 dsimp only at g1 h g3 g4
 cases rest with
 |nil=>
  have hD:=drop_nil g1
  simp only[dK]at h
  subst h
  repeat' (first
 |simp only[go_sem,hD,hY,hZ,gA]
 |(with_reducible refine aD hQ ?_;exact bb))
 | cons y rest=>
  obtain⟨hY,g2,hD,g5⟩:=drop_cons g1
  simp only[dK]at h
  by_cases hc:c≤20000
  ·have c1:decide (c≤20000)=true:=by simp;omega
   have hy:=fun s=>qL y (n:=c) (by omega) g4 s
   obtain⟨a1,a2,a3,a4⟩:=mr (t:=y) (n:=c) (by omega)
   have:=a2 hc
   have w3:IntKind.wrap .i64 ((k:Int)+1)=((k+1:Nat):Int):=by rw[eg]<;>omega
   rw[if_pos hc]at h
   repeat' (first
 |simp only[go_sem,hD,hY,hZ,gA,c1,w3]
 |(with_reducible refine CU (hy _) ?_)
 | (with_reducible refine aD hQ ?_;exact bb))
   refine fa 0 0 (IH (rest,k+1,c6 y c) ⟨g2,h,by dsimp only;omega,a1⟩ (Nat.lt_succ_self _))
  ·have c1:decide (c≤20000)=false:=by simp;omega
   rw[if_neg hc]at h
   subst h
   repeat' (first
 |simp only[go_sem,hD,hY,hZ,gA,c1]
 |(with_reducible refine aD hQ ?_;exact bb))
theorem Ss : ∀ (m:Nat) (l:List Sm),Sm.aY l≤m→∀ {n:Int},0≤n→n≤20001→∀ s:St,aF Tryz.prog kO [.slice .shared 13 (l.map bd), .int .i64 n] s (.int .i64 (fC l n)) s:=by
 intro m
 induction m with
 | zero=>
  intro l h n h0 h1 s
  cases l with
  |nil=>
   have z:decide ((0:Int)<0)=false:=rfl
   refine aF.pure ?_ (by simp[D.bL,D.ok,D.gS,Tag.ok]) rfl s
   unfold S0
   simp only[fC]
   refine aF.go sc rfl fun B Q hB hQ=>?_
   have⟨hD,hY,hZ,gA⟩:=bP
   repeat' (first
 |simp only[go_sem,hD,hY,hZ,gA,z]
 |(with_reducible refine bl.kT ?_)
 |(with_reducible refine aD hQ ?_;exact bb))
  |cons s l=>simp only[Sm.aY]at h;omega
 |succ m ih=>
  intro l h n h0 h1 s
  refine aF.pure ?_ (by simp[D.bL,D.ok,pC,Tag.ok]) rfl s
  unfold S0
  generalize hp:fC l n=p
  refine aF.go sc rfl fun B Q hB hQ=>?_
  have⟨hD,hY,hZ,gA⟩:=bP
  repeat' (first
 |simp only[go_sem,hD,hY,hZ,gA]
 | (with_reducible refine aD hQ ?_;exact bb))
  refine fa 0 0 (bl.ind (ι:=List Sm×Nat×Int) (fun i=>l.drop i.2.1=i.1∧fC i.1 i.2.2=p∧(i.2.1:Int)≤i.2.2∧i.2.2≤20001) (fun i=>i.1.length)
   (fun i=> [(0, .slice .shared 13 (l.map bd)),(1, .int .i64 i.2.2),(5, .int .i64 (i.2.1:Int))]) (fun i=>⟨[],[]⟩) ?_ (l,0,n) ⟨rfl,hp,h0,h1⟩)
  rintro⟨rest,k,c⟩ ⟨g1,hp,g3,g4⟩ IH
  dsimp only at g1 hp g3 g4
  cases rest with
  |nil=>
   have hD:=drop_nil g1
   simp only[fC]at hp
   subst hp
   repeat' (first
 |simp only[go_sem,hD,hY,hZ,gA]
 | (with_reducible refine aD hQ ?_;exact bb))
  | cons y rest=>
   obtain⟨hY,g2,hD,g5⟩:=drop_cons g1
   simp only[fC]at hp
   by_cases hc:c≤20000
   ·have c1:decide (c≤20000)=true:=by simp;omega
    have gC:=List.mem_of_getElem? hY
    have dM:=Sm.dd gC
    have To:s.ah.length≤s.ah.length∧Sm.aY y.aZ<y.size∧Sm.aY y.aR<y.size:=by cases y;simp only[Sm.size];omega
    have w3:IntKind.wrap .i64 ((k:Int)+1)=((k+1:Nat):Int):=by rw[eg]<;>omega
    rw[if_pos hc]at hp
    obtain⟨a1,a2,a3,a4⟩:=vU _ y.x (Nat.le_refl _) c (by omega)
    have a2:=a2 hc
    obtain⟨b1,b2,b3⟩:=lb y.labels a3 a1
    obtain⟨c1',c2,c3⟩:=ll (t:=y.name) (n:=dK y.labels (fe y.x c)) (by omega) b1
    obtain⟨d1,d2,d3⟩:=ll (t:=y.proc) (n:=c6 y.name (dK y.labels (fe y.x c))) (by omega) c2
    have eE:=fun s=>Kb _ y.x (Nat.le_refl _) (n:=c) (by omega) hc s
    have eL:=fun s=>w6 (l:=y.labels) (n:=fe y.x c) (by omega) a1 s
    have eN:=fun s=>qL y.name (n:=dK y.labels (fe y.x c)) (by omega) b1 s
    have eP:=fun s=>qL y.proc (n:=c6 y.name (dK y.labels (fe y.x c))) (by omega) c2 s
    obtain⟨r1,r2,r3⟩:=Hc y (n:=c) (by omega) hc
    rw[Sr]at hp r1 r2
    generalize hC:c6 y.proc (c6 y.name (dK y.labels (fe y.x c)))=C at *
    obtain⟨s1,s2,s3⟩:=zK y.args (n:=C) (by omega) d2
    obtain⟨t1,t2,t3⟩:=rR y.aZ (n:=iJ y.args C) (by omega) s1
    have eT:=fun s=>ih y.aZ (by omega) (n:=iJ y.args C) (by omega) s1 s
    have eS:=fun s=>ih y.aR (by omega) (n:=fC y.aZ (iJ y.args C)) (by omega) t1 s
    generalize hW:iJ y.args C=W at *
    repeat' (first
 |simp only[go_sem,hD,hY,hZ,gA,c1,w3]
 |(with_reducible refine CU (eE _) ?_)
 |(with_reducible refine CU (eL _) ?_)
 |(with_reducible refine CU (eN _) ?_)
 |(with_reducible refine CU (eP _) ?_)
 | (with_reducible refine aD hQ ?_;exact bb))
    refine fa 1 0 (bl.ind (ι:=List Ar×Nat×Int) (fun i=>y.args.drop i.2.1=i.1∧iJ i.1 i.2.2=W∧(i.2.1:Int)≤i.2.2∧i.2.2≤20001) (fun i=>i.1.length)
     (fun i=> [(0, .slice .shared 13 (l.map bd)),(1, .int .i64 i.2.2),(5, .int .i64 (k:Int)),(6, .ptr 0 0),(7, .int .i64 (i.2.1:Int))]) (fun i=>⟨[bd y],[]⟩) ?_ (y.args,0,C) ⟨rfl,hW,by dsimp only;omega,d2⟩)
    rintro⟨ars,j,e⟩ ⟨k1,hw,k3,k4⟩ By
    dsimp only at k1 hw k3 k4
    cases ars with
    |nil=>
     have hD:=drop_nil k1
     simp only[iJ]at hw
     subst hw
     repeat' (first
 |simp only[go_sem,hD,hY,hZ,gA,w3]
 |(with_reducible refine CU (eT _) ?_)
 |(with_reducible refine CU (eS _) ?_)
 | (with_reducible refine aD hQ ?_;exact bb))
     refine fa 0 0 (IH (rest,k+1,fC y.aR (fC y.aZ e)) ⟨g2,hp,by dsimp only;omega,r1⟩ (Nat.lt_succ_self _))
    | cons a ars=>
     obtain⟨hY,k2,hD,k5⟩:=drop_cons k1
     simp only[iJ]at hw
     by_cases he:e≤20000
     ·have e1:decide (e≤20000)=true:=by simp;omega
      have w4:IntKind.wrap .i64 ((j:Int)+1)=((j+1:Nat):Int):=by rw[eg]<;>omega
      rw[if_pos he]at hw
      obtain⟨u1,u2,u3,u4⟩:=vU _ a.x (Nat.le_refl _) e (by omega)
      have u2:=u2 he
      obtain⟨v1,v2,v3⟩:=ll (t:=a.name) (n:=fe a.x e) u3 u1
      have eX:=fun s=>Kb _ a.x (Nat.le_refl _) (n:=e) (by omega) he s
      have eM:=fun s=>qL a.name (n:=fe a.x e) u3 u1 s
      repeat' (first
 |simp only[go_sem,hD,hY,hZ,gA,e1,w4]
 |(with_reducible refine CU (eX _) ?_)
 |(with_reducible refine CU (eM _) ?_)
 |(with_reducible refine aD hQ ?_;exact bb))
      refine fa 1 0 (By (ars,j+1,c6 a.name (fe a.x e)) ⟨k2,hw,by dsimp only;omega,v2⟩ (Nat.lt_succ_self _))
     ·have e1:decide (e≤20000)=false:=by simp;omega
      rw[if_neg he]at hw
      subst hw
      repeat' (first
 |simp only[go_sem,hD,hY,hZ,gA,e1,w3]
 |(with_reducible refine CU (eT _) ?_)
 |(with_reducible refine CU (eS _) ?_)
 | (with_reducible refine aD hQ ?_;exact bb))
      refine fa 0 0 (IH (rest,k+1,fC y.aR (fC y.aZ e)) ⟨g2,hp,by dsimp only;omega,r1⟩ (Nat.lt_succ_self _))
   ·have c1:decide (c≤20000)=false:=by simp;omega
    rw[if_neg hc]at hp
    subst hp
    repeat' (first
 |simp only[go_sem,hD,hY,hZ,gA,c1]
 |(with_reducible refine aD hQ ?_;exact bb))
theorem adF (p:Pg) (s:St):aF Tryz.prog xo [.agg (cu p)] s (.bool (decide (p.Co≤20000))) s:=by
 refine aF.pure ?_ (by simp only[D.bL,D.ok,jc];rfl) rfl s
 unfold S0
 generalize hp:p.Co=W
 unfold Pg.Co at hp
 obtain⟨a1,a2,a3⟩:=lb p.globals (n:=0) (by omega) (by omega)
 have eG:=fun s=>w6 (l:=p.globals) (n:=0) (by omega) (by omega) s
 refine aF.go Hu rfl fun B Q hB hQ=>?_
 have⟨hD,hY,hZ,gA⟩:=bP
 repeat' (first
 |simp only[go_sem,hD,hY,hZ,gA]
 |(with_reducible refine CU (eG _) ?_)
 |(with_reducible refine aD hQ ?_;exact bb))
 refine fa 1 0 (bl.ind (ι:=List Pc×Nat×Int) (fun i=>p.procs.drop i.2.1=i.1∧nC i.1 i.2.2=W∧(i.2.1:Int)≤i.2.2∧i.2.2≤20001) (fun i=>i.1.length)
  (fun i=> [(1, .ptr 0 0),(3, .int .i64 i.2.2),(4, .int .i64 (i.2.1:Int))]) (fun i=>⟨[cu p],[]⟩) ?_ (p.procs,0,dK p.globals 0) ⟨rfl,hp,a2,a1⟩)
 rintro⟨rest,k,c⟩ ⟨g1,hp,g3,g4⟩ IH
 dsimp only at g1 hp g3 g4
 cases rest with
 |nil=>
  have hD:=drop_nil g1
  simp only[nC]at hp
  subst hp
  repeat' (first
 |simp only[go_sem,hD,hY,hZ,gA]
 |(with_reducible refine aD hQ ?_;exact bb))
 | cons f rest=>
  obtain⟨hY,g2,hD,g5⟩:=drop_cons g1
  simp only[nC]at hp
  by_cases hc:c≤20000
  ·have c1:decide (c≤20000)=true:=by simp;omega
   have w3:IntKind.wrap .i64 ((k:Int)+1)=((k+1:Nat):Int):=by rw[eg]<;>omega
   rw[if_pos hc]at hp
   obtain⟨r1,r2,r3⟩:=Hd f (n:=c) (by omega) hc
   unfold tL at hp r1 r2
   obtain⟨c1',c2,c3⟩:=ll (t:=f.name) (n:=c) (by omega) g4
   obtain⟨d1,d2,d3⟩:=lb f.vars (n:=c6 f.name c) (by omega) c2
   obtain⟨e1,e2,e3⟩:=lb f.fin (n:=dK f.vars (c6 f.name c)) (by omega) d1
   have eN:=fun s=>qL f.name (n:=c) (by omega) g4 s
   have eV:=fun s=>w6 (l:=f.vars) (n:=c6 f.name c) (by omega) c2 s
   have eF:=fun s=>w6 (l:=f.fin) (n:=dK f.vars (c6 f.name c)) (by omega) d1 s
   generalize hC:dK f.fin (dK f.vars (c6 f.name c))=C at *
   obtain⟨s1,s2,s3⟩:=zJ f.params (n:=C) (by omega) e1
   have eT:=fun s=>Ss _ f.body (Nat.le_refl _) (n:=kD f.params C) (by omega) s1 s
   generalize hM:kD f.params C=M at *
   repeat' (first
 |simp only[go_sem,hD,hY,hZ,gA,c1,w3]
 |(with_reducible refine CU (eN _) ?_)
 |(with_reducible refine CU (eV _) ?_)
 |(with_reducible refine CU (eF _) ?_)
 | (with_reducible refine aD hQ ?_;exact bb))
   refine fa 2 0 (bl.ind (ι:=List Pm×Nat×Int) (fun i=>f.params.drop i.2.1=i.1∧kD i.1 i.2.2=M∧(i.2.1:Int)≤i.2.2∧i.2.2≤20001) (fun i=>i.1.length)
    (fun i=> [(1, .ptr 0 0),(3, .int .i64 i.2.2),(4, .int .i64 (k:Int)),(5, .ptr 1 0),(6, .int .i64 (i.2.1:Int))]) (fun i=>⟨[cu p,cq f],[]⟩) ?_ (f.params,0,C) ⟨rfl,hM,by dsimp only;omega,e1⟩)
   rintro⟨ms,j,e⟩ ⟨k1,hw,k3,k4⟩ By
   dsimp only at k1 hw k3 k4
   cases ms with
   |nil=>
    have hD:=drop_nil k1
    simp only[kD]at hw
    subst hw
    repeat' (first
 |simp only[go_sem,hD,hY,hZ,gA,w3]
 |(with_reducible refine CU (eT _) ?_)
 | (with_reducible refine aD hQ ?_;exact bb))
    refine fa 1 0 (IH (rest,k+1,fC f.body e) ⟨g2,hp,by dsimp only;omega,r1⟩ (Nat.lt_succ_self _))
   | cons a ms=>
    obtain⟨hY,k2,hD,k5⟩:=drop_cons k1
    simp only[kD]at hw
    by_cases he:e≤20000
    ·have e1:decide (e≤20000)=true:=by simp;omega
     have w4:IntKind.wrap .i64 ((j:Int)+1)=((j+1:Nat):Int):=by rw[eg]<;>omega
     rw[if_pos he]at hw
     obtain⟨v1,v2,v3⟩:=ll (t:=a.name) (n:=e) (by omega) k4
     have v4:=(mr (t:=a.name) (n:=e) (by omega)).2.1 he
     have eM:=fun s=>qL a.name (n:=e) (by omega) k4 s
     repeat' (first
 |simp only[go_sem,hD,hY,hZ,gA,e1,w4]
 |(with_reducible refine CU (eM _) ?_)
 | (with_reducible refine aD hQ ?_;exact bb))
     refine fa 2 0 (By (ms,j+1,c6 a.name e) ⟨k2,hw,by dsimp only;omega,v2⟩ (Nat.lt_succ_self _))
    ·have e1:decide (e≤20000)=false:=by simp;omega
     rw[if_neg he]at hw
     subst hw
     repeat' (first
 |simp only[go_sem,hD,hY,hZ,gA,e1,w3]
 |(with_reducible refine CU (eT _) ?_)
 |(with_reducible first|refine bo fun hc=>?_|refine bp fun hc=>?_|refine bq (fun hc=>?_) fun hc=>?_)<;>(try simp only[hc,bs,↓reduceIte]at h)<;>try simp only[hc]
 | (with_reducible refine aD hQ ?_;simp only [aU,aV,bH,bI,go_sem,hD,hY,hZ,gA,e1,w3];try exact cv))
     refine fa 1 0 (IH (rest,k+1,fC f.body e) ⟨g2,hp,by dsimp only;omega,r1⟩ (Nat.lt_succ_self _))
  ·have c1:decide (c≤20000)=false:=by simp;omega
   rw[if_neg hc]at hp
   subst hp
   repeat' (first
 |simp only[go_sem,hD,hY,hZ,gA,c1]
 |(with_reducible first|refine bo fun hc=>?_|refine bp fun hc=>?_|refine bq (fun hc=>?_) fun hc=>?_)<;>(try simp only[hc,bs,↓reduceIte]at h)<;>try simp only[hc]
 |(with_reducible refine aD hQ ?_;simp only[aU,aV,bH,bI,go_sem,hD,hY,hZ,gA,c1];try exact cv))
def adG:List aG→List aG→Bool
 | [],_=>true
 |_::_,[]=>true
 |x::l,y::l'=>if !(x==y)then false else adG l l'
def XU (l l':List aG):Bool:=if(l.length:Int) != (l'.length:Int)then false else adG l l'
def Ar.pT:List Ar→List Ar→Bool
 | [],_=>true
 |_::_,[]=>true
 |a::l,b::l'=>if !(a.ref==b.ref) || !(a.name==b.name) || !(Ex.beq a.x b.x)then false else Ar.pT l l'
mutual
def Sm.beq:Sm→Sm→Bool
 |⟨id,kind,labels,name,proc,x,has,args,aZ,aR⟩,⟨id',ahf,ZK,ON,u6,x',anV,Ec,adH,adI⟩=>
  if id != id' ||kind != ahf || !(name==ON) || !(proc==u6) || !(has==anV) || !(XU labels ZK) || !(Ex.beq x x') ||(args.length:Int) != (Ec.length:Int)then false
  else if !(Ar.pT args Ec)then false
  else if(if(aZ.length:Int) != (adH.length:Int)then false else Sm.pT aZ adH)then(if(aR.length:Int) != (adI.length:Int)then false else Sm.pT aR adI)else false
def Sm.pT:List Sm→List Sm→Bool
 | [],_=>true
 |_::_,[]=>true
 |s::l,t::l'=>if !(Sm.beq s t)then false else Sm.pT l l'
end
def Sm.anW (l l':List Sm):Bool:=if(l.length:Int) != (l'.length:Int)then false else Sm.pT l l'
def Pm.pT:List Pm→List Pm→Bool
 | [],_=>true
 |_::_,[]=>true
 |a::l,b::l'=>if !((a.name==b.name) && (a.ref==b.ref))then false else Pm.pT l l'
def Pc.pT:List Pc→List Pc→Bool
 | [],_=>true
 |_::_,[]=>true
 |f::l,g::l'=>
  if !(f.name==g.name) ||(f.params.length:Int) != (g.params.length:Int) || !(XU f.vars g.vars) || !(XU f.fin g.fin) || !(Sm.anW f.body g.body)then false
  else if !(Pm.pT f.params g.params)then false else Pc.pT l l'
def Pg.beq (p q:Pg):Bool:=if !(XU p.globals q.globals) ||(p.procs.length:Int) != (q.procs.length:Int)then false else Pc.pT p.procs q.procs
def Cp (n:Int):Ex:=⟨1,n,[],[]⟩
def rS (s:aG):Ex:=⟨2,0,s,[]⟩
def EV (op:Int) (a b:Ex):Ex:=⟨op,0,[],[a,b]⟩
theorem ahg (n:Int) (s:St):aF Tryz.prog rC [.int .i64 n] s (.agg (cj (Cp n))) s:=by
 refine aF.pure ?_ rfl (by simp[D.ok,lR]) s
 unfold S0
 refine aF.go Jt rfl fun B Q hB hQ=>?_
 have⟨hD,hY,hZ,gA⟩:=bP
 repeat' (first
 |simp only[go_sem,hD,hY,hZ,gA,Cp]
 |(with_reducible first|refine bo fun hc=>?_|refine bp fun hc=>?_|refine bq (fun hc=>?_) fun hc=>?_)<;>(try simp only[hc,bs,↓reduceIte]at h)<;>try simp only[hc]
 |(with_reducible refine aD hQ ?_;simp only[aU,aV,bH,bI,go_sem,hD,hY,hZ,gA,Cp];try exact cv))
theorem Pq (t:aG) (s:St):aF Tryz.prog lg [.str t] s (.agg (cj (rS t))) s:=by
 refine aF.pure ?_ rfl (by simp[D.ok,lR]) s
 unfold S0
 refine aF.go Hz rfl fun B Q hB hQ=>?_
 have⟨hD,hY,hZ,gA⟩:=bP
 repeat' (first
 |simp only[go_sem,hD,hY,hZ,gA,rS]
 |(with_reducible first|refine bo fun hc=>?_|refine bp fun hc=>?_|refine bq (fun hc=>?_) fun hc=>?_)<;>(try simp only[hc,bs,↓reduceIte]at h)<;>try simp only[hc]
 |(with_reducible refine aD hQ ?_;simp only[aU,aV,bH,bI,go_sem,hD,hY,hZ,gA,rS];try exact cv))
theorem Sv (op:Int) (a b:Ex) (s:St):aF Tryz.prog uU [.int .i64 op, .agg (cj a), .agg (cj b)] s (.agg (cj (EV op a b))) s:=by
 refine aF.pure ?_ (by simp[D.bL,D.ok,lR]) (by simp[D.ok,lR]) s
 unfold S0
 refine aF.go Ju rfl fun B Q hB hQ=>?_
 have⟨hD,hY,hZ,gA⟩:=bP
 repeat' (first
 |simp only[go_sem,hD,hY,hZ,gA,EV]
 |(with_reducible first|refine bo fun hc=>?_|refine bp fun hc=>?_|refine bq (fun hc=>?_) fun hc=>?_)<;>(try simp only[hc,bs,↓reduceIte]at h)<;>try simp only[hc]
 |(with_reducible refine aD hQ ?_;simp only[aU,aV,bH,bI,go_sem,hD,hY,hZ,gA,EV];try exact cv))
def source:aG:= [103,108,111,98,97,108,32,103,59,10,112,114,111,99,32,109,97,105,110,40,41,32,123,10,32,118,97,114,32,118,59,10,32,118,32,61,32,50,59,10,32,103,32,61,32,112,40,51,44,32,114,101,102,32,118,41,59,10,32,112,114,105,110,116,32,118,59,10,32,112,114,105,110,116,32,103,59,10,125,10,112,114,111,99,32,112,40,120,44,32,114,101,102,32,121,41,32,123,10,32,121,32,61,32,121,32,43,32,120,59,10,32,105,102,32,40,121,32,62,32,57,41,32,123,10,32,32,103,111,116,111,32,101,59,10,32,125,10,32,114,101,116,117,114,110,32,121,59,10,101,58,32,125,10]
def rT:Pg:=⟨[[103]],[
 ⟨[109,97,105,110],[],[[118]],[
  ⟨1,1,[],[118],[],Cp 2,false,[],[],[]⟩,
  ⟨2,4,[],[103],[112],ry,false,[⟨false,[],Cp 3⟩,⟨true,[118],ry⟩],[],[]⟩,
  ⟨3,3,[],[],[],rS [118],false,[],[],[]⟩,
  ⟨4,3,[],[],[],rS [103],false,[],[],[]⟩],[]⟩,
 ⟨[112],[⟨[120],false⟩,⟨[121],true⟩],[],[
  ⟨5,1,[],[121],[],EV 8 (rS [121]) (rS [120]),false,[],[],[]⟩,
  ⟨6,5,[],[],[],EV 12 (rS [121]) (Cp 9),false,[],[⟨7,10,[],[101],[],ry,false,[],[],[]⟩],[]⟩,
  ⟨8,9,[],[],[],rS [121],true,[],[],[]⟩],[[101]]⟩]⟩
theorem adJ (s:St):aF Tryz.prog xr [] s (.agg (cu rT)) s:=by
 refine aF.pure ?_ rfl (by simp[D.ok,jc]) s
 unfold S0
 refine aF.go Hx rfl fun B Q hB hQ=>?_
 have⟨hD,hY,hZ,gA⟩:=bP
 repeat' (first
 |simp only[go_sem,hD,hY,hZ,gA,rT]
 |(with_reducible refine CU (ahg _ _) ?_)
 |(with_reducible refine CU (Pq _ _) ?_)
 |(with_reducible refine CU (Sv _ _ _ _) ?_)
 |(with_reducible refine aD hQ ?_;simp only[aU,aV,bH,bI,go_sem,hD,hY,hZ,gA];repeat' (first|exact Ok.out|with_reducible refine iZ ?_ ?_|(simp;done))))
 repeat' (first|exact Ok.out|with_reducible refine Wk.agg ?_|with_reducible refine Wk.rows ?_|with_reducible refine Wk.slice ?_|with_reducible refine gy.cons ?_ ?_|with_reducible refine ju.cons ?_ ?_)
def Pg.auP (p:Pg) (n:Int):aG:=match p.procs[(adx n p.procs.length).toNat]? with|some f=>f.name|none=> []
theorem EW {id:Int} : ∀ {l:List It},u9 id l=none→∀ i∈l,i.s.id≠id
 | a::l,h,i,m=>by
  simp only[u9]at h
  split at h
  ·cases h
  ·rename_i c
   rcases List.mem_cons.1 m with rfl|m
   ·simpa using c
   ·exact EW h i m
theorem EX {id:Int} {i:It} : ∀ {l:List It},u9 id l=some i→i∈l∧i.s.id=id
 | a::l,h=>by
  simp only[u9]at h
  split at h
  ·rename_i c
   cases h
   exact⟨List.mem_cons_self ..,eq_of_beq c⟩
  ·obtain⟨h1,h2⟩:=EX h
   exact⟨List.mem_cons_of_mem _ h1,h2⟩
theorem EY {id:Int} {r:It×aG} : ∀ {l:List Pc},oT id l=some r→∃ f∈l,r.1∈f.flat∧r.1.s.id=id∧r.2=f.name
 | f::l,h=>by
  simp only[oT]at h
  split at h
  ·rename_i i e
   cases h
   obtain⟨h1,h2⟩:=EX e
   exact⟨f,List.mem_cons_self ..,h1,h2,rfl⟩
  ·obtain⟨g,h1,h2⟩:=EY h
   exact⟨g,List.mem_cons_of_mem _ h1,h2⟩
theorem EZ {id:Int} : ∀ {l:List Pc},oT id l=none→∀ f∈l,∀ i∈f.flat,i.s.id≠id
 | f::l,h,g,m,i,hi=>by
  simp only[oT]at h
  split at h
  ·cases h
  ·rename_i e
   rcases List.mem_cons.1 m with rfl|m
   ·exact EW e i hi
   ·exact EZ h g m i hi
theorem VA {p:Pg} (hb:p.may=true) {id:Int} (h : ∃ v∈p.pre,v.id=id):p.n8 id∈p.pre∧(p.n8 id).id=id:=by
 obtain⟨v,hv,Sk⟩:=h
 have gR:=(zv hb).1
 unfold Pg.n8
 cases e:oT id p.procs with
 |some r=>
  obtain⟨f,h1,h2,h3,_⟩:=EY e
  refine⟨?_,h3⟩
  simp only[Pg.pre,List.mem_flatten,List.mem_map]
  exact⟨_,⟨f,h1,rfl⟩,by rw[← gR f h1];exact List.mem_map_of_mem h2⟩
 |none=>
  simp only[Pg.pre,List.mem_flatten,List.mem_map]at hv
  obtain⟨l,⟨f,hf,rfl⟩,m⟩:=hv
  rw[← gR f hf,List.mem_map]at m
  obtain⟨i,hi,rfl⟩:=m
  exact absurd Sk (EZ e f hf i hi)
theorem VB {p:Pg} (h:(p.arity.1==0)=true) (h2:(p.alias.1==0)=true) : ∀ v∈p.pre,(v.kind==4)=true→v.yF p=true:=by
 unfold Pg.alias at h2
 rw[if_pos h]at h2
 intro v hv hk
 have : ∀ l:List Sm,((qh 8 (J8 p l)).1==0)=true→∀ v∈l,(v.kind==4)=true→v.yF p=true:=by
  intro l
  induction l with
  |nil=>intro _ v m;cases m
  | cons a l ih=>
   intro h v m hk
   simp only[J8]at h
   split at h
   ·cases h
   ·rename_i c
    rcases List.mem_cons.1 m with rfl|m
    ·simpa[hk]using c
    ·exact ih h v m hk
 exact this _ h2 v hv hk
section
variable {a b:aG}
end
section
variable {a b:aG} (ha:isName a=true) (hb:isName b=true)
include ha hb
end
def Pg.check (p:Pg):Int×Int:=if p.scope.1==0 then(if p.arity.1==0 then(if p.jump.1==0 then p.alias else p.jump)else p.arity)else p.scope
end Go.Abs
namespace Go.Abs
mutual
def Sm.FU (g:Sm→Sm):Sm→Sm
 |⟨id,kind,labels,name,proc,x,has,args,aZ,aR⟩=> {g ⟨id,kind,labels,name,proc,x,has,args,aZ,aR⟩with aZ:=Sm.H2 g aZ,aR:=Sm.H2 g aR}
def Sm.H2 (g:Sm→Sm):List Sm→List Sm
 | []=> []
 |s::l=>s.FU g::Sm.H2 g l
end
def It.FU (g:Sm→Sm) (i:It):It:= {i with s:=i.s.FU g}
def Pc.FU (g:Sm→Sm) (f:Pc):Pc:= {f with body:=Sm.H2 g f.body}
def Pg.FU (g:Sm→Sm) (p:Pg):Pg:= {p with procs:=p.procs.map (Pc.FU g)}
def av2 (t:Sm) (v:Sm):Sm:=if v.id==t.id then t else v
theorem E0 {zF fin:List aG} : ∀ {l:List (Sm×Int)} {seen:List aG},sV zF fin seen l=none↔qg seen (il (l.map Prod.fst)++fin)=false∧∀ q∈l,qt zF q.1 q.2=true
 | [],seen=>by
  simp only[sV,List.map_nil,il,List.nil_append,List.not_mem_nil,false_imp_iff,implies_true,and_true]
  rw[BN]
  cases qg seen fin<;>simp
 | (v,lp)::l,seen=>by
  simp only[sV,List.map_cons,il,List.append_assoc]
  rw[BN,L2 v.labels]
  cases h:qg seen v.labels
  ·simp only [Bool.false_eq_true,if_false,if_true,Bool.false_or]
   cases h2:qt zF v lp
   ·simp only [Bool.false_eq_true,if_false,reduceCtorEq,false_iff,not_and]
    intro _ h3
    have:=h3 (v,lp) (List.mem_cons_self ..)
    rw[h2]at this;cases this
   ·simp only [if_true,E0 (l:=l),List.mem_cons]
    constructor
    ·rintro⟨h3,h4⟩
     refine⟨h3,fun q hq=>?_⟩
     rcases hq with rfl|hq
     ·exact h2
     ·exact h4 q hq
    ·rintro⟨h3,h4⟩
     exact⟨h3,fun q hq=>h4 q (.inr hq)⟩
  ·simp
theorem E1 : ∀ {l:List Pc},sW l=none↔∀ f∈l,fF f.labels=false∧∀ q∈f.wZ,qt f.labels q.1 q.2=true
 | []=>by simp[sW]
 | f::l=>by
  have e:sV f.labels f.fin [] f.wZ=none↔fF f.labels=false∧∀ q∈f.wZ,qt f.labels q.1 q.2=true:=by
   rw[E0,ZE];rfl
  simp only[sW,List.mem_cons]
  split
  ·rename_i id h
   simp only[reduceCtorEq,false_iff]
   intro h3
   rw[e.2 (h3 f (.inl rfl))]at h
   cases h
  ·rename_i h
   rw[E1 (l:=l)]
   constructor
   ·intro h3 g hg
    rcases hg with rfl|hg
    ·exact e.1 h
    ·exact h3 g hg
   ·exact fun h3 g hg=>h3 g (.inr hg)
structure Pg.Right (p:Pg):Prop where
 may:p.may=true
 tg:fF p.globals=false
 tp:fF p.pn=false
 main:p.tG=false
 own : ∀ f∈p.procs,fF (p.globals++f.own)=false
 known : ∀ f∈p.procs,∀ v∈Sm.dc f.body,v.known p f p.pn=true
 zF : ∀ f∈p.procs,fF f.labels=false
 leads : ∀ f∈p.procs,∀ q∈f.wZ,qt f.labels q.1 q.2=true
 fits : ∀ v∈p.pre,(v.kind==4)=true→v.qq p=true
 single : ∀ v∈p.pre,(v.kind==4)=true→v.yF p=true
theorem DM {p:Pg} (h:(p.check.1==0)=true):p.Right:=by
 unfold Pg.check at h
 by_cases h1:(p.scope.1==0)=true
 ·rw [if_pos h1]at h
  by_cases h2:(p.arity.1==0)=true
  ·rw [if_pos h2]at h
   by_cases h3:(p.jump.1==0)=true
   ·rw [if_pos h3]at h
    obtain⟨k1,k2,k3,k4⟩:=DE h1
    have hj:sW p.procs=none:=by
     unfold Pg.jump at h3
     rw[if_pos h1]at h3
     cases e:sW p.procs with
     |none=>rfl
     |some id=>rw[e]at h3;cases h3
    rw[E1]at hj
    exact⟨BG h1,k1,k2,k3,fun f hf=>(k4 f hf).1,fun f hf=>(k4 f hf).2,fun f hf=>(hj f hf).1,fun f hf=>(hj f hf).2,(J6 h2).2,VB h2 h⟩
   ·rw[if_neg h3]at h;exact absurd h h3
  ·rw[if_neg h2]at h;exact absurd h h2
 ·rw[if_neg h1]at h;exact absurd h h1
def AtR (R:Int→Prop) (a:Int):Prop:=a = -1∨R a
theorem Cq {R:Int→Prop} {l:List Sm} {o:Int} (h : ∀ v∈Sm.dc l,R v.id) (ho:AtR R o):AtR R (fZ l o):=by
 cases l with
 |nil=>exact ho
 |cons s l=>exact .inr (h s (by rw[Sm.dc,Sm.qf];exact List.mem_append_left _ (List.mem_cons_self ..)))
mutual
theorem adK {R:Int→Prop} (proc up next loop:Int) : ∀ s:Sm,(∀ v∈s.pre,R v.id)→AtR R next→(loop=0∨R loop)→
 ∀ x∈s.vR proc up next loop,x.proc=proc∧AtR R x.next∧(x.loop=0∨R x.loop)∧AtR R (fZ x.s.aZ (-1))∧AtR R (fZ x.s.aR (-1))∧x.s∈s.pre
 | ⟨id,kind,labels,name,pc,x,has,args,aZ,aR⟩,h,hn,hl,y,m=>by
  have uR:=h _ (by rw[Sm.qf];exact List.mem_cons_self ..)
  have h1 : ∀ v∈Sm.dc aZ,R v.id:=fun v m=>h v (by rw[Sm.qf];exact List.mem_cons_of_mem _ (List.mem_append_left _ m))
  have h2 : ∀ v∈Sm.dc aR,R v.id:=fun v m=>h v (by rw[Sm.qf];exact List.mem_cons_of_mem _ (List.mem_append_right _ m))
  have rh:AtR R (if kind==6 then id else next):=by split;exact .inr uR;exact hn
  have l6:(if kind==6 then id else loop)=0∨R (if kind==6 then id else loop):=by split;exact .inr uR;exact hl
  rw[Sm.qf]
  simp only[Sm.vR,List.mem_cons,List.mem_append]at m
  rcases m with rfl|m|m
  ·exact⟨rfl,hn,hl,Cq h1 (.inl rfl),Cq h2 (.inl rfl),List.mem_cons_self ..⟩
  ·obtain⟨g1,g2,g3,g4,g5,g6⟩:=yG proc id _ _ aZ h1 rh l6 y m
   exact⟨g1,g2,g3,g4,g5,List.mem_cons_of_mem _ (List.mem_append_left _ g6)⟩
  ·obtain⟨g1,g2,g3,g4,g5,g6⟩:=yG proc id _ _ aR h2 rh l6 y m
   exact⟨g1,g2,g3,g4,g5,List.mem_cons_of_mem _ (List.mem_append_right _ g6)⟩
theorem yG {R:Int→Prop} (proc up next loop:Int) : ∀ l:List Sm,(∀ v∈Sm.dc l,R v.id)→AtR R next→(loop=0∨R loop)→
 ∀ x∈Sm.jO proc up next loop l,x.proc=proc∧AtR R x.next∧(x.loop=0∨R x.loop)∧AtR R (fZ x.s.aZ (-1))∧AtR R (fZ x.s.aR (-1))∧x.s∈Sm.dc l
 | [],_,_,_,x,m=>by simp[Sm.jO]at m
 | s::l,h,hn,hl,x,m=>by
  simp only[Sm.dc,List.mem_append]at h
  simp only[Sm.jO,List.mem_append]at m
  simp only[Sm.dc,List.mem_append]
  rcases m with m|m
  ·obtain⟨g1,g2,g3,g4,g5,g6⟩:=adK proc up _ loop s (fun v m=>h v (.inl m)) (Cq (fun v m=>h v (.inr m)) hn) hl x m
   exact⟨g1,g2,g3,g4,g5, .inl g6⟩
  ·obtain⟨g1,g2,g3,g4,g5,g6⟩:=yG proc up next loop l (fun v m=>h v (.inr m)) hn hl x m
   exact⟨g1,g2,g3,g4,g5, .inr g6⟩
end
theorem Kc {x:Im} : ∀ (l:List Pc) (k:Nat),x∈pX k l→∃ i f,l[i]? = some f∧x∈Sm.jO ((k+i:Nat):Int) 0 (-1) 0 f.body
 | [],_,h=>by simp[pX]at h
 | f::l,k,h=>by
  simp only[pX,List.mem_append]at h
  rcases h with h|h
  ·exact⟨0,f,rfl,h⟩
  ·obtain⟨i,g,h1,h2⟩:=Kc l (k+1) h
   exact⟨i+1,g,by simpa using h1,by rw[show k+(i+1)=k+1+i by omega];exact h2⟩
theorem Kd {x:Im} : ∀ (l:List Pc) (k:Nat) {i:Nat} {f:Pc},l[i]? = some f→x∈Sm.jO ((k+i:Nat):Int) 0 (-1) 0 f.body→x∈pX k l
 |f::l,k,0,g,h,m=>by simp at h;subst h;exact List.mem_append_left _ m
 |f::l,k,i+1,g,h,m=>List.mem_append_right _ (Kd l (k+1) (i:=i) (by simpa using h) (by rw[show k+1+i=k+(i+1) by omega];exact m))
theorem Sw : ∀ (l:List Pc) (k:Nat),(pX k l).map Im.s=(l.map fun f=>Sm.dc f.body).flatten
 | [],_=>rfl
 |f::l,k=>by simp only[pX,List.map_append,rP,Sw l,List.map_cons,List.flatten_cons]
theorem Ma {R:Int→Prop} {fin:List aG} {XC:aG} : ∀ {l:List Sm},(∀ v∈l,R v.id)→(la fin XC l).2=true→AtR R (la fin XC l).1
 | [],_,h=>by
  simp only[la]at h ⊢
  split at h
  ·rename_i c;rw[if_pos c];exact .inl rfl
  ·cases h
 | v::l,hv,h=>by
  simp only[la]at h ⊢
  split
  ·exact .inr (hv v (List.mem_cons_self ..))
  ·rename_i c
   rw[if_neg c]at h
   exact Ma (fun w m=>hv w (List.mem_cons_of_mem _ m)) h
def Hm (L:List Im) (k:Int) (a:Int):Prop:=1≤a∧a≤(L.length:Int)∧(fy L a).proc=k
structure BR (p:Pg) (L:List Im) (x:Im) (f:Pc):Prop where
 self:fy L x.s.id=x∧1≤x.s.id∧x.s.id≤(L.length:Int)
 proc:p.procs[x.proc.toNat]? = some f∧0≤x.proc
 mem:x.s∈Sm.dc f.body
 next:AtR (Hm L x.proc) x.next
 loop:x.s.kind=7∨x.s.kind=8→Hm L x.proc x.loop
 aZ:AtR (Hm L x.proc) (fZ x.s.aZ (-1))
 aR:AtR (Hm L x.proc) (fZ x.s.aR (-1))
 FT:x.s.kind=10→AtR (Hm L x.proc) (la f.fin x.s.name (Sm.dc f.body)).1
structure Sx (p:Pg) (L:List Im):Prop where
 im : ∀ x∈L,∃ f,BR p L x f
 head : ∀ (i:Nat) (f:Pc),p.procs[i]? = some f→AtR (Hm L i) (fZ f.body (-1))
theorem pj {p:Pg} (h:p.Right):Sx p p.aX.L:=by
 have hL:=Sb h.may
 have hs:p.aX.L.map Im.s=p.pre:=by rw[hL,Sw];rfl
 have hlen:p.aX.L.length=p.pre.length:=by rw[← hs,List.length_map]
 have self : ∀ x∈p.aX.L,fy p.aX.L x.s.id=x∧1≤x.s.id∧x.s.id≤(p.aX.L.length:Int):=fun x m=>by
  obtain⟨i,hi⟩:=List.getElem?_of_mem m
  have h1:=BE h.may (i:=i) (v:=x.s) (by rw[← hs,List.getElem?_map,hi];rfl)
  have h2:=(List.getElem?_eq_some_iff.1 hi).1
  refine⟨?_,by omega,by omega⟩
  unfold fy
  rw[h1,show(((i+1:Nat):Int) - 1).toNat=i by omega,List.getD_eq_getElem?_getD,hi];rfl
 have there : ∀ (i:Nat) (f:Pc),p.procs[i]? = some f→∀ v∈Sm.dc f.body,Hm p.aX.L i v.id:=fun i f hf v m=>by
  rw[← rP (i:Int) 0 (-1) 0 f.body]at m
  obtain⟨x,hx,rfl⟩:=List.mem_map.1 m
  have hxL:x∈p.aX.L:=by rw[hL];exact Kd p.procs 0 hf (by simpa using hx)
  obtain⟨g1,g2,g3⟩:=self x hxL
  exact⟨g2,g3,by rw[g1];exact(yG (R:=fun _=>True) _ 0 (-1) 0 f.body (fun _ _=>trivial) (.inl rfl) (.inl rfl) x hx).1⟩
 refine⟨fun x m=>?_,fun i f hf=>Cq (there i f hf) (.inl rfl)⟩
 have m':=m
 rw[hL]at m'
 obtain⟨i,f,h1,h2⟩:=Kc p.procs 0 m'
 have hf:=List.mem_of_getElem? h1
 rw[Nat.zero_add]at h2
 obtain⟨g1,g2,g3,g4,g5,g6⟩:=yG (R:=Hm p.aX.L i) _ 0 (-1) 0 f.body (there i f h1) (.inl rfl) (.inl rfl) x h2
 have hl:=h.leads f hf (x.s,x.loop) (by rw[← JX (i:Int) f];exact List.mem_map.2 ⟨x,h2,rfl⟩)
 refine⟨f,self x m,⟨by rw[g1];simpa using h1,by rw[g1];exact Int.natCast_nonneg _⟩,g6,by rw[g1];exact g2,fun hk=>?_,by rw[g1];exact g4,by rw[g1];exact g5,fun hk=>?_⟩
 ·rw [g1]
  refine g3.resolve_left fun e=>?_
  unfold qt at hl
  rw[if_pos (by rcases hk with hk|hk<;>simp[hk]),e]at hl
  cases hl
 ·rw [g1]
  refine Ma (there i f h1) ?_
  unfold qt at hl
  rw[if_neg (by simp[hk]),if_pos (by simp[hk])]at hl
  rw[BO];exact hl
theorem Hm.at {L:List Im} {k a:Int} (h:AtR (Hm L k) a):n6 L a:=h.imp_right fun h=>⟨h.1,h.2.1⟩
theorem Sx.lok {p:Pg} {L:List Im} (h:Sx p L):Ap p L:=by
 refine⟨fun x m=>?_,fun x m=>?_,fun x m hk=>?_,fun x m hk=>?_,fun x m=>?_,fun x m=>?_,fun f hf=>?_⟩
 ·obtain⟨f,o⟩:=h.im x m;exact o.self.2
 ·obtain⟨f,o⟩:=h.im x m;exact Hm.at o.next
 ·obtain⟨f,o⟩:=h.im x m;exact⟨(o.loop hk).1,(o.loop hk).2.1⟩
 ·obtain⟨f,o⟩:=h.im x m;exact⟨f,o.proc.1,Hm.at (o.FT hk)⟩
 ·obtain⟨f,o⟩:=h.im x m;exact Hm.at o.aZ
 ·obtain⟨f,o⟩:=h.im x m;exact Hm.at o.aR
 ·obtain⟨i,hi⟩:=List.getElem?_of_mem hf
  exact Hm.at (h.head i f hi)
theorem Sy {p:Pg} (h:p.Right):Ap p p.aX.L:=(pj h).lok
theorem Ke {vars globals:List aG} {n:aG} : ∀ {l:List Pm},wS vars globals n l≠0→n∈l.map (·.name)∨n∈vars∨n∈globals
 | [],h=>by
  simp only[wS]at h
  split at h
  ·rename_i e;exact .inr (.inl ((jg _ _).1 e))
  ·split at h
   ·rename_i e;exact .inr (.inr ((jg _ _).1 e))
   ·exact absurd rfl h
 | a::l,h=>by
  simp only[wS]at h
  split at h
  ·rename_i e;exact .inl (by simp only[List.map_cons,List.mem_cons];exact .inl (by simpa using Eq.symm (by simpa using e)))
  ·rcases Ke h with h | h
   ·exact .inl (List.mem_cons_of_mem _ h)
   ·exact .inr h
theorem VC {p:Pg} {f:Pc} {v:Sm} (h:v.known p f p.pn=true) {n:aG} (m:n∈v.said):n∈p.globals++f.own:=by
 simp only[Sm.known,Bool.and_eq_true,Bool.not_eq_true']at h
 have h1:f.lC p n≠0:=fun e=>by
  have:v.said.any (fun n=>f.lC p n==0)=true:=List.any_eq_true.2 ⟨n,m,by simp[e]⟩
  rw[h.1]at this;cases this
 simp only[List.mem_append,Pc.own,Pc.tD]
 rcases Ke h1 with h2|h2|h2
 ·exact .inr (.inl h2)
 ·exact .inr (.inr h2)
 ·exact .inl h2
theorem va {n:aG} : ∀ {l:List Ar} {out:List aG},n∈out∨(∃ a∈l,a.ref=true∧a.name=n)→n∈Ar.said out l
 | [],out,h=>by rcases h with h|⟨a,m,_⟩;exact h;cases m
 | b::l,out,h=>by
  simp only[Ar.said]
  refine va ?_
  rcases h with h|⟨a,m,h1,h2⟩
  ·left;split<;>simp[h]
  ·rcases List.mem_cons.1 m with rfl | m
   ·left;rw[if_pos h1];simp[h2]
   ·exact .inr ⟨a,m,h1,h2⟩
theorem Kf {x:aG} : ∀ {l:List aG} {k:Nat},x∈l→∃ j:Nat,jf x (k:Int) l=((k+j:Nat):Int)∧j<l.length
 | s::l,k,m=>by
  by_cases e:x=s
  ·subst e;exact⟨0,by simp[jf],by simp⟩
  ·have e':(x==s)=false:=by simp [e]
   obtain⟨j,h1,h2⟩:=Kf (l:=l) (k:=k+1) ((List.mem_cons.1 m).resolve_left e)
   refine⟨j+1, ?_,by simp;omega⟩
   simp only[jf,e',Bool.false_eq_true,if_false]
   rw[show(k:Int)+1=((k+1:Nat):Int) by omega,h1];congr 1;omega
theorem H3 {name:aG} {f:Pc} : ∀ {l:List Pc} {k:Nat},iT name l=some f→∃ j:Nat,kZ (fun f:Pc=>f.name==name) (k:Int) l=((k+j:Nat):Int)∧l[j]? = some f
 | g::l,k,h=>by
  simp only[iT]at h
  by_cases e:(g.name==name)=true
  ·rw [if_pos e]at h;cases h
   exact⟨0,by simp only[kZ,e,if_true,Nat.add_zero],rfl⟩
  ·have e':(g.name==name)=false:=by simpa using e
   rw[if_neg e]at h
   obtain⟨j,h1,h2⟩:=H3 (l:=l) (k:=k+1) h
   refine⟨j+1, ?_,by simpa using h2⟩
   simp only[kZ,e',Bool.false_eq_true,if_false]
   rw[show(k:Int)+1=((k+1:Nat):Int) by omega,h1];congr 1;omega
def DN (p:Pg) (n:Nat) (fr:Fr):Prop:=∃ f,p.procs[fr.proc.toNat]? = some f∧0≤fr.proc∧fr.names=p.globals++f.own∧fr.vars.length=fr.names.length∧∀ c∈fr.vars,c<n
def Cr (L:List Im):List Fr→Prop
 | []=>False
 | [fr]=>fr.call=0
 |fr::uM::l=>(Hm L uM.proc fr.call∧(fy L fr.call).s.kind=4)∧Cr L (uM::l)
structure pk (p:Pg) (L:List Im) (a:Int) (m:Mc):Prop where
 st:Cr L m.st
 fr : ∀ fr∈m.st,DN p m.mem.length fr
 at_:AtR (Hm L m.top.proc) a
 uv:p.globals.length≤m.mem.length
theorem DN.mono {p:Pg} {n n':Nat} {fr:Fr} (h:DN p n fr) (hn:n≤n'):DN p n' fr:=by
 obtain⟨f,h1,h2,h3,h4,h5⟩:=h
 exact⟨f,h1,h2,h3,h4,fun c m=>Nat.lt_of_lt_of_le (h5 c m) hn⟩
theorem Cr.ne {L:List Im} {l:List Fr} (h:Cr L l) : ∃ fr r,l=fr::r:=by
 cases l with
 |nil=>exact h.elim
 |cons fr r=>exact⟨fr,r,rfl⟩
theorem Mc.ZL {L:List Im} {m:Mc} (h:Cr L m.st):m.top∈m.st:=by
 obtain⟨fr,r,e⟩:=h.ne
 simp[Mc.top,e]
theorem pk.of {p:Pg} {L:List Im} {a a':Int} {m m':Mc} (h:pk p L a m) (h1:m'.st=m.st) (h2:m.mem.length≤m'.mem.length) (h3:AtR (Hm L m.top.proc) a'):pk p L a' m':=by
 have ht:m'.top=m.top:=by unfold Mc.top;rw[h1]
 exact⟨by rw[h1];exact h.st,fun fr hf=>(h.fr fr (by rw[← h1];exact hf)).mono h2,by rw[ht];exact h3,Nat.le_trans h.uv h2⟩
section
variable {p:Pg} {L:List Im} {m:Mc}
theorem ZM {n:aG} {k:Nat} (h:DN p k m.top) (hn:n∈m.top.names):m.cell n<k∧∃ j:Nat,jf n 0 m.top.names=(j:Int)∧m.top.vars[j]? = some (m.cell n):=by
 obtain⟨f,h1,h2,h3,h4,h5⟩:=h
 obtain⟨j,e1,e2⟩:=Kf (k:=0) hn
 have e3:jf n 0 m.top.names=(j:Int):=by simpa using e1
 have e4:m.top.vars[j]? = some (m.cell n):=by
  unfold Mc.cell
  rw[e3,Int.toNat_natCast,List.getD_eq_getElem?_getD,List.getElem?_eq_getElem (by omega)];rfl
 exact⟨h5 _ (List.mem_of_getElem? e4),j,e3,e4⟩
theorem FV {k:Nat} (hk:p.globals.length≤k) : ∀ (l:List Ar) (m:Mc) (out:List Nat),DN p m.mem.length m.top→(∀ a∈l,a.ref=true→a.name∈m.top.names)→(∀ c∈out,c<m.mem.length)→
 m.mem.length≤(Mc.args l m out).2.mem.length∧∀ o,(Mc.args l m out).1=some o→o.length=out.length+l.length∧∀ c∈o,c<(Mc.args l m out).2.mem.length
 | [],m,out,h,_,ho=>⟨Nat.le_refl _,fun o e=>by cases e;exact⟨rfl,ho⟩⟩
 | a::l,m,out,h,hn,ho=>by
  simp only[Mc.args]
  by_cases c:a.ref=true
  ·rw [if_pos c]
   obtain⟨g1,g2⟩:=FV hk l m (out++ [m.cell a.name]) h (fun b mb=>hn b (List.mem_cons_of_mem _ mb)) fun x mx=>by
    rcases List.mem_append.1 mx with mx|mx
    ·exact ho x mx
    ·rw[List.mem_singleton.1 mx];exact(ZM h (hn a (List.mem_cons_self ..) c)).1
   exact⟨g1,fun o e=>⟨by rw[(g2 o e).1];simp;omega,(g2 o e).2⟩⟩
  ·rw [if_neg c]
   have he:=gG m a.x
   by_cases c2:(m.bC a.x).1.2=true
   ·rw [if_pos c2]
    have ht:({(m.bC a.x).2 with mem:=(m.bC a.x).2.mem++ [(m.bC a.x).1.1]} : Mc).top=m.top:=by unfold Mc.top;rw[he.1]
    have hl:(m.bC a.x).2.mem.length=m.mem.length:=by rw[he.2.1]
    obtain⟨g1,g2⟩:=FV hk l {(m.bC a.x).2 with mem:=(m.bC a.x).2.mem++ [(m.bC a.x).1.1]} (out++ [(m.bC a.x).2.mem.length]) (by rw[ht];exact h.mono (by simp[hl])) (by rw[ht];exact fun b mb=>hn b (List.mem_cons_of_mem _ mb)) fun x mx=>by
     rcases List.mem_append.1 mx with mx|mx
     ·have:=ho x mx;simp[hl];omega
     ·rw[List.mem_singleton.1 mx];simp
    exact⟨Nat.le_trans (by simp[hl]) g1,fun o e=>⟨by rw[(g2 o e).1];simp;omega,(g2 o e).2⟩⟩
   ·rw [if_neg c2]
    exact⟨by rw[he.2.1];exact Nat.le_refl _,fun o e=>by cases e⟩
theorem Mb (hP:Sx p L) {i:Nat} {f:Pc} (hf:p.procs[i]? = some f) {l:List Nat} {call:Int} (hl:l.length=f.params.length) (hc : ∀ c∈l,c<m.mem.length) (hg:p.globals.length≤m.mem.length)
 (sb : ∀ fr∈m.st,DN p m.mem.length fr) (ji:(m.st = []∧call=0)∨(Cr L m.st∧Hm L m.top.proc call∧(fy L call).s.kind=4)):pk p L (m.open p (i:Int) l call).1 (m.open p (i:Int) l call).2:=by
 unfold Mc.open
 rw[Int.toNat_natCast,hf]
 dsimp only
 refine⟨?_,fun fr h=>?_,by exact hP.head i f hf,by simp;omega⟩
 ·rcases ji with ⟨h1,h2⟩ | ⟨h1,h2⟩
  ·rw[h1];exact h2
  ·obtain⟨fr,r,e⟩:=h1.ne
   dsimp only
   rw[e]at h1 ⊢
   have:m.top=fr:=by simp[Mc.top,e]
   rw[this]at h2
   exact⟨h2,h1⟩
 ·rcases List.mem_cons.1 h with rfl | h
  ·refine⟨f,by rw [Int.toNat_natCast];exact hf,Int.natCast_nonneg _,rfl,by simp [Pc.own,Pc.tD,hl],fun c m=> ?_⟩
   simp only[List.mem_append,List.mem_range,List.mem_map]at m
   simp only[List.length_append,List.length_replicate]
   rcases m with (m|m)|⟨x,m,rfl⟩
   ·omega
   ·have:=hc c m;omega
   ·omega
  ·exact(sb fr h).mono (by simp)
theorem ZN (hP:Sx p L) {a:Int} (h:pk p L a m) {g:Int} {a':Int} {m':Mc} (e:m.back L g=(some a',m')):pk p L a' m':=by
 have hs:=h.st
 unfold Mc.back Mc.close at e
 dsimp only at e
 obtain⟨fr,r,es⟩:=hs.ne
 have ht:m.top=fr:=by simp[Mc.top,es]
 by_cases c:(m.top.call==0)=true
 ·rw[if_pos c]at e;cases e
 ·rw [if_neg c]at e
  rw[es]at hs
  cases r with
  |nil=>rw[ht]at c;exact absurd (beq_iff_eq.2 (show fr.call=0 from hs)) c
  | cons uM r=>
   obtain⟨⟨h1,_⟩,h2⟩:=hs
   have gC:fy L m.top.call∈L:=ph (.inr (by rw[ht];exact⟨h1.1,h1.2.1⟩)) (by have:=h1.1;rw[ht];omega)
   obtain⟨f,o⟩:=hP.im _ gC
   have ho:=o.next
   rw[show(fy L m.top.call).proc=uM.proc by rw[ht];exact h1.2.2]at ho
   rw[ht]at ho
   split at e<;>(dsimp only at e;split at e)<;>first|(cases e;done)|skip
   all_goals
    cases e
    refine⟨by simp only[Mc.set,es,List.tail_cons];exact h2,fun q hq=>?_,by simp only[Mc.set,Mc.top,es,List.tail_cons,List.headD_cons];exact ho,by simp only[Mc.set,List.length_set];exact h.uv⟩
    simp only[Mc.set,List.length_set]at hq ⊢
    exact h.fr q (by rw[es]at hq ⊢;exact List.mem_cons_of_mem _ hq)
end
theorem zL {p:Pg} (hR:p.Right) {x:Im} {f:Pc} (h:BR p p.aX.L x f) {n:aG} (m:n∈x.s.said):n∈p.globals++f.own:=
 VC (hR.known f (List.mem_of_getElem? h.proc.1) x.s h.mem) m
theorem ZO {p:Pg} (hR:p.Right) {x:Im} {f:Pc} (h:BR p p.aX.L x f) (hk:x.s.kind=4) : ∃ (j:Nat) (q:Pc),p.at x.s.proc=(j:Int)∧p.procs[j]? = some q∧x.s.args.length=q.params.length:=by
 have pW:x.s∈p.pre:=by
  simp only[Pg.pre,List.mem_flatten,List.mem_map];exact⟨_,⟨f,List.mem_of_getElem? h.proc.1,rfl⟩,h.mem⟩
 have hf:=hR.fits x.s pW (by simp[hk])
 unfold Sm.qq at hf
 simp only[Bool.and_eq_true]at hf
 cases e:p.find x.s.proc with
 |none=>rw[e]at hf;cases hf.2
 |some q=>
  rw[e]at hf
  obtain⟨j,h1,h2⟩:=H3 (k:=0) e
  refine⟨j,q,by simpa[Pg.at]using h1,h2, ?_⟩
  have:=hf.2
  simp only[Cn]at this
  split at this
  ·rename_i h3;have:=(beq_iff_eq.1 h3);omega
  ·cases this
theorem ZP {p:Pg} (hR:p.Right) {m:Mc} {W:List Int} {x:Im} {f:Pc} {a a':Int} {m':Mc} (h:pk p p.aX.L a m) (hx:BR p p.aX.L x f) (hk:x.s.kind=4) (hp:x.proc=m.top.proc) (Kg:(m.call p W x.s).2.fin=0)
 (e:m.call p W x.s=(a',m')) (h0:m.fin=0):pk p p.aX.L a' m':=by
 have hP:=pj hR
 have zM:=h.fr _ (Mc.ZL h.st)
 obtain⟨f',t1,t2,t3,t4,t5⟩:=zM
 have ef:f'=f:=by have:=hx.proc.1;rw[hp,t1]at this;exact Option.some.inj this
 subst ef
 have adM : ∀ b∈x.s.args,b.ref=true→b.name∈m.top.names:=fun b mb hb=>by
  rw[t3];exact zL hR hx (va (.inr ⟨b,mb,hb,rfl⟩))
 obtain⟨j,q,c1,c2,c3⟩:=ZO hR hx hk
 have g1:=FV h.uv x.s.args m [] ⟨f',t1,t2,t3,t4,t5⟩ adM (by simp)
 have g2:=vf x.s.args m []
 have g3:=zH x.s.args m [] h0
 unfold Mc.call at e Kg
 generalize Mc.args x.s.args m [] = r at *
 obtain⟨o,m1⟩:=r
 cases o with
 |none=>
  dsimp only at Kg g3
  rw[g3.2]at Kg;cases Kg
 | some l=>
  dsimp only at e Kg g1 g2 g3
  by_cases c:m1.st.length > 100
  ·rw[if_pos c]at Kg;cases Kg
  ·rw [if_neg c]at e
   have he:=eW W m1 x.s.id []
   have ht:(m1.event W x.s.id []).top=m.top:=by unfold Mc.top;rw[he.1,g2.1]
   have:=Mb (m:=m1.event W x.s.id []) hP c2 (l:=l) (call:=x.s.id) (by rw[(g1.2 l rfl).1,c3];simp) (by rw[he.2.1];exact(g1.2 l rfl).2) (by rw[he.2.1];exact Nat.le_trans h.uv g1.1)
    (by rw[he.1,he.2.1,g2.1];exact fun fr sb=>(h.fr fr sb).mono g1.1) (.inr ⟨by rw[he.1,g2.1];exact h.st,by rw[ht];exact⟨hx.self.2.1,hx.self.2.2,by rw[hx.self.1];exact hp⟩,by rw[hx.self.1];exact hk⟩)
   rw[← c1,e]at this
   exact this
theorem ahh {p:Pg} (hR:p.Right) {m:Mc} {T W:List Int} {x:Im} {f:Pc} {a:Int} (h:pk p p.aX.L a m) (hx:BR p p.aX.L x f) (hp:x.proc=m.top.proc) :
 ((m.do p p.aX.L T W x).2.fin=0→pk p p.aX.L (m.do p p.aX.L T W x).1 (m.do p p.aX.L T W x).2):=by
 intro h0
 have ev : ∀ (m1:Mc) (id:Int) (bV:List Int),(m1.event W id bV).st=m1.st∧(m1.event W id bV).mem=m1.mem:=fun m1 id bV=>⟨(eW W m1 id bV).1,(eW W m1 id bV).2.1⟩
 have key : ∀ (m1:Mc) (b:Int),m1.st=m.st→m1.mem.length=m.mem.length→AtR (Hm p.aX.L x.proc) b→pk p p.aX.L b m1:=fun m1 b h1 h2 h3=>h.of h1 (Nat.le_of_eq h2.symm) (by rw[← hp];exact h3)
 have hw:=gG m x.s.x
 unfold Mc.do at h0 ⊢
 dsimp only at h0 ⊢
 by_cases c7:(x.s.kind==7)=true
 ·rw [if_pos c7]
  have hk:x.s.kind=7:=by simpa using c7
  have hl:=hx.loop (.inl hk)
  have gC:=ph (L:=p.aX.L) (a:=x.loop) (.inr ⟨hl.1,hl.2.1⟩) (by have:=hl.1;omega)
  obtain⟨g,o⟩:=(pj hR).im _ gC
  refine key _ _ (ev _ _ _).1 (by rw[(ev _ _ _).2]) ?_
  have:=o.next
  rw[hl.2.2]at this;exact this
 rw[if_neg c7]at h0 ⊢
 by_cases c8:(x.s.kind==8)=true
 ·rw [if_pos c8]
  exact key _ _ (ev _ _ _).1 (by rw[(ev _ _ _).2]) (.inr (hx.loop (.inr (by simpa using c8))))
 rw[if_neg c8]at h0 ⊢
 by_cases He:(x.s.kind==10)=true
 ·rw [if_pos He]
  refine key _ _ (ev _ _ _).1 (by rw[(ev _ _ _).2]) ?_
  have:=hx.FT (by simpa using He)
  rw[hx.proc.1];exact this
 rw[if_neg He]at h0 ⊢
 by_cases c2:(x.s.kind==2)=true
 ·rw [if_pos c2]at h0 ⊢
  split at h0
  ·cases h0
  ·rename_i n e
   exact key _ _ (ev _ _ _).1 (by rw[(ev _ _ _).2];simp[Mc.set]) hx.next
 rw[if_neg c2]at h0 ⊢
 by_cases cw:(m.bC x.s.x).1.2=true
 ·rw [if_pos cw]at h0 ⊢
  have e1:((m.bC x.s.x).2.event W x.s.id [(m.bC x.s.x).1.1]).st=m.st:=(ev _ _ _).1.trans hw.1
  have e2:((m.bC x.s.x).2.event W x.s.id [(m.bC x.s.x).1.1]).mem.length=m.mem.length:=by rw[(ev _ _ _).2,hw.2.1]
  have fo : ∀ (l:List Sm) (b:Int),AtR (Hm p.aX.L x.proc) (fZ l (-1))→AtR (Hm p.aX.L x.proc) b→AtR (Hm p.aX.L x.proc) (firstM l b):=fun l b h1 h2=>by
   cases l with
   |nil=>exact h2
   |cons s l=>exact h1
  split
  ·exact key _ _ e1 (by simp only[Mc.set,List.length_set];exact e2) hx.next
  split
  ·exact key _ _ e1 e2 hx.next
  split
  ·refine key _ _ e1 e2 ?_
   split
   ·exact fo _ _ hx.aR hx.next
   ·exact fo _ _ hx.aZ hx.next
  split
  ·refine key _ _ e1 e2 ?_
   split
   ·exact hx.next
   ·exact fo _ _ hx.aZ (.inr ⟨hx.self.2.1,hx.self.2.2,by rw[hx.self.1]⟩)
  ·exact key _ _ e1 e2 hx.next
 ·rw [if_neg cw]at h0
  have:(m.bC x.s.x).2.fin=4:=by unfold Mc.bC;dsimp only;rw[if_neg (show ¬ (x.s.x.bC m.top.names m.bV).2=true from cw)]
  rw[this]at h0;cases h0
end Go.Abs
namespace Go.Abs
structure Lay where
 κ:List Nat
 φ:List Nat
 sd:D
 vd:D
def D.arr:D→List Nat
 | .ep _ o _ _=> [o]
 |_=> []
def Lay.own (y:Lay):List Nat:=0::(y.κ++(y.sd.arr++y.vd.arr))
def fj (o:Nat):List D:= [.ptr o 0]
def po (κ:List Nat) (f:Fr):List D:= [.int .i64 f.proc, .slice .shared 1 (f.names.map encStr), .slice .shared 1 (f.vars.map fun c=>fj (κ.getD c 0)), .int .i64 f.call]
def jD (e:Int×List Int):List D:= [.int .i64 e.1, .slice .shared 1 (e.2.map bE)]
abbrev fv (p:Pg) (T W:List Int) (y:Lay) (m:Mc):List D:=
 [.dv (fx p) 0, .slice .shared 1 ((y.κ.take p.globals.length).map fj), .slice .shared 1 (T.map bE), .slice .shared 1 (W.map bE),y.sd,y.vd,
  .int .i64 m.fin, .int .i64 m.steps, .int .i64 m.reads, .slice (.tok 0) 1 (m.out.map bE), .slice (.tok 1) 2 (m.trace.map jD)]
def qM (n:Int):D:= .int .i64 n
def xI (o:Nat):D:= .ptr o 0
def jE (s:St) (d:D) (cs:List D):Prop:=(d = .ei 1∧cs = [])∨∃ o g more,d = .ep 1 o g cs.length∧s.ah[o]? = some (.int .i64 ((g:Nat):Int)::(cs++more))
structure Inv (p:Pg) (T W:List Int) (y:Lay) (m:Mc) (loc:List (Nat×List D)) (s:St):Prop where
 jF:s.ah[0]? = some (fv p T W y m)
 t0:s.aw[0]? = some (some m.out.length)
 t1:s.aw[1]? = some (some m.trace.length)
 len:y.κ.length=m.mem.length
 cell : ∀ (i c:Nat) (v:Int),y.κ[i]? = some c→m.mem[i]? = some v→s.ah[c]? = some [.int .i64 v]
 sA:y.φ.length=m.st.length
 frame : ∀ (i o:Nat) (fr:Fr),y.φ[i]? = some o→m.st[i]? = some fr→s.ah[o]? = some (po y.κ fr)∧o∉y.own∧∀ c∈fr.vars,c<m.mem.length
 stack:jE s y.sd (y.φ.reverse.map xI)
 bV : ∃ l:List Int,jE s y.vd (l.map qM)
 own:y.own.Nodup
 loc : ∀ q∈loc,s.ah[q.1]? = some q.2∧q.1∉y.own
theorem jE.lt {s:St} {d:D} {cs:List D} (h:jE s d cs) : ∀ o∈d.arr,o<s.ah.length:=by
 rcases h with ⟨rfl,_⟩|⟨o,g,more,rfl,h⟩
 ·intro o m;simp[D.arr]at m
 ·intro o' m
  have:o'=o:=by simpa[D.arr]using m
  subst this;exact fV h
theorem jE.keep {s s':St} {d:D} {cs:List D} (h:jE s d cs) (k : ∀ o∈d.arr,s'.ah[o]? = s.ah[o]?):jE s' d cs:=by
 rcases h with h|⟨o,g,more,rfl,h⟩
 ·exact .inl h
 ·exact .inr ⟨o,g,more,rfl,by rw[k o (by simp[D.arr])];exact h⟩
theorem Hf {κ e:List Nat} {fr:Fr} (h : ∀ c∈fr.vars,c<κ.length):po (κ++e) fr=po κ fr:=by
 unfold po
 rw[List.map_congr_left (g:=fun c=>fj (κ.getD c 0)) fun c m=>by rw[List.getD_eq_getElem?_getD,List.getD_eq_getElem?_getD,List.getElem?_append_left (h c m)]]
section
variable {p:Pg} {T W:List Int} {y:Lay} {m:Mc} {loc:List (Nat×List D)} {s:St}
theorem Inv.tM (h:Inv p T W y m loc s) : ∀ o∈y.own,o<s.ah.length:=by
 intro o mo
 simp only[Lay.own,List.mem_cons,List.mem_append]at mo
 rcases mo with rfl|mo|mo|mo
 ·exact fV h.jF
 ·obtain⟨i,hi⟩:=List.getElem?_of_mem mo
  have hD:=(List.getElem?_eq_some_iff.1 hi).1
  exact fV (h.cell i o _ hi (List.getElem?_eq_getElem (by rw[← h.len];exact hD)))
 ·exact h.stack.lt o mo
 ·obtain⟨l,hl⟩:=h.bV
  exact hl.lt o mo
theorem Inv.uN (h:Inv p T W y m loc s):0<s.ah.length:=fV h.jF
theorem Inv.sub (h:Inv p T W y m loc s) {adN:List (Nat×List D)} (hl : ∀ q∈adN,q∈loc):Inv p T W y m adN s:= {h with loc:=fun q m=>h.loc q (hl q m)}
theorem Inv.keep (h:Inv p T W y m loc s) {s':St} (k : ∀ (o:Nat) (r:List D),s.ah[o]? = some r→s'.ah[o]? = some r) (k0:s'.aw[0]? = s.aw[0]?) (k1:s'.aw[1]? = s.aw[1]?):Inv p T W y m loc s':=by
 have ka : ∀ {d:D} {cs:List D},jE s d cs→jE s' d cs:=fun ha=>ha.keep fun o mo=>by
  rw[List.getElem?_eq_getElem (ha.lt o mo)];exact k o _ (List.getElem?_eq_getElem _)
 obtain⟨l,hl⟩:=h.bV
 exact⟨k _ _ h.jF,by rw[k0];exact h.t0,by rw[k1];exact h.t1,h.len,fun i c v h1 h2=>k _ _ (h.cell i c v h1 h2),h.sA,fun i o fr h1 h2=>⟨k _ _ (h.frame i o fr h1 h2).1,(h.frame i o fr h1 h2).2⟩,
  ka h.stack,⟨l,ka hl⟩,h.own,fun q m=>⟨k _ _ (h.loc q m).1,(h.loc q m).2⟩⟩
theorem Inv.new (h:Inv p T W y m loc s) (row:List D):Inv p T W y m ((s.ah.length,row)::loc) ⟨s.ah++ [row],s.aw⟩:=by
 have h':=h.keep (s':=⟨s.ah++ [row],s.aw⟩) (fun o r e=>by rw[List.getElem?_append_left (fV e)];exact e) rfl rfl
 refine {h' with loc:=fun q mq=>?_}
 rcases List.mem_cons.1 mq with rfl|mq
 ·exact⟨by simp,fun mo=>Nat.lt_irrefl _ (h.tM _ mo)⟩
 ·exact h'.loc q mq
theorem Inv.aw (h:Inv p T W y m loc s) (ts:List (Option Nat)):Inv p T W y m loc ⟨s.ah,s.aw++ts⟩:=
 h.keep (fun _ _ e=>e) (List.getElem?_append_left (List.getElem?_eq_some_iff.1 h.t0).1) (List.getElem?_append_left (List.getElem?_eq_some_iff.1 h.t1).1)
theorem Inv.My (h:Inv p T W y m loc s) {o:Nat} (ho:o∈y.own) (row:List D) {q:Nat} {r:List D} (hq:s.ah[q]? = some r) (hn:q≠o):(s.ah.set o row)[q]? = some r:=by
 rw[List.getElem?_set_ne (Ne.symm hn)];exact hq
theorem Inv.vW (h:Inv p T W y m loc s) {o:Nat} (ho:o∈y.κ++(y.sd.arr++y.vd.arr)):o≠0:=fun e=>by
 have:=h.own
 rw[Lay.own,List.nodup_cons]at this
 exact this.1 (e ▸ ho)
theorem Inv.tY (h:Inv p T W y m loc s) {m':Mc} (h1:m'.st=m.st) (h2:m'.mem=m.mem) {ts:List (Option Nat)} (k0:ts[0]? = some (some m'.out.length)) (k1:ts[1]? = some (some m'.trace.length)) :
 Inv p T W y m' loc ⟨s.ah.set 0 (fv p T W y m'),ts⟩:=by
 have ne : ∀ {q:Nat} {r:List D},s.ah[q]? = some r→q≠0→(s.ah.set 0 (fv p T W y m'))[q]? = some r:=fun e hn=>h.My (by simp[Lay.own]) _ e hn
 have nf : ∀ {q:Nat},q∉y.own→q≠0:=fun hq e=>hq (by rw[e];simp[Lay.own])
 have ka : ∀ {d:D} {cs:List D},(∀ o∈d.arr,o∈y.κ++(y.sd.arr++y.vd.arr))→jE s d cs→jE ⟨s.ah.set 0 (fv p T W y m'),ts⟩ d cs:=fun hd ha=>ha.keep fun o mo=>by
  show(s.ah.set 0 _)[o]? = _
  rw[List.getElem?_set_ne (Ne.symm (h.vW (hd o mo)))]
 obtain⟨l,hl⟩:=h.bV
 refine⟨by simp[h.uN],k0,k1,by rw[h2];exact h.len,fun i c v e1 e2=>ne (h.cell i c v e1 (by rw[← h2];exact e2)) (h.vW (List.mem_append_left _ (List.mem_of_getElem? e1))),by rw[h1];exact h.sA,fun i o fr e1 e2=>?_,
  ka (fun o m=>by simp[m]) h.stack,⟨l,ka (fun o m=>by simp[m]) hl⟩,h.own,fun q mq=>⟨ne (h.loc q mq).1 (nf (h.loc q mq).2),(h.loc q mq).2⟩⟩
 rw[h1]at e2
 obtain⟨g1,g2,g3⟩:=h.frame i o fr e1 e2
 exact⟨ne g1 (nf g2),g2,by rw[h2];exact g3⟩
theorem Inv.VD (h:Inv p T W y m loc s) {i c:Nat} (hc:y.κ[i]? = some c) (v:Int):Inv p T W y {m with mem:=m.mem.set i v} loc ⟨s.ah.set c [.int .i64 v],s.aw⟩:=by
 have gC:c∈y.κ:=List.mem_of_getElem? hc
 have oK:c<s.ah.length:=h.tM c (by simp[Lay.own,gC])
 have Ah:=h.own
 rw[Lay.own,List.nodup_cons,List.nodup_append]at Ah
 have hκ : ∀ i',y.κ[i']? = some c→i'=i:=fun i' e=>(List.getElem?_inj (List.getElem?_eq_some_iff.1 e).1 Ah.2.1).1 (e.trans hc.symm)
 have ne : ∀ {q:Nat} {r:List D},s.ah[q]? = some r→q≠c→(s.ah.set c [.int .i64 v])[q]? = some r:=fun e hn=>h.My (o:=c) (by simp[Lay.own,gC]) _ e hn
 have nf : ∀ {q:Nat},q∉y.own→q≠c:=fun hq e=>hq (by rw[e];simp[Lay.own,gC])
 have ka : ∀ {d:D} {cs:List D},(∀ o∈d.arr,o∈y.sd.arr++y.vd.arr)→jE s d cs→jE ⟨s.ah.set c [.int .i64 v],s.aw⟩ d cs:=fun hd ha=>ha.keep fun o mo=>by
  show(s.ah.set c _)[o]? = _
  rw[List.getElem?_set_ne (fun e=>Ah.2.2.2 c gC o (hd o mo) e)]
 obtain⟨l,hl⟩:=h.bV
 refine⟨ne h.jF (fun e=>h.vW (List.mem_append_left _ gC) e.symm),h.t0,h.t1,by rw[h.len,List.length_set],fun i' c' v' e1 e2=>?_,h.sA,fun i' o fr e1 e2=>?_,
  ka (fun o m=>by simp[m]) h.stack,⟨l,ka (fun o m=>by simp[m]) hl⟩,h.own,fun q mq=>⟨ne (h.loc q mq).1 (nf (h.loc q mq).2),(h.loc q mq).2⟩⟩
 ·show(s.ah.set c _)[c']? = _
  simp only[List.getElem?_set]at e2
  by_cases e:i=i'
  ·subst e
   rw[hc]at e1;cases e1
   rw[if_pos rfl]at e2
   split at e2
   ·cases e2;simp[oK]
   ·cases e2
  ·rw [if_neg e]at e2
   have:c'≠c:=fun ec=>e (hκ i' (by rw[e1,ec])).symm
   exact ne (h.cell i' c' v' e1 e2) this
 ·obtain⟨g1,g2,g3⟩:=h.frame i' o fr e1 e2
  exact⟨ne g1 (nf g2),g2,by simpa using g3⟩
theorem Inv.anX (h:Inv p T W y m loc s) (v:Int) (hg:p.globals.length≤m.mem.length):Inv p T W {y with κ:=y.κ++ [s.ah.length]} {m with mem:=m.mem++ [v]} loc ⟨s.ah++ [[.int .i64 v]],s.aw⟩:=by
 have h':=h.keep (s':=⟨s.ah++ [[.int .i64 v]],s.aw⟩) (fun o r e=>by rw[List.getElem?_append_left (fV e)];exact e) rfl rfl
 have nU:s.ah.length∉y.own:=fun mo=>Nat.lt_irrefl _ (h.tM _ mo)
 have Ah:=h.own
 have ho : ∀ o,o∈Lay.own {y with κ:=y.κ++ [s.ah.length]}→o∈y.own∨o=s.ah.length:=fun o mo=>by
  simp only[Lay.own,List.mem_cons,List.mem_append]at mo ⊢
  rcases mo with rfl|(mo|rfl|mo)|mo|mo
  ·exact .inl (.inl rfl)
  ·exact .inl (.inr (.inl mo))
  ·exact .inr rfl
  ·cases mo
  ·exact .inl (.inr (.inr (.inl mo)))
  ·exact .inl (.inr (.inr (.inr mo)))
 refine⟨by rw[h'.jF];simp only[fv];rw[List.take_append_of_le_length (by rw[h.len];exact hg)],h'.t0,h'.t1,by simp[h.len],fun i c v' e1 e2=>?_,h'.sA,fun i o fr e1 e2=>?_,h'.stack,h'.bV, ?_,fun q mq=>⟨(h'.loc q mq).1,fun mo=>?_⟩⟩
 ·rcases Nat.lt_or_ge i y.κ.length with hi | hi
  ·rw [List.getElem?_append_left hi]at e1
   rw[List.getElem?_append_left (by rw[← h.len];exact hi)]at e2
   exact h'.cell i c v' e1 e2
  ·have gY:i=y.κ.length:=by
    have:=(List.getElem?_eq_some_iff.1 e1).1
    simp at this;omega
   subst gY
   rw[List.getElem?_append_right (Nat.le_refl _)]at e1
   rw[List.getElem?_append_right (by rw[h.len];exact Nat.le_refl _)]at e2
   simp at e1;subst e1
   simp[h.len]at e2;subst e2
   simp
 ·obtain⟨g1,g2,g3⟩:=h'.frame i o fr e1 e2
  refine⟨by rw[Hf (by rw[h.len];exact g3)];exact g1,fun mo=>?_,fun c mc=>by simp only[List.length_append];have:=g3 c mc;omega⟩
  rcases ho o mo with mo|rfl
  ·exact g2 mo
  ·exact absurd (fV (h.frame i _ fr e1 e2).1) (Nat.lt_irrefl _)
 ·have:(Lay.own {y with κ:=y.κ++ [s.ah.length]}).Perm (s.ah.length::y.own):=by
   simp only[Lay.own,List.append_assoc,List.singleton_append]
   exact(List.Perm.cons _ List.perm_middle).trans (List.Perm.swap _ _ _)
  rw[this.nodup_iff,List.nodup_cons]
  exact⟨nU,Ah⟩
 ·rcases ho _ mo with mo | e
  ·exact(h'.loc q mq).2 mo
  ·exact absurd (fV (h.loc q mq).1) (by rw[e];exact Nat.lt_irrefl _)
theorem Inv.Pr (h:Inv p T W y m loc s) {vd:D} {s1:St} (k : ∀ (o:Nat) (r:List D),s.ah[o]? = some r→o∉y.vd.arr→s1.ah[o]? = some r) (hv : ∃ l:List Int,jE s1 vd (l.map qM)) (hn:vd.arr=y.vd.arr∨vd.arr = []∨vd.arr = [s.ah.length]) (ht:s1.aw=s.aw) :
 Inv p T W {y with vd:=vd} m loc ⟨s1.ah.set 0 (fv p T W {y with vd:=vd} m),s1.aw⟩:=by
 have Ah:=h.own
 have adO:=Ah
 rw[Lay.own,List.nodup_cons,List.nodup_append,List.nodup_append]at adO
 obtain⟨n0,nκ,⟨ns,nv,XV⟩,Ki⟩:=adO
 have v0 : ∀ o∈y.vd.arr,o≠0:=fun o mo=>h.vW (by simp[mo])
 have qO:0<s1.ah.length:=fV (k 0 _ h.jF fun mo=>v0 0 mo rfl)
 have g : ∀ {o:Nat} {r:List D},s.ah[o]? = some r→o∉y.vd.arr→o≠0→(s1.ah.set 0 (fv p T W {y with vd:=vd} m))[o]? = some r:=fun e hv hn=>by
  rw[List.getElem?_set_ne (Ne.symm hn)];exact k _ _ e hv
 have Kj : ∀ o,o∈Lay.own {y with vd:=vd}→o∈y.own∨o=s.ah.length:=fun o mo=>by
  simp only[Lay.own,List.mem_cons,List.mem_append]at mo ⊢
  rcases mo with rfl|mo|mo|mo
  ·exact .inl (.inl rfl)
  ·exact .inl (.inr (.inl mo))
  ·exact .inl (.inr (.inr (.inl mo)))
  ·rcases hn with e | e | e
   ·rw[e]at mo;exact .inl (.inr (.inr (.inr mo)))
   ·rw[e]at mo;cases mo
   ·rw[e]at mo;exact .inr (List.mem_singleton.1 mo)
 have nk : ∀ o∈y.κ,o∉y.vd.arr:=fun o mo mv=>Ki o mo o (List.mem_append_right _ mv) rfl
 have nsd : ∀ o∈y.sd.arr,o∉y.vd.arr:=fun o mo mv=>XV o mo o mv rfl
 have XW : ∀ {o:Nat},o∉y.own→o∉y.vd.arr∧o≠0:=fun ho=>⟨fun mv=>ho (by simp[Lay.own,mv]),fun e=>ho (by rw[e];simp[Lay.own])⟩
 obtain⟨l,hl⟩:=hv
 refine⟨by simp[qO],by rw[ht];exact h.t0,by rw[ht];exact h.t1,h.len,fun i c v e1 e2=>g (h.cell i c v e1 e2) (nk c (List.mem_of_getElem? e1)) (h.vW (by simp[List.mem_of_getElem? e1])),h.sA,fun i o fr e1 e2=>?_, ?_,⟨l, ?_⟩, ?_,fun q mq=>?_⟩
 ·obtain⟨f1,f2,f3⟩:=h.frame i o fr e1 e2
  refine⟨g f1 (XW f2).1 (XW f2).2,fun mo=>?_,f3⟩
  rcases Kj o mo with mo|e
  ·exact f2 mo
  ·exact absurd (fV f1) (by rw[e];exact Nat.lt_irrefl _)
 ·refine h.stack.keep fun o mo=> ?_
  rw[List.getElem?_eq_getElem (h.stack.lt o mo)]
  exact g (List.getElem?_eq_getElem _) (nsd o mo) (h.vW (by simp[mo]))
 ·refine hl.keep fun o mo=> ?_
  have:o≠0:=by
   rcases hn with e|e|e
   ·rw[e]at mo;exact v0 o mo
   ·rw[e]at mo;cases mo
   ·rw[e]at mo;rw[List.mem_singleton.1 mo];have:=h.uN;omega
  show(s1.ah.set 0 _)[o]? = _
  rw[List.getElem?_set_ne (Ne.symm this)]
 ·rcases hn with e | e | e
  ·simp only[Lay.own,e];exact Ah
  ·simp only [Lay.own,e,List.append_nil]
   rw[List.nodup_cons,List.nodup_append]
   exact⟨fun m=>n0 (by rcases List.mem_append.1 m with m|m<;>simp[m]),nκ,ns,fun a ma b mb=>Ki a ma b (List.mem_append_left _ mb)⟩
  ·simp only [Lay.own,e]
   have dh : ∀ o∈y.own,o≠s.ah.length:=fun o mo e=>by have:=h.tM o mo;omega
   rw[List.nodup_cons,List.nodup_append,List.nodup_append]
   refine⟨fun m=>?_,nκ,⟨ns,by simp,fun a ma b mb=>?_⟩,fun a ma b mb=>?_⟩
   ·rcases List.mem_append.1 m with m | m
    ·exact n0 (by simp[m])
    ·rcases List.mem_append.1 m with m | m
     ·exact n0 (by simp[m])
     ·have:=List.mem_singleton.1 m;have:=h.uN;omega
   ·rw[List.mem_singleton.1 mb];exact dh a (by simp[Lay.own,ma])
   ·rcases List.mem_append.1 mb with mb | mb
    ·exact Ki a ma b (List.mem_append_left _ mb)
    ·rw[List.mem_singleton.1 mb];exact dh a (by simp[Lay.own,ma])
 ·obtain⟨f1,f2⟩:=h.loc q mq
  refine⟨g f1 (XW f2).1 (XW f2).2,fun mo=>?_⟩
  rcases Kj q.1 mo with mo|e
  ·exact f2 mo
  ·exact absurd (fV f1) (by rw[e];exact Nat.lt_irrefl _)
end
end Go.Abs
namespace Go.Abs
set_option maxRecDepth 8000
open Go.Proofs
theorem Ps (b:Bool) (s:St):aF Tryz.prog jA [.bool b] s (.int .i64 (ux b)) s:=by
 refine aF.pure ?_ rfl rfl s
 generalize h:ux b=R
 simp only[ux]at h
 unfold S0
 refine aF.go Jx rfl fun B Q hB hQ=>?_
 have⟨hD,hY,hZ,gA⟩:=bP
 repeat' (first
 |simp only[go_sem,hD,hY,hZ,gA]
 |(with_reducible first|refine bo fun hc=>?_|refine bp fun hc=>?_|refine bq (fun hc=>?_) fun hc=>?_)<;>(try simp only[hc,bs,↓reduceIte]at h)<;>try simp only[hc]
 |(with_reducible refine aD hQ ?_;exact ga)
 |(cases h;done))
theorem ZR (a:Int) (s:St):aF Tryz.prog rI [.int .i64 a] s (.bool (!(a==0))) s:=by
 refine aF.pure ?_ rfl rfl s
 have e:(a != 0) = !(a==0):=rfl
 unfold S0
 refine aF.go FH rfl fun B Q hB hQ=>?_
 have⟨hD,hY,hZ,gA⟩:=bP
 repeat' (first
 |simp only[go_sem,hD,hY,hZ,gA,e]
 |(with_reducible first|refine bo fun hc=>?_|refine bp fun hc=>?_|refine bq (fun hc=>?_) fun hc=>?_)<;>(try simp only[hc,bs,↓reduceIte]at h)<;>try simp only[hc]
 |(with_reducible refine aD hQ ?_;(try cases h);simp only[aU,aV,bH,bI,go_sem,hD,hY,hZ,gA,e];try exact cv)
 |(cases h;done))
abbrev zN (r:Int×Bool):D:= .tuple [.int .i64 r.1, .bool r.2]
theorem ahj (op a:Int) (s:St):aF Tryz.prog zf [.int .i64 op, .int .i64 a] s (zN (Pb op a)) s:=by
 refine aF.pure ?_ rfl rfl s
 generalize h:Pb op a=R
 simp only[Pb,ES]at h
 unfold S0
 refine aF.go Jv rfl fun B Q hB hQ=>?_
 have⟨hD,hY,hZ,gA⟩:=bP
 repeat' (first
 |simp only[go_sem,hD,hY,hZ,gA]
 |(with_reducible refine CU (Ps _ _) ?_)
 |(with_reducible first|refine bo fun hc=>?_|refine bp fun hc=>?_|refine bq (fun hc=>?_) fun hc=>?_)<;>(try simp only[hc,bs,↓reduceIte]at h)<;>try simp only[hc]
 |(with_reducible refine aD hQ ?_;exact ga)
 |(cases h;done))
theorem VE (op a b:Int) (s:St):aF Tryz.prog uk [.int .i64 op, .int .i64 a, .int .i64 b] s (zN (Pe op a b)) s:=by
 refine aF.pure ?_ rfl rfl s
 generalize h:Pe op a b=R
 simp only[Pe,ES]at h
 unfold S0
 rcases Bool.eq_false_or_eq_true (b==0)with b0|b0
 ·refine aF.go wL rfl fun B Q hB hQ=> ?_
  have⟨hD,hY,hZ,gA⟩:=bP
  repeat' (first
 |simp only[go_sem,hD,hY,hZ,gA]
 |(with_reducible first|refine bo fun hc=>?_|refine bp fun hc=>?_|refine bq (fun hc=>?_) fun hc=>?_)<;>(try simp only[hc,bs,↓reduceIte]at h)<;>try simp only[hc]
 |(with_reducible refine aD hQ ?_;exact ga)
 |(cases h;done))
 ·have hb:b≠0:=by simpa using b0
  refine aF.go wL rfl fun B Q hB hQ=>?_
  have⟨hD,hY,hZ,gA⟩:=bP
  repeat' (first
 |simp only[go_sem,hD,hY,hZ,gA,hb]
 |(with_reducible first|refine bo fun hc=>?_|refine bp fun hc=>?_|refine bq (fun hc=>?_) fun hc=>?_)<;>(try simp only[hc,bs,↓reduceIte]at h)<;>try simp only[hc]
 |(with_reducible refine aD hQ ?_;(try cases h);simp only[aU,aV,bH,bI,go_sem,hD,hY,hZ,gA,hb];try exact cv)
 |(cases h;done))
theorem SB (op a b:Int) (s:St):aF Tryz.prog sr [.int .i64 op, .int .i64 a, .int .i64 b] s (zN (Pf op a b)) s:=by
 refine aF.pure ?_ rfl rfl s
 have e:(a != b) = !(a==b):=rfl
 generalize h:Pf op a b=R
 simp only[Pf]at h
 unfold S0
 refine aF.go Dy rfl fun B Q hB hQ=>?_
 have⟨hD,hY,hZ,gA⟩:=bP
 repeat' (first
 |simp only[go_sem,hD,hY,hZ,gA,e]
 |(with_reducible refine CU (Ps _ _) ?_)
 |(with_reducible first|refine bo fun hc=>?_|refine bp fun hc=>?_|refine bq (fun hc=>?_) fun hc=>?_)<;>(try simp only[hc,bs,↓reduceIte]at h)<;>try simp only[hc]
 |(with_reducible refine aD hQ ?_;(try cases h);simp only[aU,aV,bH,bI,go_sem,hD,hY,hZ,gA,e];try exact cv)
 |(cases h;done))
theorem ahk (op a b:Int) (s:St):aF Tryz.prog zh [.int .i64 op, .int .i64 a, .int .i64 b] s (zN (Ph op a b)) s:=by
 refine aF.pure ?_ rfl rfl s
 have e1:(a != 0) = !(a==0):=rfl
 have e2:(b != 0) = !(b==0):=rfl
 generalize h:Ph op a b=R
 simp only[Ph,ES]at h
 unfold S0
 refine aF.go Jw rfl fun B Q hB hQ=>?_
 have⟨hD,hY,hZ,gA⟩:=bP
 repeat' (first
 |simp only[go_sem,hD,hY,hZ,gA,e1,e2]
 |(with_reducible refine CU (Ps _ _) ?_)
 |(with_reducible refine CU (VE _ _ _ _) ?_)
 |(with_reducible refine CU (SB _ _ _ _) ?_)
 |(with_reducible first|refine bo fun hc=>?_|refine bp fun hc=>?_|refine bq (fun hc=>?_) fun hc=>?_)<;>(try simp only[hc,bs,↓reduceIte]at h)<;>try simp only[hc]
 |(with_reducible refine aD hQ ?_;(try cases h);simp only[aU,aV,bH,bI,go_sem,hD,hY,hZ,gA,e1,e2];try exact cv)
 |(cases h;done))
def vX (x:Int) (k:Int):List Int→Int
 | []=> -1
 |s::l=>if x==s then k else vX x (k+1) l
theorem Md (x:Int) : ∀ (l:List Int) (k:Int),0≤k→(vX x k l≥0↔l.contains x=true)
 | [],k,h=>by simp[vX]
 | s::l,k,h=>by
  by_cases e:x=s
  ·simp[vX,e];omega
  ·have e':(x==s)=false:=by simp [e]
   simp only[vX,e',Bool.false_eq_true,if_false,List.contains_cons,Bool.false_or]
   exact Md x l (k+1) (by omega)
theorem VF {l:List Int} (hl:l.length<4611686018427387904) (x:Int) (s:St):aF Tryz.prog o9 [.slice .shared 1 (l.map bE), .int .i64 x] s (.int .i64 (vX x 0 l)) s:=by
 refine aF.pure ?_ (by simp[D.bL,D.ok,Tag.ok,iw]) rfl s
 generalize h:vX x 0 l=p
 unfold S0
 refine aF.go zo rfl fun B Q hB hQ=>?_
 have⟨hD,hY,hZ,gA⟩:=bP
 repeat' (first
 |simp only[go_sem,hD,hY,hZ,gA]
 |(with_reducible first|refine bo fun hc=>?_|refine bp fun hc=>?_|refine bq (fun hc=>?_) fun hc=>?_)<;>(try simp only[hc,bs,↓reduceIte]at h)<;>try simp only[hc]
 |(with_reducible refine aD hQ ?_;exact ga)
 |(cases h;done))
 refine fa 0 0 (bl.ind (ι:=List Int×Nat) (fun i=>l.drop i.2=i.1∧vX x (i.2:Int) i.1=p) (fun i=>i.1.length)
  (fun i=> [(0, .slice .shared 1 (l.map bE)),(1, .int .i64 x),(7, .int .i64 (l.length:Int)),(8, .int .i64 (i.2:Int))]) (fun i=>⟨[],[]⟩) ?_ (l,0) ⟨rfl,h⟩)
 rintro⟨rest,k⟩ ⟨h1,h⟩ IH
 dsimp only at h1 h
 cases rest with
 |nil=>
  have hD:=drop_nil h1
  simp only[vX]at h
  repeat' (first
 |simp only[go_sem,hD,hY,hZ,gA]
 |(with_reducible first|refine bo fun hc=>?_|refine bp fun hc=>?_|refine bq (fun hc=>?_) fun hc=>?_)<;>(try simp only[hc,bs,↓reduceIte]at h)<;>try simp only[hc]
 |(with_reducible refine aD hQ ?_;exact ga)
 |(cases h;done))
 |cons a rest=>
  obtain⟨hY,g2,hD,g4⟩:=drop_cons h1
  have bO:k<4611686018427387904:=by omega
  simp only[vX]at h
  repeat' (first
 |simp only[go_sem,hD,hY,hZ,gA]
 |(with_reducible first|refine bo fun hc=>?_|refine bp fun hc=>?_|refine bq (fun hc=>?_) fun hc=>?_)<;>(try simp only[hc,bs,↓reduceIte]at h)<;>try simp only[hc]
 |(with_reducible refine aD hQ ?_;exact ga)
 |(cases h;done))
  refine eO 0 0 ?_ ?_ (IH (rest,k+1) ⟨g2,h⟩ (Nat.lt_succ_self _))
  ·(simp only[go_sem,hD,hY,hZ,gA,aI bO];try exact bW)
  ·(simp only[go_sem,hD,hY,hZ,gA,aI bO];try exact bW)
theorem Lo {l:List Int} (hl:l.length<4611686018427387904) (x:Int) (s:St):aF Tryz.prog np [.slice .shared 1 (l.map bE), .int .i64 x] s (.bool (l.contains x)) s:=by
 refine aF.pure ?_ (by simp[D.bL,D.ok,Tag.ok,iw]) rfl s
 have hi:=fun s=>VF hl x s
 have e:decide (vX x 0 l≥0)=l.contains x:=by
  have:=Md x l 0 (Int.le_refl 0)
  cases h:l.contains x<;>simp_all
 unfold S0
 refine aF.go we rfl fun B Q hB hQ=>?_
 have⟨hD,hY,hZ,gA⟩:=bP
 repeat' (first
 |simp only[go_sem,hD,hY,hZ,gA,e]
 |(with_reducible refine CU (hi _) ?_)
 |(with_reducible first|refine bo fun hc=>?_|refine bp fun hc=>?_|refine bq (fun hc=>?_) fun hc=>?_)<;>(try simp only[hc,bs,↓reduceIte]at h)<;>try simp only[hc]
 |(with_reducible refine aD hQ ?_;(try cases h);simp only[aU,aV,bH,bI,go_sem,hD,hY,hZ,gA,e];try exact cv)
 |(cases h;done))
theorem mX (names:List aG) (bV:List Int) (op n:Int) (name:aG) (kids:List Ex):Ex.val names bV ⟨op,n,name,kids⟩=if op==1 then(n,true)else if op==2 then(Pj name names bV,true)else H0 op (kids.map (Ex.val names bV)):=by
 have e : ∀ l:List Ex,Ex.Pk names bV l=l.map (Ex.val names bV):=fun l=>by
  induction l with
  |nil=>rfl
  |cons x l ih=>simp only[Ex.Pk,List.map_cons,ih]
 simp only[Ex.val,e]
theorem adP {names:List aG} {bV:List Int} (hn:names.length<4611686018427387904) (hv:bV.length<4611686018427387904) : ∀ (n:Nat) (x:Ex),x.dp (n:Int)=true→
 aF Tryz.prog lh [.agg (cj x), .slice .shared 1 (names.map encStr), .slice .shared 1 (bV.map bE)] S0 (zN (x.val names bV)) S0:=by
 intro n
 induction n with
 |zero=>rintro⟨op,v,name,kids⟩ h;rw[JH]at h;omega
 | succ n ih=>
  rintro⟨op,v,name,kids⟩ h
  rw[JH]at h
  obtain⟨_,hk,h⟩:=h
  have JN:=fun s=>Cg hn name s
  generalize hR:Ex.val names bV ⟨op,v,name,kids⟩=R
  rw[mX]at hR
  unfold S0
  by_cases o1:op=1
  ·subst o1
   simp only[beq_self_eq_true,if_true]at hR
   rw[← hR]
   show aF Tryz.prog lh _ _ (.tuple [.int .i64 v, .bool true]) _
   refine aF.go ov rfl fun B Q hB hQ=>?_
   have⟨hD,hY,hZ,gA⟩:=bP
   repeat' (first
 |simp only[go_sem,hD,hY,hZ,gA,beq_self_eq_true]
 |(with_reducible first|refine bo fun hc=>?_|refine bp fun hc=>?_|refine bq (fun hc=>?_) fun hc=>?_)<;>(try simp only[hc,bs,↓reduceIte]at h)<;>try simp only[hc]
 |(with_reducible refine aD hQ ?_;(try cases h);simp only[aU,aV,bH,bI,go_sem,hD,hY,hZ,gA,beq_self_eq_true];try exact cv)
 | (cases h;done))
  rw[if_neg o1]at h
  have b1:(op==1)=false:=by simp[o1]
  by_cases o2:op=2
  ·subst o2
   simp only[b1,Bool.false_eq_true,if_false,beq_self_eq_true,if_true,Pj]at hR
   by_cases hi:jf name 0 names≥0
   ·obtain⟨j,hj⟩:=Int.eq_ofNat_of_zero_le hi
    rw[if_pos hi]at hR
    have b2:decide (jf name 0 names≥0)=true:=by simpa using hi
    rw[hj]at b2 hR
    rw[hj]at JN
    rcases Nat.lt_or_ge j bV.length with hl|hl
    ·have b3:decide ((j:Int)<(bV.length:Int))=true:=by simp [hl]
     have hg:bV[j]? = some (bV.getD j 0):=by rw[List.getD_eq_getElem?_getD,List.getElem?_eq_getElem hl];rfl
     rw[Int.toNat_natCast]at hR
     rw[← hR]
     show aF Tryz.prog lh _ _ (.tuple [.int .i64 (bV.getD j 0), .bool true]) _
     refine aF.go ov rfl fun B Q hB hQ=>?_
     have⟨hD,hY,hZ,gA⟩:=bP
     repeat' (first
 |simp only[go_sem,hD,hY,hZ,gA,b1,b2,b3,hg,beq_self_eq_true,decide_true]
 |(with_reducible refine CU (JN _) ?_)
 |(with_reducible first|refine bo fun hc=>?_|refine bp fun hc=>?_|refine bq (fun hc=>?_) fun hc=>?_)<;>(try simp only[hc,bs,↓reduceIte]at h)<;>try simp only[hc]
 |(with_reducible refine aD hQ ?_;(try cases h);simp only[aU,aV,bH,bI,go_sem,hD,hY,hZ,gA,b1,b2,b3,hg,beq_self_eq_true,decide_true];try exact cv)
 | (cases h;done))
    ·have b3:decide ((j:Int)<(bV.length:Int))=false:=by simp;omega
     rw[Int.toNat_natCast,List.getD_eq_getElem?_getD,List.getElem?_eq_none hl,Option.getD_none]at hR
     rw[← hR]
     show aF Tryz.prog lh _ _ (.tuple [.int .i64 0, .bool true]) _
     refine aF.go ov rfl fun B Q hB hQ=>?_
     have⟨hD,hY,hZ,gA⟩:=bP
     repeat' (first
 |simp only[go_sem,hD,hY,hZ,gA,b1,b2,b3,beq_self_eq_true,decide_true]
 |(with_reducible refine CU (JN _) ?_)
 |(with_reducible first|refine bo fun hc=>?_|refine bp fun hc=>?_|refine bq (fun hc=>?_) fun hc=>?_)<;>(try simp only[hc,bs,↓reduceIte]at h)<;>try simp only[hc]
 |(with_reducible refine aD hQ ?_;(try cases h);simp only[aU,aV,bH,bI,go_sem,hD,hY,hZ,gA,b1,b2,b3,beq_self_eq_true,decide_true];try exact cv)
 | (cases h;done))
   ·rw [if_neg hi]at hR
    have b2:decide (jf name 0 names≥0)=false:=by simpa using hi
    rw[← hR]
    show aF Tryz.prog lh _ _ (.tuple [.int .i64 0, .bool true]) _
    refine aF.go ov rfl fun B Q hB hQ=>?_
    have⟨hD,hY,hZ,gA⟩:=bP
    repeat' (first
 |simp only[go_sem,hD,hY,hZ,gA,b1,b2,beq_self_eq_true]
 |(with_reducible refine CU (JN _) ?_)
 |(with_reducible first|refine bo fun hc=>?_|refine bp fun hc=>?_|refine bq (fun hc=>?_) fun hc=>?_)<;>(try simp only[hc,bs,↓reduceIte]at h)<;>try simp only[hc]
 |(with_reducible refine aD hQ ?_;(try cases h);simp only[aU,aV,bH,bI,go_sem,hD,hY,hZ,gA,b1,b2,beq_self_eq_true];try exact cv)
 | (cases h;done))
  rw[if_neg o2]at h
  have b2:(op==2)=false:=by simp[o2]
  simp only[b1,b2,Bool.false_eq_true,if_false]at hR
  have hd:=h.2.2
  rw[show((n+1:Nat):Int) - 1=(n:Int) by omega]at hd
  have ihs : ∀ {y:Ex},y∈kids→∀ s,aF Tryz.prog lh [.agg (cj y), .slice .shared 1 (names.map encStr), .slice .shared 1 (bV.map bE)] s (zN (y.val names bV)) s:=fun {y} hy s=>by
   have:y.dp (n:Int)=true:=by
    have key : ∀ l:List Ex,Ex.Bw (n:Int) l=true→y∈l→y.dp (n:Int)=true:=fun l=>by
     induction l with
     |nil=>intro _ m;cases m
     | cons z l Sg=>
      intro hz m
      simp only[Ex.Bw]at hz
      split at hz
      ·cases hz
      ·rename_i hz'
       rcases List.mem_cons.1 m with rfl|m
       ·simpa using hz'
       ·exact Sg hz m
    exact key kids hd hy
   exact aF.pure (ih y this) (by simp[D.bL,D.ok,Tag.ok,lR,fb,iw]) rfl s
  clear h JN
  have n1:((1:Nat):Int)=1:=rfl
  have e1:((1:Int)==1)=true:=rfl
  have e2:((2:Int)==1)=false:=rfl
  rename _=R=>h
  cases kids with
  |nil=>simp[oj]at hk;omega
  | cons a kids=>
   have c1:=fun s=>ihs (y:=a) (by simp) s
   cases kids with
   |nil=>
    simp only[List.map_cons,List.map_nil,H0]at h
    refine aF.go ov rfl fun B Q hB hQ=>?_
    have⟨hD,hY,hZ,gA⟩:=bP
    repeat' (first
 |simp only[go_sem,hD,hY,hZ,gA,b1,b2,e1]
 |(with_reducible refine CU (c1 _) ?_)
 |(with_reducible refine CU (ahj _ _ _) ?_)
 |(with_reducible first|refine bo fun hc=>?_|refine bp fun hc=>?_|refine bq (fun hc=>?_) fun hc=>?_)<;>(try simp only[hc,bs,↓reduceIte]at h)<;>try simp only[hc]
 |(with_reducible refine aD hQ ?_;(try cases h);simp only[aU,aV,bH,bI,go_sem,hD,hY,hZ,gA,b1,b2,e1];try exact cv)
 | (cases h;done))
   | cons b kids=>
    cases kids with
    |nil=>
     have c2:=fun s=>ihs (y:=b) (by simp) s
     have e3 : [cj a,cj b][Int.toNat 1]? = some (cj b):=rfl
     simp only[List.map_cons,List.map_nil,H0]at h
     refine aF.go ov rfl fun B Q hB hQ=>?_
     have⟨hD,hY,hZ,gA⟩:=bP
     repeat' (first
 |simp only[go_sem,hD,hY,hZ,gA,b1,b2,e2,e3]
 |(with_reducible refine CU (c1 _) ?_)
 |(with_reducible refine CU (c2 _) ?_)
 |(with_reducible refine CU (ZR _ _) ?_)
 |(with_reducible refine CU (ahk _ _ _ _) ?_)
 |(with_reducible first|refine bo fun hc=>?_|refine bp fun hc=>?_|refine bq (fun hc=>?_) fun hc=>?_)<;>(try simp only[hc,bs,↓reduceIte]at h)<;>try simp only[hc]
 |(with_reducible refine aD hQ ?_;(try cases h);simp only[aU,aV,bH,bI,go_sem,hD,hY,hZ,gA,b1,b2,e2,e3];try exact cv)
 | (cases h;done))
    |cons c kids=>simp[oj]at hk;omega
theorem VG {x:Ex} {names:List aG} {bV:List Int} (hx:x.size<4611686018427387904) (ht:x.texts) (hn:names.length<4611686018427387904) (hv:bV.length<4611686018427387904) (s:St) :
 aF Tryz.prog wF [.agg (cj x), .slice .shared 1 (names.map encStr), .slice .shared 1 (bV.map bE)] s (zN (x.bC names bV)) s:=by
 refine aF.pure ?_ (by simp[D.bL,D.ok,Tag.ok,lR,fb,iw]) rfl s
 have hm:=fun s=>zt hx ht s
 rw[EG]at hm
 generalize h:x.bC names bV=R
 simp only[Ex.bC]at h
 unfold S0
 rcases Bool.eq_false_or_eq_true x.may with b|b
 ·rw [if_pos b]at h
  have c1:=fun s=>aF.pure (adP hn hv 20 x (by rw[show((20:Nat):Int)=20 from rfl,EG];exact b)) (by simp[D.bL,D.ok,Tag.ok,lR,fb,iw]) rfl s
  rw[h]at c1
  refine aF.go C0 rfl fun B Q hB hQ=>?_
  have⟨hD,hY,hZ,gA⟩:=bP
  repeat' (first
 |simp only[go_sem,hD,hY,hZ,gA,b]
 |(with_reducible refine CU (hm _) ?_)
 |(with_reducible refine CU (c1 _) ?_)
 |(with_reducible first|refine bo fun hc=>?_|refine bp fun hc=>?_|refine bq (fun hc=>?_) fun hc=>?_)<;>(try simp only[hc,bs,↓reduceIte]at h)<;>try simp only[hc]
 |(with_reducible refine aD hQ ?_;(try cases h);simp only[aU,aV,bH,bI,go_sem,hD,hY,hZ,gA,b];try exact cv)
 |(cases h;done))
 ·rw [if_neg (by simp [b])]at h
  refine aF.go C0 rfl fun B Q hB hQ=>?_
  have⟨hD,hY,hZ,gA⟩:=bP
  repeat' (first
 |simp only[go_sem,hD,hY,hZ,gA,b]
 |(with_reducible refine CU (hm _) ?_)
 |(with_reducible first|refine bo fun hc=>?_|refine bp fun hc=>?_|refine bq (fun hc=>?_) fun hc=>?_)<;>(try simp only[hc,bs,↓reduceIte]at h)<;>try simp only[hc]
 |(with_reducible refine aD hQ ?_;(try cases h);simp only[aU,aV,bH,bI,go_sem,hD,hY,hZ,gA,b];try exact cv)
 |(cases h;done))
theorem zO {size bytes:Nat} {rows:List (List D)} (h:rows≠ []) (hl:rows.length*(bytes+1)≤bA) {z:Nat} {g:Tag} (o:List (List D)) (T:List (Option Nat)) :
 ix size bytes (.slice .full z []) (.slice g size rows) ⟨o,T⟩=some (.slice (.tok T.length) size rows,⟨o,T++ [some rows.length]⟩):=by
 cases rows with
 |nil=>exact absurd rfl h
 |cons x r=>simp only[List.length_cons]at hl;simp[ix,hl]
theorem zP {size bytes z z':Nat} {g:Tag} (o:List (List D)) (T:List (Option Nat)) :
 ix size bytes (.slice .full z []) (.slice g z' []) ⟨o,T⟩=some (.slice .full z [],⟨o,T⟩):=by simp[ix,bA]
def Sm.bare (v:Sm):Sm:= {v with aZ:= [],aR:= []}
end Go.Abs
