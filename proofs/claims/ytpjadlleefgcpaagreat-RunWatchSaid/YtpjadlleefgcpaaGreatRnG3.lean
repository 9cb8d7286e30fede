/-
  What is proved here: part 3 of the road to the claim (Sc2, Sc3, ScP, Sc4, Rng, FineM, Sc5, Ar1, Ar2, Ar3, Srt1, Shelf, SortR, SrtP, Tc1, Tc2, Tc3, Bsl, Tc4, Tc5, Tc6, FlP, JmpP, Jm1, Jm2, MirRun, RunTot, RunFu, RunOk, Swap0, Swap2p, ToP, Al1, Al2, Al3, MirParse, Room1, Al4, Full1, Fits1, Fits2, MirEq, RefEq2, LawTo1, AlP, LawAl2, SwP, MirMapS, RightP, RunLo, RunNm, RunMc, RunI, Ev1, Ev2, Cp1).
  No conditions.
-/
import Derived.Test.YtpjadlleefgcpaaGreatRnG2
import Derived.Shelf.Small.Bits
import Derived.Shelf.Strconv.Itoa0
import Derived.Shelf.Sort.Plain
import Derived.Shelf.Slices.Turned
import Derived.Ground.Names2Prog
import Derived.Shelf.Slices.Clone
import Derived.Shelf.Slices.CompactS
import Derived.Shelf.Slices.Cells
import Derived.Shelf.Slices.In.SortNone
import Derived.Ground.SlgnProg
import Derived.Shelf.SlicesE.Clone
import Derived.Test.YtpjadlleefgcpaaGreatProg
import Derived.Sort.Walk0

set_option linter.unusedSimpArgs false
set_option linter.unusedVariables false
namespace Go.Abs
set_option maxRecDepth 8000
open Go.Proofs
def wP (vars globals:List aG) (name:aG):List Pm→Int
 | []=>if fx vars name then 4 else if fx globals name then 1 else 0
 |a::l=>if a.name==name then(if a.ref then 3 else 2)else wP vars globals name l
def Pc.lD (p:Pg) (f:Pc) (name:aG):Int:=wP f.vars p.globals name f.params
theorem JQ {p:Pg} {f:Pc} (hp:f.params.length<1000000000) (hv:f.vars.length<1000000000) (hg:p.globals.length<1000000000) (name:aG) (s:St):aF Tryz.prog vz [.agg (cz p), .agg (cu f), .str name] s (.int .i64 (f.lD p name)) s:=by
 refine aF.pure ?_ (by simp[D.bK,D.ok,jw,xm]) rfl s
 have rY:=jC (l:=f.vars) (by omega) name
 have uz:=jC (l:=p.globals) (by omega) name
 generalize h:f.lD p name=q
 simp only[Pc.lD]at h
 unfold S0
 refine aF.go FQ rfl fun B Q hB hQ=>?_
 have⟨hD,hY,hZ,gA⟩:=bR
 repeat' (first
 |simp only[go_sem,hD,hY,hZ,gA]
 |(with_reducible refine aE hQ ?_;exact bc))
 refine ff 2 0 (bp.ind (ι:=List Pm×Nat) (fun i=>f.params.drop i.2=i.1∧wP f.vars p.globals name i.1=q) (fun i=>i.1.length)
  (fun i=> [(2, .str name),(3, .ptr 0 0),(4, .ptr 1 0),(10, .slice .shared 2 (f.params.map iJ)),(11, .int .i64 (f.params.length:Int)),(12, .int .i64 (i.2:Int))]) (fun i=>⟨[cz p,cu f],[]⟩) ?_ (f.params,0) ⟨rfl,h⟩)
 rintro⟨rest,k⟩ ⟨h1,h⟩ IH
 dsimp only at h1 h
 cases rest with
 | nil=>
  have hD:=drop_nil h1
  simp only[wP]at h
  rcases Bool.eq_false_or_eq_true (fx f.vars name)with b1|b1
  ·simp only [b1,if_true]at h
   subst h
   repeat' (first
 |simp only[go_sem,hD,hY,hZ,gA,b1]
 |(with_reducible refine CU (rY _ _) ?_)
 |(with_reducible refine CU (uz _ _) ?_)
 | (with_reducible refine aE hQ ?_;exact bc))
  ·simp only [b1,Bool.false_eq_true,if_false]at h
   rcases Bool.eq_false_or_eq_true (fx p.globals name)with b2|b2
   ·simp only [b2,if_true]at h
    subst h
    repeat' (first
 |simp only[go_sem,hD,hY,hZ,gA,b1,b2]
 |(with_reducible refine CU (rY _ _) ?_)
 |(with_reducible refine CU (uz _ _) ?_)
 | (with_reducible refine aE hQ ?_;exact bc))
   ·simp only [b2,Bool.false_eq_true,if_false]at h
    subst h
    repeat' (first
 |simp only[go_sem,hD,hY,hZ,gA,b1,b2]
 |(with_reducible refine CU (rY _ _) ?_)
 |(with_reducible refine CU (uz _ _) ?_)
 |(with_reducible refine aE hQ ?_;exact bc))
 | cons a rest=>
  obtain⟨hY,g2,hD,g4⟩:=drop_cons h1
  have bO:k<4611686018427387904:=by omega
  simp only[wP]at h
  rcases Bool.eq_false_or_eq_true (a.name==name)with b1|b1
  ·simp only [b1,if_true]at h
   rcases Bool.eq_false_or_eq_true a.ref with b2|b2
   ·simp only [b2,if_true]at h
    subst h
    repeat' (first
 |simp only[go_sem,hD,hY,hZ,gA,b1,b2]
 | (with_reducible refine aE hQ ?_;exact bc))
   ·simp only [b2,Bool.false_eq_true,if_false]at h
    subst h
    repeat' (first
 |simp only[go_sem,hD,hY,hZ,gA,b1,b2]
 | (with_reducible refine aE hQ ?_;exact bc))
  ·simp only [b1,Bool.false_eq_true,if_false]at h
   repeat' (first
 |simp only[go_sem,hD,hY,hZ,gA,b1]
 | (with_reducible refine aE hQ ?_;exact bc))
   refine eQ 2 0 ?_ ?_ (IH (rest,k+1) ⟨g2,h⟩ (Nat.lt_succ_self _))
   ·(simp only[go_sem,hD,hY,hZ,gA,aI bO];try exact bX)
   ·(simp only[go_sem,hD,hY,hZ,gA,aI bO];try exact bX)
def iV (name:aG):List Pc→Option Pc
 | []=>none
 |f::l=>if f.name==name then some f else iV name l
def Pg.find (p:Pg) (name:aG):Option Pc:=iV name p.procs
def pc0:Pc:=⟨[],[],[],[],[]⟩
def aoz (r:Option Pc):D:= .tuple [.agg (cu (r.getD pc0)), .bool r.isSome]
set_option maxRecDepth 8000
open Go.Proofs
def Pc.tx (f:Pc):List aG:=f.params.map (·.name)
def Pc.own (f:Pc):List aG:=f.tx++f.vars
theorem XY {f:Pc} (hp:f.params.length<1000000) (hv:f.vars.length<1000000) (s:St):aF Tryz.prog sN [.agg (cu f)] s (.slice .shared 1 (f.own.map encStr)) s:=by
 refine aF.pure ?_ (by simp[D.bK,D.ok,xm]) (by simp only[D.ok,Tag.ok,fa];rfl) s
 generalize hR:f.own=R
 simp only[Pc.own]at hR
 unfold S0
 refine aF.go HN rfl fun B Q hB hQ=>?_
 have⟨hD,hY,hZ,gA⟩:=bR
 repeat' (first
 |simp only[go_sem,hD,hY,hZ,gA]
 |(with_reducible refine aE hQ ?_;exact bc))
 refine bp.q6 3 1 rfl ?_
 simp only[go_sem,hD,hY,hZ,gA]
 refine ff 1 1 (bp.ind (ι:=List Pm×Nat×List aG×Nat) (fun i=>f.params.drop i.2.1=i.1∧i.2.2.1++i.1.map (·.name)=f.tx∧i.2.2.2=i.2.2.1.length) (fun i=>i.1.length)
  (fun i=> [(1, .ptr 0 0),(3, .slice (.tok 0) 1 (i.2.2.1.map encStr)),(7, .slice .shared 2 (f.params.map iJ)),(8, .int .i64 (f.params.length:Int)),(9, .int .i64 (i.2.1:Int))]) (fun i=>⟨[cu f],[some i.2.2.2]⟩) ?_ (f.params,0,[],0) ⟨rfl,rfl,rfl⟩)
 rintro⟨rest,k,out,n⟩ ⟨h1,h2,h3⟩ IH
 dsimp only at h1 h2 h3
 subst h3
 have hlo:out.length+rest.length<1000000:=by
  have:=congrArg List.length h2
  simp only[List.length_append,List.length_map,Pc.tx]at this
  omega
 cases rest with
 |nil=>
  have hD:=drop_nil h1
  simp only[List.map_nil,List.append_nil]at h2
  subst hR
  rw[← h2]at hQ
  have eO:=kI (l:=out) (nx:=f.vars) rfl (by omega) (g:= .shared)
  repeat' (first
 |simp only[go_sem,hD,hY,hZ,gA,eO]
 |(with_reducible refine aE hQ ?_;exact bc))
 |cons a rest=>
  obtain⟨hY,g2,hD,g4⟩:=drop_cons h1
  have bO:k<4611686018427387904:=by omega
  have hZ:(out.length+1)*17≤bC:=by unfold bC;omega
  repeat' (first
 |simp only[go_sem,hD,hY,hZ,gA]
 |(with_reducible refine aE hQ ?_;exact bc))
  refine eQ 1 1 ?_ ?_ (IH (rest,k+1,out++ [a.name],out.length+1) ⟨g2,by rw[← h2];simp,by simp⟩ (Nat.lt_succ_self _))
  ·(simp only[go_sem,hD,hY,hZ,gA,aI bO,List.map_append,List.map_cons,List.map_nil,encStr];try exact bX)
  ·(simp only[go_sem,hD,hY,hZ,gA,aI bO,List.map_append,List.map_cons,List.map_nil,encStr];try exact bX)
def iK:aG:= [109,97,105,110]
def Sm.known (p:Pg) (f:Pc) (procs:List aG) (v:Sm):Bool:=
 !(v.said.any fun n=>f.lD p n==0) && (v.kind != 4 ||(v.proc != iK && fx procs v.proc))
structure Pc.Small (p:Pg) (f:Pc):Prop where
 par:f.params.length<1000000
 vars:f.vars.length<1000000
 ui:p.globals.length<1000000
def Ck (p:Pg) (f:Pc):List aG→Bool
 | []=>true
 |n::l=>if f.lD p n==0 then false else Ck p f l
theorem G0 (p:Pg) (f:Pc) : ∀ l,Ck p f l = !(l.any fun n=>f.lD p n==0)
 | []=>rfl
 |n::l=>by
  simp only[Ck,List.any_cons,G0 p f l]
  cases (f.lD p n==0)<;>simp
theorem JR (v:Sm) (h:v.nz):v.said.length<3000000:=by
 have : ∀ (l:List Ar) (out:List aG),(Ar.said out l).length≤out.length+2*Ar.a7 l:=by
  intro l
  induction l with
  |nil=>intro out;simp[Ar.said]
  |cons a l ih=>
   intro out
   simp only[Ar.said,Ar.a7]
   refine Nat.le_trans (ih _) ?_
   have:=lj a.x
   have:1≤a.x.size:=by obtain⟨_,_,_,_⟩:=a.x;simp[Ex.size]
   simp only[List.length_append]
   split<;>simp<;>omega
 have h1:=this v.args (v.sP++v.x.names)
 have h2:=lj v.x
 have h3:=h.2.2
 have h4:v.sP.length≤1:=by unfold Sm.sP;split<;>simp
 simp only[List.length_append]at h1
 unfold Sm.said
 omega
theorem ZH {p:Pg} {f:Pc} {procs:List aG} {v:Sm} (hs:f.Small p) (wQ:procs.length<1000000) (hv:v.nz) (s:St):aF Tryz.prog ql [.agg (cz p), .agg (cu f), .slice .shared 1 (procs.map encStr), .agg (bh v)] s (.bool (v.known p f procs)) s:=by
 refine aF.pure ?_ (by simp[D.bK,D.ok,jw,xm,q8,Tag.ok,fa]) rfl s
 have hn:=fun s=>Bz hv s
 have hk:=fun n s=>JQ (p:=p) (f:=f) (by have:=hs.par;omega) (by have:=hs.vars;omega) (by have:=hs.ui;omega) n s
 have adl:=jC (l:=procs) (by omega) v.proc
 have hl:=JR v hv
 generalize h:v.known p f procs=q
 simp only[Sm.known, ← G0]at h
 unfold S0
 refine aF.go EC rfl fun B Q hB hQ=>?_
 have⟨hD,hY,hZ,gA⟩:=bR
 repeat' (first
 |simp only[go_sem,hD,hY,hZ,gA]
 |(with_reducible refine CU (hn _) ?_)
 |(with_reducible refine aE hQ ?_;exact bc))
 refine ff 3 0 (bp.ind (ι:=List aG×Nat) (fun i=>v.said.drop i.2=i.1∧(Ck p f i.1 && (v.kind != 4 ||(v.proc != iK && fx procs v.proc)))=q) (fun i=>i.1.length)
  (fun i=> [(2, .slice .shared 1 (procs.map encStr)),(4, .ptr 0 0),(5, .ptr 1 0),(7, .ptr 2 0),(12, .slice .shared 1 (v.said.map encStr)),(13, .int .i64 (v.said.length:Int)),(14, .int .i64 (i.2:Int))]) (fun i=>⟨[cz p,cu f,bh v],[]⟩) ?_ (v.said,0) ⟨rfl,h⟩)
 rintro⟨rest,k⟩ ⟨h1,h⟩ IH
 dsimp only at h1 h
 cases rest with
 | nil=>
  have hD:=drop_nil h1
  simp only[Ck,Bool.true_and]at h
  rcases Bool.eq_false_or_eq_true (v.kind != 4)with b1|b1
  ·simp only [b1,Bool.true_or]at h
   subst h
   repeat' (first
 |simp only[go_sem,hD,hY,hZ,gA,b1]
 | (with_reducible refine aE hQ ?_;exact bc))
  ·simp only [b1,Bool.false_or]at h
   rcases Bool.eq_false_or_eq_true (v.proc != iK)with b2|b2
   ·simp only [b2,Bool.true_and]at h
    unfold iK at b2
    have b3:(v.proc == [109,97,105,110]) = !(v.proc != [109,97,105,110]):=by simp only[bne,Bool.not_not]
    rw[b2]at b3
    simp only[Bool.not_true,Bool.not_false]at b3
    subst h
    repeat' (first
 |simp only[go_sem,hD,hY,hZ,gA,b1,b2,b3]
 |(with_reducible refine CU (adl _ _) ?_)
 | (with_reducible refine aE hQ ?_;exact bc))
   ·simp only [b2,Bool.false_and]at h
    unfold iK at b2
    have b3:(v.proc == [109,97,105,110]) = !(v.proc != [109,97,105,110]):=by simp only[bne,Bool.not_not]
    rw[b2]at b3
    simp only[Bool.not_true,Bool.not_false]at b3
    subst h
    repeat' (first
 |simp only[go_sem,hD,hY,hZ,gA,b1,b2,b3]
 |(with_reducible refine CU (adl _ _) ?_)
 |(with_reducible refine aE hQ ?_;exact bc))
 | cons a rest=>
  obtain⟨hY,g2,hD,g4⟩:=drop_cons h1
  have bO:k<4611686018427387904:=by omega
  simp only[Ck]at h
  rcases Bool.eq_false_or_eq_true (f.lD p a==0)with b1|b1
  ·simp only [b1,if_true,Bool.false_and]at h
   subst h
   repeat' (first
 |simp only[go_sem,hD,hY,hZ,gA,b1]
 |(with_reducible refine CU (hk _ _) ?_)
 | (with_reducible refine aE hQ ?_;exact bc))
  ·simp only [b1,Bool.false_eq_true,if_false]at h
   repeat' (first
 |simp only[go_sem,hD,hY,hZ,gA,b1]
 |(with_reducible refine CU (hk _ _) ?_)
 | (with_reducible refine aE hQ ?_;exact bc))
   refine eQ 3 0 ?_ ?_ (IH (rest,k+1) ⟨g2,h⟩ (Nat.lt_succ_self _))
   ·(simp only[go_sem,hD,hY,hZ,gA,aI bO];try exact bX)
   ·(simp only[go_sem,hD,hY,hZ,gA,aI bO];try exact bX)
theorem L0 : ∀ (l pre:List aG),qd pre l=true↔(∃ x∈l,x∈pre)∨¬ l.Nodup
 | [],pre=>by simp[qd]
 | s::l,pre=>by
  simp only[qd]
  by_cases h:fx pre s=true
  ·simp only [h,if_true,true_iff]
   exact .inl ⟨s,List.mem_cons_self,(ji _ _).1 h⟩
  ·have h':s∉pre:=fun m=>h ((ji _ _).2 m)
   simp only[h,if_false,Bool.false_eq_true]
   rw[L0 l (pre++ [s])]
   simp only[List.mem_append,List.mem_singleton,List.mem_cons,List.nodup_cons,exists_eq_or_imp]
   constructor
   ·rintro(⟨x,m,h1 | h1⟩ | h1)
    ·exact .inl (.inr ⟨x,m,h1⟩)
    ·have h1:x=s:=by simpa using h1
     subst h1;exact .inr fun h=>h.1 m
    ·exact .inr fun h=>h1 h.2
   ·rintro((h1 | ⟨x,m,h1⟩) | h1)
    ·exact absurd h1 h'
    ·exact .inl ⟨x,m, .inl h1⟩
    ·by_cases m:s∈l
     ·exact .inl ⟨s,m, .inr (.inl rfl)⟩
     ·exact .inr fun h=>h1 ⟨m,h⟩
theorem G1 (l:List aG):fF l=true↔¬ l.Nodup:=by
 unfold fF;rw[L0];simp
theorem RX (a b:List aG):fF (a++b)=(fF a ||(fF b ||b.any (fx a))):=by
 have h:fF (a++b)=true↔(fF a ||(fF b ||b.any (fx a)))=true:=by
  rw[G1,List.nodup_append]
  simp only[Bool.or_eq_true,G1,List.any_eq_true,ji]
  constructor
  ·intro h
   by_cases ha:a.Nodup
   ·by_cases hb:b.Nodup
    ·refine .inr (.inr (Classical.byContradiction fun hn=>h ⟨ha,hb,fun x hx y hy e=>hn ⟨y,hy,e ▸ hx⟩⟩))
    ·exact .inr (.inl hb)
   ·exact .inl ha
  ·rintro(h | h | ⟨x,h1,h2⟩) ⟨h3,h4,h5⟩
   ·exact h h3
   ·exact h h4
   ·exact h5 x h2 x h1 rfl
 cases h1:fF (a++b)<;>cases h2:(fF a ||(fF b ||b.any (fx a)))<;>simp_all
theorem JS (name:aG) : ∀ (l:List Pc) (k:Nat),(iV name l=none∧jh name (k:Int) (l.map (·.name)) = -1)∨∃ f j,iV name l=some f∧l[j]? = some f∧jh name (k:Int) (l.map (·.name))=((k+j:Nat):Int)
 | [],k=> .inl ⟨rfl,rfl⟩
 | f::l,k=>by
  by_cases h:f.name=name
  ·subst h
   refine .inr ⟨f,0,by simp[iV],rfl,by simp[jh]⟩
  ·have h1:(f.name==name)=false:=by simp [h]
   have h2:(name==f.name)=false:=by simp[Ne.symm h]
   simp only[iV,h1,Bool.false_eq_true,if_false,List.map_cons,jh,h2]
   rcases JS name l (k+1)with ⟨g1,g2⟩|⟨g,j,g1,g2,g3⟩
   ·exact .inl ⟨g1,by rw[← g2];rfl⟩
   ·refine .inr ⟨g,j+1,g1,by simpa using g2, ?_⟩
    rw[show((k:Int)+1)=((k+1:Nat):Int)from rfl,g3]
    congr 1;omega
theorem sw {name:aG} {f:Pc} : ∀ {l:List Pc},iV name l=some f→f∈l∧f.name=name
 |g::l,h=>by
  simp only[iV]at h
  split at h
  ·rename_i e;cases h;exact⟨List.mem_cons_self,by simpa using e⟩
  ·have:=sw h;exact⟨List.mem_cons_of_mem _ this.1,this.2⟩
mutual
theorem RY (deep cy:Int) (aR:Bool) (out:List It) : ∀ s:Sm,∃ e,iT deep cy aR out s=out++e
 | ⟨id,kind,labels,name,proc,x,has,args,a8,e⟩=>by
  simp only[iT]
  split
  ·obtain⟨e1,h1⟩:=tz (deep+1) id false (out++ [⟨⟨id,kind,labels,name,proc,x,has,args,a8,e⟩,deep,cy,aR⟩]) a8
   obtain⟨e2,h2⟩:=tz (deep+1) id true (dR (deep+1) id false (out++ [⟨⟨id,kind,labels,name,proc,x,has,args,a8,e⟩,deep,cy,aR⟩]) a8) e
   rw[h2,h1]
   exact⟨_,by rw[List.append_assoc,List.append_assoc]⟩
  ·exact⟨_,rfl⟩
theorem tz (deep cy:Int) (aR:Bool) (out:List It) : ∀ l:List Sm,∃ e,dR deep cy aR out l=out++e
 | []=>⟨[],by simp[dR]⟩
 | s::l=>by
  simp only[dR]
  split
  ·obtain⟨e1,h1⟩:=RY deep cy aR out s
   obtain⟨e2,h2⟩:=tz deep cy aR (iT deep cy aR out s) l
   rw[h2,h1]
   exact⟨_,by rw[List.append_assoc]⟩
  ·exact⟨[],by simp⟩
end
mutual
theorem RZ (deep cy:Int) (aR:Bool) (out:List It) : ∀ s:Sm,(iT deep cy aR out s).length≤200→(∀ i∈iT deep cy aR out s,i.deep≤12)→(iT deep cy aR out s).map It.s=out.map It.s++s.pre
 | ⟨id,kind,labels,name,proc,x,has,args,a8,e⟩,h1,h2=>by
  simp only[iT,Sm.pre]at h1 h2 ⊢
  by_cases hd:deep≤12
  ·simp only [hd,decide_true,if_true]at h1 h2 ⊢
   obtain⟨e2,g2⟩:=tz (deep+1) id true (dR (deep+1) id false (out++ [⟨⟨id,kind,labels,name,proc,x,has,args,a8,e⟩,deep,cy,aR⟩]) a8) e
   have k1:(dR (deep+1) id false (out++ [⟨⟨id,kind,labels,name,proc,x,has,args,a8,e⟩,deep,cy,aR⟩]) a8).length≤200:=by
    rw[g2,List.length_append]at h1;omega
   have k2 : ∀ i∈dR (deep+1) id false (out++ [⟨⟨id,kind,labels,name,proc,x,has,args,a8,e⟩,deep,cy,aR⟩]) a8,i.deep≤12:=fun i m=>h2 i (by rw[g2];exact List.mem_append_left _ m)
   rw[wR (deep+1) id true _ e h1 h2,wR (deep+1) id false _ a8 k1 k2]
   simp
  ·simp only [hd,decide_false,Bool.false_eq_true,if_false]at h1 h2
   exact absurd (h2 _ (List.mem_append_right _ (List.mem_singleton.2 rfl))) (by simpa using hd)
theorem wR (deep cy:Int) (aR:Bool) (out:List It) : ∀ l:List Sm,(dR deep cy aR out l).length≤200→(∀ i∈dR deep cy aR out l,i.deep≤12)→(dR deep cy aR out l).map It.s=out.map It.s++Sm.dd l
 | [],h1,h2=>by simp[dR,Sm.dd]
 | s::l,h1,h2=>by
  simp only[dR,Sm.dd]at h1 h2 ⊢
  by_cases hc:(out.length:Int)≤200
  ·simp only [hc,decide_true,if_true]at h1 h2 ⊢
   obtain⟨e2,g2⟩:=tz deep cy aR (iT deep cy aR out s) l
   have k1:(iT deep cy aR out s).length≤200:=by rw[g2,List.length_append]at h1;omega
   have k2 : ∀ i∈iT deep cy aR out s,i.deep≤12:=fun i m=>h2 i (by rw[g2];exact List.mem_append_left _ m)
   rw[wR deep cy aR _ l h1 h2,RZ deep cy aR out s k1 k2]
   simp
  ·simp only [hc,decide_false,Bool.false_eq_true,if_false]at h1
   omega
end
theorem JT : ∀ (l:List Pc) (out:List It),(allM out l).length≤200→(∀ i∈allM out l,i.deep≤12)→(∀ f∈l,f.flat.map It.s=Sm.dd f.body)∧(allM out l).map It.s=out.map It.s++(l.map fun f=>Sm.dd f.body).flatten
 | [],out,h1,h2=>⟨fun f m=>(by cases m),by simp[allM]⟩
 | f::l,out,h1,h2=>by
  simp only[allM]at h1 h2 ⊢
  by_cases hc:(((out++f.flat).length:Nat):Int) > 200
  ·simp only[hc,decide_true,if_true]at h1;omega
  ·simp only [hc,decide_false,Bool.false_eq_true,if_false]at h1 h2 ⊢
   obtain⟨k1,k2⟩:=JT l (out++f.flat) h1 h2
   have pV : ∀ (l:List Pc) (out:List It),∃ e,allM out l=out++e:=by
    intro l
    induction l with
    |nil=>intro out;exact⟨[],by simp[allM]⟩
    |cons g l ih=>
     intro out
     simp only[allM]
     split
     ·exact⟨_,rfl⟩
     ·obtain⟨e,h⟩:=ih (out++g.flat);exact⟨g.flat++e,by rw[h];simp⟩
   obtain⟨e,he⟩:=pV l (out++f.flat)
   have k3:f.flat.map It.s=Sm.dd f.body:=by
    have:=wR 1 0 false [] f.body (by
     have:f.flat.length≤200:=by simp only[List.length_append]at hc;omega
     exact this) (fun i m=>h2 i (by rw[he];exact List.mem_append_left _ (List.mem_append_right _ m)))
    simpa[Pc.flat]using this
   refine⟨fun g m=>?_, ?_⟩
   ·rcases List.mem_cons.1 m with rfl | m
    ·exact k3
    ·exact k1 g m
   ·rw[k2];simp[k3]
theorem BD : ∀ (l:List It) (n:Nat),It.fP n l=true→(∀ i∈l,i.deep≤12)∧∀ (j:Nat) (i:It),l[j]? = some i→i.s.id=((n+j+1:Nat):Int)
 | [],n,h=>⟨fun i m=>(by cases m),fun j i h=>by simp at h⟩
 | a::l,n,h=>by
  simp only[It.fP]at h
  split at h
  ·cases h
  ·rename_i c
   simp only[Bool.or_eq_true,not_or,bne_iff_ne,ne_eq,Decidable.not_not,decide_eq_true_eq,Int.not_lt,gt_iff_lt]at c
   obtain⟨k1,k2⟩:=BD l (n+1) h
   refine⟨fun i m=>?_,fun j i hj=>?_⟩
   ·rcases List.mem_cons.1 m with rfl | m
    ·exact c.1.2
    ·exact k1 i m
   ·cases j with
    |zero=>simp at hj;subst hj;rw[c.1.1]
    |succ j=>simp at hj;rw[k2 j i hj];congr 1;omega
theorem Cl {p:Pg} (h:p.may=true):p.all.length≤200∧It.fP 0 p.all=true:=by
 unfold Pg.may at h
 split at h
 ·cases h
 ·split at h
  ·cases h
  ·split at h
   ·cases h
   ·rename_i c
    exact⟨by simp only[decide_eq_true_eq,Int.not_lt,gt_iff_lt]at c;omega,h⟩
theorem zz {p:Pg} (h:p.may=true):(∀ f∈p.procs,f.flat.map It.s=Sm.dd f.body)∧p.all.map It.s=p.pre:=by
 obtain⟨h1,h2⟩:=Cl h
 have:=JT p.procs [] h1 (BD _ 0 h2).1
 simpa[Pg.pre,Pg.all]using this
theorem BE {p:Pg} (h:p.may=true) {i:Nat} {v:Sm} (hv:p.pre[i]? = some v):v.id=((i+1:Nat):Int):=by
 rw[← (zz h).2,List.getElem?_map,Option.map_eq_some_iff]at hv
 obtain⟨it,h1,rfl⟩:=hv
 have:=(BD _ 0 (Cl h).2).2 i it h1
 rw[this];congr 1;omega
set_option maxRecDepth 8000
open Go.Proofs
structure Pg.iP (p:Pg):Prop where
 O9:p.H7
 sz:p.size≤900000
mutual
theorem adn : ∀ s:Sm,s.wJ→s.size<1000000→∀ v∈s.pre,v.nz∧v.ug
 |⟨id,kind,labels,name,proc,x,has,args,a8,aR⟩,h,hs,v,m=>by
  simp only[Sm.wJ]at h
  simp only[Sm.size]at hs
  simp only[Sm.pre,List.mem_cons,List.mem_append]at m
  rcases m with rfl|m|m
  ·exact⟨⟨h.1.xt,fun a ha=>(h.1.arg a ha).2.1,by dsimp only;omega⟩,h.1⟩
  ·exact Cm a8 h.2.1 (by omega) v m
  ·exact Cm aR h.2.2 (by omega) v m
theorem Cm : ∀ l:List Sm,Sm.kv l→Sm.a7 l<1000000→∀ v∈Sm.dd l,v.nz∧v.ug
 | [],h,hs,v,m=>by simp[Sm.dd]at m
 |s::l,h,hs,v,m=>by
  simp only[Sm.kv]at h
  simp only[Sm.a7]at hs
  simp only[Sm.dd,List.mem_append]at m
  rcases m with m|m
  ·exact adn s h.1 (by omega) v m
  ·exact Cm l h.2 (by omega) v m
end
theorem Pg.iP.said {p:Pg} (h:p.iP) {f:Pc} (hf:f∈p.procs) : ∀ v∈Sm.dd f.body,v.nz:=fun v m=>by
 have h1:=Pc.dk hf
 have h2:=h.sz
 simp only[Pg.size]at h2
 simp only[Pc.size]at h1
 exact(Cm f.body (h.O9.body f hf) (by omega) v m).1
theorem Pg.iP.small {p:Pg} (h:p.iP) {f:Pc} (hf:f∈p.procs):f.Small p:=by
 have h1:=Pc.dk hf
 have h2:=h.sz
 simp only[Pg.size]at h2
 simp only[Pc.size]at h1
 exact⟨by omega,by omega,by omega⟩
theorem Pg.iP.procs {p:Pg} (h:p.iP):p.procs.length≤900000∧Pc.a7 p.procs≤900000∧p.globals.length≤900000:=by
 have h2:=h.sz
 have h3:=Pc.eH p.procs
 simp only[Pg.size]at h2
 omega
def Pg.pn (p:Pg):List aG:=p.procs.map (·.name)
def BF (p:Pg) (f:Pc) (procs:List aG):List Sm→Option Sm
 | []=>none
 |v::l=>if v.known p f procs then BF p f procs l else some v
def vK (p:Pg) (procs:List aG):List Pc→Int×Int
 | []=>(0,0)
 |f::l=>if fF (p.globals++f.own)then(5,0)else match BF p f procs (Sm.dd f.body)with|some v=>(5,v.id)|none=>vK p procs l
def Pg.tA (p:Pg):Bool:=match p.find iK with|none=>true|some m=>decide ((m.params.length:Int) > 0)
def Pg.scope (p:Pg):Int×Int:=
 if p.may then if fF p.globals ||(fF p.pn ||p.tA)then(5,0)else vK p p.pn p.procs else(1,0)
theorem Vu (p:Pg) (hl:p.globals.length<1000000) (n:aG):aF Tryz.prog oR ([.str n]++ [.ptr 0 0]) ⟨[cz p],[]⟩ (.bool (fx p.globals n)) ⟨[cz p],[]⟩:=by
 show aF Tryz.prog oR [.str n, .ptr 0 0] _ _ _
 have pJ:=jC (l:=p.globals) (by omega) n
 refine aF.go CF rfl fun B Q hB hQ=>?_
 have⟨hD,hY,hZ,gA⟩:=bR
 repeat' (first
 |simp only[go_sem,hD,hY,hZ,gA]
 |(with_reducible refine CU (pJ _ _) ?_)
 |(with_reducible refine aE hQ ?_;exact bc))
theorem XZ (n m:Nat) (p:Pg):D.gx n m (fA p)=fA p:=ie n m _ (uh p)
attribute [go_sem] XZ
theorem ZI {p:Pg} {f:Pc} {procs:List aG} {v:Sm} (hs:f.Small p) (wQ:procs.length<1000000) (hv:v.nz) (g:Tag) (s:St):aF Tryz.prog ql [.agg (cz p), .agg (cu f), .slice g 1 (procs.map encStr), .agg (bh v)] s (.bool (v.known p f procs)) s:=
 bM.qY (.cons (Wk.refl _) (.cons (Wk.refl _) (.cons (Wk.shared g 1 _) (jr.refl _)))) (ZH hs wQ hv s)
theorem vL {p:Pg} (h:p.iP) (s:St):aF Tryz.prog lZ [.agg (cz p)] s (.agg [.int .i64 p.scope.1, .int .i64 p.scope.2]) s:=by
 refine aF.pure ?_ (by simp[D.bK,D.ok,jw]) rfl s
 have hm:=fun s=>JL h.O9 s
 simp only[Cj]at hm
 obtain⟨rV,rH,rG⟩:=h.procs
 have dh:=fun s=>Cf (p:=p) (by omega) s
 have pL:=fun s=>DF (l:=p.globals) (by omega) .shared s
 have hpn:p.pn.length=p.procs.length:=by simp[Pg.pn]
 have Ed:=fun g s=>DF (l:=p.pn) (by omega) g s
 have JU:=fun g s=>(Cg (l:=p.pn) (by omega) iK s).XU (Wk.shared g 1 (p.pn.map encStr))
 have DG:=fun g s=>(show aF Tryz.prog fZ [.slice g 1 (p.pn.map encStr), .str [109,97,105,110]] s (.int .i64 (jh iK 0 p.pn)) s from JU g s)
 generalize hR:p.scope=R
 simp only[Pg.scope]at hR
 unfold S0
 rcases Bool.eq_false_or_eq_true p.may with hb|hb
 case inr=>
  simp only[hb]at hm
  simp only[hb,Bool.false_eq_true,if_false]at hR
  subst hR
  refine aF.go wE rfl fun B Q hB hQ=>?_
  have⟨hD,hY,hZ,gA⟩:=bR
  repeat' (first
 |simp only[go_sem,hD,hY,hZ,gA]
 |(with_reducible refine CU (hm _) ?_)
 |(with_reducible refine aE hQ ?_;exact bc))
 simp only[hb]at hm
 simp only[hb,if_true]at hR
 refine aF.go wE rfl fun B Q hB hQ=>?_
 have⟨hD,hY,hZ,gA⟩:=bR
 repeat' (first
 |simp only[go_sem,hD,hY,hZ,gA]
 |(with_reducible refine CU (hm _) ?_)
 |(with_reducible refine aE hQ ?_;exact bc))
 refine bp.q6 3 1 rfl ?_
 simp only[go_sem,hD,hY,hZ,gA]
 refine ff 2 1 (bp.ind (ι:=List Pc×Nat×List aG×Nat) (fun i=>p.procs.drop i.2.1=i.1∧i.2.2.1++i.1.map (·.name)=p.pn∧i.2.2.2=i.2.2.1.length) (fun i=>i.1.length)
  (fun i=> [(1, .ptr 0 0),(2, .ptr 1 0),(3, .slice (.tok 0) 1 (i.2.2.1.map encStr)),(18, .slice .shared 5 (p.procs.map cu)),(19, .int .i64 (p.procs.length:Int)),(20, .int .i64 (i.2.1:Int))]) (fun i=>⟨[cz p,[.int .i64 0, .int .i64 0]],[some i.2.2.2]⟩) ?_ (p.procs,0,[],0) ⟨rfl,rfl,rfl⟩)
 rintro⟨rest,k,out,n⟩ ⟨h1,h2,h3⟩ IH
 dsimp only at h1 h2 h3
 subst h3
 have hlo:out.length+rest.length≤900000:=by
  have:=congrArg List.length h2
  simp only[List.length_append,List.length_map]at this
  omega
 cases rest with
 |cons a rest=>
  obtain⟨hY,g2,hD,g4⟩:=drop_cons h1
  have bO:k<4611686018427387904:=by omega
  have hZ:(out.length+1)*17≤bC:=by unfold bC;omega
  repeat' (first
 |simp only[go_sem,hD,hY,hZ,gA]
 |(with_reducible refine aE hQ ?_;exact bc))
  refine eQ 2 1 ?_ ?_ (IH (rest,k+1,out++ [a.name],out.length+1) ⟨g2,by rw[← h2];simp,by simp⟩ (Nat.lt_succ_self _))
  ·(simp only[go_sem,hD,hY,hZ,gA,aI bO,List.map_append,List.map_cons,List.map_nil,encStr];try exact bX)
  ·(simp only[go_sem,hD,hY,hZ,gA,aI bO,List.map_append,List.map_cons,List.map_nil,encStr];try exact bX)
 | nil=>
  have hD:=drop_nil h1
  simp only[List.map_nil,List.append_nil]at h2
  subst h2
  rcases Bool.eq_false_or_eq_true (fF p.globals)with b1|b1
  ·simp only [b1,Bool.true_or,if_true]at hR
   subst hR
   repeat' (first
 |simp only[go_sem,hD,hY,hZ,gA,b1]
 |(with_reducible refine CU (DG _ _) ?_)
 |(with_reducible refine CU (pL _) ?_)
 |(with_reducible refine CU (Ed _ _) ?_)
 | (with_reducible refine aE hQ ?_;exact bc))
  rcases Bool.eq_false_or_eq_true (fF p.pn)with b2|b2
  ·simp only [b1,b2,Bool.true_or,Bool.or_true,if_true]at hR
   subst hR
   repeat' (first
 |simp only[go_sem,hD,hY,hZ,gA,b1,b2]
 |(with_reducible refine CU (DG _ _) ?_)
 |(with_reducible refine CU (pL _) ?_)
 |(with_reducible refine CU (Ed _ _) ?_)
 | (with_reducible refine aE hQ ?_;exact bc))
  rcases JS iK p.procs 0 with ⟨e1,e2⟩|⟨m,j,e1,e2,e3⟩
  ·have b3:p.tA=true:=by unfold Pg.tA Pg.find;rw [e1]
   have hi:jh iK 0 p.pn = -1:=e2
   simp only[b1,b2,b3,Bool.or_true,if_true]at hR
   subst hR
   simp only[hi]at DG
   have d1:decide ((-1:Int)<0)=true:=by decide
   repeat' (first
 |simp only[go_sem,hD,hY,hZ,gA,b1,b2,d1]
 |(with_reducible refine CU (DG _ _) ?_)
 |(with_reducible refine CU (pL _) ?_)
 |(with_reducible refine CU (Ed _ _) ?_)
 | (with_reducible refine aE hQ ?_;exact bc))
  have hi:jh iK 0 p.pn=((j:Nat):Int):=by rw[show p.pn=p.procs.map (·.name)from rfl];simpa using e3
  simp only[hi]at DG
  have d1:decide (((j:Nat):Int)<0)=false:=by simp
  have hj:j<p.procs.length:=(List.getElem?_eq_some_iff.1 e2).1
  have b3:p.tA=decide ((m.params.length:Int) > 0):=by unfold Pg.tA Pg.find;rw[e1]
  rw[b3]at hR
  rcases Bool.eq_false_or_eq_true (decide ((m.params.length:Int) > 0))with b4|b4
  ·simp only [b1,b2,b4,Bool.or_true,if_true]at hR
   subst hR
   repeat' (first
 |simp only[go_sem,hD,hY,hZ,gA,b1,b2,d1,e2,b4]
 |(with_reducible refine CU (DG _ _) ?_)
 |(with_reducible refine CU (pL _) ?_)
 |(with_reducible refine CU (Ed _ _) ?_)
 |(with_reducible refine aE hQ ?_;exact bc))
  simp only[b1,b2,b4,Bool.or_false,Bool.false_eq_true,if_false]at hR
  repeat' (first
 |simp only[go_sem,hD,hY,hZ,gA,b1,b2,d1,e2,b4]
 |(with_reducible refine CU (DG _ _) ?_)
 |(with_reducible refine CU (pL _) ?_)
 |(with_reducible refine CU (Ed _ _) ?_)
 |(with_reducible refine CU (dh _) ?_)
 | (with_reducible refine aE hQ ?_;exact bc))
  refine ff 2 1 (bp.ind (ι:=List Pc×Nat) (fun i=>p.procs.drop i.2=i.1∧vK p p.pn i.1=R) (fun i=>i.1.length)
   (fun i=> [(1, .ptr 0 0),(2, .ptr 1 0),(3, .slice (.tok 0) 1 (p.pn.map encStr)),(7, .dz (fA p) 0),(57, .slice .shared 5 (p.procs.map cu)),(58, .int .i64 (p.procs.length:Int)),(59, .int .i64 (i.2:Int))]) (fun i=>⟨[cz p,[.int .i64 0, .int .i64 0]],[some p.pn.length]⟩) ?_ (p.procs,0) ⟨rfl,hR⟩)
  clear IH h1 hD hR
  rintro⟨rest,k⟩ ⟨h1,hR⟩ IH
  dsimp only at h1 hR
  cases rest with
  |nil=>
   have hD:=drop_nil h1
   simp only[vK]at hR
   subst hR
   repeat' (first
 |simp only[go_sem,hD,hY,hZ,gA]
 | (with_reducible refine aE hQ ?_;exact bc))
  | cons f rest=>
   obtain⟨hY,g2,hD,g4⟩:=drop_cons h1
   have bO:k<4611686018427387904:=by omega
   have As:=List.mem_of_getElem? hY
   have vM:=h.small As
   have R0:=fun s=>XY (f:=f) vM.par vM.vars s
   have iZ:f.own.length<4611686018427387904:=by have h1:=vM.par;have h2:=vM.vars;unfold Pc.own Pc.tx;simp;omega
   have hto:=fun s=>DF (l:=f.own) iZ .shared s
   have C5:=fun {s:St} {o:Nat} (ho:s.ah[o]? = some (cz p))=>yx (l:=f.own) iZ (f:=oR) (row:=cz p) (b:=fx p.globals) (jw p) (by with_unfolding_all rfl) (fun x _=>Vu p vM.ui x) ho
   have Vv:=fun {s:St} {o:Nat} (ho:s.ah[o]? = some (cz p))=>(show aF Tryz.prog ga [.slice .shared 1 (f.own.map encStr), .gi 130 [.ptr o 0]] s (.bool (f.own.any (fx p.globals))) s from C5 ho)
   simp only[vK,RX,b1,Bool.false_or]at hR
   rcases Bool.eq_false_or_eq_true (fF f.own)with c1|c1
   ·simp only [c1,Bool.true_or,if_true]at hR
    subst hR
    repeat' (first
 |simp only[go_sem,hD,hY,hZ,gA,c1]
 |(with_reducible refine CU (R0 _) ?_)
 |(with_reducible refine CU (hto _) ?_)
 |(with_reducible refine CU (Vv (by with_unfolding_all rfl)) ?_)
 | (with_reducible refine aE hQ ?_;exact bc))
   rcases Bool.eq_false_or_eq_true (f.own.any (fx p.globals))with c2|c2
   ·simp only [c1,c2,Bool.false_or,if_true]at hR
    subst hR
    repeat' (first
 |simp only[go_sem,hD,hY,hZ,gA,c1,c2]
 |(with_reducible refine CU (R0 _) ?_)
 |(with_reducible refine CU (hto _) ?_)
 |(with_reducible refine CU (Vv (by with_unfolding_all rfl)) ?_)
 | (with_reducible refine aE hQ ?_;exact bc))
   simp only[c1,c2,Bool.or_self,Bool.false_eq_true,if_false]at hR
   obtain⟨it,pO,wS⟩:=Va hY (by omega)
   rw[← pO]at hR
   have adp:it.length≤900000:=by
    have e:=congrArg List.length pO
    have e2:=(lg p).2 k f hY
    obtain⟨a,b,e',_,_,e3,e4⟩:=e2
    have e5:=pg p
    have e6:=congrArg List.length e3
    rw[e4]at e5
    simp only[List.length_map,List.length_append]at e e5 e6
    omega
   repeat' (first
 |simp only[go_sem,hD,hY,hZ,gA,c1,c2]
 |(with_reducible refine CU (R0 _) ?_)
 |(with_reducible refine CU (hto _) ?_)
 |(with_reducible refine CU (Vv (by with_unfolding_all rfl)) ?_)
 |(with_reducible refine CU (wS _) ?_)
 | (with_reducible refine aE hQ ?_;exact bc))
   obtain⟨q,hq⟩ : ∃ q,BF p f p.pn (it.map Im.s)=q:=⟨_,rfl⟩
   rw[hq]at hR
   refine ff 3 1 (bp.ind (ι:=List Im×Nat) (fun i=>it.drop i.2=i.1∧BF p f p.pn (i.1.map Im.s)=q) (fun i=>i.1.length)
    (fun i=> [(1, .ptr 0 0),(2, .ptr 1 0),(3, .slice (.tok 0) 1 (p.pn.map encStr)),(7, .dz (fA p) 0),(9, .ptr 2 0),(57, .slice .shared 5 (p.procs.map cu)),(58, .int .i64 (p.procs.length:Int)),(59, .int .i64 (k:Int)),(76, .slice .shared 17 (it.map dv)),(77, .int .i64 (it.length:Int)),(78, .int .i64 (i.2:Int))]) (fun i=>⟨[cz p,[.int .i64 0, .int .i64 0],cu f],[some p.pn.length]⟩) ?_ (it,0) ⟨rfl,hq⟩)
   rintro⟨B6,n⟩ ⟨j1,j2⟩ X0
   dsimp only at j1 j2
   have Ah:=hD
   cases B6 with
   |nil=>
    have anQ:=drop_nil j1
    simp only[List.map_nil,BF]at j2
    subst j2
    simp only at hR
    repeat' (first
 |simp only[go_sem,hD,hY,hZ,gA,anQ]
 | (with_reducible refine aE hQ ?_;exact bc))
    refine eQ 2 1 ?_ ?_ (IH (rest,k+1) ⟨g2,hR⟩ (Nat.lt_succ_self _))
    ·(simp only[go_sem,hD,hY,hZ,gA,aI bO];try exact bX)
    ·(simp only[go_sem,hD,hY,hZ,gA,aI bO];try exact bX)
   | cons i B6=>
    obtain⟨pj,L1,yy,jg4⟩:=drop_cons j1
    have yz:n<4611686018427387904:=by omega
    have ES:i.s∈Sm.dd f.body:=by rw[← pO];exact List.mem_map_of_mem (List.mem_of_getElem? pj)
    have hkn:=ZI (v:=i.s) vM (procs:=p.pn) (by omega) (h.said As _ ES)
    simp only[List.map_cons,BF]at j2
    rcases Bool.eq_false_or_eq_true (i.s.known p f p.pn)with c3|c3
    ·simp only [c3,if_true]at j2
     repeat' (first
 |simp only[go_sem,hD,hY,hZ,gA,yy,pj,c3]
 |(with_reducible refine CU (hkn _ _) ?_)
 | (with_reducible refine aE hQ ?_;exact bc))
     refine eQ 3 1 ?_ ?_ (X0 (B6,n+1) ⟨L1,j2⟩ (Nat.lt_succ_self _))
     ·(simp only[go_sem,hD,hY,hZ,gA,aI yz];try exact bX)
     ·(simp only[go_sem,hD,hY,hZ,gA,aI yz];try exact bX)
    ·simp only [c3,Bool.false_eq_true,if_false]at j2
     subst j2
     simp only at hR
     subst hR
     repeat' (first
 |simp only[go_sem,hD,hY,hZ,gA,yy,pj,c3]
 |(with_reducible refine CU (hkn _ _) ?_)
 |(with_reducible refine aE hQ ?_;exact bc))
end Go.Abs
namespace Go.Abs
mutual
def Ex.rI:Ex→Prop
 |⟨_,n,_,kids⟩=>n≤9223372036854775807∧Ex.xC kids
def Ex.xC:List Ex→Prop
 | []=>True
 |x::l=>x.rI∧Ex.xC l
end
mutual
def Sm.rI:Sm→Prop
 |⟨_,_,_,_,_,x,_,args,a8,aR⟩=>x.rI∧(∀ a∈args,a.x.rI)∧Sm.xC a8∧Sm.xC aR
def Sm.xC:List Sm→Prop
 | []=>True
 |s::l=>s.rI∧Sm.xC l
end
def Pg.rI (p:Pg):Prop:=∀ f∈p.procs,Sm.xC f.body
theorem G2 {f:Pc} : ∀ {l:List Pc} {n:Nat},Pc.fm n l=true→f∈l→(isName f.name=true∧fb f.vars=true∧fb f.fin=true∧Pm.fP f.params=true)∧∃ n,(Sm.gy 1 n f.body).1=true
 |g::l,n,h,m=>by
  simp only[Pc.fm]at h
  split at h
  ·cases h
  rename_i c1
  split at h
  ·cases h
  rename_i c2
  split at h
  ·cases h
  rename_i c3
  simp only[Bool.or_eq_true,Bool.not_eq_true',not_or,Bool.not_eq_false]at c1 c2 c3
  rcases List.mem_cons.1 m with rfl|m
  ·exact⟨⟨c1.1.1.2,c1.1.2,c1.2,c2⟩,n,c3⟩
  ·exact G2 h m
mutual
theorem Pa : ∀ (s:Sm) (nest:Int) (n:Nat),(Sm.pU nest n s).1=true→s.size<4611686018427387000→s.wJ
 |⟨id,kind,labels,name,proc,x,has,args,a8,aR⟩,nest,n,hm,hs=>by
  obtain⟨_,_,h1,h2,h3,_⟩:=GZ hm
  rw[DD]
  rw[(tw h2).2]at h2
  rw[(tw h3).2]at h3
  refine⟨JO h1 hs,uQ a8 _ _ h2 ?_,uQ aR _ _ h3 ?_⟩<;>simp only[Sm.size]at hs<;>omega
theorem uQ : ∀ (l:List Sm) (nest:Int) (n:Nat),(Sm.fm nest n l).1=true→Sm.a7 l<4611686018427387000→Sm.kv l
 | [],_,_,_,_=>by simp only[Sm.kv]
 |s::l,nest,n,hm,hs=>by
  simp only[Sm.fm]at hm
  simp only[Sm.a7]at hs
  split at hm
  ·cases hm
  rename_i hc
  simp only[Bool.not_eq_true',Bool.not_eq_false]at hc
  exact⟨Pa s nest n hc (by omega),uQ l nest _ hm (by omega)⟩
end
theorem R3 {p:Pg} (h:p.may=true) (hs:p.size<4611686018427387000):p.H7:=by
 have hf:=Vo h hs
 rw[← Cj]at h
 unfold Pg.F1 at h
 split at h
 ·cases h
 refine⟨hf.sz,hf.ui,hf.n6,fun f m=>?_⟩
 obtain⟨_,n,e⟩:=G2 h m
 rw[(tw e).2]at e
 have:=Pc.dk m
 simp only[Pg.size]at hs
 exact uQ f.body 1 n e (by unfold Pc.size at this;omega)
set_option maxRecDepth 8000
open Go.Proofs
theorem Vw (x:It):(fL x)[1]? = some (.int .i64 x.s.kind):=nd rfl
theorem Vx (x:It):(fL x)[3]? = some (.str x.s.name):=nd rfl
theorem Vy (x:It):(fL x)[4]? = some (.str x.s.proc):=nd rfl
theorem ZJ (x:It):List.take 16 (fL x)=fL x:=nd rfl
attribute [go_sem] Vw Vx Vy ZJ
end Go.Abs
namespace Go.Abs
set_option maxRecDepth 8000
open Go.Proofs
def ET:List Pm→List Ar→Bool
 | [],_=>true
 |_,[]=>true
 |a::l,b::m=>if a.ref==b.ref then ET l m else false
def Cn (l:List Pm) (m:List Ar):Bool:=if(l.length:Int)==(m.length:Int)then ET l m else false
def Sm.qm (p:Pg) (v:Sm):Bool:=v.kind==4 && match p.find v.proc with|none=>false|some q=>Cn q.params v.args
theorem adq {l:List Pm} {m:List Ar} (hl:l.length<1000000000) (hm:m.length<1000000000) (s:St):aF Tryz.prog vA [.slice .shared 2 (l.map iJ), .slice .shared 6 (m.map eB)] s (.bool (Cn l m)) s:=by
 refine aF.pure ?_ (by simp[D.bK,D.ok,Tag.ok,afG,H2]) rfl s
 generalize h:Cn l m=q
 simp only[Cn]at h
 unfold S0
 have b0:((l.length:Int) != (m.length:Int)) = !((l.length:Int)==(m.length:Int)):=rfl
 rcases Bool.eq_false_or_eq_true ((l.length:Int)==(m.length:Int))with b1|b1
 case inr=>
  rw[b1]at b0
  simp only[b1,Bool.false_eq_true,if_false]at h
  subst h
  refine aF.go yn rfl fun B Q hB hQ=>?_
  have⟨hD,hY,hZ,gA⟩:=bR
  repeat' (first
 |simp only[go_sem,hD,hY,hZ,gA,b0,Bool.not_false]
 |(with_reducible refine aE hQ ?_;exact bc))
 rw[b1]at b0
 simp only[b1,if_true]at h
 have X1:l.length=m.length:=by have:=eq_of_beq b1;omega
 refine aF.go yn rfl fun B Q hB hQ=>?_
 have⟨hD,hY,hZ,gA⟩:=bR
 repeat' (first
 |simp only[go_sem,hD,hY,hZ,gA,b0,Bool.not_true]
 |(with_reducible refine aE hQ ?_;exact bc))
 refine ff 0 0 (bp.ind (ι:=List Pm×List Ar×Nat) (fun i=>l.drop i.2.2=i.1∧m.drop i.2.2=i.2.1∧ET i.1 i.2.1=q) (fun i=>i.1.length)
  (fun i=> [(1, .slice .shared 6 (m.map eB)),(12, .slice .shared 2 (l.map iJ)),(13, .int .i64 (l.length:Int)),(14, .int .i64 (i.2.2:Int))]) (fun i=>⟨[],[]⟩) ?_ (l,m,0) ⟨rfl,rfl,h⟩)
 rintro⟨r1,r2,k⟩ ⟨h1,h2,h⟩ IH
 dsimp only at h1 h2 h
 cases r1 with
 |nil=>
  have hD:=drop_nil h1
  simp only[ET]at h
  subst h
  repeat' (first
 |simp only[go_sem,hD,hY,hZ,gA]
 |(with_reducible refine aE hQ ?_;exact bc))
 | cons a r1=>
  obtain⟨hY,g2,hD,g4⟩:=drop_cons h1
  cases r2 with
  |nil=>have:=List.drop_eq_nil_iff.1 h2;omega
  | cons b r2=>
   obtain⟨X2,b2,Pb,_⟩:=drop_cons h2
   have bO:k<4611686018427387904:=by omega
   simp only[ET]at h
   have w1:(true==true)=true:=rfl
   have w2:(false==false)=true:=rfl
   have w3:(true==false)=false:=rfl
   have w4:(false==true)=false:=rfl
   have v1:(true != true)=false:=rfl
   have v2:(false != false)=false:=rfl
   have v3:(true != false)=true:=rfl
   have v4:(false != true)=true:=rfl
   rcases Bool.eq_false_or_eq_true a.ref with ea|ea
   ·rcases Bool.eq_false_or_eq_true b.ref with eb | eb
    ·simp only [ea,eb,w1,w2,if_true]at h
     repeat' (first
 |simp only[go_sem,hD,hY,hZ,gA,X2,Pb,ea,eb,w1,w2,v1,v2]
 | (with_reducible refine aE hQ ?_;exact bc))
     refine eQ 0 0 ?_ ?_ (IH (r1,r2,k+1) ⟨g2,b2,h⟩ (Nat.lt_succ_self _))
     ·(simp only[go_sem,hD,hY,hZ,gA,aI bO];try exact bX)
     ·(simp only[go_sem,hD,hY,hZ,gA,aI bO];try exact bX)
    ·simp only [ea,eb,w3,w4,Bool.false_eq_true,if_false]at h
     subst h
     repeat' (first
 |simp only[go_sem,hD,hY,hZ,gA,X2,Pb,ea,eb,w3,w4,v3,v4]
 | (with_reducible refine aE hQ ?_;exact bc))
   ·rcases Bool.eq_false_or_eq_true b.ref with eb | eb
    ·simp only [ea,eb,w3,w4,Bool.false_eq_true,if_false]at h
     subst h
     repeat' (first
 |simp only[go_sem,hD,hY,hZ,gA,X2,Pb,ea,eb,w3,w4,v3,v4]
 | (with_reducible refine aE hQ ?_;exact bc))
    ·simp only [ea,eb,w1,w2,if_true]at h
     repeat' (first
 |simp only[go_sem,hD,hY,hZ,gA,X2,Pb,ea,eb,w1,w2,v1,v2]
 |(with_reducible refine aE hQ ?_;exact bc))
     refine eQ 0 0 ?_ ?_ (IH (r1,r2,k+1) ⟨g2,b2,h⟩ (Nat.lt_succ_self _))
     ·(simp only[go_sem,hD,hY,hZ,gA,aI bO];try exact bX)
     ·(simp only[go_sem,hD,hY,hZ,gA,aI bO];try exact bX)
theorem adr {p:Pg} {v:Sm} (h:p.iP) (hv:v.nz) (s:St):aF Tryz.prog vx [.agg (cz p), .agg (bh v)] s (.bool (v.qm p)) s:=by
 refine aF.pure ?_ (by simp[D.bK,D.ok,jw,q8]) rfl s
 obtain⟨rV,rH,rG⟩:=h.procs
 have ye:v.args.length<1000000000:=by have:=Ar.eH v.args;have:=hv.2.2;omega
 generalize hR:v.qm p=R
 simp only[Sm.qm]at hR
 unfold S0
 have b0:(v.kind != 4) = !(v.kind==4):=rfl
 rcases Bool.eq_false_or_eq_true (v.kind==4)with b1|b1
 case inr=>
  rw[b1]at b0
  simp only[b1,Bool.false_and]at hR
  subst hR
  refine aF.go yp rfl fun B Q hB hQ=>?_
  have⟨hD,hY,hZ,gA⟩:=bR
  repeat' (first
 |simp only[go_sem,hD,hY,hZ,gA,b0,Bool.not_false]
 |(with_reducible refine aE hQ ?_;exact bc))
 rw[b1]at b0
 simp only[b1,Bool.true_and,Pg.find]at hR
 refine aF.go yp rfl fun B Q hB hQ=>?_
 have⟨hD,hY,hZ,gA⟩:=bR
 repeat' (first
 |simp only[go_sem,hD,hY,hZ,gA,b0,Bool.not_true]
 |(with_reducible refine aE hQ ?_;exact bc))
 refine ff 2 0 (bp.ind (ι:=List Pc×Nat) (fun i=>p.procs.drop i.2=i.1∧(match iV v.proc i.1 with|none=>false|some q=>Cn q.params v.args)=R) (fun i=>i.1.length)
  (fun i=> [(3, .ptr 1 0),(11, .slice .shared 5 (p.procs.map cu)),(12, .int .i64 (p.procs.length:Int)),(13, .int .i64 (i.2:Int))]) (fun i=>⟨[cz p,bh v],[]⟩) ?_ (p.procs,0) ⟨rfl,hR⟩)
 clear hR
 rintro⟨rest,k⟩ ⟨h1,hR⟩ IH
 dsimp only at h1 hR
 cases rest with
 |nil=>
  have hD:=drop_nil h1
  simp only[iV]at hR
  subst hR
  repeat' (first
 |simp only[go_sem,hD,hY,hZ,gA]
 |(with_reducible refine aE hQ ?_;exact bc))
 | cons a rest=>
  obtain⟨hY,g2,hD,g4⟩:=drop_cons h1
  have bO:k<4611686018427387904:=by omega
  have vM:=h.small (List.mem_of_getElem? hY)
  have XW:=fun s=>adq (l:=a.params) (m:=v.args) (by have:=vM.par;omega) ye s
  simp only[iV]at hR
  rcases Bool.eq_false_or_eq_true (a.name==v.proc)with c1|c1
  ·simp only [c1,if_true]at hR
   subst hR
   repeat' (first
 |simp only[go_sem,hD,hY,hZ,gA,c1]
 |(with_reducible refine CU (XW _) ?_)
 | (with_reducible refine aE hQ ?_;exact bc))
  ·simp only [c1,Bool.false_eq_true,if_false]at hR
   repeat' (first
 |simp only[go_sem,hD,hY,hZ,gA,c1]
 | (with_reducible refine aE hQ ?_;exact bc))
   refine eQ 2 0 ?_ ?_ (IH (rest,k+1) ⟨g2,hR⟩ (Nat.lt_succ_self _))
   ·(simp only[go_sem,hD,hY,hZ,gA,aI bO];try exact bX)
   ·(simp only[go_sem,hD,hY,hZ,gA,aI bO];try exact bX)
def JV (p:Pg):List Sm→Option Sm
 | []=>none
 |v::l=>if v.kind==4 && !(v.qm p)then some v else JV p l
def qe (c:Int):Option Sm→Int×Int
 |some v=>(c,v.id)
 |none=>(0,0)
def Pg.arity (p:Pg):Int×Int:=if p.scope.1==0 then qe 6 (JV p p.pre)else(1,0)
theorem Pg.iP.pre {p:Pg} (h:p.iP) : ∀ v∈p.pre,v.nz:=fun v m=>by
 simp only[Pg.pre,List.mem_flatten,List.mem_map]at m
 obtain⟨l,⟨f,hf,rfl⟩,m⟩:=m
 exact h.said hf v m
theorem JW {p:Pg} (h:p.iP) (s:St):aF Tryz.prog qk [.agg (cz p)] s (.agg [.int .i64 p.arity.1, .int .i64 p.arity.2]) s:=by
 refine aF.pure ?_ (by simp[D.bK,D.ok,jw]) rfl s
 obtain⟨rV,rH,rG⟩:=h.procs
 have pJ:=fun s=>vL h s
 have dh:=fun s=>Cf (p:=p) (by omega) s
 have hL:=(lg p).1
 have wT:=pg p
 generalize hR:p.arity=R
 simp only[Pg.arity]at hR
 unfold S0
 have b0:(p.scope.1 != 0) = !(p.scope.1==0):=rfl
 rcases Bool.eq_false_or_eq_true (p.scope.1==0)with b1|b1
 case inr=>
  rw[b1]at b0
  simp only[b1,Bool.false_eq_true,if_false]at hR
  subst hR
  refine aF.go wF rfl fun B Q hB hQ=>?_
  have⟨hD,hY,hZ,gA⟩:=bR
  repeat' (first
 |simp only[go_sem,hD,hY,hZ,gA,b0,Bool.not_false]
 |(with_reducible refine CU (pJ _) ?_)
 |(with_reducible refine aE hQ ?_;exact bc))
 rw[b1]at b0
 simp only[b1,if_true, ← hL]at hR
 refine aF.go wF rfl fun B Q hB hQ=>?_
 have⟨hD,hY,hZ,gA⟩:=bR
 repeat' (first
 |simp only[go_sem,hD,hY,hZ,gA,b0,Bool.not_true,n7]
 |(with_reducible refine CU (pJ _) ?_)
 |(with_reducible refine CU (dh _) ?_)
 |(with_reducible refine aE hQ ?_;exact bc))
 refine ff 2 0 (bp.ind (ι:=List Im×Nat) (fun i=>p.aX.L.drop i.2=i.1∧qe 6 (JV p (i.1.map Im.s))=R) (fun i=>i.1.length)
  (fun i=> [(1, .ptr 0 0),(2, .ptr 1 0),(14, .slice .shared 17 (p.aX.L.map dv)),(15, .int .i64 (p.aX.L.length:Int)),(16, .int .i64 (i.2:Int))]) (fun i=>⟨[cz p,[.int .i64 0, .int .i64 0]],[]⟩) ?_ (p.aX.L,0) ⟨rfl,hR⟩)
 clear hR
 rintro⟨rest,k⟩ ⟨h1,hR⟩ IH
 dsimp only at h1 hR
 cases rest with
 |nil=>
  have hD:=drop_nil h1
  simp only[List.map_nil,JV,qe]at hR
  subst hR
  repeat' (first
 |simp only[go_sem,hD,hY,hZ,gA]
 |(with_reducible refine aE hQ ?_;exact bc))
 | cons a rest=>
  obtain⟨hY,g2,hD,g4⟩:=drop_cons h1
  have bO:k<4611686018427387904:=by omega
  have ES:a.s∈p.pre:=by rw[← hL];exact List.mem_map_of_mem (List.mem_of_getElem? hY)
  have L2:=fun s=>adr h (h.pre _ ES) s
  simp only[List.map_cons,JV]at hR
  rcases Bool.eq_false_or_eq_true (a.s.kind==4)with c1|c1
  ·rcases Bool.eq_false_or_eq_true (a.s.qm p)with c2 | c2
   ·simp only [c1,c2,Bool.not_true,Bool.and_false,Bool.false_eq_true,if_false]at hR
    repeat' (first
 |simp only[go_sem,hD,hY,hZ,gA,c1,c2]
 |(with_reducible refine CU (L2 _) ?_)
 | (with_reducible refine aE hQ ?_;exact bc))
    refine eQ 2 0 ?_ ?_ (IH (rest,k+1) ⟨g2,hR⟩ (Nat.lt_succ_self _))
    ·(simp only[go_sem,hD,hY,hZ,gA,aI bO];try exact bX)
    ·(simp only[go_sem,hD,hY,hZ,gA,aI bO];try exact bX)
   ·simp only [c1,c2,Bool.not_false,Bool.and_true,if_true,qe]at hR
    subst hR
    repeat' (first
 |simp only[go_sem,hD,hY,hZ,gA,c1,c2]
 |(with_reducible refine CU (L2 _) ?_)
 | (with_reducible refine aE hQ ?_;exact bc))
  ·simp only [c1,Bool.false_and,Bool.false_eq_true,if_false]at hR
   repeat' (first
 |simp only[go_sem,hD,hY,hZ,gA,c1]
 |(with_reducible refine CU (L2 _) ?_)
 | (with_reducible refine aE hQ ?_;exact bc))
   refine eQ 2 0 ?_ ?_ (IH (rest,k+1) ⟨g2,hR⟩ (Nat.lt_succ_self _))
   ·(simp only[go_sem,hD,hY,hZ,gA,aI bO];try exact bX)
   ·(simp only[go_sem,hD,hY,hZ,gA,aI bO];try exact bX)
theorem BG {p:Pg} (h:(p.scope.1==0)=true):p.may=true:=by
 unfold Pg.scope at h
 split at h
 ·assumption
 ·cases h
def nB (out:List aG):List aG→aG→Bool→aG×Bool
 | [],c,a=>(c,a)
 |s::l,c,a=>if !(fx out s) && (!a ||bytesLess s c)then nB out l s true else nB out l c a
def R5 (l out:List aG):List aG:=if(nB out l [] false).2 then out++ [(nB out l [] false).1]else out
def pH (l:List aG):Nat→List aG→List aG
 | 0,out=>out
 |n+1,out=>pH l n (R5 l out)
def km (l:List aG):List aG:=pH l l.length []
end Go.Abs
namespace Go.Proofs
open Go.Shelf
def Tryz.Lo:Go.Shelf.Ren:=⟨fun| 190=>173| 125=>194| 258=>193| 128=>217| 129=>218| 302=>208| 303=>209| 304=>210| 305=>211| 306=>212| 307=>213| 308=>214| 309=>215| 310=>216| 333=>224| 329=>225| 330=>226| 334=>227| 335=>228| 336=>229| 344=>230|n=>n,fun| 31=>22| 9=>9| 3=>3| 46=>208| 0=>0| 51=>227| 53=>194| 4=>4| 183=>220| 182=>219| 131=>139| 5=>5| 218=>231| 222=>235| 228=>237| 229=>238|n=>n,fun|n=>n⟩
theorem Tryz.L3:Go.Proofs.Lays.n190 Tryz.prog Tryz.Lo:= {
 mixed:=by kernel_rfl
 f125:=Tryz.func194.trans (congrArg some (by kernel_rfl))
 f128:=Tryz.func217.trans (congrArg some (by kernel_rfl))
 f129:=Tryz.func218.trans (congrArg some (by kernel_rfl))
 f190:=Tryz.func173.trans (congrArg some (by kernel_rfl))
 f258:=Tryz.func193.trans (congrArg some (by kernel_rfl))
 f302:=Tryz.func208.trans (congrArg some (by kernel_rfl))
 f303:=Tryz.func209.trans (congrArg some (by kernel_rfl))
 f304:=Tryz.func210.trans (congrArg some (by kernel_rfl))
 f305:=Tryz.func211.trans (congrArg some (by kernel_rfl))
 f306:=Tryz.func212.trans (congrArg some (by kernel_rfl))
 f307:=Tryz.func213.trans (congrArg some (by kernel_rfl))
 f308:=Tryz.func214.trans (congrArg some (by kernel_rfl))
 f309:=Tryz.func215.trans (congrArg some (by kernel_rfl))
 f310:=Tryz.func216.trans (congrArg some (by kernel_rfl))
 f329:=Tryz.func225.trans (congrArg some (by kernel_rfl))
 f330:=Tryz.func226.trans (congrArg some (by kernel_rfl))
 f333:=Tryz.func224.trans (congrArg some (by kernel_rfl))
 f334:=Tryz.func227.trans (congrArg some (by kernel_rfl))
 f335:=Tryz.func228.trans (congrArg some (by kernel_rfl))
 f336:=Tryz.func229.trans (congrArg some (by kernel_rfl))
 f344:=Tryz.func230.trans (congrArg some (by kernel_rfl))
 t0:=Tryz.underlying0
 a0:=Tryz.isAgg0
 z0:=Tryz.sizeOf0
 v0:=Tryz.zeroValue0
 t3:=Tryz.underlying3
 a3:=Tryz.isAgg3
 z3:=Tryz.sizeOf3
 v3:=Tryz.zeroValue3
 t4:=Tryz.underlying4
 a4:=Tryz.isAgg4
 z4:=Tryz.sizeOf4
 v4:=Tryz.zeroValue4
 t5:=Tryz.underlying5
 a5:=Tryz.isAgg5
 z5:=Tryz.sizeOf5
 v5:=Tryz.zeroValue5
 t9:=Tryz.underlying9
 a9:=Tryz.isAgg9
 z9:=Tryz.sizeOf9
 v9:=Tryz.zeroValue9
 t31:=Tryz.underlying22
 a31:=Tryz.isAgg22
 z31:=Tryz.sizeOf22
 v31:=Tryz.zeroValue22
 t46:=Tryz.underlying208
 a46:=Tryz.isAgg208
 z46:=Tryz.sizeOf208
 v46:=Tryz.zeroValue208
 t51:=Tryz.underlying227
 a51:=Tryz.isAgg227
 z51:=Tryz.sizeOf227
 v51:=Tryz.zeroValue227
 t53:=Tryz.underlying194
 a53:=Tryz.isAgg194
 z53:=Tryz.sizeOf194
 v53:=Tryz.zeroValue194
 t131:=Tryz.underlying139
 a131:=Tryz.isAgg139
 z131:=Tryz.sizeOf139
 v131:=Tryz.zeroValue139
 t182:=Tryz.underlying219
 a182:=Tryz.isAgg219
 z182:=Tryz.sizeOf219
 v182:=Tryz.zeroValue219
 t183:=Tryz.underlying220
 a183:=Tryz.isAgg220
 z183:=Tryz.sizeOf220
 v183:=Tryz.zeroValue220
 t218:=Tryz.underlying231
 a218:=Tryz.isAgg231
 z218:=Tryz.sizeOf231
 v218:=Tryz.zeroValue231
 t222:=Tryz.underlying235
 a222:=Tryz.isAgg235
 z222:=Tryz.sizeOf235
 v222:=Tryz.zeroValue235
 t228:=Tryz.underlying237
 a228:=Tryz.isAgg237
 z228:=Tryz.sizeOf237
 v228:=Tryz.zeroValue237
 t229:=Tryz.underlying238
 a229:=Tryz.isAgg238
 z229:=Tryz.sizeOf238
 v229:=Tryz.zeroValue238}
open Go.Sort Go.RowKit in
theorem Tryz.slices_Sort_string (BH off cap:Nat) (ss:List (List UInt8)) (w:World) (hH:Holds encStr w BH off ss.toArray) (anR:BH<w.heap.size) (dO:ss.length<4611686018427387904) :
 Calls Tryz.prog 173 #[.slice (some ⟨BH,off,none⟩) ss.length cap] w fun e w'=>
  e = .returned (.tuple #[])∧∃ n os,w'=grow (putRow encStr (Sort.ahead w n) BH off (ss.mergeSort fun x y=>decide (x≤y)).toArray) os:=Any.slices_Sort_string Tryz.L3 BH off cap ss w hH anR dO
def Tryz.Lp:Go.Shelf.Ren:=⟨fun| 194=>174|n=>n,fun| 31=>22| 9=>9| 3=>3| 4=>4| 0=>0|n=>n,fun|n=>n⟩
theorem Tryz.L4:Go.Proofs.Lays.n194 Tryz.prog Tryz.Lp:= {
 mixed:=by kernel_rfl
 f194:=Tryz.func174.trans (congrArg some (by kernel_rfl))
 t0:=Tryz.underlying0
 a0:=Tryz.isAgg0
 z0:=Tryz.sizeOf0
 v0:=Tryz.zeroValue0
 t3:=Tryz.underlying3
 a3:=Tryz.isAgg3
 z3:=Tryz.sizeOf3
 v3:=Tryz.zeroValue3
 t4:=Tryz.underlying4
 a4:=Tryz.isAgg4
 z4:=Tryz.sizeOf4
 v4:=Tryz.zeroValue4
 t9:=Tryz.underlying9
 a9:=Tryz.isAgg9
 z9:=Tryz.sizeOf9
 v9:=Tryz.zeroValue9
 t31:=Tryz.underlying22
 a31:=Tryz.isAgg22
 z31:=Tryz.sizeOf22
 v31:=Tryz.zeroValue22}
open Go.RowKit Go.Lib Go.Sort in
theorem Tryz.slices_Compact_string (BH off cap:Nat) (zs:List (List UInt8)) (w:World) (hH:Holds encStr w BH off zs.toArray) (dO:zs.length≤9223372036854775807) (tM:zs.length≤cap) :
 Calls Tryz.prog 174 #[.slice (some ⟨BH,off,none⟩) zs.length cap] w fun e w'=>e = .returned (.slice (some ⟨BH,off,none⟩) (Lib.compact zs).length cap)∧∃ q,w'=putRow encStr (Sort.ahead w q) BH off (Lib.compact zs++List.replicate (zs.length - (Lib.compact zs).length) []).toArray:=Any.slices_Compact_string Tryz.L4 BH off cap zs w hH dO tM
open Go.RowKit Go.Lib Go.Sort in
theorem Tryz.slices_Compact_string_empty (a:Option Addr) (cap:Nat) (w:World) :
 Calls Tryz.prog 174 #[.slice a 0 cap] w fun e w'=>e = .returned (.slice a 0 cap)∧w'=w:=Any.slices_Compact_string_empty Tryz.L4 a cap w
open Go.RowKit Go.Sort in
theorem Tryz.slices_Sort_string_none (p:Option Addr) (cap:Nat) (w:World) :
 Calls Tryz.prog 173 #[.slice p 0 cap] w fun e w'=>e = .returned (.tuple #[])∧w'=w:=Any.slices_Sort_string_none Tryz.L3 p cap w
end Go.Proofs
namespace Go.Abs
open Go.Proofs
section
variable {P:Program} {B:fX} {nt:Nat}
theorem ZK {x:Operand} {t:Nat} (h:cX x=some (.s t)):x = .tmp t:=by
 unfold cX at h
 split at h
 ·cases h;rfl
 ·obtain⟨d,_,h⟩:=map_some h;cases h
 ·cases h
 ·cases h
theorem Pf {ops:Array Oper} {o:Oper} {g g':Option (Nat×Bool)} {dst:Option Nat} {f:Nat} {xs:List X} (h:sB P ops o g=some (.call dst g' f xs)) :
 g'=g∧∃ args mO,o.op = .call ⟨.value (.func f),args,mO⟩∧enters P f=true∧xQ args.toList=some xs:=by
 unfold sB at h
 split at h
 ·rename_i f' args mO mN
  split at h
  ·rename_i he
   obtain⟨xs',h1,h2⟩:=map_some h
   cases h2
   exact⟨rfl,args,mO,mN,he,h1⟩
  ·cases h
 ·obtain⟨_,_,h⟩:=map_some h;cases h
 ·split at h
  ·cases h
  ·split at h<;>cases h
theorem R6 {ops:Array Oper} {o:Oper} {tmps:Array Value} (hg:va ops o.guard=some none):Region.wanted o (yielded ops tmps)=true:=by
 have:o.guard=none:=by
  cases Gp:o.guard with
  |none=>rfl
  |some p=>
   obtain⟨j,b⟩:=p
   rw[Gp]at hg
   unfold va at hg
   simp only at hg
   split at hg<;>cases hg
 simp[Region.wanted,this]
theorem Sem.adt {a k b f:Nat} {is:List AI} {Q:Exit→Tm→St→Prop} {tm:Tm} {s:St}
 (Ph : ∀ act w,Holds B nt (tm.put (some a) (tm.get k)) s act w→Calls P f #[act.tmps.getD a Go.undef] w fun e w'=>∃ v,e = .returned v∧∃ bx s',Holds B nt bx s' (act.put (some b) v) w'∧ja P is (Q .normal) bx s') :
 Sem P B nt (.run (.op (some a) none (.mv (.s k)):: .call (some b) none f [.s a]::is)) Q tm s:=by
 intro c hc act w hh
 obtain⟨id,ops,rfl,hi⟩:=lG hc
 refine wp_region ?_
 have key : ∀ (l:List Nat) (ol:List Oper),l.map (ops[·]?)=ol.map some→qN P nt ops ol=some (.op (some a) none (.mv (.s k)):: .call (some b) none f [.s a]::is)→wpOps P ops (pQ B nt Q) l act w:=by
  intro l ol hl xl
  match ol,l,hl with
  | [],_,_=>simp[qN]at xl
  |o0::ol,[],hl=>simp at hl
  | o0::ol,j0::l,hl=>
   simp only[List.map_cons,List.cons.injEq]at hl
   obtain⟨hj0,hl⟩:=hl
   unfold qN at xl
   split at xl
   ·rename_i i0 is0 h1 h2
    cases xl
    match ol,l,hl,h2 with
    | [],_,_,h2=>simp[qN]at h2
    |o1::ol,[],hl,_=>simp at hl
    | o1::ol,j1::l,hl,h2=>
     simp only[List.map_cons,List.cons.injEq]at hl
     obtain⟨hj1,hl⟩:=hl
     unfold qN at h2
     split at h2
     ·rename_i i1 is1 h3 h4
      cases h2
      obtain⟨M,e,r,ht,hn,hd⟩:=hh
      have GO:=tc h1
      have G3:=tc h3
      simp only[AI.dst]at GO G3
      refine xk (K':=fun bx s'=>bx=tm.put (some a) (tm.get k)∧s'=s) hj0 h1 r (B.laid.ext e) ht (by simp only[ja,guarded,aJ,X.ev,and_self]) (fun d v s1 w1 M1 hk e1 r1 hv=>?_)
      obtain⟨wh,rfl⟩:=hk
      have hH:=Holds.put e ht hn hd (x8 h1) e1 r1 hv
      simp only[AI.dst]at wh
      rw[← GO]at hH ⊢
      rw[wh]at hH
      obtain⟨g,hg,_,hb⟩:=Bg h3
      obtain⟨rfl,args,mO,mN,yX,oO⟩:=Pf hb
      simp only[wpOps,hj1,R6 hg,if_true]
      left
      have anS:args.map (act.put (some a) v).eval = #[(act.put (some a) v).tmps.getD a Go.undef]:=by
       have:args.toList = [.tmp a]:=by
        match hA:args.toList with
        | []=>rw[hA]at oO;simp[xQ]at oO
        | [x]=>
         rw[hA]at oO
         simp only[xQ]at oO
         split at oO
         ·rename_i x' r' hx hr
          cases oO
          rw[ZK hx]
         ·cases oO
        | x::y::z=>
         rw[hA]at oO
         simp only[xQ]at oO
         split at oO
         ·rename_i x' r' hx hr
          cases oO
          split at hr
          ·cases hr
          ·cases hr
         ·cases oO
       have:args = #[.tmp a]:=by rw[← Array.toArray_toList (xs:=args),this]
       rw[this]
       simp only[List.map_toArray,List.map_cons,List.map_nil]
       rfl
      have hex:(execOp (act.put (some a) v).eval o1).run P w1 = .ok (.enter f #[(act.put (some a) v).tmps.getD a Go.undef]) w1:=by
       obtain⟨dst,op,type,pos,after,guard⟩:=o1
       simp only at mN
       subst mN
       rw[← anS]
       exact xf (act.put (some a) v).eval dst f args mO type pos after guard rfl yX w1
      unfold Oper.wp
      rw[hex,Oper.upon_enter]
      refine(Ph _ _ hH).mono ?_
      rintro en w' ⟨v',rfl,bx,s',hH',hvc⟩
      rw[← G3]
      exact Bd (Q:=Q) l ol _ hl h4 bx s' _ w' hvc hH'
     ·cases h2
   ·cases xl
 exact key _ _ (Be ops) hi
theorem G4 (hB:B.s = ⟨[],[]⟩) {tm:Tm} {s:St} {act:Act} {w:World} (h:Holds B nt tm s act w) {t:Nat} {l:List aG} (ht:s.aw[t]? = some (some l.length)) {k0:Nat} (hk0:tm.get k0 = .slice (.tok t) 1 (l.map encStr)) :
 (l = []∧∀ k,tm.get k = .slice (.tok t) 1 (l.map encStr)→(act.tmps.getD k Go.undef = .slice none 0 0∨∃ b q,act.tmps.getD k Go.undef = .slice (some ⟨b,q,none⟩) 0 0))∨
 ∃ (b cap:Nat) (vs:Array Value) (T:TypeId),(∀ k,tm.get k = .slice (.tok t) 1 (l.map encStr)→act.tmps.getD k Go.undef = .slice (some ⟨b,0,none⟩) l.length cap)∧l.length≤cap∧w.heap[b]? = some (.cells vs T (0,0))∧vs.size=cap∧B.w.heap.size≤b∧
  ∀ j (hj:j<l.length),vs[j]? = some (.string ⟨⟨l[j]⟩⟩):=by
 obtain⟨M,e,r,hr,_,_⟩:=h
 rcases r.tok t _ ht with ⟨h3,h4⟩|⟨b,cap,z,vs,T,h3,h4,h5,h6,h7⟩
 ·have hl:l = []:=List.eq_nil_of_length_eq_zero h4
  subst hl
  refine .inl ⟨rfl,fun k hk=>?_⟩
  have hv:=hr k
  rw[hk]at hv
  generalize act.tmps.getD k Go.undef=v at hv
  cases hv with
  |iA _ _ cap hc pL=>subst hc;exact .inl rfl
  |slice _ _ _ b q cap hl hs h1 h2 pL=>
   rcases(pL.2 _ ht).2 rfl with ⟨_,h0,_⟩|⟨b',_,kJ⟩
   ·subst h0;exact .inr ⟨b,q,rfl⟩
   ·rw[h3]at kJ;cases kJ
 ·right
  have each : ∀ k,tm.get k = .slice (.tok t) 1 (l.map encStr)→z=1∧act.tmps.getD k Go.undef = .slice (some ⟨b,0,none⟩) l.length cap∧l.length≤cap∧∀ j (hj:j<l.length),∃ u,M.G b j=some u∧RD M s (.str l[j]) u:=by
   intro k hk
   have hv:=hr k
   rw[hk]at hv
   generalize act.tmps.getD k Go.undef=v at hv
   generalize ki:l.map encStr=rows at hv
   cases hv with
   |iA _ _ cap hc pL=>
    have hl:l = []:=by cases l<;>simp at ki;rfl
    subst hl
    rcases(pL.2 _ ht).2 rfl with ⟨h0,_⟩|⟨b',h0,_⟩
    ·rw[h3]at h0;cases h0
    ·cases h0
   | slice _ _ _ b2 q av0 hl hs h1 h2 pL=>
    subst ki
    rw[List.length_map]at hl pL
    rcases(pL.2 _ ht).2 rfl with ⟨h0,_⟩|⟨b',hb,kJ⟩
    ·rw[h3]at h0;cases h0
    ·cases hb
     rw[h3]at kJ
     cases kJ
     refine⟨rfl,by rw[List.length_map],hl,fun j hj=>?_⟩
     have e1:(l.map encStr)[j]? = some [.str l[j]]:=by rw[List.getElem?_map,List.getElem?_eq_getElem hj];rfl
     obtain⟨u,hu⟩:=h1 j _ 0 _ e1 rfl
     refine⟨u,by simpa using hu,h2 j _ 0 _ u e1 rfl hu⟩
  obtain⟨rfl,_,tM,ml⟩:=each k0 hk0
  have dh:B.w.heap.size≤b:=by
   rcases e.qo t b cap 1 ⟨_,ht⟩ h3 with ⟨⟨n,hn⟩,_⟩|h
   ·rw[hB]at hn;simp at hn
   ·exact h
  refine⟨b,cap,vs,T,fun k hk=>(each k hk).2.1,tM,h4,by simpa[zs]using h5,dh,fun j hj=>?_⟩
  obtain⟨u,hu,jv⟩:=ml j hj
  have:=(r.comm _ _ _ hu).1
  rw[jj h4,jv.lq]at this
  exact this
theorem JX (hB:B.s = ⟨[],[]⟩) {tm:Tm} {s:St} {act uk:Act} {w w':World} (h:Holds B nt tm s act w) {b cap:Nat} {vs:Array Value} {T:TypeId} (dO:vs.size=cap) (wC:B.w.heap.size≤b)
 (l7 : ∀ q,q<B.w.heap.size→w'.heap[q]? = w.heap[q]?) (dZ:w'.heap[b]? = some (.cells vs T (0,0))) (ux:w.heap.size≤w'.heap.size) (uy:w'.os=w.os) (Ed:w'.tape=w.tape) (Tt:w'.output=w.output)
 {l:List aG} (hl:l.length≤cap) (ml : ∀ j (hj:j<l.length),vs[j]? = some (.string ⟨⟨l[j]⟩⟩)) {k:Nat} (Pj:uk.tmps.getD k Go.undef = .slice (some ⟨b,0,none⟩) l.length cap) (hn:uk.tmps.size=nt) (hd:uk.defers = []) :
 Holds B nt [(k, .slice (.tok 0) 1 (l.map encStr))] ⟨[],[some l.length]⟩ uk w':=by
 obtain⟨M,e,r,hr,_,_⟩:=h
 let M':Map:=⟨fun q o=>if q=b then(if o<l.length then(l[o]?).map fun x=>Value.string ⟨⟨x⟩⟩else none)else B.M.G q o,B.M.loc,fun _=>some (b,cap,1)⟩
 have hGb : ∀ q o v,B.M.G q o=some v→q<B.w.heap.size∧w'.cell? ⟨q,o,none⟩=some v∧v.oneCell'=true:=by
  intro q o v hq
  obtain⟨h1,h2⟩:=r.comm q o v (e.le.G q o v hq)
  have hD:=B.CS q o v hq
  refine⟨hD, ?_,h2⟩
  rw[← h1]
  simp[World.cell?,l7 q hD]
 have gW : ∀ j (hj:j<l.length),w'.cell? ⟨b,j,none⟩=some (.string ⟨⟨l[j]⟩⟩):=fun j hj=>by rw[jj dZ];exact ml j hj
 have hY : ∀ (j:Nat) v,(if j<l.length then(l[j]?).map fun x=>Value.string ⟨⟨x⟩⟩else none)=some v→∃ hj:j<l.length,v = .string ⟨⟨l[j]⟩⟩:=by
  intro j v hv
  split at hv
  ·rename_i hj
   rw[List.getElem?_eq_getElem hj]at hv
   exact⟨hj,by simpa using hv.symm⟩
  ·cases hv
 refine⟨M',⟨⟨fun q o v hq=>?_,by simp[hB],fun o ho=> .refl _,by rw[hB];exact Nat.zero_le _,fun t n' ht _=>by rw[hB]at ht;exact absurd ht (Nat.not_lt_zero _)⟩,fun q hq _ _=>?_,fun o _ h2=>absurd h2 (Nat.not_lt_zero _),fun t q c z _ hb=>?_,fun q o eK=>?_,Nat.le_trans e.size ux,uy.trans e.os,Ed.trans e.tape,Tt.trans e.output⟩,
  ⟨fun q o v hq=>?_,fun o ds ho=>by simp at ho,fun o ho=>absurd ho (Nat.not_lt_zero _),fun o o' ho=>absurd ho (Nat.not_lt_zero _),fun t n ht=>?_,fun t q c z o _ _ ho=>absurd ho (Nat.not_lt_zero _),fun t t' q c z c' z' vG iY _ _=>?_⟩,fun u=>?_,hn,hd⟩
 ·show(if q=b then _ else B.M.G q o)=some v
  rw[if_neg (by have:=(hGb q o v hq).1;omega)]
  exact hq
 ·rw [l7 q hq]
  exact e.kept q hq (fun o ho=>by rw[hB]at ho;exact absurd ho (Nat.not_lt_zero _)) (fun t c z iY=>by rw[hB]at iY;obtain⟨n,Aq⟩:=iY;simp at Aq)
 ·cases hb;exact .inr wC
 ·by_cases hq:q=b
  ·subst hq;exact .inl wC
  ·exact absurd (show(if q=b then _ else B.M.G q o)=B.M.G q o from if_neg hq) eK
 ·have mM:(if q=b then(if o<l.length then(l[o]?).map fun x=>Value.string ⟨⟨x⟩⟩else none)else B.M.G q o)=some v:=hq
  by_cases hqb:q=b
  ·rw [if_pos hqb]at mM
   obtain⟨hj,rfl⟩:=hY o v mM
   rw[hqb]
   exact⟨gW o hj,rfl⟩
  ·rw [if_neg hqb]at mM
   exact(hGb q o v mM).2
 ·match t with
  | 0=>
   simp at ht
   subst ht
   refine .inr ⟨b,cap,1,vs,T,rfl,dZ,by simp[zs,dO],hl,fun off ho=>?_,fun h=>by cases h⟩
   show(if b=b then(if off<l.length then _ else none)else B.M.G b off)=none
   rw[if_pos rfl,if_neg (by simp[zs]at ho;omega)]
  |t+1=>simp at ht
 ·obtain⟨n1,h1⟩:=vG
  obtain⟨n2,h2⟩:=iY
  have a1:=(List.getElem?_eq_some_iff.1 h1).1
  have a2:=(List.getElem?_eq_some_iff.1 h2).1
  simp at a1 a2
  omega
 ·simp only [Tm.get]
  split
  ·rename_i hku
   subst hku
   rw[Pj]
   have:=RD.slice (M:=M') (s:=⟨[],[some l.length]⟩) (.tok 0) 1 (l.map encStr) b 0 cap (by simpa using hl) (fun row hr=>by
    obtain⟨x,_,rfl⟩:=List.mem_map.1 hr;rfl) (fun i row j d e1 e2=>?_) (fun i row j d u e1 e2 eu=>?_) ⟨by simp,fun n Aq=>by
    simp at Aq
    subst Aq
    exact⟨by simp,fun _=> .inr ⟨b,rfl,rfl⟩⟩⟩
   ·simpa using this
   ·rw [List.getElem?_map]at e1
    cases Aj:l[i]? with
    |none=>rw[Aj]at e1;cases e1
    |some x=>
     have qF:=(List.getElem?_eq_some_iff.1 Aj).1
     rw[Aj]at e1
     cases e1
     have hj:j=0:=by cases j with|zero=>rfl|succ j=>simp[encStr]at e2
     subst hj
     refine⟨.string ⟨⟨x⟩⟩, ?_⟩
     show(if b=b then(if 0+(i*1+0)<l.length then _ else none)else _)=_
     rw[if_pos rfl,if_pos (by omega)]
     simp[Aj]
   ·rw [List.getElem?_map]at e1
    cases Aj:l[i]? with
    |none=>rw[Aj]at e1;cases e1
    |some x=>
     have qF:=(List.getElem?_eq_some_iff.1 Aj).1
     rw[Aj]at e1
     cases e1
     have hj:j=0:=by cases j with|zero=>rfl|succ j=>simp[encStr]at e2
     subst hj
     have Er:(if b=b then(if 0+(i*1+0)<l.length then(l[0+(i*1+0)]?).map fun x=>Value.string ⟨⟨x⟩⟩else none)else B.M.G b (0+(i*1+0)))=some u:=eu
     rw[if_pos rfl,if_pos (by omega)]at Er
     simp[Aj]at Er
     subst Er
     simp[encStr]at e2
     subst e2
     exact .str x
  ·exact .junk _
theorem L5 (hB:B.s = ⟨[],[]⟩) {tm:Tm} {s:St} {act uk:Act} {w:World} (h:Holds B nt tm s act w) {k:Nat} (Pj:uk.tmps.getD k Go.undef = .slice none 0 0∨∃ b q,uk.tmps.getD k Go.undef = .slice (some ⟨b,q,none⟩) 0 0) (hn:uk.tmps.size=nt) (hd:uk.defers = []) :
 Holds B nt [(k, .slice (.tok 0) 1 (([] : List aG).map encStr))] ⟨[],[some 0]⟩ uk w:=by
 obtain⟨M,e,r,hr,_,_⟩:=h
 let M':Map:=⟨B.M.G,B.M.loc,fun _=>none⟩
 refine⟨M',⟨⟨fun q o v hq=>hq,by simp[hB],fun o ho=> .refl _,by rw[hB];exact Nat.zero_le _,fun t n' ht _=>by rw[hB]at ht;exact absurd ht (Nat.not_lt_zero _)⟩,fun q hq _ _=>?_,fun o _ h2=>absurd h2 (Nat.not_lt_zero _),fun t q c z _ hb=>(by cases hb),fun q o eK=>absurd rfl eK,e.size,e.os,e.tape,e.output⟩,
  ⟨fun q o v hq=>r.comm q o v (e.le.G q o v hq),fun o ds ho=>by simp at ho,fun o ho=>absurd ho (Nat.not_lt_zero _),fun o o' ho=>absurd ho (Nat.not_lt_zero _),fun t n ht=>?_,fun t q c z o _ _ ho=>absurd ho (Nat.not_lt_zero _),fun t t' q c z c' z' vG iY h1 _=>by cases h1⟩,fun u=>?_,hn,hd⟩
 ·exact e.kept q hq (fun o ho=>by rw[hB]at ho;exact absurd ho (Nat.not_lt_zero _)) (fun t c z iY=>by rw[hB]at iY;obtain⟨n,Aq⟩:=iY;simp at Aq)
 ·match t with
  | 0=>simp at ht;subst ht;exact .inl ⟨rfl,rfl⟩
  |t+1=>simp at ht
 ·simp only [Tm.get]
  split
  ·rename_i hku
   subst hku
   have pL : ∀ base,iQ M' ⟨[],[some 0]⟩ (.tok 0) 1 0 base 0:=fun base=>⟨by simp,fun n Aq=>by
    simp at Aq
    subst Aq
    exact⟨Nat.le_refl _,fun _=> .inl ⟨rfl,rfl,fun h=>by cases h⟩⟩⟩
   rcases Pj with h|⟨b,q,h⟩
   ·rw[h];exact .iA _ _ 0 rfl (pL none)
   ·rw[h];exact .slice (.tok 0) 1 [] b q 0 (Nat.le_refl _) (by simp) (by simp) (by simp) (pL _)
  ·exact .junk _
theorem JY {α:Type} [Inhabited α] (enc:α→Value) (d:Array α) (c:Array Value) (j:Nat):(Sort.putCells enc 0 d c)[j]? = if j<d.size then(c[j]?).map fun _=>enc d[j]! else c[j]? :=by
 simp only[Sort.putCells,Array.getElem?_mapIdx]
 cases h:c[j]? with
 |none=>simp
 |some x=>by_cases hj:j<d.size<;>simp[hj]
theorem G5 {w:World} {b n cap:Nat} {vs:Array Value} {T:TypeId} (dZ:w.heap[b]? = some (.cells vs T (0,0))) (dO:vs.size=cap) (l:List aG) (hl:l.length≤cap) (os:Array Obj) :
 (∀ q,q≠b→q<w.heap.size→(Sort.grow (Sort.putRow Go.Proofs.encStr (Sort.ahead w n) b 0 l.toArray) os).heap[q]? = w.heap[q]?)∧
 (Sort.grow (Sort.putRow Go.Proofs.encStr (Sort.ahead w n) b 0 l.toArray) os).heap[b]? = some (.cells (Sort.putCells Go.Proofs.encStr 0 l.toArray vs) T (0,0))∧w.heap.size≤(Sort.grow (Sort.putRow Go.Proofs.encStr (Sort.ahead w n) b 0 l.toArray) os).heap.size∧
 (Sort.putCells Go.Proofs.encStr 0 l.toArray vs).size=cap∧∀ j (hj:j<l.length),(Sort.putCells Go.Proofs.encStr 0 l.toArray vs)[j]? = some (.string ⟨⟨l[j]⟩⟩):=by
 have hb:b<w.heap.size:=(Array.getElem?_eq_some_iff.1 dZ).1
 refine⟨fun q hq hD=>?_, ?_, ?_, ?_,fun j hj=>?_⟩
 ·simp only [Sort.grow,Sort.putRow,Sort.mapBlock,Sort.ahead]
  rw[Array.getElem?_append_left (by simpa using hD),Array.getElem?_modify]
  simp[Ne.symm hq]
 ·simp only [Sort.grow,Sort.putRow,Sort.mapBlock,Sort.ahead]
  rw[Array.getElem?_append_left (by simpa using hb),Array.getElem?_modify]
  simp[dZ,Sort.onCells]
 ·simp[Sort.grow,Sort.putRow,Sort.mapBlock,Sort.ahead]
 ·simp[Sort.putCells,dO]
 ·rw [JY]
  have h1:j<l.toArray.size:=by simpa using hj
  have h2:vs[j]? = some vs[j]:=Array.getElem?_eq_getElem (by omega)
  rw[if_pos h1,h2]
  simp[hj]
def my (l:List aG):List aG:=l.mergeSort fun x y=>decide (x≤y)
theorem JZ {act:Act} {b:Nat} {v:Value} {u:Nat} (h:u≠b):(act.put (some b) v).tmps.getD u Go.undef=act.tmps.getD u Go.undef:=by
 simp only[Act.put,Array.getD_eq_getD_getElem?]
 rw[Array.getElem?_setIfInBounds_ne (fun e=>h e.symm)]
theorem G6 {act:Act} {b:Nat} {v:Value} (h:b<act.tmps.size):(act.put (some b) v).tmps.getD b Go.undef=v:=by
 simp only[Act.put,Array.getD_eq_getD_getElem?]
 simp[h]
theorem Sem.sort (hB:B.s = ⟨[],[]⟩) {a k b t:Nat} {l:List aG} {is:List AI} {Q:Exit→Tm→St→Prop} {tm:Tm} {s:St} (hak:a≠k) (hbk:b≠k) (XV:a≠b)
 (hk:tm.get k = .slice (.tok t) 1 (l.map encStr)) (ht:s.aw[t]? = some (some l.length)) (hl:l.length<4611686018427387904)
 (h:ja Tryz.prog is (Q .normal) [(k, .slice (.tok 0) 1 ((my l).map encStr))] ⟨[],[some l.length]⟩) :
 Sem Tryz.prog B nt (.run (.op (some a) none (.mv (.s k)):: .call (some b) none jz [.s a]::is)) Q tm s:=by
 refine Sem.adt fun act w hh=>?_
 have Af:(tm.put (some a) (tm.get k)).get k = .slice (.tok t) 1 (l.map encStr):=by rw[Tm.ly,if_neg (by simpa using hak)];exact hk
 have J0:(tm.put (some a) (tm.get k)).get a = .slice (.tok t) 1 (l.map encStr):=by rw[Tm.ly,if_pos rfl];exact hk
 have EU:(my l).length=l.length:=List.length_mergeSort l
 have hn:(act.put (some b) (.tuple #[])).tmps.size=nt:=by obtain⟨_,_,_,_,h1,_⟩:=hh;simpa[Act.put]using h1
 have hd:(act.put (some b) (.tuple #[])).defers = []:=by obtain⟨_,_,_,_,_,h1⟩:=hh;simpa[Act.put]using h1
 have dO:(act.tmps).size=nt:=by obtain⟨_,_,_,_,h1,_⟩:=hh;exact h1
 rcases G4 hB hh ht J0 with ⟨rfl,hv⟩|⟨b',cap,vs,T,hv,tM,dZ,oZ,wC,ml⟩
 ·rw [show my [] = [] by simp [my]]at h
  have call : ∀ p,act.tmps.getD a Go.undef = .slice p 0 0→Calls Tryz.prog jz #[act.tmps.getD a Go.undef] w fun e w'=>∃ v,e = .returned v∧∃ bx s',Holds B nt bx s' (act.put (some b) v) w'∧ja Tryz.prog is (Q .normal) bx s':=by
   intro p hp
   rw[hp]
   refine(Tryz.slices_Sort_string_none p 0 w).mono ?_
   rintro e w' ⟨rfl,rfl⟩
   refine⟨_,rfl,_,_,L5 hB hh (k:=k) ?_ hn hd,h⟩
   rw[JZ (Ne.symm hbk)]
   exact hv k Af
  rcases hv a J0 with h1|⟨b',q,h1⟩
  ·exact call _ h1
  ·exact call _ h1
 ·rw [hv a J0]
  have hD:b'<w.heap.size:=(Array.getElem?_eq_some_iff.1 dZ).1
  refine(Tryz.slices_Sort_string b' 0 cap l w (fun j hj=>?_) hD hl).mono ?_
  ·have R7:j<l.length:=by simpa using hj
   refine⟨?_,by simp[World.frozen?,dZ]⟩
   rw[Nat.zero_add,jj dZ,ml j R7]
   simp[R7]
  ·rintro e w' ⟨rfl,n,os,rfl⟩
   obtain⟨p1,p2,p3,p4,p5⟩:=G5 (n:=n) dZ oZ (my l) (by omega) os
   have hH:=JX hB hh (uk:=act.put (some b) (.tuple #[])) (l:=my l) (k:=k) p4 wC (fun q hq=>p1 q (by omega) (by obtain⟨M,e,_⟩:=hh;exact Nat.lt_of_lt_of_le hq e.size)) p2 p3 rfl rfl rfl (by omega) p5 (by rw[JZ (Ne.symm hbk),hv k Af,EU]) hn hd
   rw[EU]at hH
   exact⟨_,rfl,_,_,hH,h⟩
theorem Lq (l:List aG):(Lib.compact l).length≤l.length:=by
 unfold Lib.compact Lib.compactUpTo
 rw[List.length_map]
 exact Nat.le_trans (List.length_filter_le _ _) (by simp)
theorem Sem.compact (hB:B.s = ⟨[],[]⟩) {a k b t:Nat} {l:List aG} {is:List AI} {Q:Exit→Tm→St→Prop} {tm:Tm} {s:St} (hbt:b<nt)
 (hk:tm.get k = .slice (.tok t) 1 (l.map encStr)) (ht:s.aw[t]? = some (some l.length)) (hl:l.length<4611686018427387904)
 (h:ja Tryz.prog is (Q .normal) [(b, .slice (.tok 0) 1 ((Lib.compact l).map encStr))] ⟨[],[some (Lib.compact l).length]⟩) :
 Sem Tryz.prog B nt (.run (.op (some a) none (.mv (.s k)):: .call (some b) none jS [.s a]::is)) Q tm s:=by
 refine Sem.adt fun act w hh=>?_
 have J0:(tm.put (some a) (tm.get k)).get a = .slice (.tok t) 1 (l.map encStr):=by rw[Tm.ly,if_pos rfl];exact hk
 have dO:(act.tmps).size=nt:=by obtain⟨_,_,_,_,h1,_⟩:=hh;exact h1
 have hn : ∀ v,(act.put (some b) v).tmps.size=nt:=fun v=>by simpa[Act.put]using dO
 have hd : ∀ v,(act.put (some b) v).defers = []:=by obtain⟨_,_,_,_,_,h1⟩:=hh;intro v;simpa[Act.put]using h1
 rcases G4 hB hh ht J0 with ⟨rfl,hv⟩|⟨b',cap,vs,T,hv,tM,dZ,oZ,wC,ml⟩
 ·rw [show Lib.compact ([] : List aG) = []from rfl]at h
  have call : ∀ p,act.tmps.getD a Go.undef = .slice p 0 0→(p=none∨∃ b q,p=some ⟨b,q,none⟩)→Calls Tryz.prog jS #[act.tmps.getD a Go.undef] w fun e w'=>∃ v,e = .returned v∧∃ bx s',Holds B nt bx s' (act.put (some b) v) w'∧ja Tryz.prog is (Q .normal) bx s':=by
   intro p hp hq
   rw[hp]
   refine(Tryz.slices_Compact_string_empty p 0 w).mono ?_
   rintro e w' ⟨rfl,rfl⟩
   refine⟨_,rfl,_,_,L5 hB hh (k:=b) ?_ (hn _) (hd _),h⟩
   rw[G6 (by omega)]
   rcases hq with rfl|⟨x,y,rfl⟩
   ·exact .inl rfl
   ·exact .inr ⟨x,y,rfl⟩
  rcases hv a J0 with h1|⟨b',q,h1⟩
  ·exact call _ h1 (.inl rfl)
  ·exact call _ h1 (.inr ⟨b',q,rfl⟩)
 ·rw [hv a J0]
  have oN:(Lib.compact l).length≤l.length:=Lq l
  refine(Tryz.slices_Compact_string b' 0 cap l w (fun j hj=>?_) (by omega) tM).mono ?_
  ·have R7:j<l.length:=by simpa using hj
   refine⟨?_,by simp[World.frozen?,dZ]⟩
   rw[Nat.zero_add,jj dZ,ml j R7]
   simp[R7]
  ·rintro e w' ⟨rfl,q,rfl⟩
   obtain⟨p1,p2,p3,p4,p5⟩:=G5 (n:=q) dZ oZ (Lib.compact l++List.replicate (l.length - (Lib.compact l).length) []) (by simp;omega) #[]
   rw[Sort.grow_empty]at p1 p2 p3
   have hH:=JX hB hh (uk:=act.put (some b) (.slice (some ⟨b',0,none⟩) (Lib.compact l).length cap)) (l:=Lib.compact l) (k:=b) p4 wC (fun q hq=>p1 q (by omega) (by obtain⟨M,e,_⟩:=hh;exact Nat.lt_of_lt_of_le hq e.size)) p2 p3 rfl rfl rfl (by omega)
    (fun j hj=>by
     have:=p5 j (by simp;omega)
     rw[List.getElem_append_left hj]at this
     exact this) (G6 (by omega)) (hn _) (hd _)
   exact⟨_,rfl,_,_,hH,h⟩
end
end Go.Abs
namespace Go.Abs
theorem EV {a b:UInt8} : a<b↔a.toNat<b.toNat:=UInt8.lt_iff_toNat_lt
theorem yB : ∀ a:aG,bytesLess a a=false
 | []=>rfl
 |x::a=>by
  show Go.Op.bytesLess (x::a) (x::a)=false
  have h:=yB a
  have h:Go.Op.bytesLess a a=false:=h
  simp[Go.Op.bytesLess,h]
theorem yC : ∀ a b:aG,bytesLess a b=true∨a=b∨bytesLess b a=true
 | [],[]=> .inr (.inl rfl)
 | [],y::b=> .inl rfl
 |x::a,[]=> .inr (.inr rfl)
 | x::a,y::b=>by
  show Go.Op.bytesLess (x::a) (y::b)=true∨_∨Go.Op.bytesLess (y::b) (x::a)=true
  have h:Go.Op.bytesLess a b=true∨a=b∨Go.Op.bytesLess b a=true:=yC a b
  simp only[Go.Op.bytesLess,Bool.or_eq_true,Bool.and_eq_true,decide_eq_true_eq,beq_iff_eq,List.cons.injEq]
  by_cases e:x=y
  ·subst e
   rcases h with h|h|h
   ·exact .inl (.inr ⟨rfl,h⟩)
   ·exact .inr (.inl ⟨rfl,h⟩)
   ·exact .inr (.inr (.inr ⟨rfl,h⟩))
  ·have:x.toNat≠y.toNat:=fun h=>e (UInt8.toNat_inj.1 h)
   rcases Nat.lt_or_gt_of_ne this with h|h
   ·exact .inl (.inl (EV.2 h))
   ·exact .inr (.inr (.inl (EV.2 h)))
theorem EW : ∀ a b c:aG,bytesLess a b=true→bytesLess b c=true→bytesLess a c=true
 |a,b,[],h1,h2=>by cases b<;>cases h2
 |a,[],z::c,h1,h2=>by cases a<;>cases h1
 | [],y::b,z::c,h1,h2=>rfl
 | x::a,y::b,z::c,h1,h2=>by
  have h1:Go.Op.bytesLess (x::a) (y::b)=true:=h1
  have h2:Go.Op.bytesLess (y::b) (z::c)=true:=h2
  show Go.Op.bytesLess (x::a) (z::c)=true
  simp only[Go.Op.bytesLess,Bool.or_eq_true,Bool.and_eq_true,decide_eq_true_eq,beq_iff_eq]at h1 h2 ⊢
  rcases h1 with e1|⟨i1,e1⟩
  ·rcases h2 with e2 | ⟨i2,e2⟩
   ·exact .inl (EV.2 (Nat.lt_trans (EV.1 e1) (EV.1 e2)))
   ·exact .inl (i2 ▸ e1)
  ·rcases h2 with e2 | ⟨i2,e2⟩
   ·exact .inl (i1 ▸ e2)
   ·exact .inr ⟨i1.trans i2,EW a b c e1 e2⟩
def BI (l:List aG):Prop:=l.Pairwise fun a b=>bytesLess a b=true
theorem xD : ∀ {a b:List aG},BI a→BI b→(∀ x,x∈a↔x∈b)→a=b
 | [],[],_,_,_=>rfl
 | [],y::b,_,_,h=>absurd ((h y).2 List.mem_cons_self) (by simp)
 |x::a,[],_,_,h=>absurd ((h x).1 List.mem_cons_self) (by simp)
 | x::a,y::b,h1,h2,h=>by
  obtain⟨g1,g2⟩:=List.pairwise_cons.1 h1
  obtain⟨g3,g4⟩:=List.pairwise_cons.1 h2
  have e:x=y:=by
   rcases List.mem_cons.1 ((h x).1 List.mem_cons_self)with e|m
   ·exact e
   ·rcases List.mem_cons.1 ((h y).2 List.mem_cons_self)with e | m'
    ·exact e.symm
    ·have:=EW _ _ _ (g3 x m) (g1 y m');rw[yB]at this;cases this
  subst e
  rw[xD g2 g4 fun z=>?_]
  constructor
  ·intro m
   rcases List.mem_cons.1 ((h z).1 (List.mem_cons_of_mem _ m))with e|m'
   ·subst e;have:=g1 z m;rw[yB]at this;cases this
   ·exact m'
  ·intro m
   rcases List.mem_cons.1 ((h z).2 (List.mem_cons_of_mem _ m))with e|m'
   ·subst e;have:=g3 z m;rw[yB]at this;cases this
   ·exact m'
theorem uR (out:List aG) : ∀ (l:List aG) (c:aG) (a:Bool),
 let q:=nB out l c a
 (q.2=false↔a=false∧∀ x∈l,x∈out)∧(q.2=true→((a=true∧q.1=c)∨(q.1∈l∧q.1∉out))∧(a=true→bytesLess c q.1=false)∧∀ x∈l,x∉out→bytesLess x q.1=false)
 | [],c,a=>by
  simp only[nB]
  refine⟨by simp,fun h=>⟨.inl ⟨h,by trivial⟩,fun _=>yB c,fun x m=>(by cases m)⟩⟩
 | s::l,c,a=>by
  simp only[nB]
  by_cases h1:fx out s=true
  ·have m:=(ji _ _).1 h1
   simp only[h1,Bool.not_true,Bool.false_and,Bool.false_eq_true,if_false]
   obtain⟨k1,k2⟩:=uR out l c a
   refine⟨k1.trans ⟨fun h=>⟨h.1,fun x hx=>?_⟩,fun h=>⟨h.1,fun x hx=>h.2 x (List.mem_cons_of_mem _ hx)⟩⟩,fun h=>?_⟩
   ·rcases List.mem_cons.1 hx with rfl | hx
    ·exact m
    ·exact h.2 x hx
   ·obtain⟨g1,g2,g3⟩:=k2 h
    refine⟨g1.imp_right fun h=>⟨List.mem_cons_of_mem _ h.1,h.2⟩,g2,fun x hx hn=>?_⟩
    rcases List.mem_cons.1 hx with rfl|hx
    ·exact absurd m hn
    ·exact g3 x hx hn
  ·have m:s∉out:=fun m=>h1 ((ji _ _).2 m)
   have rY:fx out s=false:=by simpa using h1
   by_cases h2:(!a ||bytesLess s c)=true
   ·simp only [rY,h2,Bool.not_false,Bool.and_self,if_true]
    obtain⟨k1,k2⟩:=uR out l s true
    refine⟨⟨fun h=>absurd (k1.1 h).1 (by simp),fun h=>absurd (h.2 s List.mem_cons_self) m⟩,fun h=>?_⟩
    obtain⟨g1,g2,g3⟩:=k2 h
    have g4:=g2 rfl
    refine⟨.inr ?_,fun ha=>?_,fun x hx hn=>?_⟩
    ·rcases g1 with ⟨_,e⟩ | g1
     ·rw[e];exact⟨List.mem_cons_self,m⟩
     ·exact⟨List.mem_cons_of_mem _ g1.1,g1.2⟩
    ·have h3:bytesLess s c=true:=by simpa [ha]using h2
     cases hh:bytesLess c (nB out l s true).1
     ·rfl
     ·have:=EW _ _ _ h3 hh;rw[g4]at this;cases this
    ·rcases List.mem_cons.1 hx with rfl | hx
     ·exact g4
     ·exact g3 x hx hn
   ·have uz:(!a || bytesLess s c)=false:=by simpa using h2
    have ha:a=true:=by cases a<;>simp_all
    have h3:bytesLess s c=false:=by cases a<;>simp_all
    simp only[rY,uz,Bool.not_false,Bool.and_false,Bool.false_eq_true,if_false]
    obtain⟨k1,k2⟩:=uR out l c a
    refine⟨⟨fun h=>absurd (k1.1 h).1 (by simp[ha]),fun h=>absurd h.1 (by simp[ha])⟩,fun h=>?_⟩
    obtain⟨g1,g2,g3⟩:=k2 h
    refine⟨g1.imp_right fun h=>⟨List.mem_cons_of_mem _ h.1,h.2⟩,g2,fun x hx hn=>?_⟩
    rcases List.mem_cons.1 hx with rfl|hx
    ·cases hh:bytesLess x (nB out l c a).1
     ·rfl
     ·have g4:=g2 ha
      rcases yC x c with e|e|e
      ·rw[h3]at e;cases e
      ·subst e;rw[g4]at hh;cases hh
      ·have:=EW _ _ _ e hh;rw[g4]at this;cases this
    ·exact g3 x hx hn
theorem xE (l:List aG) : ∀ (n:Nat) (out:List aG),BI out→(∀ x∈out,x∈l)→(∀ x∈out,∀ y∈l,y∉out→bytesLess x y=true)→
 BI (pH l n out)∧(∀ x∈pH l n out,x∈l)∧(∀ x∈out,x∈pH l n out)∧((∀ x∈l,x∈pH l n out)∨(pH l n out).length=out.length+n)
 | 0,out,h1,h2,h3=>⟨h1,h2,fun x m=>m, .inr rfl⟩
 | n+1,out,h1,h2,h3=>by
  simp only[pH,R5]
  obtain⟨k1,k2⟩:=uR out l [] false
  cases hq:(nB out l [] false).2
  ·simp only [Bool.false_eq_true,if_false]
   obtain⟨g1,g2,g3,g4⟩:=xE l n out h1 h2 h3
   exact⟨g1,g2,g3, .inl fun x m=>g3 x ((k1.1 hq).2 x m)⟩
  ·simp only [if_true]
   obtain⟨g1,_,g3⟩:=k2 hq
   have g1:(nB out l [] false).1∈l∧(nB out l [] false).1∉out:=by
    rcases g1 with ⟨h,_⟩|g1
    ·cases h
    ·exact g1
   generalize (nB out l [] false).1=c at g1 g3
   obtain⟨r1,r2,r3,r4⟩:=xE l n (out++ [c])
    (by
     refine List.pairwise_append.2 ⟨h1,by simp,fun x hx y hy=>?_⟩
     have:y=c:=by simpa using hy
     subst this
     exact h3 x hx y g1.1 g1.2)
    (fun x hx=>by
     rcases List.mem_append.1 hx with hx|hx
     ·exact h2 x hx
     ·have:x=c:=by simpa using hx
      subst this;exact g1.1)
    (fun x hx y hy hn=>by
     have hyo:y∉out:=fun m=>hn (List.mem_append_left _ m)
     have hyc:y≠c:=fun e=>hn (List.mem_append_right _ (by simp[e]))
     rcases List.mem_append.1 hx with hx|hx
     ·exact h3 x hx y hy hyo
     ·have:x=c:=by simpa using hx
      subst this
      rcases yC x y with h|h|h
      ·exact h
      ·exact absurd h.symm hyc
      ·rw[g3 y hy hyo]at h;cases h)
   refine⟨r1,r2,fun x m=>r3 x (List.mem_append_left _ m),r4.imp_right fun h=>?_⟩
   rw[h];simp;omega
theorem wU : ∀ (a l:List aG),a.Nodup→(∀ x∈a,x∈l)→a.length≤l.length
 | [],l,_,_=>Nat.zero_le _
 |x::a,l,h,hm=>by
  obtain⟨h1,h2⟩:=List.nodup_cons.1 h
  have m:=hm x List.mem_cons_self
  have:=wU a (l.erase x) h2 fun y hy=>(List.mem_erase_of_ne (fun e=>h1 (by rw[← e];exact hy))).2 (hm y (List.mem_cons_of_mem _ hy))
  rw[List.length_erase_of_mem m]at this
  have:0<l.length:=List.length_pos_of_mem m
  simp only[List.length_cons];omega
theorem uS {l:List aG} (h:BI l):l.Nodup:=h.imp fun {a b} h e=>by subst e;rw[yB]at h;cases h
theorem mz (l:List aG):BI (km l)∧∀ x,x∈km l↔x∈l:=by
 obtain⟨h1,h2,h3,h4⟩:=xE l l.length [] List.Pairwise.nil (fun x m=>(by cases m)) (fun x m=>(by cases m))
 refine⟨h1,fun x=>⟨h2 x,fun m=>?_⟩⟩
 rcases h4 with h4|h4
 ·exact h4 x m
 ·refine Classical.byContradiction fun hn=> ?_
  have:=wU (x::pH l l.length []) l (List.nodup_cons.2 ⟨hn,uS h1⟩) fun y hy=>by
   rcases List.mem_cons.1 hy with rfl|hy
   ·exact m
   ·exact h2 y hy
  simp only[List.length_cons,h4,List.length_nil]at this
  omega
theorem Lr (zs:List aG) (hs:zs.Pairwise fun a b=>bytesLess b a=false) : ∀ m,m≤zs.length→
 BI (Lib.compactUpTo zs.toArray m)∧(∀ x,x∈Lib.compactUpTo zs.toArray m↔x∈zs.take m):=by
 intro m
 induction m with
 |zero=>intro _;exact⟨by simp[Lib.compactUpTo,BI],fun x=>by simp[Lib.compactUpTo]⟩
 | succ m ih=>
  intro hm
  obtain⟨h1,h2⟩:=ih (by omega)
  have hz:zs[m]? = some zs[m]:=List.getElem?_eq_getElem (by omega)
  have e1:zs.toArray[m]! = zs[m]:=by simp[hm,Nat.lt_of_succ_le hm]
  have et:zs.take (m+1)=zs.take m++ [zs[m]]:=by rw[List.take_add_one,hz];rfl
  rw[Lib.compactUpTo_succ,e1,et]
  by_cases hk:Lib.keeps zs.toArray m=true
  ·rw [if_pos hk]
   refine⟨List.pairwise_append.2 ⟨h1,by simp,fun x hx y hy=>?_⟩,fun x=>by rw[List.mem_append,List.mem_append,h2]⟩
   have hy:y=zs[m]:=by simpa using hy
   subst hy
   have hx:=(h2 x).1 hx
   simp only[Lib.keeps,decide_eq_true_eq]at hk
   rcases hk with rfl|hk
   ·simp at hx
   ·have nA:m - 1<zs.length:=by omega
    have e2:zs.toArray[m - 1]! = zs[m - 1]:=by simp[nA]
    rw[e1,e2]at hk
    have h0:0<m:=by
     cases m with
     |zero=>simp at hx
     |succ m=>omega
    have hle : ∀ i j (hi:i<zs.length) (hj:j<zs.length),i<j→bytesLess zs[j] zs[i] = false:=fun i j hi hj Wx=>List.pairwise_iff_getElem.1 hs i j hi hj Wx
    have g1:bytesLess zs[m] zs[m - 1] = false:=hle (m - 1) m nA (by omega) (by omega)
    have g2:bytesLess zs[m - 1] zs[m] = true:=by
     rcases yC zs[m - 1] zs[m]with h|h|h
     ·exact h
     ·exact absurd h.symm hk
     ·rw[g1]at h;cases h
    obtain⟨i,hi,rfl⟩:=List.mem_iff_getElem.1 hx
    rw[List.length_take]at hi
    rw[List.getElem_take]
    by_cases nL:i=m - 1
    ·subst nL;exact g2
    ·have g3:=hle i (m - 1) (by omega) nA (by omega)
     rcases yC zs[i] zs[m - 1]with h|h|h
     ·exact EW _ _ _ h g2
     ·rw[h];exact g2
     ·rw[g3]at h;cases h
  ·rw [if_neg hk]
   simp only[List.append_nil]
   refine⟨h1,fun x=>?_⟩
   rw[h2]
   simp only[Lib.keeps,decide_eq_true_eq,not_or,ne_eq,Decidable.not_not]at hk
   obtain⟨k1,k2⟩:=hk
   have nA:m - 1<zs.length:=by omega
   have e2:zs.toArray[m - 1]! = zs[m - 1]:=by simp[nA]
   rw[e1,e2]at k2
   simp only[List.mem_append,List.mem_singleton]
   constructor
   ·exact .inl
   ·rintro(h | rfl)
    ·exact h
    ·rw [k2]
     exact List.mem_iff_getElem.2 ⟨m - 1,by rw[List.length_take];omega,by rw[List.getElem_take]⟩
theorem G7 (l:List aG):(my l).Pairwise fun a b=>bytesLess b a=false:=by
 have h:=List.pairwise_mergeSort (le:=fun x y:aG=>decide (x≤y)) (fun a b c h1 h2=>?_) (fun a b=>?_) l
 ·refine h.imp fun {a b} h=> ?_
  rw[decide_eq_true_eq]at h
  show Go.Op.bytesLess b a=false
  rw[Go.Proofs.bytesLess_eq]
  simpa using h
 ·rw [decide_eq_true_eq]at h1 h2 ⊢
  exact List.le_trans h1 h2
 ·have:=List.le_total a b
  simpa using this
theorem BJ (l:List aG):Lib.compact (my l)=km l:=by
 obtain⟨h1,h2⟩:=Lr (my l) (G7 l) (my l).length (Nat.le_refl _)
 obtain⟨h3,h4⟩:=mz l
 refine xD h1 h3 fun x=>?_
 rw[h4]
 refine(h2 x).trans ?_
 rw[List.take_length]
 exact(List.mergeSort_perm _ _).mem_iff
set_option maxRecDepth 8000
open Go.Proofs
def l5:List Sm→List aG
 | []=> []
 |v::l=>if v.kind==4 then v.proc::l5 l else l5 l
theorem C6 : ∀ l:List Sm,(l5 l).length≤l.length
 | []=>Nat.le_refl _
 |v::l=>by
  simp only[l5]
  have:=C6 l
  split<;>simp<;>omega
def Pc.calls (f:Pc):List aG:=km (l5 (Sm.dd f.body))
theorem BK {name:aG} : ∀ {l:List Pc} {k:Nat} {f:Pc},iV name l=some f→∃ j,l[j]? = some f∧kX (fun f:Pc=>f.name==name) (k:Int) l=((k+j:Nat):Int)
 | g::l,k,f,h=>by
  simp only[iV]at h
  cases e:(g.name==name)
  ·rw [e]at h
   simp only[Bool.false_eq_true,if_false]at h
   obtain⟨j,h1,h2⟩:=BK (k:=k+1) h
   refine⟨j+1,by simpa using h1, ?_⟩
   simp only[kX,e,Bool.false_eq_true,if_false]
   rw[show((k:Int)+1)=((k+1:Nat):Int)from rfl,h2]
   congr 1;omega
  ·rw [e]at h
   simp only[if_true,Option.some.injEq]at h
   exact⟨0,by simpa using h,by simp[kX,e]⟩
theorem ZL {p:Pg} (h:p.iP) {name:aG} {f:Pc} (hf:p.find name=some f) (s:St):aF Tryz.prog uc [.dz (fA p) 0, .str name] s (.slice .shared 1 (f.calls.map encStr)) s:=by
 refine aF.pure ?_ (by simp[D.bK,D.ok,uh]) (by simp only[D.ok,Tag.ok,fa];rfl) s
 obtain⟨rV,rH,rG⟩:=h.procs
 obtain⟨j,hj,qW⟩:=BK (k:=0) hf
 have qW:p.at name=((j:Nat):Int):=by unfold Pg.at;simpa using qW
 have wQ:=fun s=>EH (p:=p) (by omega) name s
 rw[qW]at wQ
 obtain⟨it,pO,wS⟩:=Va hj (by omega)
 have adp:it.length≤900000:=by
  have e:=congrArg List.length pO
  obtain⟨a,b,e',_,_,e3,e4⟩:=(lg p).2 j f hj
  have e5:=pg p
  have e6:=congrArg List.length e3
  rw[e4]at e5
  simp only[List.length_map,List.length_append]at e e5 e6
  omega
 unfold S0
 obtain⟨fn,Au,C5⟩:=Ez
 refine aF.intro ⟨fn,Au,C5⟩ (Nat.le_of_ble_eq_true rfl) fun B hB=>?_
 generalize hQ:pR (⟨[],[]⟩:St).ah.length (⟨[],[]⟩:St).aw.length _ _ (⟨[],[]⟩:St)=Q
 have⟨hD,hY,hZ,gA⟩:=bR
 refine Sem.nj ?_
 repeat' (first
 |simp only[go_sem,hD,hY,hZ,gA]
 |(with_reducible refine aE hQ ?_;exact bc))
 refine Sem.nj ?_
 repeat' (first
 |simp only[go_sem,hD,hY,hZ,gA]
 |(with_reducible refine aE hQ ?_;exact bc))
 refine Sem.nj ?_
 repeat' (first
 |simp only[go_sem,hD,hY,hZ,gA]
 |(with_reducible refine CU (wQ _) ?_)
 |(with_reducible refine CU (wS _) ?_)
 |(with_reducible refine aE hQ ?_;exact bc))
 refine bp.q6 5 1 rfl ?_
 simp only[go_sem,hD,hY,hZ,gA]
 obtain⟨R,hR⟩ : ∃ R,R=l5 (Sm.dd f.body):=⟨_,rfl⟩
 have X3:R.length≤900000:=by rw[hR, ← pO];have:=C6 (it.map Im.s);rw[List.length_map]at this;omega
 refine ff 0 1 (bp.ind (ι:=List Im×Nat×List aG×Nat) (fun i=>it.drop i.2.1=i.1∧i.2.2.1++l5 (i.1.map Im.s)=R∧i.2.2.2=i.2.2.1.length) (fun i=>i.1.length)
  (fun i=> [(5, .slice (.tok 0) 1 (i.2.2.1.map encStr)),(12, .slice .shared 17 (it.map dv)),(13, .int .i64 (it.length:Int)),(14, .int .i64 (i.2.1:Int))]) (fun i=>⟨[],[some i.2.2.2]⟩) ?_ (it,0,[],0) ⟨rfl,by rw[hR,pO];rfl,rfl⟩)
 rintro⟨rest,k,out,n⟩ ⟨h1,h2,h3⟩ IH
 dsimp only at h1 h2 h3
 subst h3
 have iZ:out.length≤900000:=by have:=congrArg List.length h2;rw[List.length_append]at this;omega
 cases rest with
 | cons a rest=>
  obtain⟨hY,g2,hD,g4⟩:=drop_cons h1
  have bO:k<4611686018427387904:=by omega
  have hZ:(out.length+1)*17≤bC:=by unfold bC;omega
  simp only[List.map_cons,l5]at h2
  rcases Bool.eq_false_or_eq_true (a.s.kind==4)with c1|c1
  ·simp only [c1,if_true]at h2
   repeat' (first
 |simp only[go_sem,hD,hY,hZ,gA,c1]
 | (with_reducible refine aE hQ ?_;exact bc))
   refine eQ 0 1 ?_ ?_ (IH (rest,k+1,out++ [a.s.proc],out.length+1) ⟨g2,by rw[← h2];simp,by simp⟩ (Nat.lt_succ_self _))
   ·(simp only[go_sem,hD,hY,hZ,gA,aI bO,List.map_append,List.map_cons,List.map_nil,encStr];try exact bX)
   ·(simp only[go_sem,hD,hY,hZ,gA,aI bO,List.map_append,List.map_cons,List.map_nil,encStr];try exact bX)
  ·simp only [c1,Bool.false_eq_true,if_false]at h2
   repeat' (first
 |simp only[go_sem,hD,hY,hZ,gA,c1]
 | (with_reducible refine aE hQ ?_;exact bc))
   refine eQ 0 1 ?_ ?_ (IH (rest,k+1,out,_) ⟨g2,h2,rfl⟩ (Nat.lt_succ_self _))
   ·(simp only[go_sem,hD,hY,hZ,gA,aI bO];try exact bX)
   ·(simp only[go_sem,hD,hY,hZ,gA,aI bO];try exact bX)
 |nil=>
  have hD:=drop_nil h1
  simp only[List.map_nil,l5,List.append_nil]at h2
  subst h2
  have EU:(my out).length=out.length:=List.length_mergeSort out
  repeat' (first
 |simp only[go_sem,hD,hY,hZ,gA]
 |(with_reducible refine aE hQ ?_;exact bc))
  refine Sem.seq (Sem.sort (k:=5) (t:=0) (l:=out) hB (by decide) (by decide) (by decide) rfl rfl (by omega) ?_)
  show Sem _ _ _ _ _ _ _
  refine Sem.seq (Sem.compact (k:=5) (t:=0) (l:=my out) hB (by decide) rfl (by rw[EU];rfl) (by rw[EU];omega) ?_)
  rw[BJ]
  have anV:f.calls=km out:=by unfold Pc.calls;rw[hR]
  rw[anV]at hQ
  refine iI (ac:= .ret) (Q:=Q) (tm:= [(32, .slice (.tok 0) 1 ((km out).map encStr)),(4, .slice (.tok 0) 1 ((km out).map encStr))]) (s:=⟨[],[some (km out).length]⟩) ?_
  repeat' (first
 |simp only[go_sem,hD,hY,hZ,gA]
 |(with_reducible refine aE hQ ?_;exact bc))
theorem G8 {name:aG} : ∀ {l:List Pc},name∈l.map (·.name)→∃ f,iV name l=some f
 | f::l,h=>by
  simp only[iV]
  cases e:(f.name==name)
  ·simp only [Bool.false_eq_true,if_false]
   refine G8 ?_
   rcases List.mem_cons.1 h with h|h
   ·rw[h]at e;simp at e
   ·exact h
  ·exact⟨f,rfl⟩
theorem G9 {p:Pg} {f:Pc} {procs:List aG} : ∀ {l:List Sm},BF p f procs l=none→∀ v∈l,v.known p f procs=true
 | v::l,h,w,m=>by
  simp only[BF]at h
  split at h
  ·rename_i e
   rcases List.mem_cons.1 m with rfl|m
   ·exact e
   ·exact G9 h w m
  ·cases h
theorem Ha {p:Pg} {procs:List aG} : ∀ {l:List Pc},((vK p procs l).1==0)=true→∀ f∈l,fF (p.globals++f.own)=false∧∀ v∈Sm.dd f.body,v.known p f procs=true
 | g::l,h,f,m=>by
  simp only[vK]at h
  split at h
  ·cases h
  ·rename_i e
   split at h
   ·cases h
   ·rename_i e2
    rcases List.mem_cons.1 m with rfl|m
    ·exact⟨by simpa using e,G9 e2⟩
    ·exact Ha h f m
theorem DH {p:Pg} (h:(p.scope.1==0)=true):fF p.globals=false∧fF p.pn=false∧p.tA=false∧∀ f∈p.procs,fF (p.globals++f.own)=false∧∀ v∈Sm.dd f.body,v.known p f p.pn=true:=by
 unfold Pg.scope at h
 split at h
 ·split at h
  ·cases h
  ·rename_i e
   simp only[Bool.or_eq_true,not_or,Bool.not_eq_true]at e
   exact⟨e.1,e.2.1,e.2.2,Ha h⟩
 ·cases h
theorem xF {x:aG} : ∀ {l:List Sm},x∈l5 l↔∃ v∈l,v.kind=4∧v.proc=x
 | []=>by simp[l5]
 | v::l=>by
  simp only[l5]
  cases e:(v.kind==4)
  ·have:v.kind≠4:=by simpa using e
   simp[this,xF (l:=l)]
  ·have:v.kind=4:=by simpa using e
   simp only[if_true,List.mem_cons,xF (l:=l),exists_eq_or_imp,this,true_and]
   constructor
   ·rintro(h | h)
    ·exact .inl h.symm
    ·exact .inr h
   ·rintro(h | h)
    ·exact .inl h.symm
    ·exact .inr h
theorem R8 {f:Pc} {x:aG} : x∈f.calls↔∃ v∈Sm.dd f.body,v.kind=4∧v.proc=x:=by
 unfold Pc.calls;rw[(mz _).2,xF]
theorem C7 {p:Pg} (h:(p.scope.1==0)=true) {f:Pc} (hf:f∈p.procs) {x:aG} (m:x∈f.calls) : ∃ g,p.find x=some g:=by
 obtain⟨v,hv,h4,rfl⟩:=R8.1 m
 have hk:=((DH h).2.2.2 f hf).2 v hv
 simp only[Sm.known,h4,Bool.and_eq_true,Bool.or_eq_true]at hk
 rcases hk.2 with h|⟨_,h⟩
 ·simp at h
 ·exact G8 ((ji _ _).1 h)
def EX (p:Pg) (x:aG):List aG:=match p.find x with|some f=>f.calls|none=> []
def DI (out:List aG):List aG→List aG
 | []=>out
 |x::l=>DI (Ci out x) l
def wV (p:Pg):Nat→Nat→List aG→List aG
 | 0,_,out=>out
 |n+1,i,out=>match out[i]? with
  |some x=>wV p n (i+1) (DI out (EX p x))
  |none=>out
def Pg.work (p:Pg) (name:aG):List aG:=wV p (p.procs.length+1) 0 [name]
def Good (p:Pg) (out:List aG):Prop:=out.Nodup∧∀ x∈out,∃ f,p.find x=some f
theorem Good.len {p:Pg} {out:List aG} (h:Good p out):out.length≤p.procs.length:=by
 have:=wU out p.pn h.1 fun x m=>by
  obtain⟨f,hf⟩:=h.2 x m
  obtain⟨h1,h2⟩:=sw hf
  rw[← h2];exact List.mem_map_of_mem h1
 simpa[Pg.pn]using this
theorem Good.spk {p:Pg} {out:List aG} (h:Good p out) {x:aG} (hx : ∃ f,p.find x=some f):Good p (Ci out x):=by
 unfold Ci
 split
 ·exact h
 ·rename_i e
  have:x∉out:=fun m=>e ((ji _ _).2 m)
  refine⟨List.nodup_append.2 ⟨h.1,by simp,fun a ha b hb e'=>?_⟩,fun y hy=>?_⟩
  ·have hbx:b=x:=by simpa using hb
   rw[e',hbx]at ha;exact this ha
  ·rcases List.mem_append.1 hy with hy | hy
   ·exact h.2 y hy
   ·have:y=x:=by simpa using hy
    subst this;exact hx
theorem Good.add {p:Pg} : ∀ {l out:List aG},Good p out→(∀ x∈l,∃ f,p.find x=some f)→Good p (DI out l)
 | [],out,h,_=>h
 |x::l,out,h,hx=>Good.add (l:=l) (out:=Ci out x) (Good.spk h (hx x List.mem_cons_self)) fun y m=>hx y (List.mem_cons_of_mem _ m)
def tgB:Bool→Tag
 |true=> .tok 0
 |false=> .full
def tkB:Bool→Nat→List (Option Nat)
 |true,n=> [some n]
 |false,_=> []
def zA:AI→AI
 | .op d g (.dt z k n ps)=> .op d g (.u6 z k n ps)
 |a=>a
section
variable {P:Program}
theorem Ls {nt:Nat} {ops:Array Oper} {i:Nat} {o:Oper} {ai:AI} (hi:ops[i]? = some o) (hc:cI P nt ops o=some ai)
 {M:Map} {s:St} {w:World} {tm:Tm} {act:Act} (r:Rel M s w) (ky:Laid M s w) (ht:l8 M s tm act.tmps) {K':Tm→St→Prop} (h:ja P [zA ai] K' tm s)
 {K:Act→World→Prop} {Q:Exit→Act→World→Prop}
 (hK : ∀ d v s1 w1 M1,K' (tm.put ai.dst d) s1→Ext M s w M1 s1 w1→Rel M1 s1 w1→RD M1 s1 d v→K (act.put o.dst v) w1):wpOp P ops Q i K act w:=by
 by_cases hb : ∃ d g z k n ps,ai = .op d g (.dt z k n ps)
 ·obtain⟨d0,g0,z,k,n,ps,rfl⟩:=hb
  obtain⟨g,hg,_,hb⟩:=Bg hc
  rw[ta hb]at hK
  simp only[wpOp,hi]
  have skip:K' (tm.put o.dst (.tuple [])) s→K (act.put o.dst Go.undef) w:=fun hk=>hK _ _ _ _ _ hk (Ext.refl M s w) r .undef
  have hd:=ta hb
  simp only[AI.dst]at hd
  subst hd
  have og:D4 P o=some (.dt z k n ps)∧g0=g:=by
   unfold sB at hb
   split at hb
   ·split at hb
    ·obtain⟨xs,_,h⟩:=map_some hb;cases h
    ·cases hb
   ·obtain⟨xs,_,h⟩:=map_some hb;cases h
   ·split at hb
    ·cases hb
    ·split at hb
     ·rename_i og
      simp only[Option.some.injEq,AI.op.injEq,true_and]at hb
      obtain⟨h1,h2⟩:=hb
      split at h2
      ·cases h2
      ·cases h2;exact⟨og,h1.symm⟩
     ·rename_i ao eK og
      simp only[Option.some.injEq,AI.op.injEq,true_and]at hb
      obtain⟨h1,h2⟩:=hb
      subst h2
      exact⟨og,h1.symm⟩
     ·cases hb
  obtain⟨og,rfl⟩:=og
  simp only[zA,ja]at h
  rcases kj hg ht h with ⟨hw,hA⟩|⟨hw,hB⟩
  ·simp only [hw,if_true]
   left
   split at hA
   ·rename_i d s' qE
    obtain⟨v,w',M',dG,r',hv,e'⟩:=yW og r ht qE
    unfold Oper.wp
    rcases dG with dG|⟨dG,rfl⟩
    ·rw [dG,Oper.upon_value]
     exact hK _ _ _ _ _ hA e' r' hv
    ·rw [dG,Oper.upon_skip]
     exact hK _ _ _ _ _ hA e' r' hv
   ·exact hA.elim
  ·simp only [hw]
   exact skip hB
 ·have hs:zA ai=ai:=by
   unfold zA
   split
   ·rename_i d g z k n ps;exact absurd ⟨d,g,z,k,n,ps,rfl⟩ hb
   ·rfl
  rw[hs]at h
  exact xk hi hc r ky ht h hK
theorem ZM {a:AI} {r:List AI} {K:Tm→St→Prop} {tm:Tm} {s:St} (h:ja P (a::r) K tm s):ja P [a] (ja P r K) tm s:=by
 cases a<;>exact h
theorem Hb {B:fX} {nt:Nat} {ops:Array Oper} {Q:Exit→Tm→St→Prop} : ∀ (l:List Nat) (ol:List Oper) (is:List AI),l.map (ops[·]?)=ol.map some→qN P nt ops ol=some is→
 ∀ (tm:Tm) (s:St) (act:Act) (w:World),ja P (is.map zA) (Q .normal) tm s→Holds B nt tm s act w→wpOps P ops (pQ B nt Q) l act w
 | [],[],is,_,hc,tm,s,act,w,h,hh=>by cases hc;exact⟨tm,s,h,hh⟩
 | [],_::_,_,hl,_,_,_,_,_,_,_=>by simp at hl
 |_::_,[],_,hl,_,_,_,_,_,_,_=>by simp at hl
 | i::l,o::ol,is,hl,hc,tm,s,act,w,h,hh=>by
  simp only[List.map_cons,List.cons.injEq]at hl
  obtain⟨hi,hl⟩:=hl
  unfold qN at hc
  split at hc
  ·rename_i ai Qu h1 h2
   cases hc
   obtain⟨M,e,r,ht,hn,hd⟩:=hh
   have qt:=x8 h1
   have hdd:=tc h1
   rw[List.map_cons]at h
   have key:=Ls (K:=fun act w=>wpOps P ops (pQ B nt Q) l act w) (Q:=pQ B nt Q) hi h1 r (B.laid.ext e) ht (ZM h) (fun d v s1 w1 M1 hk e1 r1 hv=>
    Hb (Q:=Q) l ol Qu hl h2 _ _ _ _ hk (hdd ▸ Holds.put e ht hn hd qt e1 r1 hv))
   simpa only[wpOps,wpOp,hi]using key
  ·cases hc
theorem Sem.swap {B:fX} {nt:Nat} {is:List AI} {Q:Exit→Tm→St→Prop} {tm:Tm} {s:St} (h:ke P B nt (.run (is.map zA)) Q tm s):Sem P B nt (.run is) Q tm s:=by
 intro c hc act w hh
 obtain⟨id,ops,rfl,hi⟩:=lG hc
 refine wp_region ?_
 exact Hb _ _ is (Be ops) hi tm s act w (ow h) hh
end
end Go.Abs
namespace Go.Abs
set_option maxRecDepth 8000
open Go.Proofs
theorem Pk {l:List aG} (h:l.Nodup):my l=km l:=by
 refine xD ?_ (mz l).1 fun x=>?_
 ·have h1:=G7 l
  have h2:(my l).Nodup:=(List.mergeSort_perm l _).nodup_iff.2 h
  refine(List.pairwise_and_iff.2 ⟨h1,h2⟩).imp fun {a b} XV=>?_
  rcases yC a b with e|e|e
  ·exact e
  ·exact absurd e XV.2
  ·rw[XV.1]at e;cases e
 ·rw[(mz l).2];exact(List.mergeSort_perm l _).mem_iff
theorem BL {p:Pg} (nN:(p.scope.1==0)=true) : ∀ (n i:Nat) (out:List aG),Good p out→Good p (wV p n i out)
 | 0,i,out,h=>h
 | n+1,i,out,h=>by
  simp only[wV]
  split
  ·rename_i x hx
   obtain⟨g,hg⟩:=h.2 x (List.mem_of_getElem? hx)
   refine BL nN n _ _ (h.add fun y m=>?_)
   unfold EX at m
   rw[hg]at m
   exact C7 nN (sw hg).1 m
  ·exact h
theorem DJ {p:Pg} {name:aG} {f:Pc} (hf:p.find name=some f):Good p [name]:=
 ⟨by simp,fun x m=>by
  have:x=name:=by simpa using m
  subst this;exact⟨f,hf⟩⟩
theorem ZN {p:Pg} (h:p.iP) (nN:(p.scope.1==0)=true) {name:aG} {f:Pc} (hf:p.find name=some f) (s:St):aF Tryz.prog xx [.dz (fA p) 0, .str name] s (.slice .shared 1 ((km (p.work name)).map encStr)) s:=by
 refine aF.pure ?_ (by simp[D.bK,D.ok,uh]) (by simp only[D.ok,Tag.ok,fa];rfl) s
 obtain⟨rV,rH,rG⟩:=h.procs
 obtain⟨R,hR⟩ : ∃ R,p.work name=R:=⟨_,rfl⟩
 have hgR:Good p R:=hR ▸ BL nN _ _ _ (DJ hf)
 rw[hR, ← Pk hgR.1]
 unfold Pg.work at hR
 have hg0:Good p [name]:=DJ hf
 have X3:=hgR.len
 unfold S0
 obtain⟨fn,Au,C5⟩:=HK
 refine aF.intro ⟨fn,Au,C5⟩ (Nat.le_of_ble_eq_true rfl) fun B hB=>?_
 generalize hQ:pR (⟨[],[]⟩:St).ah.length (⟨[],[]⟩:St).aw.length _ _ (⟨[],[]⟩:St)=Q
 have⟨hD,hY,hZ,gA⟩:=bR
 refine Sem.nj ?_
 repeat' (first
 |simp only[go_sem,hD,hY,hZ,gA]
 |(with_reducible first|refine bl fun hc=>?_|refine bm fun hc=>?_|refine bn (fun hc=>?_) fun hc=>?_)<;>(try simp only[hc,bs,↓reduceIte]at h)<;>try simp only[hc]
 |(with_reducible refine aE hQ ?_;exact fO)
 |(cases h;done))
 refine Sem.seq (Sem.swap ?_)
 simp only[List.map_cons,List.map_nil,zA]
 repeat' (first
 |simp only[go_sem,hD,hY,hZ,gA]
 |(with_reducible first|refine bl fun hc=>?_|refine bm fun hc=>?_|refine bn (fun hc=>?_) fun hc=>?_)<;>(try simp only[hc,bs,↓reduceIte]at h)<;>try simp only[hc]
 |(with_reducible refine aE hQ ?_;exact fO)
 |(cases h;done))
 refine Sem.nj ?_
 repeat' (first
 |simp only[go_sem,hD,hY,hZ,gA]
 |(with_reducible first|refine bl fun hc=>?_|refine bm fun hc=>?_|refine bn (fun hc=>?_) fun hc=>?_)<;>(try simp only[hc,bs,↓reduceIte]at h)<;>try simp only[hc]
 |(with_reducible refine aE hQ ?_;exact fO)
 |(cases h;done))
 refine ff 0 1 (bp.ind (ι:=Nat×Nat×List aG×Nat) (fun i=>wV p i.1 i.2.1 i.2.2.1=R∧Good p i.2.2.1∧i.1+i.2.1=p.procs.length+1∧i.2.2.2=i.2.2.1.length) (fun i=>i.1)
  (fun i=> [(0, .dz (fA p) 0),(5, .slice (.tok 0) 1 (i.2.2.1.map encStr)),(6, .int .i64 (i.2.1:Int))]) (fun i=>⟨[],[some i.2.2.2]⟩) ?_ (p.procs.length+1,0,[name],1) ⟨hR,hg0,rfl,rfl⟩)
 rintro⟨n,i,out,no⟩ ⟨h1,h2,h3,h4⟩ IH
 dsimp only at h1 h2 h3 h4
 subst h4
 have iZ:=h2.len
 cases hx:out[i]? with
 | none=>
  have hD:decide ((i:Int)<(out.length:Int))=false:=by have:=List.getElem?_eq_none_iff.1 hx;simp;omega
  have:R=out:=by
   cases n with
   |zero=>simpa[wV]using h1.symm
   |succ n=>simp only[wV,hx]at h1;exact h1.symm
  subst this
  repeat' (first
 |simp only[go_sem,hD,hY,hZ,gA]
 |(with_reducible first|refine bl fun hc=>?_|refine bm fun hc=>?_|refine bn (fun hc=>?_) fun hc=>?_)<;>(try simp only[hc,bs,↓reduceIte]at h)<;>try simp only[hc]
 |(with_reducible refine aE hQ ?_;exact fO)
 |(cases h;done))
  refine Sem.seq (Sem.sort (k:=5) (t:=0) (l:=R) hB (by decide) (by decide) (by decide) rfl rfl (by omega) ?_)
  refine iI (ac:=acZ) (Q:=Q) (tm:= [(5, .slice (.tok 0) 1 ((my R).map encStr))]) (s:=⟨[],[some R.length]⟩) ?_
  repeat' (first
 |simp only[go_sem,hD,hY,hZ,gA]
 |(with_reducible first|refine bl fun hc=>?_|refine bm fun hc=>?_|refine bn (fun hc=>?_) fun hc=>?_)<;>(try simp only[hc,bs,↓reduceIte]at h)<;>try simp only[hc]
 |(with_reducible refine aE hQ ?_;exact fO)
 |(cases h;done))
 |some x=>
  have qF:=(List.getElem?_eq_some_iff.1 hx).1
  have hD:decide ((i:Int)<(out.length:Int))=true:=by simp;omega
  have nL:i<4611686018427387904:=by omega
  cases n with
  |zero=>omega
  |succ n=>
  simp only[wV,hx]at h1
  obtain⟨g,J1⟩:=h2.2 x (List.mem_of_getElem? hx)
  have R9:=(sw J1).1
  have X4:=fun s=>ZL h J1 s
  have hcn:EX p x=g.calls:=by unfold EX;rw[J1]
  rw[hcn]at h1
  have hth : ∀ y∈g.calls,∃ f,p.find y=some f:=fun y m=>C7 nN R9 m
  have av1:g.calls.length≤p.procs.length:=Good.len ⟨uS (mz _).1,hth⟩
  obtain⟨W,hW⟩ : ∃ W,DI out g.calls=W:=⟨_,rfl⟩
  rw[hW]at h1
  repeat' (first
 |simp only[go_sem,hD,hY,hZ,gA,hx]
 |(with_reducible refine CU (X4 _) ?_)
 |(with_reducible first|refine bl fun hc=>?_|refine bm fun hc=>?_|refine bn (fun hc=>?_) fun hc=>?_)<;>(try simp only[hc,bs,↓reduceIte]at h)<;>try simp only[hc]
 |(with_reducible refine aE hQ ?_;(try cases h);simp only[aS,aV,bF,bG,go_sem,hD,hY,hZ,gA,hx];try exact cq)
 | (cases h;done))
  refine ff 0 1 (bp.ind (ι:=List aG×Nat×List aG×Nat) (fun j=>g.calls.drop j.2.1=j.1∧DI j.2.2.1 j.1=W∧Good p j.2.2.1∧j.2.2.2=j.2.2.1.length) (fun j=>j.1.length)
   (fun j=> [(0, .dz (fA p) 0),(5, .slice (.tok 0) 1 (j.2.2.1.map encStr)),(6, .int .i64 (i:Int)),(22, .slice .shared 1 (g.calls.map encStr)),(23, .int .i64 (g.calls.length:Int)),(24, .int .i64 (j.2.1:Int))]) (fun j=>⟨[],[some j.2.2.2]⟩) ?_ (g.calls,0,out,out.length) ⟨rfl,hW,h2,rfl⟩)
  clear hW
  rintro⟨rest,k,cD,n'⟩ ⟨j1,j2,j3,j4⟩ X0
  dsimp only at j1 j2 j3 j4
  subst j4
  have av2:=j3.len
  cases rest with
  |nil=>
   have adx:=drop_nil j1
   simp only[DI]at j2
   subst j2
   repeat' (first
 |simp only[go_sem,hD,hY,hZ,gA,adx]
 |(with_reducible first|refine bl fun hc=>?_|refine bm fun hc=>?_|refine bn (fun hc=>?_) fun hc=>?_)<;>(try simp only[hc,bs,↓reduceIte]at h)<;>try simp only[hc]
 |(with_reducible refine aE hQ ?_;(try cases h);simp only[aS,aV,bF,bG,go_sem,hD,hY,hZ,gA,adx];try exact cq)
 | (cases h;done))
   refine eQ 0 1 ?_ ?_ (IH (n,i+1,cD,cD.length) ⟨h1,j3,by dsimp only;omega,rfl⟩ (Nat.lt_succ_self _))
   ·(simp only[go_sem,hD,hY,hZ,gA,aI nL];try exact bX)
   ·(simp only[go_sem,hD,hY,hZ,gA,aI nL];try exact bX)
  | cons y rest=>
   obtain⟨pj,L1,yy,jg4⟩:=drop_cons j1
   have yz:k<4611686018427387904:=by omega
   have hZ:(cD.length+1)*17≤bC:=by unfold bC;omega
   have Hc:=fun g s=>jC (l:=cD) (by omega) y g s
   have hy:=hth y (List.mem_of_getElem? pj)
   have CY:=j3.spk hy
   simp only[DI]at j2
   rcases Bool.eq_false_or_eq_true (fx cD y)with c1|c1
   ·simp only [Ci,c1,if_true]at j2
    repeat' (first
 |simp only[go_sem,hD,hY,hZ,gA,yy,pj,c1]
 |(with_reducible refine CU (Hc _ _) ?_)
 |(with_reducible first|refine bl fun hc=>?_|refine bm fun hc=>?_|refine bn (fun hc=>?_) fun hc=>?_)<;>(try simp only[hc,bs,↓reduceIte]at h)<;>try simp only[hc]
 |(with_reducible refine aE hQ ?_;(try cases h);simp only[aS,aV,bF,bG,go_sem,hD,hY,hZ,gA,yy,pj,c1];try exact cq)
 | (cases h;done))
    refine eQ 0 1 ?_ ?_ (X0 (rest,k+1,cD,cD.length) ⟨L1,j2,j3,rfl⟩ (Nat.lt_succ_self _))
    ·(simp only[go_sem,hD,hY,hZ,gA,aI yz];try exact bX)
    ·(simp only[go_sem,hD,hY,hZ,gA,aI yz];try exact bX)
   ·simp only [Ci,c1,Bool.false_eq_true,if_false]at j2 CY
    repeat' (first
 |simp only[go_sem,hD,hY,hZ,gA,yy,pj,c1]
 |(with_reducible refine CU (Hc _ _) ?_)
 |(with_reducible first|refine bl fun hc=>?_|refine bm fun hc=>?_|refine bn (fun hc=>?_) fun hc=>?_)<;>(try simp only[hc,bs,↓reduceIte]at h)<;>try simp only[hc]
 |(with_reducible refine aE hQ ?_;(try cases h);simp only[aS,aV,bF,bG,go_sem,hD,hY,hZ,gA,yy,pj,c1];try exact cq)
 | (cases h;done))
    refine eQ 0 1 ?_ ?_ (X0 (rest,k+1,cD++ [y],cD.length+1) ⟨L1,j2,CY,by simp⟩ (Nat.lt_succ_self _))
    ·(simp only[go_sem,hD,hY,hZ,gA,aI yz,List.map_append,List.map_cons,List.map_nil,encStr];try exact bX)
    ·(simp only[go_sem,hD,hY,hZ,gA,aI yz,List.map_append,List.map_cons,List.map_nil,encStr];try exact bX)
theorem J2 (name:aG) : ∀ l:List Pc,l.any (fun f=>f.name==name)=(iV name l).isSome
 | []=>rfl
 |f::l=>by
  simp only[List.any_cons,iV]
  cases e:(f.name==name)
  ·simp[J2 name l]
  ·simp
theorem VA (name:aG) (f:Pc):aF Tryz.prog oT ([.agg (cu f)]++ [.ptr 0 0]) ⟨[[.str name]],[]⟩ (.bool (f.name==name)) ⟨[[.str name]],[]⟩:=by
 show aF Tryz.prog oT [.agg (cu f), .ptr 0 0] _ _ _
 refine aF.go CC rfl fun B Q hB hQ=>?_
 have⟨hD,hY,hZ,gA⟩:=bR
 repeat' (first
 |simp only[go_sem,hD,hY,hZ,gA]
 |(with_reducible refine aE hQ ?_;exact bc))
def Pg.zB (p:Pg) (name:aG):Option Pc:=if p.scope.1==0 then p.find name else none
theorem VB {p:Pg} (h:p.iP) (name:aG) (s:St):aF Tryz.prog ub [.agg (cz p), .str name] s (.bool (p.zB name).isSome) s:=by
 refine aF.pure ?_ (by simp[D.bK,D.ok,jw]) rfl s
 obtain⟨rV,rH,rG⟩:=h.procs
 have pJ:=fun s=>vL h s
 have hi:=fun {s:St} {o:Nat} (ho:s.ah[o]? = some [.str name])=>Bv (AA (l:=p.procs) (f:=oT) (row:= [.str name]) (b:=fun f:Pc=>f.name==name) (by omega) rfl (by with_unfolding_all rfl) (fun x _=>VA name x)) rfl (wA _) rfl ho
 have ib:=fun {s:St} {o:Nat} (ho:s.ah[o]? = some [.str name])=>(show aF Tryz.prog gP [.slice .shared 5 (p.procs.map cu), .gi 191 [.ptr o 0]] s (.bool (p.procs.any fun f:Pc=>f.name==name)) s from hi ho)
 simp only[J2]at ib
 unfold Pg.zB Pg.find
 unfold S0
 rcases Bool.eq_false_or_eq_true (p.scope.1==0)with b1|b1
 ·simp only [b1,if_true]
  refine aF.go wH rfl fun B Q hB hQ=>?_
  have⟨hD,hY,hZ,gA⟩:=bR
  repeat' (first
 |simp only[go_sem,hD,hY,hZ,gA,b1]
 |(with_reducible refine CU (pJ _) ?_)
 |(with_reducible refine CU (ib (by with_unfolding_all rfl)) ?_)
 |(with_reducible refine aE hQ ?_;exact bc))
 ·simp only [b1,Bool.false_eq_true,if_false,Option.isSome_none]
  refine aF.go wH rfl fun B Q hB hQ=>?_
  have⟨hD,hY,hZ,gA⟩:=bR
  repeat' (first
 |simp only[go_sem,hD,hY,hZ,gA,b1]
 |(with_reducible refine CU (pJ _) ?_)
 |(with_reducible refine CU (ib (by with_unfolding_all rfl)) ?_)
 |(with_reducible refine aE hQ ?_;exact bc))
def Pg.auN (p:Pg) (name:aG):List aG:=match p.zB name with|some f=>f.calls|none=> []
def Pg.anW (p:Pg) (name:aG):List aG:=match p.zB name with|some _=>km (p.work name)|none=> []
theorem Hd {p:Pg} {name:aG} {f:Pc} (h:p.zB name=some f):(p.scope.1==0)=true∧p.find name=some f:=by
 unfold Pg.zB at h
 split at h
 ·exact⟨by assumption,h⟩
 ·cases h
def sQ (p:Pg) (out:List aG):List aG→List aG
 | []=>out
 |v::l=>sQ p (if fx p.globals v then out++ [v]else out) l
def sR (p:Pg) (out:List aG):List Sm→List aG
 | []=>out
 |v::l=>sR p (sQ p out v.said) l
def tB (p:Pg) (n:aG):List Sm:=match p.find n with|some f=>Sm.dd f.body|none=> []
def uT (p:Pg) (out:List aG):List aG→List aG
 | []=>out
 |n::l=>uT p (sR p out (tB p n)) l
theorem zC (p:Pg) : ∀ (l out:List aG),out.length≤(sQ p out l).length∧(sQ p out l).length≤out.length+l.length
 | [],out=>⟨Nat.le_refl _,Nat.le_refl _⟩
 |v::l,out=>by
  simp only[sQ]
  have h:=zC p l (if fx p.globals v then out++ [v]else out)
  have h2:out.length≤(if fx p.globals v then out++ [v]else out).length∧(if fx p.globals v then out++ [v]else out).length≤out.length+1:=by split<;>simp
  simp only[List.length_cons]
  omega
def oU:List Sm→Nat
 | []=>0
 |v::l=>v.said.length+oU l
theorem BM : ∀ a b:List Sm,oU (a++b)=oU a+oU b
 | [],b=>by simp[oU]
 |v::a,b=>by simp only[List.cons_append,oU,BM a b];omega
theorem ZO (v:Sm):v.said.length≤1+v.x.size+2*Ar.a7 v.args:=by
 have : ∀ (l:List Ar) (out:List aG),(Ar.said out l).length≤out.length+2*Ar.a7 l:=by
  intro l
  induction l with
  |nil=>intro out;simp[Ar.said]
  |cons a l ih=>
   intro out
   simp only[Ar.said,Ar.a7]
   refine Nat.le_trans (ih _) ?_
   have:=lj a.x
   have:1≤a.x.size:=by obtain⟨_,_,_,_⟩:=a.x;simp[Ex.size]
   simp only[List.length_append]
   split<;>simp<;>omega
 have h1:=this v.args (v.sP++v.x.names)
 have h2:=lj v.x
 have h4:v.sP.length≤1:=by unfold Sm.sP;split<;>simp
 simp only[List.length_append]at h1
 unfold Sm.said
 omega
mutual
theorem Sb : ∀ s:Sm,oU s.pre≤2*s.size
 |⟨id,kind,labels,name,proc,x,has,args,a8,aR⟩=>by
  simp only[Sm.pre,oU,BM,Sm.size]
  have h1:=ZO ⟨id,kind,labels,name,proc,x,has,args,a8,aR⟩
  have h2:=uU a8
  have h3:=uU aR
  dsimp only at h1
  omega
theorem uU : ∀ l:List Sm,oU (Sm.dd l)≤2*Sm.a7 l
 | []=>by simp[Sm.dd,oU,Sm.a7]
 |s::l=>by
  simp only[Sm.dd,BM,Sm.a7]
  have:=Sb s;have:=uU l;omega
end
theorem zD (p:Pg) : ∀ (l:List Sm) (out:List aG),out.length≤(sR p out l).length∧(sR p out l).length≤out.length+oU l
 | [],out=>⟨Nat.le_refl _,Nat.le_refl _⟩
 |v::l,out=>by
  simp only[sR,oU]
  have h:=zD p l (sQ p out v.said)
  have h2:=zC p v.said out
  omega
theorem zE {p:Pg} (h:p.iP) : ∀ (l out:List aG),out.length≤(uT p out l).length∧(uT p out l).length≤out.length+l.length*1800000
 | [],out=>⟨Nat.le_refl _,by simp[uT]⟩
 | n::l,out=>by
  simp only[uT]
  have h1:=zE h l (sR p out (tB p n))
  have h2:=zD p (tB p n) out
  have h3:oU (tB p n)≤1800000:=by
   unfold tB
   split
   ·rename_i f hf
    have:=uU f.body
    have h4:=Pc.dk (sw hf).1
    have h5:=h.procs.2.1
    simp only[Pc.size]at h4
    omega
   ·simp[oU]
  simp only[List.length_cons]
  omega
theorem Sc {p:Pg} (h:p.may=true):p.procs.length≤16:=by
 unfold Pg.may at h
 split at h
 ·cases h
 ·rename_i c
  simp only[Bool.or_eq_true,decide_eq_true_eq,not_or,Int.not_lt,gt_iff_lt]at c
  have:=c.1.2
  omega
def Pg.sx (p:Pg) (name:aG):List aG:=uT p [] (km (p.work name))
def Pg.qf (p:Pg) (name:aG):List aG:=match p.zB name with|some _=>km (p.sx name)|none=> []
theorem J3 {p:Pg} (nN:(p.scope.1==0)=true) {name:aG} {f:Pc} (hf:p.find name=some f):Good p (km (p.work name)):=by
 have h:=BL nN (p.procs.length+1) 0 [name] (DJ hf)
 refine⟨uS (mz _).1,fun x m=>h.2 x ?_⟩
 exact((mz _).2 x).1 m
theorem Sd {p:Pg} (h:p.iP) (name:aG) (s:St):aF Tryz.prog rm [.agg (cz p), .str name] s (.slice .shared 1 ((p.qf name).map encStr)) s:=by
 refine aF.pure ?_ (by simp[D.bK,D.ok,jw]) (by simp only[D.ok,Tag.ok,fa];rfl) s
 have hk:=fun s=>VB h name s
 have dh:=fun s=>Cf (p:=p) (by have:=h.procs;omega) s
 unfold Pg.qf
 unfold S0
 cases VC:p.zB name with
 |none=>
  simp only[VC,Option.isSome_none]at hk
  simp only[List.map_nil]
  refine aF.go uE rfl fun B Q hB hQ=>?_
  have⟨hD,hY,hZ,gA⟩:=bR
  repeat' (first
 |simp only[go_sem,hD,hY,hZ,gA]
 |(with_reducible refine CU (hk _) ?_)
 |(with_reducible refine aE hQ ?_;exact bc))
 |some f=>
 obtain⟨nN,hf⟩:=Hd VC
 simp only[VC,Option.isSome_some]at hk
 dsimp only
 obtain⟨rV,rH,rG⟩:=h.procs
 have hN:=J3 nN hf
 obtain⟨N,hNe⟩ : ∃ N,km (p.work name)=N:=⟨_,rfl⟩
 rw[hNe]at hN
 have hNl:=hN.len
 obtain⟨R,hR⟩ : ∃ R,p.sx name=R:=⟨_,rfl⟩
 rw[hR]
 unfold Pg.sx at hR
 rw[hNe]at hR
 have X3:R.length≤28800000:=by
  have:=(zE h N []).2
  rw[hR]at this
  have h4:=Sc (BG nN)
  have h3:N.length*1800000≤16*1800000:=Nat.mul_le_mul_right _ (by omega)
  simp only[List.length_nil]at this
  omega
 have X4:=fun s=>ZN h nN hf s
 simp only[hNe]at X4
 obtain⟨fn,Au,C5⟩:=uE
 refine aF.intro ⟨fn,Au,C5⟩ (Nat.le_of_ble_eq_true rfl) fun B hB=>?_
 generalize hQ:pR (⟨[],[]⟩:St).ah.length (⟨[],[]⟩:St).aw.length _ _ (⟨[],[]⟩:St)=Q
 have⟨hD,hY,hZ,gA⟩:=bR
 refine Sem.nj ?_
 repeat' (first
 |simp only[go_sem,hD,hY,hZ,gA]
 |(with_reducible refine aE hQ ?_;exact bc))
 refine Sem.nj ?_
 repeat' (first
 |simp only[go_sem,hD,hY,hZ,gA]
 |(with_reducible refine CU (hk _) ?_)
 |(with_reducible refine aE hQ ?_;exact bc))
 refine Sem.nj ?_
 repeat' (first
 |simp only[go_sem,hD,hY,hZ,gA]
 |(with_reducible refine CU (dh _) ?_)
 |(with_reducible refine aE hQ ?_;exact bc))
 refine Sem.nj ?_
 repeat' (first
 |simp only[go_sem,hD,hY,hZ,gA]
 |(with_reducible refine aE hQ ?_;exact bc))
 refine Sem.nj ?_
 repeat' (first
 |simp only[go_sem,hD,hY,hZ,gA]
 |(with_reducible refine CU (X4 _) ?_)
 |(with_reducible refine aE hQ ?_;exact bc))
 refine bp.q6 6 1 rfl ?_
 simp only[go_sem,hD,hY,hZ,gA]
 refine ff 1 1 (bp.ind (ι:=List aG×Nat×List aG×Nat) (fun i=>N.drop i.2.1=i.1∧uT p i.2.2.1 i.1=R∧i.2.2.1.length≤R.length∧i.2.2.2=i.2.2.1.length) (fun i=>i.1.length)
  (fun i=> [(2, .ptr 0 0),(5, .dz (fA p) 0),(6, .slice (.tok 0) 1 (i.2.2.1.map encStr)),(21, .slice .shared 1 (N.map encStr)),(22, .int .i64 (N.length:Int)),(23, .int .i64 (i.2.1:Int))]) (fun i=>⟨[cz p],[some i.2.2.2]⟩) ?_ (N,0,[],0) ⟨rfl,hR,Nat.zero_le _,rfl⟩)
 rintro⟨rest,k,out,no⟩ ⟨h1,h2,h3,h4⟩ IH
 dsimp only at h1 h2 h3 h4
 subst h4
 cases rest with
 |nil=>
  have hD:=drop_nil h1
  simp only[uT]at h2
  subst h2
  have EU:(my out).length=out.length:=List.length_mergeSort out
  repeat' (first
 |simp only[go_sem,hD,hY,hZ,gA]
 |(with_reducible refine aE hQ ?_;exact bc))
  refine Sem.seq (Sem.sort (k:=6) (t:=0) (l:=out) hB (by decide) (by decide) (by decide) rfl rfl (by omega) ?_)
  refine Sem.seq (Sem.compact (k:=6) (t:=0) (l:=my out) hB (by decide) rfl (by rw[EU];rfl) (by rw[EU];omega) ?_)
  rw[BJ]
  refine iI (ac:= .ret) (Q:=Q) (tm:= [(59, .slice (.tok 0) 1 ((km out).map encStr)),(4, .slice (.tok 0) 1 ((km out).map encStr))]) (s:=⟨[],[some (km out).length]⟩) ?_
  repeat' (first
 |simp only[go_sem,hD,hY,hZ,gA]
 |(with_reducible refine aE hQ ?_;exact bc))
 | cons x rest=>
  obtain⟨hY,g2,hD,g4⟩:=drop_cons h1
  have bO:k<4611686018427387904:=by omega
  obtain⟨g,J1⟩:=hN.2 x (List.mem_of_getElem? hY)
  have R9:=(sw J1).1
  have hbd:tB p x=Sm.dd g.body:=by unfold tB;rw[J1]
  simp only[uT,hbd]at h2
  obtain⟨j,hj,qW⟩:=BK (k:=0) J1
  have qW:p.at x=((j:Nat):Int):=by unfold Pg.at;simpa using qW
  have wQ:=fun s=>EH (p:=p) (by omega) x s
  simp only[qW]at wQ
  obtain⟨it,pO,wS⟩:=Va hj (by omega)
  have adp:it.length≤900000:=by
   have e:=congrArg List.length pO
   obtain⟨a,b,e',_,_,e3,e4⟩:=(lg p).2 j g hj
   have e5:=pg p
   have e6:=congrArg List.length e3
   rw[e4]at e5
   simp only[List.length_map,List.length_append]at e e5 e6
   omega
  rw[← pO]at h2
  repeat' (first
 |simp only[go_sem,hD,hY,hZ,gA,hY]
 |(with_reducible refine CU (wQ _) ?_)
 |(with_reducible refine CU (wS _) ?_)
 | (with_reducible refine aE hQ ?_;exact bc))
  obtain⟨W,hW⟩ : ∃ W,sR p out (it.map Im.s)=W:=⟨_,rfl⟩
  rw[hW]at h2
  have hWR:W.length≤R.length:=by have:=(zE h rest W).1;rw[h2]at this;exact this
  have R0:out.length≤W.length:=by have:=(zD p (it.map Im.s) out).1;rw[hW]at this;exact this
  refine ff 1 1 (bp.ind (ι:=List Im×Nat×List aG×Nat) (fun i=>it.drop i.2.1=i.1∧sR p i.2.2.1 (i.1.map Im.s)=W∧i.2.2.1.length≤W.length∧i.2.2.2=i.2.2.1.length) (fun i=>i.1.length)
   (fun i=> [(2, .ptr 0 0),(5, .dz (fA p) 0),(6, .slice (.tok 0) 1 (i.2.2.1.map encStr)),(21, .slice .shared 1 (N.map encStr)),(22, .int .i64 (N.length:Int)),(23, .int .i64 (k:Int)),(31, .slice .shared 17 (it.map dv)),(32, .int .i64 (it.length:Int)),(33, .int .i64 (i.2.1:Int))]) (fun i=>⟨[cz p],[some i.2.2.2]⟩) ?_ (it,0,out,out.length) ⟨rfl,hW,R0,rfl⟩)
  rintro⟨wW,k2,DK,no⟩ ⟨j1,j2,j3,j4⟩ By
  dsimp only at j1 j2 j3 j4
  subst j4
  cases wW with
  |nil=>
   have Pl:=drop_nil j1
   simp only[List.map_nil,sR]at j2
   subst j2
   repeat' (first
 |simp only[go_sem,hD,hY,hZ,gA,Pl]
 | (with_reducible refine aE hQ ?_;exact bc))
   refine eQ 1 1 ?_ ?_ (IH (rest,k+1,DK,DK.length) ⟨g2,h2,hWR,rfl⟩ (Nat.lt_succ_self _))
   ·(simp only[go_sem,hD,hY,hZ,gA,aI bO];try exact bX)
   ·(simp only[go_sem,hD,hY,hZ,gA,aI bO];try exact bX)
  |cons y wW=>
   obtain⟨pj,L1,yy,jg4⟩:=drop_cons j1
   have yz:k2<4611686018427387904:=by omega
   have hym:y.s∈Sm.dd g.body:=by rw[← pO];exact List.mem_map_of_mem (List.mem_of_getElem? pj)
   have rX:=h.said R9 _ hym
   have XW:=fun s=>Bz rX s
   have EU:=JR _ rX
   simp only[List.map_cons,sR]at j2
   repeat' (first
 |simp only[go_sem,hD,hY,hZ,gA,yy,pj]
 |(with_reducible refine CU (XW _) ?_)
 | (with_reducible refine aE hQ ?_;exact bc))
   obtain⟨V,hV⟩ : ∃ V,sQ p DK y.s.said=V:=⟨_,rfl⟩
   rw[hV]at j2
   have hVW:V.length≤W.length:=by have:=(zD p (wW.map Im.s) V).1;rw[j2]at this;exact this
   have hoV:DK.length≤V.length:=by have:=(zC p y.s.said DK).1;rw[hV]at this;exact this
   refine ff 1 1 (bp.ind (ι:=List aG×Nat×List aG×Nat) (fun i=>y.s.said.drop i.2.1=i.1∧sQ p i.2.2.1 i.1=V∧i.2.2.1.length≤V.length∧i.2.2.2=i.2.2.1.length) (fun i=>i.1.length)
    (fun i=> [(2, .ptr 0 0),(5, .dz (fA p) 0),(6, .slice (.tok 0) 1 (i.2.2.1.map encStr)),(21, .slice .shared 1 (N.map encStr)),(22, .int .i64 (N.length:Int)),(23, .int .i64 (k:Int)),(31, .slice .shared 17 (it.map dv)),(32, .int .i64 (it.length:Int)),(33, .int .i64 (k2:Int)),(39, .slice .shared 1 (y.s.said.map encStr)),(40, .int .i64 (y.s.said.length:Int)),(41, .int .i64 (i.2.1:Int))]) (fun i=>⟨[cz p],[some i.2.2.2]⟩) ?_ (y.s.said,0,DK,DK.length) ⟨rfl,hV,hoV,rfl⟩)
   rintro⟨EY,k3,zF,no⟩ ⟨l1,l2,l3,l4⟩ IH3
   dsimp only at l1 l2 l3 l4
   subst l4
   cases EY with
   |nil=>
    have anX:=drop_nil l1
    simp only[sQ]at l2
    subst l2
    repeat' (first
 |simp only[go_sem,hD,hY,hZ,gA,anX]
 | (with_reducible refine aE hQ ?_;exact bc))
    refine eQ 1 1 ?_ ?_ (By (wW,k2+1,zF,zF.length) ⟨L1,j2,hVW,rfl⟩ (Nat.lt_succ_self _))
    ·(simp only[go_sem,hD,hY,hZ,gA,aI yz];try exact bX)
    ·(simp only[go_sem,hD,hY,hZ,gA,aI yz];try exact bX)
   | cons z EY=>
    obtain⟨adz,lg2,llt,lg4⟩:=drop_cons l1
    have He:k3<4611686018427387904:=by omega
    have Hc:=fun g s=>jC (l:=p.globals) (by omega) z g s
    simp only[sQ]at l2
    rcases Bool.eq_false_or_eq_true (fx p.globals z)with c1|c1
    ·simp only [c1,if_true]at l2
     have hZ:(zF.length+1)*17≤bC:=by unfold bC;omega
     have hoo:(zF++ [z]).length≤V.length:=by have:=(zC p EY (zF++ [z])).1;rw[l2]at this;exact this
     repeat' (first
 |simp only[go_sem,hD,hY,hZ,gA,llt,adz,c1]
 |(with_reducible refine CU (Hc _ _) ?_)
 | (with_reducible refine aE hQ ?_;exact bc))
     refine eQ 1 1 ?_ ?_ (IH3 (EY,k3+1,zF++ [z],zF.length+1) ⟨lg2,l2,hoo,by simp⟩ (Nat.lt_succ_self _))
     ·(simp only[go_sem,hD,hY,hZ,gA,aI He,List.map_append,List.map_cons,List.map_nil,encStr];try exact bX)
     ·(simp only[go_sem,hD,hY,hZ,gA,aI He,List.map_append,List.map_cons,List.map_nil,encStr];try exact bX)
    ·simp only [c1,Bool.false_eq_true,if_false]at l2
     repeat' (first
 |simp only[go_sem,hD,hY,hZ,gA,llt,adz,c1]
 |(with_reducible refine CU (Hc _ _) ?_)
 |(with_reducible refine aE hQ ?_;exact bc))
     refine eQ 1 1 ?_ ?_ (IH3 (EY,k3+1,zF,zF.length) ⟨lg2,l2,l3,rfl⟩ (Nat.lt_succ_self _))
     ·(simp only[go_sem,hD,hY,hZ,gA,aI He];try exact bX)
     ·(simp only[go_sem,hD,hY,hZ,gA,aI He];try exact bX)
mutual
def Sm.its (deep cy:Int) (aR:Bool):Sm→List It
 |⟨id,kind,labels,name,proc,x,has,args,a8,e⟩=>⟨⟨id,kind,labels,name,proc,x,has,args,a8,e⟩,deep,cy,aR⟩::(Sm.VD (deep+1) id false a8++Sm.VD (deep+1) id true e)
def Sm.VD (deep cy:Int) (aR:Bool):List Sm→List It
 | []=> []
 |s::l=>s.its deep cy aR++Sm.VD deep cy aR l
end
def gd (l:List Sm) (none:Int):Int:=match l with| []=>none|t::_=>t.id
mutual
def Sm.vN (proc up next loop:Int):Sm→List Im
 |⟨id,kind,labels,name,pc,x,has,args,a8,aR⟩=>⟨⟨id,kind,labels,name,pc,x,has,args,a8,aR⟩,proc,up,next,loop⟩::
  (Sm.jR proc id (if kind==6 then id else next) (if kind==6 then id else loop) a8++Sm.jR proc id (if kind==6 then id else next) (if kind==6 then id else loop) aR)
def Sm.jR (proc up next loop:Int):List Sm→List Im
 | []=> []
 |s::l=>s.vN proc up (gd l next) loop++Sm.jR proc up next loop l
end
def oJ (n:Nat) (l:List Sm):Prop:=∀ (i:Nat) (v:Sm),l[i]? = some v→v.id=((n+i+1:Nat):Int)
theorem oJ.head {n:Nat} {v:Sm} {l:List Sm} (h:oJ n (v::l)):v.id=((n+1:Nat):Int):=h 0 v rfl
theorem oJ.tail {n:Nat} {v:Sm} {l:List Sm} (h:oJ n (v::l)):oJ (n+1) l:=fun i w hw=>by
 rw[h (i+1) w (by simpa using hw)];congr 1;omega
theorem oJ.left {n:Nat} {a b:List Sm} (h:oJ n (a++b)):oJ n a:=fun i w hw=>h i w (by rw[List.getElem?_append_left (List.getElem?_eq_some_iff.1 hw).1];exact hw)
theorem oJ.right {n:Nat} {a b:List Sm} (h:oJ n (a++b)):oJ (n+a.length) b:=fun i w hw=>by
 rw[h (a.length+i) w (by rw[List.getElem?_append_right (by omega)];simpa using hw)];congr 1;omega
theorem VE (s:Sm):s.pre=s::(Sm.dd s.a8++Sm.dd s.aR):=Sm.qc s
mutual
theorem L6 : ∀ s:Sm,s.jy=s.pre.length
 |⟨id,kind,labels,name,proc,x,has,args,a8,aR⟩=>by
  simp only[Sm.jy,Sm.pre,List.length_cons,List.length_append,zG a8,zG aR];omega
theorem zG : ∀ l:List Sm,Sm.jf l=(Sm.dd l).length
 | []=>rfl
 |s::l=>by simp only[Sm.jf,Sm.dd,List.length_append,L6 s,zG l]
end
mutual
theorem X5 (proc up next loop:Int) : ∀ s:Sm,(s.vN proc up next loop).map Im.s=s.pre
 |⟨id,kind,labels,name,pc,x,has,args,a8,aR⟩=>by
  simp only[Sm.vN,Sm.pre,List.map_cons,List.map_append,rK _ _ _ _ a8,rK _ _ _ _ aR]
theorem rK (proc up next loop:Int) : ∀ l:List Sm,(Sm.jR proc up next loop l).map Im.s=Sm.dd l
 | []=>rfl
 |s::l=>by simp only[Sm.jR,Sm.dd,List.map_append,X5 _ _ _ _ s,rK _ _ _ _ l]
end
theorem ZP (proc up next loop:Int) (s:Sm):(s.vN proc up next loop).length=s.pre.length:=by rw[← X5 proc up next loop s,List.length_map]
theorem DL (proc up next loop:Int) (l:List Sm):(Sm.jR proc up next loop l).length=(Sm.dd l).length:=by rw[← rK proc up next loop l,List.length_map]
mutual
theorem ZQ (proc up next loop:Int) (out:List Im) : ∀ s:Sm,oJ out.length s.pre→Im.one proc up next loop out s=out++s.vN proc up next loop
 | ⟨id,kind,labels,name,pc,x,has,args,a8,aR⟩,h=>by
  simp only[Sm.pre]at h
  have h0:id=((out.length+1:Nat):Int):=h.head
  have h1:=h.tail.left
  have h2:=h.tail.right
  have e0:((out.length:Int)+1)=id:=by rw[h0];rfl
  simp only[Im.one,Sm.vN,e0]
  rw[vO proc id _ _ (out++ [_]) a8 (by rw[List.length_append];exact h1)]
  rw[vO proc id _ _ _ aR (by
   rw[List.length_append,List.length_append,DL];exact h2)]
  simp
theorem vO (proc up next loop:Int) (out:List Im) : ∀ l:List Sm,oJ out.length (Sm.dd l)→Im.rows proc up next loop out l=out++Sm.jR proc up next loop l
 | [],h=>by simp[Im.rows,Sm.jR]
 | s::l,h=>by
  simp only[Sm.dd]at h
  have e:(if l.length=0 then next else(out.length:Int)+1+(s.jy:Int))=gd l next:=by
   cases l with
   |nil=>rfl
   |cons t l=>
    have h2:=h.right
    simp only[Sm.dd]at h2
    rw[VE t]at h2
    simp only[List.length_cons,gd]
    rw[if_neg (by omega),h2.head,L6]
    omega
  simp only[Im.rows,Sm.jR,e]
  rw[ZQ proc up _ loop out s h.left,vO proc up next loop _ l (by rw[List.length_append,ZP];exact h.right)]
  simp
end
def pW (n:Nat):List Pc→List Im
 | []=> []
 |f::l=>Sm.jR n 0 (-1) 0 f.body++pW (n+1) l
theorem Se : ∀ (l:List Pc) (n:Nat) (h:Sh),oJ h.L.length ((l.map fun f=>Sm.dd f.body).flatten)→(Sh.go n h l).L=h.L++pW n l
 | [],n,h,_=>by simp[Sh.go,pW]
 | f::l,n,h,hi=>by
  simp only[List.map_cons,List.flatten_cons]at hi
  simp only[Sh.go,pW]
  have e:=vO (n:Int) 0 (-1) 0 h.L f.body hi.left
  rw[Se l (n+1) _ (by
   show oJ (Im.rows (n:Int) 0 (-1) 0 h.L f.body).length _
   rw[e,List.length_append,DL];exact hi.right)]
  show Im.rows (n:Int) 0 (-1) 0 h.L f.body++_=_
  rw[e];simp
theorem L7 {p:Pg} (h:p.may=true):oJ 0 p.pre:=fun i v hv=>by rw[BE h hv];congr 1;omega
theorem Sf {p:Pg} (h:p.may=true):p.aX.L=pW 0 p.procs:=by
 have:=Se p.procs 0 ⟨[],[],[]⟩ (L7 h)
 simpa[Pg.aX]using this
def Sg (l:List It):Nat→Int→Int
 | 0,_=>0
 |n+1,cy=>if cy==0 then 0 else match l[n]? with
  |none=>0
  |some x=>if x.s.id != cy then Sg l n cy else if x.s.kind==6 then cy else Sg l n x.cy
def Up (L:List It) (k:Nat) (its:List It) (vN:List Im):Prop:=∀ (i:Nat) (a:It) (b:Im),its[i]? = some a→vN[i]? = some b→a.s=b.s∧a.cy=b.up∧Sg L (k+i) a.cy=b.loop
def iW (seen:List aG):List aG→List aG×Bool
 | []=>(seen,true)
 |n::l=>if fx seen n then(seen,false)else iW (seen++ [n]) l
theorem BN : ∀ (l seen:List aG),iW seen l=(if qd seen l then((iW seen l).1,false)else(seen++l,true))
 | [],seen=>by simp[iW,qd]
 | n::l,seen=>by
  simp only[iW,qd]
  split
  ·rfl
  ·rw [BN l (seen++ [n])]
   split
   ·rfl
   ·simp
theorem L8 : ∀ (a b seen:List aG),qd seen (a++b)=(qd seen a ||qd (seen++a) b)
 | [],b,seen=>by simp[qd]
 |x::a,b,seen=>by
  simp only[List.cons_append,qd]
  split
  ·rfl
  ·rw[L8 a b (seen++ [x])];simp
theorem Hf : ∀ (l seen:List aG),seen.length≤(iW seen l).1.length∧(iW seen l).1.length≤seen.length+l.length
 | [],seen=>by simp[iW]
 |n::l,seen=>by
  simp only[iW]
  split
  ·simp
  ·have:=Hf l (seen++ [n]);simp at this ⊢;omega
def qn (zH:List aG) (v:Sm) (loop:Int):Bool:=if v.kind==7 ||v.kind==8 then loop != 0 else if v.kind==10 then fx zH v.name else true
def sS (zH fin seen:List aG):List (Sm×Int)→Option Int
 | []=>if(iW seen fin).2 then none else some 0
 |(v,lp)::l=>if(iW seen v.labels).2 then(if qn zH v lp then sS zH fin (iW seen v.labels).1 l else some v.id)else some v.id
def ix:List Sm→List aG
 | []=> []
 |v::l=>v.labels++ix l
def Pc.labels (f:Pc):List aG:=ix (Sm.dd f.body)++f.fin
def Im.pair (m:Im):Sm×Int:=(m.s,m.loop)
def Pc.wX (f:Pc):List (Sm×Int):=(Sm.jR 0 0 (-1) 0 f.body).map Im.pair
def sT:List Pc→Option Int
 | []=>none
 |f::l=>match sS f.labels f.fin [] f.wX with
  |some id=>some id
  |none=>sT l
def yD (c:Int):Option Int→Int×Int
 |some id=>(c,id)
 |none=>(0,0)
def Pg.jump (p:Pg):Int×Int:=if p.scope.1==0 then yD 7 (sT p.procs)else(1,0)
mutual
theorem VF (proc up next uV Si next' loop:Int) : ∀ s:Sm,(s.vN proc up next loop).map Im.pair=(s.vN uV Si next' loop).map Im.pair
 |⟨id,kind,labels,name,pc,x,has,args,a8,aR⟩=>by
  simp only[Sm.vN,List.map_cons,List.map_append,Im.pair]
  rw[wY proc id _ uV id (if kind==6 then id else next') _ a8,wY proc id _ uV id (if kind==6 then id else next') _ aR]
theorem wY (proc up next uV Si next' loop:Int) : ∀ l:List Sm,(Sm.jR proc up next loop l).map Im.pair=(Sm.jR uV Si next' loop l).map Im.pair
 | []=>rfl
 |s::l=>by
  simp only[Sm.jR,List.map_append]
  rw[VF proc up _ uV Si (gd l next') loop s,wY proc up next uV Si next' loop l]
end
theorem J4 (n:Int) (f:Pc):(Sm.jR n 0 (-1) 0 f.body).map Im.pair=f.wX:=wY _ _ _ _ _ _ _ _
theorem ZR (f:Pc):f.wX.map Prod.fst=Sm.dd f.body:=by
 unfold Pc.wX
 rw[List.map_map, ← rK 0 0 (-1) 0 f.body]
 rfl
def L9 (l:List It):Nat→Int→Int
 | 0,_=>0
 |n+1,id=>match l[n]? with
  |none=>0
  |some x=>if x.s.id != id then L9 l n id else if Sg l n x.cy != 0 then Sg l n x.cy else L9 l n id
theorem Ma : ∀ (l:List Pc) (n:Nat) (h:Sh),h.lo.length=n→h.hi.length=n→oJ h.L.length ((l.map fun f=>Sm.dd f.body).flatten)→
 ∃ lo hi,Sh.go n h l = ⟨h.L++pW n l,h.lo++lo,h.hi++hi⟩∧lo.length=l.length∧hi.length=l.length∧
  ∀ (i:Nat) (f:Pc),l[i]? = some f→∃ a e:List Im,lo[i]? = some (((h.L++a).length:Int)+1)∧hi[i]? = some (((h.L++a++Sm.jR ((n+i:Nat):Int) 0 (-1) 0 f.body).length:Int)+1)∧pW n l=a++Sm.jR ((n+i:Nat):Int) 0 (-1) 0 f.body++e
 | [],n,h,hl,hh,_=>⟨[],[],by simp[Sh.go,pW],rfl,rfl,fun i f h=>by simp at h⟩
 | f::l,n,h,hl,hh,hi=>by
  simp only[List.map_cons,List.flatten_cons]at hi
  simp only[Sh.go,pW]
  have e1:=vO (n:Int) 0 (-1) 0 h.L f.body hi.left
  obtain⟨lo,ib,h2,h3,h4,h5⟩:=Ma l (n+1) ⟨Im.rows (n:Int) 0 (-1) 0 h.L f.body,h.lo++ [(h.L.length:Int)+1],h.hi++ [((Im.rows (n:Int) 0 (-1) 0 h.L f.body).length:Int)+1]⟩ (by simp[hl]) (by simp[hh]) (by
   show oJ (Im.rows (n:Int) 0 (-1) 0 h.L f.body).length _
   rw[e1,List.length_append,DL];exact hi.right)
  refine⟨((h.L.length:Int)+1)::lo,(((Im.rows (n:Int) 0 (-1) 0 h.L f.body).length:Int)+1)::ib, ?_,by simp[h3],by simp[h4],fun i g ib=>?_⟩
  ·rw[h2,e1];simp
  ·cases i with
   |zero=>
    simp only[List.getElem?_cons_zero,Option.some.injEq]at ib
    subst ib
    exact⟨[],pW (n+1) l,by simp,by rw[e1];simp,by simp⟩
   |succ i=>
    simp only[List.getElem?_cons_succ]at ib
    obtain⟨a,e,g1,g2,g3⟩:=h5 i g ib
    have en:n+1+i=n+(i+1):=by omega
    rw[en]at g2 g3
    refine⟨Sm.jR n 0 (-1) 0 f.body++a,e, ?_, ?_,by rw[g3];simp⟩
    ·rw[List.getElem?_cons_succ,g1,e1];simp
    ·rw[List.getElem?_cons_succ,g2,e1];simp
theorem adB {p:Pg} (hb:p.may=true) {i:Nat} {f:Pc} (hf:p.procs[i]? = some f) (hs:Pc.a7 p.procs<1000000000) (s:St) :
 aF Tryz.prog gN [.dz (fA p) 0, .int .i64 (i:Int)] s (.slice .shared 17 ((Sm.jR (i:Int) 0 (-1) 0 f.body).map dv)) s:=by
 obtain⟨lo,hi,h1,h2,h3,h4⟩:=Ma p.procs 0 ⟨[],[],[]⟩ rfl rfl (L7 hb)
 obtain⟨a,e,g1,g2,g3⟩:=h4 i f hf
 simp only[Nat.zero_add,List.nil_append]at g1 g2 g3 h1
 refine ac8 hs (a:=a) (e:=e) ?_ ?_ ?_ s
 ·show(Sh.go 0 ⟨[],[],[]⟩ p.procs).lo[i]? = _
  rw[h1];exact g1
 ·show(Sh.go 0 ⟨[],[],[]⟩ p.procs).hi[i]? = _
  rw[h1];exact g2
 ·show(Sh.go 0 ⟨[],[],[]⟩ p.procs).L=_
  rw[h1];exact g3
theorem aF.anY {P:Program} {f:FuncId} {pre post:List D} {rows oM:List (List D)} {z z' k k':Nat} {b:Bool} (h:aF P f (pre++ .slice (.tok 0) z rows::post) ⟨[],[some k]⟩ (.tuple [.slice (.tok 0) z' oM, .bool b]) ⟨[],[some k']⟩)
 (hp:D.bK 0 0 pre=true) (ha:D.bK 0 0 post=true) (hw:D.gS 0 0 rows=true) (hw':D.gS 0 0 oM=true)
 {s:St} {t:Nat} (ht:s.aw[t]? = some (some k)):aF P f (pre++ .slice (.tok t) z rows::post) s (.tuple [.slice (.tok t) z' oM, .bool b]) ⟨s.ah,s.aw.set t (some k')⟩:=by
 refine bM.frame [] [t] h (by simp) (by simp) (by simp) (by simpa using (List.getElem?_eq_some_iff.1 ht).1) rfl (fun i o' ds e1 e2=>by simp at e1) rfl (fun i t' e1=>?_)
  ?_ ?_ ?_
 ·cases i with
  |zero=>simp at e1;subst e1;simp[ht]
  |succ i=>simp at e1
 ·have h1:=fB [] [t] _ hp
  have h2:=fB [] [t] _ ha
  rw[fQ]at h1 h2
  simp[fQ,D.cU,Tag.cU,h1,h2,jm _ _ _ hw]
 ·have h1:=iC (n':=0) (m':=1) (Nat.le_refl 0) (Nat.zero_le 1) _ hp
  have h2:=iC (n':=0) (m':=1) (Nat.le_refl 0) (Nat.zero_le 1) _ ha
  rw[x9]at h1 h2 ⊢
  simp only[List.length_nil,List.length_cons,List.all_append,h1,Bool.true_and,List.all_cons,h2,Bool.and_true,D.ok,Tag.ok,mE (Nat.zero_le 0) (Nat.zero_le 1) _ hw]
  rfl
 ·rintro _ _ ⟨rfl,rfl⟩
  refine⟨by simp[D.back,D.cU,D.e7,Tag.cU,kz,jm _ _ _ hw'], ?_⟩
  simp[St.back,kD]
theorem adC {seen l:List aG} (hl:seen.length+l.length<1000000000):aF Tryz.prog qb [.slice (.tok 0) 1 (seen.map encStr), .slice .shared 1 (l.map encStr)] ⟨[],[some seen.length]⟩
 (.tuple [.slice (.tok 0) 1 ((iW seen l).1.map encStr), .bool (iW seen l).2]) ⟨[],[some (iW seen l).1.length]⟩:=by
 generalize hR:iW seen l=R
 refine aF.go HO rfl fun B Q hB hQ=>?_
 have⟨hD,hY,hZ,gA⟩:=bR
 repeat' (first
 |simp only[go_sem,hD,hY,hZ,gA]
 |(with_reducible refine aE hQ ?_;exact bc))
 refine ff 0 1 (bp.ind (ι:=List aG×Nat×List aG×Nat) (fun i=>l.drop i.2.1=i.1∧iW i.2.2.1 i.1=R∧i.2.2.2=i.2.2.1.length∧i.2.2.1.length+i.1.length<1000000000) (fun i=>i.1.length)
  (fun i=> [(0, .slice (.tok 0) 1 (i.2.2.1.map encStr)),(8, .slice .shared 1 (l.map encStr)),(9, .int .i64 (l.length:Int)),(10, .int .i64 (i.2.1:Int))]) (fun i=>⟨[],[some i.2.2.2]⟩) ?_ (l,0,seen,seen.length) ⟨rfl,hR,rfl,hl⟩)
 clear hR
 rintro⟨rest,k,out,n⟩ ⟨h1,h2,h3,h4⟩ IH
 dsimp only at h1 h2 h3 h4
 subst h3
 cases rest with
 |nil=>
  have hD:=drop_nil h1
  simp only[iW]at h2
  subst h2
  repeat' (first
 |simp only[go_sem,hD,hY,hZ,gA]
 |(with_reducible refine aE hQ ?_;exact bc))
 | cons x rest=>
  obtain⟨hY,g2,hD,g4⟩:=drop_cons h1
  have bO:k<4611686018427387904:=by omega
  simp only[List.length_cons]at h4
  have hZ:(out.length+1)*17≤bC:=by unfold bC;omega
  have Hc:=fun g s=>jC (l:=out) (by omega) x g s
  simp only[iW]at h2
  rcases Bool.eq_false_or_eq_true (fx out x)with c1|c1
  ·simp only [c1,if_true]at h2
   subst h2
   repeat' (first
 |simp only[go_sem,hD,hY,hZ,gA,c1]
 |(with_reducible refine CU (Hc _ _) ?_)
 | (with_reducible refine aE hQ ?_;exact bc))
  ·simp only [c1,Bool.false_eq_true,if_false]at h2
   repeat' (first
 |simp only[go_sem,hD,hY,hZ,gA,c1]
 |(with_reducible refine CU (Hc _ _) ?_)
 | (with_reducible refine aE hQ ?_;exact bc))
   refine eQ 0 1 ?_ ?_ (IH (rest,k+1,out++ [x],out.length+1) ⟨g2,h2,by simp,by simp;omega⟩ (Nat.lt_succ_self _))
   ·(simp only[go_sem,hD,hY,hZ,gA,aI bO,List.map_append,List.map_cons,List.map_nil,encStr];try exact bX)
   ·(simp only[go_sem,hD,hY,hZ,gA,aI bO,List.map_append,List.map_cons,List.map_nil,encStr];try exact bX)
theorem Sj {seen l:List aG} (hl:seen.length+l.length<1000000000) {s:St} {t:Nat} (ht:s.aw[t]? = some (some seen.length)):aF Tryz.prog qb [.slice (.tok t) 1 (seen.map encStr), .slice .shared 1 (l.map encStr)] s
 (.tuple [.slice (.tok t) 1 ((iW seen l).1.map encStr), .bool (iW seen l).2]) ⟨s.ah,s.aw.set t (some (iW seen l).1.length)⟩:=
 (adC hl).anY (pre:= []) (post:= [_]) rfl (by simp[D.bK,D.ok,Tag.ok,fa]) (fa _) (fa _) ht
theorem VG (x:Im):(dv x)[2]? = some (.slice .shared 1 (x.s.labels.map encStr)):=nd rfl
theorem Sk (x:Im):(dv x)[3]? = some (.str x.s.name):=nd rfl
attribute [go_sem] VG Sk
def kZ (fin:List aG) (label:aG):List Sm→Int×Bool
 | []=>if fx fin label then(-1,true)else(0,false)
 |v::l=>if fx v.labels label then(v.id,true)else kZ fin label l
theorem BO (fin:List aG) (label:aG) : ∀ l:List Sm,(kZ fin label l).2=fx (ix l++fin) label
 | []=>by simp only[kZ,ix,List.nil_append];split<;>simp_all
 | v::l=>by
  simp only[kZ,ix,List.append_assoc]
  have h:=BO fin label l
  rw[Bool.eq_iff_iff,ji]at h
  split
  ·rename_i c
   exact((ji _ _).2 (List.mem_append.2 (.inl ((ji _ _).1 c)))).symm
  ·rename_i c
   have:label∉v.labels:=fun m=>c ((ji _ _).2 m)
   rw[Bool.eq_iff_iff,h,ji]
   exact⟨fun m=>List.mem_append.2 (.inr m),fun m=>(List.mem_append.1 m).resolve_left this⟩
theorem J5 {p:Pg} {v:Sm} (ho:p.iP) {f:Pc} (hf:f∈p.procs) (hv:v∈Sm.dd f.body):v.labels.length≤900000:=by
 have key : ∀ n:Nat,(∀ s:Sm,s.pre.length≤n→∀ v∈s.pre,v.labels.length≤s.size)∧(∀ l:List Sm,(Sm.dd l).length≤n→∀ v∈Sm.dd l,v.labels.length≤Sm.a7 l):=by
  intro n
  induction n with
  |zero=>
   refine⟨fun s h=>by rw[Sm.qc]at h;simp at h,fun l h v m=>?_⟩
   have:=List.eq_nil_of_length_eq_zero (Nat.le_zero.1 h)
   rw[this]at m;cases m
  | succ n ih=>
   have h1 : ∀ s:Sm,s.pre.length≤n+1→∀ v∈s.pre,v.labels.length≤s.size:=by
    intro s h v m
    rw[Sm.qc]at h m
    simp only[List.length_cons,List.length_append]at h
    obtain⟨id,kind,labels,name,proc,x,has,args,a8,aR⟩:=s
    simp only[Sm.size]
    rcases List.mem_cons.1 m with rfl|m
    ·dsimp only;omega
    ·rcases List.mem_append.1 m with m | m
     ·have:=ih.2 a8 (by dsimp only at h;omega) v m;omega
     ·have:=ih.2 aR (by dsimp only at h;omega) v m;omega
   refine⟨h1,fun l=>?_⟩
   induction l with
   |nil=>intro _ v m;cases m
   |cons s l Sl=>
    intro h v m
    simp only[Sm.dd,List.length_append]at h
    simp only[Sm.dd]at m
    simp only[Sm.a7]
    rcases List.mem_append.1 m with m|m
    ·have:=h1 s (by omega) v m;omega
    ·have:=Sl (by omega) v m;omega
 have h1:=(key (Sm.dd f.body).length).2 f.body (Nat.le_refl _) v hv
 have h2:=Pc.dk hf
 have h3:=ho.procs.2.1
 simp only[Pc.size]at h2
 omega
theorem Hg {p:Pg} (ho:p.iP) {f:Pc} (hf:f∈p.procs):f.fin.length≤900000:=by
 have h2:=Pc.dk hf
 have h3:=ho.procs.2.1
 simp only[Pc.size]at h2
 omega
theorem EZ {p:Pg} (ho:p.iP) {f:Pc} (hf:f∈p.procs):(Sm.dd f.body).length≤900000:=by
 rw[← zG]
 have:=nM f.body
 have h2:=Pc.dk hf
 have h3:=ho.procs.2.1
 simp only[Pc.size]at h2
 omega
theorem adD {p:Pg} (ho:p.iP) (hb:p.may=true) {i:Nat} {f:Pc} (hf:p.procs[i]? = some f) (label:aG) (s:St) :
 aF Tryz.prog oQ [.dz (fA p) 0, .int .i64 (i:Int), .str label] s (.tuple [.int .i64 (kZ f.fin label (Sm.dd f.body)).1, .bool (kZ f.fin label (Sm.dd f.body)).2]) s:=by
 refine aF.pure ?_ (by simp[D.bK,D.ok,uh]) rfl s
 obtain⟨rV,rH,rG⟩:=ho.procs
 have As:=List.mem_of_getElem? hf
 have wS:=fun s=>adB hb hf (by omega) s
 have pV:=rK (i:Int) 0 (-1) 0 f.body
 have J6:=EZ ho As
 have vP:=Hg ho As
 have C5:=fun s=>rF (l:=f.fin) (by omega) label s
 have qF:i<p.procs.length:=(List.getElem?_eq_some_iff.1 hf).1
 generalize hI:Sm.jR (i:Int) 0 (-1) 0 f.body=I at *
 have hIl:I.length≤900000:=by rw[← pV,List.length_map]at J6;exact J6
 obtain⟨R,hR⟩ : ∃ R,kZ f.fin label (Sm.dd f.body)=R:=⟨_,rfl⟩
 rw[hR]
 rw[← pV]at hR
 unfold S0
 refine aF.go CA rfl fun B Q hB hQ=>?_
 have⟨hD,hY,hZ,gA⟩:=bR
 repeat' (first
 |simp only[go_sem,hD,hY,hZ,gA]
 |(with_reducible refine CU (wS _) ?_)
 |(with_reducible refine aE hQ ?_;exact bc))
 refine ff 0 0 (bp.ind (ι:=List Im×Nat) (fun j=>I.drop j.2=j.1∧kZ f.fin label (j.1.map Im.s)=R) (fun j=>j.1.length)
  (fun j=> [(0, .dz (fA p) 0),(1, .int .i64 (i:Int)),(2, .str label),(12, .slice .shared 17 (I.map dv)),(13, .int .i64 (I.length:Int)),(14, .int .i64 (j.2:Int))]) (fun j=>⟨[],[]⟩) ?_ (I,0) ⟨rfl,hR⟩)
 clear hR
 rintro⟨rest,k⟩ ⟨h1,h2⟩ IH
 dsimp only at h1 h2
 cases rest with
 | nil=>
  have hD:=drop_nil h1
  simp only[List.map_nil,kZ]at h2
  rcases Bool.eq_false_or_eq_true (fx f.fin label)with c1|c1
  ·simp only [c1,if_true]at h2
   subst h2
   repeat' (first
 |simp only[go_sem,hD,hY,hZ,gA,n7,hf,c1]
 |(with_reducible refine CU (C5 _) ?_)
 | (with_reducible refine aE hQ ?_;exact bc))
  ·simp only [c1,Bool.false_eq_true,if_false]at h2
   subst h2
   repeat' (first
 |simp only[go_sem,hD,hY,hZ,gA,n7,hf,c1]
 |(with_reducible refine CU (C5 _) ?_)
 |(with_reducible refine aE hQ ?_;exact bc))
 | cons a rest=>
  obtain⟨hY,g2,hD,g4⟩:=drop_cons h1
  have bO:k<4611686018427387904:=by omega
  have ES:a.s∈Sm.dd f.body:=by rw[← pV];exact List.mem_map_of_mem (List.mem_of_getElem? hY)
  have oN:=fun s=>rF (l:=a.s.labels) (by have:=J5 ho As ES;omega) label s
  simp only[List.map_cons,kZ]at h2
  rcases Bool.eq_false_or_eq_true (fx a.s.labels label)with c1|c1
  ·simp only [c1,if_true]at h2
   subst h2
   repeat' (first
 |simp only[go_sem,hD,hY,hZ,gA,c1]
 |(with_reducible refine CU (oN _) ?_)
 | (with_reducible refine aE hQ ?_;exact bc))
  ·simp only [c1,Bool.false_eq_true,if_false]at h2
   repeat' (first
 |simp only[go_sem,hD,hY,hZ,gA,c1]
 |(with_reducible refine CU (oN _) ?_)
 | (with_reducible refine aE hQ ?_;exact bc))
   refine eQ 0 0 ?_ ?_ (IH (rest,k+1) ⟨g2,h2⟩ (Nat.lt_succ_self _))
   ·(simp only[go_sem,hD,hY,hZ,gA,aI bO];try exact bX)
   ·(simp only[go_sem,hD,hY,hZ,gA,aI bO];try exact bX)
theorem ZS {p:Pg} (ho:p.iP) (hb:p.may=true) {i:Nat} {f:Pc} (hf:p.procs[i]? = some f) (m:Im) (hm:m.proc=(i:Int)) (s:St) :
 aF Tryz.prog vy [.dz (fA p) 0, .agg (dv m)] s (.bool (qn f.labels m.s m.loop)) s:=by
 refine aF.pure ?_ (by simp[D.bK,D.ok,uh,O4]) rfl s
 have qW:=fun s=>adD ho hb hf m.s.name s
 have adE:=BO f.fin m.s.name (Sm.dd f.body)
 rw[← hm]at qW
 obtain⟨A,hA⟩ : ∃ A,kZ f.fin m.s.name (Sm.dd f.body)=A:=⟨_,rfl⟩
 rw[hA]at qW adE
 obtain⟨R,hR⟩ : ∃ R,qn f.labels m.s m.loop=R:=⟨_,rfl⟩
 rw[hR]
 unfold qn Pc.labels at hR
 unfold S0
 rcases Bool.eq_false_or_eq_true (m.s.kind==7)with c1|c1
 ·simp only [c1,Bool.true_or,if_true]at hR
  subst hR
  refine aF.go pE rfl fun B Q hB hQ=>?_
  have⟨hD,hY,hZ,gA⟩:=bR
  repeat' (first
 |simp only[go_sem,hD,hY,hZ,gA,c1]
 |(with_reducible refine aE hQ ?_;exact bc))
 rcases Bool.eq_false_or_eq_true (m.s.kind==8)with c2|c2
 ·simp only [c1,c2,Bool.or_true,if_true]at hR
  subst hR
  refine aF.go pE rfl fun B Q hB hQ=>?_
  have⟨hD,hY,hZ,gA⟩:=bR
  repeat' (first
 |simp only[go_sem,hD,hY,hZ,gA,c1,c2]
 |(with_reducible refine aE hQ ?_;exact bc))
 rcases Bool.eq_false_or_eq_true (m.s.kind==10)with c3|c3
 ·simp only [c1,c2,c3,Bool.or_self,Bool.false_eq_true,if_false,if_true, ← adE]at hR
  subst hR
  refine aF.go pE rfl fun B Q hB hQ=>?_
  have⟨hD,hY,hZ,gA⟩:=bR
  repeat' (first
 |simp only[go_sem,hD,hY,hZ,gA,c1,c2,c3]
 |(with_reducible refine CU (qW _) ?_)
 |(with_reducible refine aE hQ ?_;exact bc))
 ·simp only [c1,c2,c3,Bool.or_self,Bool.false_eq_true,if_false]at hR
  subst hR
  refine aF.go pE rfl fun B Q hB hQ=>?_
  have⟨hD,hY,hZ,gA⟩:=bR
  repeat' (first
 |simp only[go_sem,hD,hY,hZ,gA,c1,c2,c3]
 |(with_reducible refine aE hQ ?_;exact bc))
end Go.Abs
namespace Go.Abs
def E0 (x:Int):Int:=IntKind.wrap .i64 x
def um (b:Bool):Int:=if b then 1 else 0
def Pn (op a:Int):Int×Bool:=if op==3 then(E0 (0 - a),true)else if op==4 then(um (a==0),true)else(0,false)
def Po (op a b:Int):Int×Bool:=
 if b==0 then(0,false)
 else if b == -1 then if op==7 then(0,true)else if a == -9223372036854775808 then(a,true)else(E0 (0 - a),true)
 else if op==7 then(a.tmod b,true)else(E0 (a.tdiv b),true)
def Pp (op a b:Int):Int×Bool:=
 if op==10 then(um (decide (a<b)),true)else if op==11 then(um (decide (a≤b)),true)else if op==12 then(um (decide (a > b)),true)
 else if op==13 then(um (decide (a≥b)),true)else if op==14 then(um (a==b),true)else if op==15 then(um (!(a==b)),true)else(0,false)
def Pq (op a b:Int):Int×Bool:=
 if op==8 then(E0 (a+b),true)else if op==9 then(E0 (a - b),true)else if op==5 then(E0 (a*b),true)
 else if op==6 ||op==7 then Po op a b
 else if op==16 then(um (!(a==0) && !(b==0)),true)else if op==17 then(um (!(a==0) || !(b==0)),true)
 else Pp op a b
def Pr (name:aG) (names:List aG) (bN:List Int):Int:=if jh name 0 names≥0 then bN.getD (jh name 0 names).toNat 0 else 0
def H8 (op:Int):List (Int×Bool)→Int×Bool
 | []=>(0,false)
 | [a]=>if a.2 then Pn op a.1 else(0,false)
 |a::b::_=>if !a.2 then(0,false)else if op==16 && a.1==0 then(0,true)else if op==17 && !(a.1==0)then(1,true)else if !b.2 then(0,false)else Pq op a.1 b.1
mutual
def Ex.val (names:List aG) (bN:List Int):Ex→Int×Bool
 |⟨op,n,name,kids⟩=>if op==1 then(n,true)else if op==2 then(Pr name names bN,true)else H8 op (Ex.Ps names bN kids)
def Ex.Ps (names:List aG) (bN:List Int):List Ex→List (Int×Bool)
 | []=> []
 |x::l=>x.val names bN::Ex.Ps names bN l
end
def Ex.bo (x:Ex) (names:List aG) (bN:List Int):Int×Bool:=if x.may then x.val names bN else(0,false)
structure Fr where
 proc:Int
 names:List aG
 vars:List Nat
 call:Int
structure Mc where
 st:List Fr
 mem:List Int
 fin:Int
 steps:Int
 reads:Int
 out:List Int
 trace:List (Int×List Int)
def Mc.event (W:List Int) (m:Mc) (id:Int) (bN:List Int):Mc:=if W.contains id then {m with trace:=m.trace++ [(id,bN)]}else m
def Mc.top (m:Mc):Fr:=m.st.headD ⟨0,[],[],0⟩
def Mc.bN (m:Mc):List Int:=m.top.vars.map fun c=>m.mem.getD c 0
def Mc.cell (m:Mc) (name:aG):Nat:=m.top.vars.getD (jh name 0 m.top.names).toNat 0
def Mc.set (m:Mc) (name:aG) (v:Int):Mc:= {m with mem:=m.mem.set (m.cell name) v}
def Mc.bo (m:Mc) (x:Ex):(Int×Bool)×Mc:=
 let r:=x.bo m.top.names m.bN
 (r,if r.2 then m else {m with fin:=4})
def Mc.open (p:Pg) (m:Mc) (i:Int) (params:List Nat) (call:Int):Int×Mc:=
 match p.procs[i.toNat]? with
 |none=>(-1,m)
 |some f=>(gd f.body (-1),{m with st:=⟨i,p.globals++f.own,List.range p.globals.length++params++(List.range f.vars.length).map (m.mem.length + ·),call⟩::m.st,mem:=m.mem++List.replicate f.vars.length 0})
def fp (L:List Im) (id:Int):Im:=L.getD (id - 1).toNat ⟨Jh,0,0,0,0⟩
def Mc.close (L:List Im) (m:Mc) (xG:Int):Int×Mc:=
 let call:=m.top.call
 let m:= {m with st:=m.st.tail}
 if call==0 then(-1,{m with fin:=1})
 else
  let it:=fp L call
  (it.next,if it.s.name == []then m else m.set it.s.name xG)
def Mc.fe (W:List Int) (m:Mc) (s:Sm):Int×Mc:=
 if s.has then
  let r:=m.bo s.x
  (r.1.1,if r.1.2 then r.2.event W s.id [r.1.1]else r.2)
 else(0,m.event W s.id [])
def Mc.args:List Ar→Mc→List Nat→Option (List Nat)×Mc
 | [],m,out=>(some out,m)
 | a::l,m,out=>
  if a.ref then Mc.args l m (out++ [m.cell a.name])
  else
   let r:=m.bo a.x
   if r.1.2 then Mc.args l {r.2 with mem:=r.2.mem++ [r.1.1]} (out++ [r.2.mem.length])else(none,r.2)
def Mc.call (p:Pg) (W:List Int) (m:Mc) (s:Sm):Int×Mc:=
 match Mc.args s.args m []with
 |(none,m)=>(-1,m)
 |(some l,m)=>if m.st.length > 100 then(-1,{m with fin:=5})else(m.event W s.id []).open p (p.at s.proc) l s.id
def firstM (l:List Sm) (other:Int):Int:=gd l other
def Mc.do (p:Pg) (L:List Im) (tape W:List Int) (m:Mc) (it:Im):Int×Mc:=
 let s:=it.s
 if s.kind==7 then((fp L it.loop).next,m.event W s.id [])
 else if s.kind==8 then(it.loop,m.event W s.id [])
 else if s.kind==10 then((match p.procs[it.proc.toNat]? with|some f=>(kZ f.fin s.name (Sm.dd f.body)).1|none=>0),m.event W s.id [])
 else if s.kind==2 then
  match tape[m.reads.toNat]? with
  |none=>(-1,{m with fin:=3})
  |some n=>(it.next,(({m with reads:=m.reads+1} : Mc).set s.name n).event W s.id [n])
 else
  let r:=m.bo s.x
  if r.1.2 then
   let m:=r.2.event W s.id [r.1.1]
   let n:=r.1.1
   if s.kind==1 then(it.next,m.set s.name n)
   else if s.kind==3 then(it.next,{m with out:=m.out++ [n]})
   else if s.kind==5 then(if n==0 then firstM s.aR it.next else firstM s.a8 it.next,m)
   else if s.kind==6 then(if n==0 then it.next else firstM s.a8 s.id,m)
   else(it.next,m)
  else(-1,r.2)
def Mc.back (L:List Im) (m:Mc) (xG:Int):Option Int×Mc:=
 let r:=m.close L xG
 (if r.2.fin==0 then some r.1 else none,r.2)
def Mc.next (p:Pg) (L:List Im) (tape W:List Int) (fuel:Int) (at_:Int) (m:Mc):Option Int×Mc:=
 if at_ == -1 then m.back L 0
 else if m.steps==fuel then(none,{m with fin:=2})
 else
  let m:= {m with steps:=m.steps+1}
  let it:=fp L at_
  if it.s.kind==4 then
   let r:=m.call p W it.s
   (if r.2.fin==0 then some r.1 else none,r.2)
  else if it.s.kind==9 then
   let r:=m.fe W it.s
   if r.2.fin==0 then r.2.back L r.1 else(none,r.2)
  else
   let r:=m.do p L tape W it
   (if r.2.fin==0 then some r.1 else none,r.2)
def Mc.go (p:Pg) (L:List Im) (tape W:List Int) (fuel:Int):Nat→Int→Mc→Option Mc
 | 0,_,_=>none
 |N+1,at_,m=>
  match m.next p L tape W fuel at_ with
  |(none,m)=>some m
  |(some a,m)=>Mc.go p L tape W fuel N a m
def jE (p:Pg):Mc:=⟨[],List.replicate p.globals.length 0,0,0,0,[],[]⟩
def runM (p:Pg) (tape W:List Int) (fuel:Int):Option Mc:=
 let r:=(jE p).open p (p.at iK) [] 0
 Mc.go p p.aX.L tape W fuel (2*fuel.toNat+3) r.1 r.2
theorem eW (W:List Int) (m:Mc) (id:Int) (bN:List Int):(m.event W id bN).st=m.st∧(m.event W id bN).mem=m.mem∧(m.event W id bN).fin=m.fin∧(m.event W id bN).steps=m.steps∧(m.event W id bN).reads=m.reads∧(m.event W id bN).out=m.out:=by
 unfold Mc.event;split<;>exact⟨rfl,rfl,rfl,rfl,rfl,rfl⟩
theorem gH (m:Mc) (x:Ex):(m.bo x).2.st=m.st∧(m.bo x).2.mem=m.mem∧(m.bo x).2.steps=m.steps∧(m.bo x).2.reads=m.reads∧(m.bo x).2.out=m.out∧(m.bo x).2.trace=m.trace:=by
 unfold Mc.bo;dsimp only;split<;>exact⟨rfl,rfl,rfl,rfl,rfl,rfl⟩
theorem u5 : ∀ (l:List Ar) (m:Mc) (out:List Nat),(Mc.args l m out).2.st=m.st∧(Mc.args l m out).2.steps=m.steps
 | [],m,out=>⟨rfl,rfl⟩
 | a::l,m,out=>by
  simp only[Mc.args]
  split
  ·exact u5 l m _
  ·have h:=gH m a.x
   split
   ·have:=u5 l {(m.bo a.x).2 with mem:=(m.bo a.x).2.mem++ [(m.bo a.x).1.1]} (out++ [(m.bo a.x).2.mem.length])
    exact⟨this.1.trans h.1,this.2.trans h.2.2.1⟩
   ·exact⟨h.1,h.2.2.1⟩
theorem yE (p:Pg) (m:Mc) (i:Int) (l:List Nat) (c:Int):(m.open p i l c).2.st.length≤m.st.length+1∧(m.open p i l c).2.steps=m.steps:=by
 unfold Mc.open;split
 ·exact⟨Nat.le_succ _,rfl⟩
 ·exact⟨Nat.le_refl _,rfl⟩
theorem Mb (p:Pg) (W:List Int) (m:Mc) (s:Sm):(m.call p W s).2.st.length≤m.st.length+1∧(m.call p W s).2.steps=m.steps:=by
 have h:=u5 s.args m []
 unfold Mc.call
 generalize Mc.args s.args m [] = r at *
 obtain⟨o,m1⟩:=r
 dsimp only at h
 cases o with
 |none=>dsimp only;rw[h.1,h.2];exact⟨Nat.le_succ _,rfl⟩
 | some l=>
  dsimp only
  split
  ·dsimp only;rw[h.1,h.2];exact⟨Nat.le_succ _,rfl⟩
  ·have h2:=yE p (m1.event W s.id []) (p.at s.proc) l s.id
   rw[(eW ..).1,(eW ..).2.2.2.1,h.1,h.2]at h2
   exact h2
theorem zI (W:List Int) (m:Mc) (s:Sm):(m.fe W s).2.st=m.st∧(m.fe W s).2.steps=m.steps:=by
 have h:=gH m s.x
 unfold Mc.fe
 dsimp only
 split
 ·split
  ·exact⟨(eW ..).1.trans h.1,(eW ..).2.2.2.1.trans h.2.2.1⟩
  ·exact⟨h.1,h.2.2.1⟩
 ·exact⟨(eW ..).1,(eW ..).2.2.2.1⟩
theorem Pt (p:Pg) (L:List Im) (tape W:List Int) (m:Mc) (it:Im):(m.do p L tape W it).2.st=m.st∧(m.do p L tape W it).2.steps=m.steps:=by
 have h:=gH m it.s.x
 have e:=fun(m:Mc) id bN=>(⟨(eW W m id bN).1,(eW W m id bN).2.2.2.1⟩:(m.event W id bN).st=m.st∧(m.event W id bN).steps=m.steps)
 unfold Mc.do
 dsimp only
 repeat' split
 all_goals first
  |exact e ..
  |exact⟨rfl,rfl⟩
  |exact⟨(e ..).1.trans h.1,(e ..).2.trans h.2.2.1⟩
  |exact⟨h.1,h.2.2.1⟩
theorem J7 (L:List Im) (m:Mc) (g:Int):(m.close L g).2.st=m.st.tail∧(m.close L g).2.steps=m.steps∧(m.st = []→(m.close L g).2.fin=1):=by
 unfold Mc.close
 dsimp only
 split
 ·exact⟨rfl,rfl,fun _=>rfl⟩
 ·rename_i hc
  refine⟨by split<;>rfl,by split<;>rfl,fun e=>absurd ?_ hc⟩
  simp[Mc.top,e]
theorem back_eq {L:List Im} {m:Mc} {g:Int} {a:Int} {m':Mc} (h:m.back L g=(some a,m')):m'.st.length<m.st.length∧m'.steps=m.steps:=by
 obtain⟨h1,h2,h3⟩:=J7 L m g
 unfold Mc.back at h
 dsimp only at h
 split at h
 ·rename_i hf
  simp only[Prod.mk.injEq]at h
  rw[← h.2]
  refine⟨?_,h2⟩
  rw[h1,List.length_tail]
  cases e:m.st with
  |nil=>rw[h3 e]at hf;cases hf
  |cons x l=>simp
 ·simp at h
theorem Md {p:Pg} {L:List Im} {tape W:List Int} {fuel a a':Int} {m m':Mc} (hs:m.steps≤fuel) (h:m.next p L tape W fuel a=(some a',m')) :
 m'.steps≤fuel∧2*(fuel - m'.steps)+m'.st.length<2*(fuel - m.steps)+m.st.length:=by
 unfold Mc.next at h
 split at h
 ·have:=back_eq h;omega
 split at h
 ·simp at h
 rename_i eK
 have hD:m.steps<fuel:=by(have:m.steps≠fuel:=by simpa using eK);omega
 dsimp only at h
 split at h
 ·have h1:=Mb p W {m with steps:=m.steps+1} (fp L a).s
  simp only[Prod.mk.injEq]at h
  rw[← h.2]
  dsimp only at h1
  omega
 split at h
 ·have h1:=zI W {m with steps:=m.steps+1} (fp L a).s
  dsimp only at h1
  split at h
  ·have h2:=back_eq h
   rw[h1.1,h1.2]at h2
   omega
  ·simp at h
 ·have h1:=Pt p L tape W {m with steps:=m.steps+1} (fp L a)
  simp only[Prod.mk.injEq]at h
  rw[← h.2,h1.1,h1.2]
  dsimp only
  omega
theorem Me (p:Pg) (L:List Im) (tape W:List Int) (fuel:Int) : ∀ (N:Nat) (a:Int) (m:Mc),m.steps≤fuel→2*(fuel - m.steps)+m.st.length<N→∃ m',Mc.go p L tape W fuel N a m=some m'
 | 0,_,_,_,h=>by omega
 | N+1,a,m,hs,h=>by
  simp only[Mc.go]
  cases e:m.next p L tape W fuel a with
  | mk o m1=>
   cases o with
   |none=>exact⟨m1,rfl⟩
   |some a1=>
    have:=Md hs e
    exact Me p L tape W fuel N a1 m1 this.1 (by omega)
theorem Hh (p:Pg) (tape W:List Int) {fuel:Int} (h:0≤fuel) : ∃ m,runM p tape W fuel=some m:=by
 unfold runM
 have h1:=yE p (jE p) (p.at iK) [] 0
 have e1:(jE p).st.length=0:=rfl
 have e2:(jE p).steps=0:=rfl
 rw[e1,e2]at h1
 exact Me p _ tape W fuel _ _ _ (by rw[h1.2];exact h) (by rw[h1.2];omega)
structure Grow (m m':Mc):Prop where
 trace : ∃ t,m'.trace=m.trace++t
 out : ∃ t,m'.out=m.out++t
 reads:m.reads≤m'.reads
 steps:m.steps≤m'.steps
def mL (L:List Im) (a:Int):Prop:=a = -1∨(1≤a∧a≤(L.length:Int))
theorem n8 {L:List Im} {a:Int} (h:mL L a) (hn:a≠ -1):fp L a∈L:=by
 rcases h with h|⟨h1,h2⟩
 ·exact absurd h hn
 ·unfold fp
  rw[List.getD_eq_getElem?_getD,List.getElem?_eq_getElem (show(a - 1).toNat<L.length by omega)]
  exact List.getElem_mem _
structure wZ (p:Pg) (L:List Im):Prop where
 id : ∀ x∈L,1≤x.s.id∧x.s.id≤(L.length:Int)
 next : ∀ x∈L,mL L x.next
 loop : ∀ x∈L,x.s.kind=7∨x.s.kind=8→1≤x.loop∧x.loop≤(L.length:Int)
 F2 : ∀ x∈L,x.s.kind=10→∃ f,p.procs[x.proc.toNat]? = some f∧mL L (kZ f.fin x.s.name (Sm.dd f.body)).1
 a8 : ∀ x∈L,mL L (gd x.s.a8 (-1))
 aR : ∀ x∈L,mL L (gd x.s.aR (-1))
 n6 : ∀ f∈p.procs,mL L (gd f.body (-1))
def n9 (L:List Im) (m:Mc):Prop:=∀ fr∈m.st,fr.call=0∨(1≤fr.call∧fr.call≤(L.length:Int))
theorem DM {L:List Im} {l:List Sm} {o:Int} (h:mL L (gd l (-1))) (ho:mL L o):mL L (firstM l o):=by
 cases l with
 |nil=>exact ho
 |cons s l=>exact h
theorem n9.of {L:List Im} {m m':Mc} (h:n9 L m) (e:m'.st=m.st):n9 L m':=by unfold n9;rw[e];exact h
def Told (L:List Im) (r:Option Int×Mc):Prop:=
 match r.1 with
 |some a=>mL L a∧n9 L r.2∧r.2.fin=0∧(r.2.trace.length:Int)=r.2.steps
 |none=>((r.2.fin=1∨r.2.fin=2)∧(r.2.trace.length:Int)=r.2.steps)∨((r.2.fin=3∨r.2.fin=4∨r.2.fin=5)∧(r.2.trace.length:Int)+1=r.2.steps)
theorem uW {W:List Int} {m:Mc} {id:Int} {bN:List Int} (h:W.contains id=true):(m.event W id bN).trace=m.trace++ [(id,bN)]∧(m.event W id bN).fin=m.fin:=by
 unfold Mc.event;rw[if_pos h];exact⟨rfl,rfl⟩
theorem BP (m:Mc) (x:Ex) (h:m.fin=0):((m.bo x).1.2=true→(m.bo x).2.fin=0)∧((m.bo x).1.2=false→(m.bo x).2.fin=4):=by
 unfold Mc.bo
 dsimp only
 constructor
 ·intro e;rw[if_pos e];exact h
 ·intro e;rw[e];rfl
theorem Hi {p:Pg} {L:List Im} (hL:wZ p L) {m:Mc} {g:Int} (hs:n9 L m) (hf:m.fin=0) (ht:(m.trace.length:Int)=m.steps):Told L (m.back L g):=by
 unfold Mc.back Mc.close
 dsimp only
 by_cases hc:(m.top.call==0)=true
 ·rw [if_pos hc]
  exact .inl ⟨.inl rfl,ht⟩
 ·rw [if_neg hc]
  have eK:m.top.call≠0:=by simpa using hc
  have Ph:1≤m.top.call∧m.top.call≤(L.length:Int):=by
   cases e:m.st with
   |nil=>simp[Mc.top,e]at eK
   |cons fr l=>
    have:m.top=fr:=by simp[Mc.top,e]
    rw[this]at eK ⊢
    exact(hs fr (by rw[e];exact List.mem_cons_self ..)).resolve_left eK
  have gD:=n8 (L:=L) (.inr Ph) (by omega)
  have jk:n9 L {m with st:=m.st.tail}:=fun fr rZ=>hs fr (List.mem_of_mem_tail rZ)
  have e0 : ∀ m1:Mc,m1.fin=0→(m1.fin==0)=true:=fun m1 h=>by rw[h];rfl
  split
  ·rw[if_pos (e0 _ hf)];exact⟨hL.next _ gD,jk,hf,ht⟩
  ·rw[if_pos (e0 _ (by exact hf))];exact⟨hL.next _ gD,jk.of rfl,hf,ht⟩
theorem zJ : ∀ (l:List Ar) (m:Mc) (out:List Nat),m.fin=0→(Mc.args l m out).2.trace=m.trace∧(match (Mc.args l m out).1 with|some _=>(Mc.args l m out).2.fin=0|none=>(Mc.args l m out).2.fin=4)
 | [],m,out,h=>⟨rfl,h⟩
 | a::l,m,out,h=>by
  have hw:=BP m a.x h
  have he:=gH m a.x
  simp only[Mc.args]
  by_cases c:a.ref=true
  ·rw[if_pos c];exact zJ l m _ h
  ·rw [if_neg c]
   by_cases c2:(m.bo a.x).1.2=true
   ·rw [if_pos c2]
    obtain⟨h1,h2⟩:=zJ l {(m.bo a.x).2 with mem:=(m.bo a.x).2.mem++ [(m.bo a.x).1.1]} (out++ [(m.bo a.x).2.mem.length]) (hw.1 c2)
    exact⟨h1.trans he.2.2.2.2.2,h2⟩
   ·rw [if_neg c2]
    exact⟨he.2.2.2.2.2,hw.2 (by simpa using c2)⟩
def BQ (L:List Im) (r:Int×Mc):Prop:=
 (r.2.fin=0∧mL L r.1∧n9 L r.2∧(r.2.trace.length:Int)=r.2.steps)∨((r.2.fin=3∨r.2.fin=4∨r.2.fin=5)∧(r.2.trace.length:Int)+1=r.2.steps)
theorem BQ.told {L:List Im} {r:Int×Mc} (h:BQ L r):Told L (if r.2.fin==0 then some r.1 else none,r.2):=by
 obtain⟨a,m⟩:=r
 rcases h with ⟨h1,h2,h3,h4⟩|⟨h1,h2⟩
 ·dsimp only at h1 h2 h3 h4 ⊢
  rw[if_pos (by rw[h1];rfl)]
  exact⟨h2,h3,h1,h4⟩
 ·dsimp only at h1 h2 ⊢
  rw[if_neg (by simp only[beq_iff_eq];omega)]
  exact .inr ⟨h1,h2⟩
theorem Sn {p:Pg} {L:List Im} (hL:wZ p L) {W:List Int} {m:Mc} {x:Im} (hx:x∈L) (hw:W.contains x.s.id=true) (hs:n9 L m) (hf:m.fin=0) (ht:(m.trace.length:Int)+1=m.steps) :
 BQ L (m.call p W x.s):=by
 have h:=u5 x.s.args m []
 have h2:=zJ x.s.args m [] hf
 unfold Mc.call
 generalize Mc.args x.s.args m [] = r at *
 obtain⟨o,m1⟩:=r
 dsimp only at h h2
 cases o with
 |none=>
  dsimp only at h2 ⊢
  exact .inr ⟨.inr (.inl h2.2),by dsimp only;rw[h2.1,h.2];exact ht⟩
 | some l=>
  dsimp only at h2 ⊢
  by_cases c:m1.st.length > 100
  ·rw [if_pos c]
   exact .inr ⟨.inr (.inr rfl),by dsimp only;rw[h2.1,h.2];exact ht⟩
  ·rw [if_neg c]
   obtain⟨e1,e2⟩:=uW (m:=m1) (bN:= []) hw
   have e3:=eW W m1 x.s.id []
   have ve:n9 L (m1.event W x.s.id []):=hs.of (e3.1.trans h.1)
   have wL:((m1.event W x.s.id []).trace.length:Int)=(m1.event W x.s.id []).steps:=by
    rw[e1,e3.2.2.2.1,h2.1,h.2,List.length_append]
    simp only[List.length_cons,List.length_nil];omega
   have L2:(m1.event W x.s.id []).fin=0:=e2.trans h2.2
   unfold Mc.open
   cases hp:p.procs[(p.at x.s.proc).toNat]? with
   |none=>exact .inl ⟨L2, .inl rfl,ve,wL⟩
   |some f=>
    refine .inl ⟨L2,hL.n6 f (List.mem_of_getElem? hp),fun fr rZ=>?_,wL⟩
    rcases List.mem_cons.1 rZ with rfl|rZ
    ·exact .inr (hL.id x hx)
    ·exact ve fr rZ
theorem Pu {p:Pg} {L:List Im} (hL:wZ p L) {W:List Int} {m:Mc} {x:Im} (hw:W.contains x.s.id=true) (hs:n9 L m) (hf:m.fin=0) (ht:(m.trace.length:Int)+1=m.steps) :
 Told L (if(m.fe W x.s).2.fin==0 then(m.fe W x.s).2.back L (m.fe W x.s).1 else(none,(m.fe W x.s).2)):=by
 have he:=zI W m x.s
 have key:((m.fe W x.s).2.fin=0∧((m.fe W x.s).2.trace.length:Int)=(m.fe W x.s).2.steps)∨((m.fe W x.s).2.fin=4∧((m.fe W x.s).2.trace.length:Int)+1=(m.fe W x.s).2.steps):=by
  rw[he.2]
  unfold Mc.fe
  have Sp:=BP m x.s.x hf
  have Hj:=gH m x.s.x
  by_cases c:x.s.has=true
  ·rw [if_pos c]
   dsimp only
   by_cases c2:(m.bo x.s.x).1.2=true
   ·rw [if_pos c2]
    obtain⟨e1,e2⟩:=uW (m:=(m.bo x.s.x).2) (bN:= [(m.bo x.s.x).1.1]) hw
    refine .inl ⟨e2.trans (Sp.1 c2), ?_⟩
    rw[e1,Hj.2.2.2.2.2,List.length_append]
    simp only[List.length_cons,List.length_nil];omega
   ·rw [if_neg c2]
    exact .inr ⟨Sp.2 (by simpa using c2),by rw[Hj.2.2.2.2.2];exact ht⟩
  ·rw [if_neg c]
   obtain⟨e1,e2⟩:=uW (m:=m) (bN:= []) hw
   refine .inl ⟨e2.trans hf, ?_⟩
   dsimp only
   rw[e1,List.length_append]
   simp only[List.length_cons,List.length_nil];omega
 generalize m.fe W x.s=r at *
 rcases key with ⟨k1,k2⟩|⟨k1,k2⟩
 ·rw [if_pos (by rw [k1];rfl)]
  exact Hi hL (hs.of he.1) k1 k2
 ·rw [if_neg (by simp only [beq_iff_eq];omega)]
  exact .inr ⟨.inr (.inl k1),k2⟩
theorem ZT {p:Pg} {L:List Im} (hL:wZ p L) {tape W:List Int} {m:Mc} {x:Im} (hx:x∈L) (hw:W.contains x.s.id=true) (hs:n9 L m) (hf:m.fin=0) (ht:(m.trace.length:Int)+1=m.steps) :
 BQ L (m.do p L tape W x):=by
 have go : ∀ {m1:Mc} {a:Int} {bN:List Int},m1.trace=m.trace→m1.steps=m.steps→m1.st=m.st→m1.fin=0→mL L a→BQ L (a,m1.event W x.s.id bN):=fun {m1 a bN} e1 e2 e3 e4 ha=>by
  obtain⟨g1,g2⟩:=uW (m:=m1) (bN:=bN) hw
  have g3:=eW W m1 x.s.id bN
  refine .inl ⟨g2.trans e4,ha,hs.of (g3.1.trans e3), ?_⟩
  dsimp only
  rw[g1,g3.2.2.2.1,e1,e2,List.length_append]
  simp only[List.length_cons,List.length_nil];omega
 have Sp:=BP m x.s.x hf
 have Hj:=gH m x.s.x
 have hid:=hL.id x hx
 unfold Mc.do
 dsimp only
 split
 ·rename_i c
  have hl:=hL.loop x hx (.inl (by simpa using c))
  exact go rfl rfl rfl hf (hL.next _ (n8 (.inr hl) (by omega)))
 split
 ·rename_i c
  exact go rfl rfl rfl hf (.inr (hL.loop x hx (.inr (by simpa using c))))
 split
 ·rename_i c
  obtain⟨f,h1,h2⟩:=hL.F2 x hx (by simpa using c)
  rw[h1]
  exact go rfl rfl rfl hf h2
 split
 ·split
  ·exact .inr ⟨.inl rfl,ht⟩
  ·exact go rfl rfl rfl hf (hL.next x hx)
 ·by_cases c2:(m.bo x.s.x).1.2=true
  ·rw [if_pos c2]
   have base:=fun(a:Int) (ha:mL L a)=>go (m1:=(m.bo x.s.x).2) (a:=a) (bN:= [(m.bo x.s.x).1.1]) Hj.2.2.2.2.2 Hj.2.2.1 Hj.1 (Sp.1 c2) ha
   have same : ∀ {a:Int} {m1 m2:Mc},BQ L (a,m1)→m2.fin=m1.fin→m2.st=m1.st→m2.trace=m1.trace→m2.steps=m1.steps→BQ L (a,m2):=fun {a m1 m2} h q1 q2 q3 q4=>by
    unfold BQ n9 at *
    dsimp only at *
    rw[q1,q2,q3,q4];exact h
   split
   ·exact same (base _ (hL.next x hx)) rfl rfl rfl rfl
   split
   ·exact same (base _ (hL.next x hx)) rfl rfl rfl rfl
   split
   ·refine base _ ?_
    split
    ·exact DM (hL.aR x hx) (hL.next x hx)
    ·exact DM (hL.a8 x hx) (hL.next x hx)
   split
   ·refine base _ ?_
    split
    ·exact hL.next x hx
    ·exact DM (hL.a8 x hx) (.inr hid)
   ·exact base _ (hL.next x hx)
  ·rw [if_neg c2]
   exact .inr ⟨.inr (.inl (Sp.2 (by simpa using c2))),by dsimp only;rw[Hj.2.2.2.2.2,Hj.2.2.1];exact ht⟩
theorem BR {p:Pg} {L:List Im} (hL:wZ p L) {tape W:List Int} (hW : ∀ x∈L,W.contains x.s.id=true) {fuel a:Int} {m:Mc} (ha:mL L a) (hs:n9 L m) (hf:m.fin=0) (ht:(m.trace.length:Int)=m.steps) :
 Told L (m.next p L tape W fuel a):=by
 unfold Mc.next
 by_cases c1:(a == -1)=true
 ·rw[if_pos c1];exact Hi hL hs hf ht
 ·rw [if_neg c1]
  by_cases c2:(m.steps==fuel)=true
  ·rw[if_pos c2];exact .inl ⟨.inr rfl,ht⟩
  ·rw [if_neg c2]
   have hx:=n8 ha (by simpa using c1)
   have nc:n9 L {m with steps:=m.steps+1}:=hs.of rfl
   have Eh:((({m with steps:=m.steps+1} : Mc).trace.length:Nat):Int)+1=({m with steps:=m.steps+1} : Mc).steps:=by dsimp only;omega
   dsimp only
   split
   ·exact(Sn hL hx (hW _ hx) nc hf Eh).told
   split
   ·exact Pu hL (hW _ hx) nc hf Eh
   ·exact(ZT hL hx (hW _ hx) nc hf Eh).told
def VH (m:Mc):Prop:=((m.fin=1∨m.fin=2)∧(m.trace.length:Int)=m.steps)∨((m.fin=3∨m.fin=4∨m.fin=5)∧(m.trace.length:Int)+1=m.steps)
theorem Mf {p:Pg} {L:List Im} (hL:wZ p L) {tape W:List Int} (hW : ∀ x∈L,W.contains x.s.id=true) {fuel:Int} : ∀ (N:Nat) (a:Int) (m m':Mc),mL L a→n9 L m→m.fin=0→(m.trace.length:Int)=m.steps→
 Mc.go p L tape W fuel N a m=some m'→VH m'
 | 0,_,_,_,_,_,_,_,h=>by simp[Mc.go]at h
 |N+1,a,m,m',ha,hs,hf,ht,h=>by
  have hn:=BR (fuel:=fuel) (tape:=tape) hL hW ha hs hf ht
  simp only[Mc.go]at h
  split at h
  ·rename_i m1 e;rw[e]at hn;cases h;exact hn
  ·rename_i a1 m1 e;rw[e]at hn;exact Mf hL hW N a1 m1 m' hn.1 hn.2.1 hn.2.2.1 hn.2.2.2 h
theorem DN {p:Pg} {L:List Im} (hL:wZ p L):mL L ((jE p).open p (p.at iK) [] 0).1∧n9 L ((jE p).open p (p.at iK) [] 0).2∧((jE p).open p (p.at iK) [] 0).2.fin=0∧
 ((((jE p).open p (p.at iK) [] 0).2.trace.length:Nat):Int)=((jE p).open p (p.at iK) [] 0).2.steps:=by
 unfold Mc.open
 cases hp:p.procs[(p.at iK).toNat]? with
 |none=>exact⟨.inl rfl,fun fr h=>by simp[jE]at h,rfl,rfl⟩
 |some f=>
  refine⟨hL.n6 f (List.mem_of_getElem? hp),fun fr h=>?_,rfl,rfl⟩
  rcases List.mem_cons.1 h with rfl|h
  ·exact .inl rfl
  ·simp[jE]at h
theorem Sq {p:Pg} (hL:wZ p p.aX.L) {tape W:List Int} (hW : ∀ x∈p.aX.L,W.contains x.s.id=true) {fuel:Int} {m:Mc} (h:runM p tape W fuel=some m):VH m:=by
 obtain⟨h1,h2,h3,h4⟩:=DN hL
 exact Mf hL hW _ _ _ _ h1 h2 h3 h4 h
theorem J8 (p:Pg) (L:List Im) (tape W:List Int) {fuel:Int} : ∀ (N:Nat) (a:Int) (m m':Mc),m.steps≤fuel→Mc.go p L tape W fuel N a m=some m'→m'.steps≤fuel
 | 0,_,_,_,_,h=>by simp[Mc.go]at h
 | N+1,a,m,m',hs,h=>by
  simp only[Mc.go]at h
  cases e:m.next p L tape W fuel a with
  | mk o m1=>
   rw[e]at h
   cases o with
   |some a1=>exact J8 p L tape W N a1 m1 m' (Md hs e).1 h
   | none=>
    cases h
    unfold Mc.next at e
    have hb : ∀ {m:Mc} {g:Int} {o:Option Int} {m2:Mc},m.back L g=(o,m2)→m2.steps=m.steps:=fun {m g o m2} h=>by
     have:=(J7 L m g).2.1
     unfold Mc.back at h
     simp only[Prod.mk.injEq]at h
     rw[← h.2];exact this
    split at e
    ·rw[hb e];exact hs
    split at e
    ·simp only[Prod.mk.injEq,true_and]at e;rw[← e];exact hs
    rename_i eK
    have hD:m.steps<fuel:=by(have:m.steps≠fuel:=by simpa using eK);omega
    dsimp only at e
    split at e
    ·have h1:=(Mb p W {m with steps:=m.steps+1} (fp L a).s).2
     simp only[Prod.mk.injEq]at e
     rw[← e.2,h1];dsimp only;omega
    split at e
    ·have h1:=(zI W {m with steps:=m.steps+1} (fp L a).s).2
     split at e
     ·rw[hb e,h1];dsimp only;omega
     ·simp only[Prod.mk.injEq,true_and]at e;rw[← e,h1];dsimp only;omega
    ·have h1:=(Pt p L tape W {m with steps:=m.steps+1} (fp L a)).2
     simp only[Prod.mk.injEq]at e
     rw[← e.2,h1];dsimp only;omega
def C8 (a b t:aG):aG:=if t==a then b else if t==b then a else t
mutual
def Ex.swap (a b:aG):Ex→Ex
 |⟨op,n,name,kids⟩=>⟨op,n,C8 a b name,Ex.zK a b kids⟩
def Ex.zK (a b:aG):List Ex→List Ex
 | []=> []
 |x::l=>x.swap a b::Ex.zK a b l
end
def Ar.swap (a b:aG) (x:Ar):Ar:=⟨x.ref,C8 a b x.name,x.x.swap a b⟩
mutual
def Sm.swap (a b:aG):Sm→Sm
 |⟨id,kind,labels,name,proc,x,has,args,a8,aR⟩=>⟨id,kind,labels.map (C8 a b),C8 a b name,C8 a b proc,x.swap a b,has,args.map (Ar.swap a b),Sm.zK a b a8,Sm.zK a b aR⟩
def Sm.zK (a b:aG):List Sm→List Sm
 | []=> []
 |s::l=>s.swap a b::Sm.zK a b l
end
def Pm.swap (a b:aG) (x:Pm):Pm:=⟨C8 a b x.name,x.ref⟩
def Pc.swap (a b:aG) (f:Pc):Pc:=⟨C8 a b f.name,f.params.map (Pm.swap a b),f.vars.map (C8 a b),Sm.zK a b f.body,f.fin.map (C8 a b)⟩
def Pg.swap (a b:aG) (p:Pg):Pg:=⟨p.globals.map (C8 a b),p.procs.map (Pc.swap a b)⟩
def It.swap (a b:aG) (i:It):It:=⟨i.s.swap a b,i.deep,i.cy,i.aR⟩
def X6:List Sm→List aG
 | []=> []
 |v::l=>v.said++X6 l
def ahq (p:Pg):List aG→List aG
 | []=> []
 |n::l=>X6 (tB p n)++ahq p l
set_option maxRecDepth 8000
open Go.Proofs
def pI (nm:aG) (T:List aG) (seen:List aG):List Ar→Bool
 | []=>true
 |a::l=>if a.ref then(if fx seen a.name ||(a.name==nm ||fx T a.name)then false else pI nm T (seen++ [a.name]) l)else pI nm T seen l
def apM (T:List aG) (seen:List aG):List Ar→Bool
 | []=>true
 |a::l=>if a.ref then(if fx seen a.name ||fx T a.name then false else apM T (seen++ [a.name]) l)else apM T seen l
def Sm.an0 (v:Sm):List aG:=if v.name != []then [v.name]else []
theorem VI {v:Sm} (ye:v.args.length<1000000000) {T:List aG} (hT:T.length<4611686018427387904) (s:St) :
 aF Tryz.prog sq [.agg (bh v), .slice .shared 1 (T.map encStr)] s (.bool (pI v.name T [] v.args)) s:=by
 refine aF.pure ?_ (by simp[D.bK,D.ok,q8,Tag.ok,fa]) rfl s
 generalize hR:pI v.name T [] v.args=R
 have X7:=fun x s=>rF hT x s
 unfold S0
 refine aF.go DB rfl fun B Q hB hQ=>?_
 have⟨hD,hY,hZ,gA⟩:=bR
 repeat' (first
 |simp only[go_sem,hD,hY,hZ,gA]
 |(with_reducible refine aE hQ ?_;exact bc))
 refine bp.q6 5 1 rfl ?_
 simp only[go_sem,hD,hY,hZ,gA]
 refine ff 1 1 (bp.ind (ι:=List Ar×Nat×List aG×Nat) (fun i=>v.args.drop i.2.1=i.1∧pI v.name T i.2.2.1 i.1=R∧i.2.2.1.length≤i.2.1∧i.2.2.2=i.2.2.1.length) (fun i=>i.1.length)
  (fun i=> [(1, .slice .shared 1 (T.map encStr)),(2, .ptr 0 0),(5, .slice (.tok 0) 1 (i.2.2.1.map encStr)),(9, .slice .shared 6 (v.args.map eB)),(10, .int .i64 (v.args.length:Int)),(11, .int .i64 (i.2.1:Int))]) (fun i=>⟨[bh v],[some i.2.2.2]⟩) ?_ (v.args,0,[],0) ⟨rfl,hR,Nat.le_refl _,rfl⟩)
 clear hR
 rintro⟨rest,k,seen,n'⟩ ⟨h1,h2,h3,h4⟩ IH
 dsimp only at h1 h2 h3 h4
 subst h4
 cases rest with
 |nil=>
  have hD:=drop_nil h1
  simp only[pI]at h2
  subst h2
  repeat' (first
 |simp only[go_sem,hD,hY,hZ,gA]
 |(with_reducible refine aE hQ ?_;exact bc))
 | cons a rest=>
  obtain⟨hY,g2,hD,g4⟩:=drop_cons h1
  have bO:k<4611686018427387904:=by omega
  have hZ:(seen.length+1)*17≤bC:=by unfold bC;omega
  have la:=fun g s=>jC (l:=seen) (by omega) a.name g s
  simp only[pI]at h2
  rcases Bool.eq_false_or_eq_true a.ref with c1|c1
  case inr=>
   simp only[c1,Bool.false_eq_true,if_false]at h2
   repeat' (first
 |simp only[go_sem,hD,hY,hZ,gA,c1,Bool.not_false]
 | (with_reducible refine aE hQ ?_;exact bc))
   refine eQ 1 1 ?_ ?_ (IH (rest,k+1,seen,_) ⟨g2,h2,by dsimp only;omega,rfl⟩ (Nat.lt_succ_self _))
   ·(simp only[go_sem,hD,hY,hZ,gA,aI bO];try exact bX)
   ·(simp only[go_sem,hD,hY,hZ,gA,aI bO];try exact bX)
  simp only[c1,if_true]at h2
  rcases Bool.eq_false_or_eq_true (fx seen a.name)with c2|c2
  ·simp only [c2,Bool.true_or,if_true]at h2
   subst h2
   repeat' (first
 |simp only[go_sem,hD,hY,hZ,gA,c1,c2,Bool.not_true]
 |(with_reducible refine CU (la _ _) ?_)
 |(with_reducible refine CU (X7 _ _) ?_)
 | (with_reducible refine aE hQ ?_;exact bc))
  rcases Bool.eq_false_or_eq_true (a.name==v.name)with c3|c3
  ·simp only [c2,c3,Bool.false_or,Bool.true_or,if_true]at h2
   subst h2
   repeat' (first
 |simp only[go_sem,hD,hY,hZ,gA,c1,c2,c3,Bool.not_true]
 |(with_reducible refine CU (la _ _) ?_)
 |(with_reducible refine CU (X7 _ _) ?_)
 | (with_reducible refine aE hQ ?_;exact bc))
  rcases Bool.eq_false_or_eq_true (fx T a.name)with c4|c4
  ·simp only [c2,c3,c4,Bool.false_or,if_true]at h2
   subst h2
   repeat' (first
 |simp only[go_sem,hD,hY,hZ,gA,c1,c2,c3,c4,Bool.not_true]
 |(with_reducible refine CU (la _ _) ?_)
 |(with_reducible refine CU (X7 _ _) ?_)
 | (with_reducible refine aE hQ ?_;exact bc))
  ·simp only [c2,c3,c4,Bool.false_or,Bool.false_eq_true,if_false]at h2
   repeat' (first
 |simp only[go_sem,hD,hY,hZ,gA,c1,c2,c3,c4,Bool.not_true]
 |(with_reducible refine CU (la _ _) ?_)
 |(with_reducible refine CU (X7 _ _) ?_)
 | (with_reducible refine aE hQ ?_;exact bc))
   refine eQ 1 1 ?_ ?_ (IH (rest,k+1,seen++ [a.name],seen.length+1) ⟨g2,h2,by simp;omega,by simp⟩ (Nat.lt_succ_self _))
   ·(simp only[go_sem,hD,hY,hZ,gA,aI bO,List.map_append,List.map_cons,List.map_nil,encStr];try exact bX)
   ·(simp only[go_sem,hD,hY,hZ,gA,aI bO,List.map_append,List.map_cons,List.map_nil,encStr];try exact bX)
def nC (p:Pg):List Pc→List D
 | []=> []
 |f::l=> .str f.name:: .slice .shared 1 ((p.qf f.name).map encStr)::nC p l
theorem Sr (p:Pg) : ∀ l,D.bK 0 0 (nC p l)=true
 | []=>rfl
 |f::l=>by simp only[nC,D.bK,D.ok,Tag.ok,fa,Sr p l];rfl
theorem ZU (n m:Nat) (p:Pg) (l:List Pc):D.gx n m (nC p l)=nC p l:=ie n m _ (Sr p l)
attribute [go_sem] ZU
theorem J9 (p:Pg) : ∀ l m,nC p (l++m)=nC p l++nC p m
 | [],m=>rfl
 |f::l,m=>by simp only[List.cons_append,nC,J9 p l m]
theorem Ka {p:Pg} {nm:aG} {d:D} : ∀ {l:List Pc},nm∉l.map (·.name)→xb nm d (nC p l)=some (nC p l++ [.str nm,d])
 | [],_=>rfl
 |f::l,h=>by
  simp only[List.map_cons,List.mem_cons,not_or]at h
  have:(f.name==nm)=false:=by simpa using fun e=>h.1 e.symm
  simp only[nC,xb,this,Bool.false_eq_true,if_false,Ka h.2,List.cons_append]
theorem Kb {p:Pg} {nm:aG} {z:D} : ∀ {l:List Pc} {f:Pc},iV nm l=some f→yL nm z (nC p l)=some (.slice .shared 1 ((p.qf nm).map encStr))
 | g::l,f,h=>by
  simp only[iV]at h
  simp only[nC,yL]
  split at h
  ·rename_i e
   rw[if_pos e,eq_of_beq e]
  ·rename_i e
   rw[if_neg e]
   exact Kb h
theorem ZV (l:List aG) : ∀ (s:List aG),qd s l=false→∀ a x b,l=a++x::b→x∉s++a:=by
 induction l with
 |nil=>intro s _ a x b e;cases a<;>cases e
 | cons y l ih=>
  intro s h a x b e
  simp only[qd]at h
  split at h
  ·cases h
  ·rename_i hy
   cases a with
   |nil=>cases e;simpa[← ji]using hy
   |cons z a=>
    cases e
    have:=ih (s++ [y]) h a x b rfl
    simpa using this
end Go.Abs
namespace Go.Abs
set_option maxRecDepth 8000
open Go.Proofs
theorem Kc {p:Pg} (h:(p.arity.1==0)=true):(p.scope.1==0)=true∧∀ v∈p.pre,(v.kind==4)=true→v.qm p=true:=by
 unfold Pg.arity at h
 split at h
 ·rename_i e
  refine⟨e,fun v hv hk=>?_⟩
  have : ∀ l:List Sm,((qe 6 (JV p l)).1==0)=true→∀ v∈l,(v.kind==4)=true→v.qm p=true:=by
   intro l
   induction l with
   |nil=>intro _ v m;cases m
   | cons a l ih=>
    intro h v m hk
    simp only[JV]at h
    split at h
    ·cases h
    ·rename_i c
     rcases List.mem_cons.1 m with rfl|m
     ·simpa[hk]using c
     ·exact ih h v m hk
  exact this _ h v hv hk
 ·cases h
theorem Hk {p:Pg} {v:Sm} (h:v.qm p=true) : ∃ f,p.find v.proc=some f:=by
 unfold Sm.qm at h
 cases e:p.find v.proc with
 |some f=>exact⟨f,rfl⟩
 |none=>rw[e]at h;simp at h
theorem Kd : ∀ {l:List It} {n:Nat} {i:It},It.fP n l=true→i∈l→i.s.one=true
 | j::l,n,i,h,m=>by
  simp only[It.fP]at h
  split at h
  ·cases h
  ·rename_i c
   simp only[Bool.or_eq_true,not_or,Bool.not_eq_true',Bool.not_eq_false]at c
   rcases List.mem_cons.1 m with rfl|m
   ·exact c.2
   ·exact Kd h m
theorem Mg {p:Pg} (h:p.may=true) : ∀ v∈p.pre,v.one=true:=fun v m=>by
 rw[← (zz h).2,List.mem_map]at m
 obtain⟨i,hi,rfl⟩:=m
 exact Kd (Cl h).2 hi
def Sm.yF (p:Pg) (v:Sm):Bool:=pI v.name (p.qf v.proc) [] v.args
def Ke (p:Pg):List Sm→Option Sm
 | []=>none
 |v::l=>if v.kind==4 && !(v.yF p)then some v else Ke p l
def Pg.alias (p:Pg):Int×Int:=if p.arity.1==0 then qe 8 (Ke p p.pre)else(1,0)
theorem Kf {p:Pg} (h:p.iP) (nm:aG):(p.qf nm).length<4611686018427387904:=by
 unfold Pg.qf
 cases hs:p.zB nm with
 |none=>dsimp only;decide
 |some f=>
  obtain⟨nN,hf⟩:=Hd hs
  have h1:=(J3 nN hf).len
  have h2:=h.procs
  have h3:=(zE h (km (p.work nm)) []).2
  have h4:(km (p.work nm)).length*1800000≤900000*1800000:=Nat.mul_le_mul_right _ (by omega)
  have h5:(km (p.sx nm)).length≤(p.sx nm).length:=wU _ _ (uS (mz _).1) fun x m=>((mz _).2 x).1 m
  dsimp only
  unfold Pg.sx at *
  simp only[List.length_nil]at h3
  omega
theorem Pv {v:Sm} (hv:v.nz):v.args.length<1000000000:=by have:=Ar.eH v.args;have:=hv.2.2;omega
theorem Ss {p:Pg} (h:p.iP) (s:St):aF Tryz.prog tX [.agg (cz p)] s (.agg [.int .i64 p.alias.1, .int .i64 p.alias.2]) s:=by
 refine aF.pure ?_ (by simp[D.bK,D.ok,jw]) rfl s
 obtain⟨rV,rH,rG⟩:=h.procs
 have pJ:=fun s=>JW h s
 have dh:=fun s=>Cf (p:=p) (by omega) s
 have hL:=(lg p).1
 have wT:=pg p
 generalize hR:p.alias=R
 simp only[Pg.alias]at hR
 unfold S0
 have b0:(p.arity.1 != 0) = !(p.arity.1==0):=rfl
 rcases Bool.eq_false_or_eq_true (p.arity.1==0)with b1|b1
 case inr=>
  rw[b1]at b0
  simp only[b1,Bool.false_eq_true,if_false]at hR
  subst hR
  refine aF.go wG rfl fun B Q hB hQ=>?_
  have⟨hD,hY,hZ,gA⟩:=bR
  repeat' (first
 |simp only[go_sem,hD,hY,hZ,gA,b0,Bool.not_false]
 |(with_reducible refine CU (pJ _) ?_)
 |(with_reducible refine aE hQ ?_;exact bc))
 rw[b1]at b0
 obtain⟨nN,jq⟩:=Kc b1
 have htw:=(DH nN).2.1
 simp only[b1,if_true, ← hL]at hR
 refine aF.go wG rfl fun B Q hB hQ=>?_
 have⟨hD,hY,hZ,gA⟩:=bR
 repeat' (first
 |simp only[go_sem,hD,hY,hZ,gA,b0,Bool.not_true]
 |(with_reducible refine CU (pJ _) ?_)
 |(with_reducible refine aE hQ ?_;exact bc))
 refine eQ 3 0 ?_ ?_ (bp.ind (ι:=List Pc×Nat×List Pc) (fun i=>p.procs.drop i.2.1=i.1∧p.procs=i.2.2++i.1) (fun i=>i.1.length)
  (fun i=> [(1, .ptr 0 0),(2, .ptr 1 0),(3, .fS 2),(15, .slice .shared 5 (p.procs.map cu)),(16, .int .i64 (p.procs.length:Int)),(17, .int .i64 (i.2.1:Int))]) (fun i=>⟨[cz p,[.int .i64 0, .int .i64 0],nC p i.2.2],[]⟩) ?_ (p.procs,0,[]) ⟨rfl,rfl⟩)
 ·(simp only[go_sem,hD,hY,hZ,gA,nC];try exact bX)
 ·(simp only[go_sem,hD,hY,hZ,gA,nC];try exact bX)
 rintro⟨rest,k,done⟩ ⟨h1,h2⟩ IH
 dsimp only at h1 h2
 cases rest with
 | cons a rest=>
  obtain⟨hY,g2,hD,g4⟩:=drop_cons h1
  have bO:k<4611686018427387904:=by omega
  have xW:=fun s=>Sd h a.name s
  have hnm:a.name∉done.map (·.name):=by
   have:=ZV _ [] htw (done.map (·.name)) a.name (rest.map (·.name)) (by simp[Pg.pn,h2])
   simpa using this
  have hmp:xb a.name (.slice .shared 1 ((p.qf a.name).map encStr)) (nC p done)=some (nC p (done++ [a])):=by
   rw[Ka hnm,J9];rfl
  repeat' (first
 |simp only[go_sem,hD,hY,hZ,gA,hmp]
 |(with_reducible refine CU (xW _) ?_)
 |(with_reducible refine aE hQ ?_;exact bc))
  refine eQ 3 0 ?_ ?_ (IH (rest,k+1,done++ [a]) ⟨g2,by rw[h2];simp⟩ (Nat.lt_succ_self _))
  ·(simp only[go_sem,hD,hY,hZ,gA,aI bO];try exact bX)
  ·(simp only[go_sem,hD,hY,hZ,gA,aI bO];try exact bX)
 |nil=>
  have hD:=drop_nil h1
  rw[List.append_nil]at h2
  subst h2
  repeat' (first
 |simp only[go_sem,hD,hY,hZ,gA,n7]
 |(with_reducible refine CU (dh _) ?_)
 | (with_reducible refine aE hQ ?_;exact bc))
  refine ff 3 0 (bp.ind (ι:=List Im×Nat) (fun i=>p.aX.L.drop i.2=i.1∧qe 8 (Ke p (i.1.map Im.s))=R) (fun i=>i.1.length)
   (fun i=> [(1, .ptr 0 0),(2, .ptr 1 0),(3, .fS 2),(33, .slice .shared 17 (p.aX.L.map dv)),(34, .int .i64 (p.aX.L.length:Int)),(35, .int .i64 (i.2:Int))]) (fun i=>⟨[cz p,[.int .i64 0, .int .i64 0],nC p p.procs],[]⟩) ?_ (p.aX.L,0) ⟨rfl,hR⟩)
  clear hR
  rintro⟨rest,k⟩ ⟨h1,hR⟩ IH
  dsimp only at h1 hR
  cases rest with
  |nil=>
   have hD:=drop_nil h1
   simp only[List.map_nil,Ke,qe]at hR
   subst hR
   repeat' (first
 |simp only[go_sem,hD,hY,hZ,gA]
 | (with_reducible refine aE hQ ?_;exact bc))
  | cons a rest=>
   obtain⟨hY,g2,hD,g4⟩:=drop_cons h1
   have bO:k<4611686018427387904:=by omega
   have ES:a.s∈p.pre:=by rw[← hL];exact List.mem_map_of_mem (List.mem_of_getElem? hY)
   have ve:=fun s=>VI (Pv (h.pre _ ES)) (Kf h a.s.proc) s
   simp only[List.map_cons,Ke,Sm.yF]at hR
   rcases Bool.eq_false_or_eq_true (a.s.kind==4)with c1|c1
   ·obtain⟨f,hf⟩:=Hk (jq _ ES c1)
    have hmg:=fun z=>Kb (p:=p) (z:=z) hf
    rcases Bool.eq_false_or_eq_true (pI a.s.name (p.qf a.s.proc) [] a.s.args)with c2|c2
    ·simp only [c1,c2,Bool.not_true,Bool.and_false,Bool.false_eq_true,if_false]at hR
     repeat' (first
 |simp only[go_sem,hD,hY,hZ,gA,c1,c2,hmg]
 |(with_reducible refine CU (ve _) ?_)
 | (with_reducible refine aE hQ ?_;exact bc))
     refine eQ 3 0 ?_ ?_ (IH (rest,k+1) ⟨g2,hR⟩ (Nat.lt_succ_self _))
     ·(simp only[go_sem,hD,hY,hZ,gA,aI bO];try exact bX)
     ·(simp only[go_sem,hD,hY,hZ,gA,aI bO];try exact bX)
    ·simp only [c1,c2,Bool.not_false,Bool.and_true,if_true,qe]at hR
     subst hR
     repeat' (first
 |simp only[go_sem,hD,hY,hZ,gA,c1,c2,hmg]
 |(with_reducible refine CU (ve _) ?_)
 | (with_reducible refine aE hQ ?_;exact bc))
   ·simp only [c1,Bool.false_and,Bool.false_eq_true,if_false]at hR
    repeat' (first
 |simp only[go_sem,hD,hY,hZ,gA,c1]
 |(with_reducible refine CU (ve _) ?_)
 | (with_reducible refine aE hQ ?_;exact bc))
    refine eQ 3 0 ?_ ?_ (IH (rest,k+1) ⟨g2,hR⟩ (Nat.lt_succ_self _))
    ·(simp only[go_sem,hD,hY,hZ,gA,aI bO];try exact bX)
    ·(simp only[go_sem,hD,hY,hZ,gA,aI bO];try exact bX)
def Sm.adI (p:Pg) (v:Sm):Bool:=v.qm p && apM (p.qf v.proc) v.an0 v.args
def apF (p:Pg):List Sm→Option Sm
 | []=>none
 |v::l=>if v.kind==4 && !(v.adI p)then some v else apF p l
def rd0 (l:List p7):Rd:=⟨l,0,0,0,0⟩
def auY (m:Nat) (text:aG):Option (Pg×Int×Int):=
 if(yu text).2.1 != 0 then some (pg0,(yu text).2)
 else(Rd.program m (rd0 (yu text).1)).bind fun p=>if p.2.code != 0 then some (pg0,p.2.code,p.2.Jo)else(p.1.Zo).bind fun q=>some (q,0,0)
def avM (m:Nat) (text:aG):Option (Ex×Int×Int):=
 if(yu text).2.1 != 0 then some (q7,(yu text).2)
 else(Rd.whole m (rd0 (yu text).1)).bind fun x=>x.2.Rx.bind fun b=>
  if b then(x.2.bad 3).bind fun r=>if !r.good then some (q7,r.code,r.Jo)else some (x.1,0,0)
  else if !x.2.good then some (q7,x.2.code,x.2.Jo)else some (x.1,0,0)
def adJ (n k:Int):Int:=if Int.tmod n k<0 then Int.tmod n k+k else Int.tmod n k
def ahr (t:aG):Nat→aG
 | 0=> []
 |n+1=>ahr t n++t
def two (i:Nat):aG:= [UInt8.ofNat (48+i / 10),UInt8.ofNat (48+i % 10)]
def adK (ahead:aG):Nat→aG
 | 0=> []
 |n+1=>(if n=0 then adK ahead n else adK ahead n++ [44])++(ahead++ [97]++two n)
def adL:Nat→aG
 | 0=> []
 |n+1=>adL n++([112,114,111,99,32,112]++two n++ [40,41,123,125])
def oK (k:Int):List It→List Int
 | []=> []
 |i::l=>if k==0 ||i.s.kind==k then i.s.id::oK k l else oK k l
theorem DO (k:Int) : ∀ l,(oK k l).length≤l.length
 | []=>Nat.le_refl _
 |i::l=>by
  have:=DO k l
  simp only[oK]
  split<;>simp<;>omega
theorem ahs {p:Pg} (hs:Pc.a7 p.procs<4611686018427387000) (wT:p.all.length≤1000) (kd:Int) (s:St):aF Tryz.prog ze [.agg (cz p), .int .i64 kd] s (.slice .shared 1 ((oK kd p.all).map bP)) s:=by
 refine aF.pure ?_ (by simp[D.bK,D.ok,jw]) (by simp only[D.ok,Tag.ok,iz];rfl) s
 have ye:=fun s=>ahj hs s
 obtain⟨R,hR⟩ : ∃ R,oK kd p.all=R:=⟨_,rfl⟩
 rw[hR]
 have X3:R.length≤1000:=by rw[← hR];exact Nat.le_trans (DO kd p.all) wT
 unfold S0
 refine aF.go Jy rfl fun B Q hB hQ=>?_
 have⟨hD,hY,hZ,gA⟩:=bR
 repeat' (first
 |simp only[go_sem,hD,hY,hZ,gA]
 |(with_reducible refine CU (ye _) ?_)
 |(with_reducible refine aE hQ ?_;exact bc))
 refine bp.q6 5 1 rfl ?_
 simp only[go_sem,hD,hY,hZ,gA]
 refine ff 1 1 (bp.ind (ι:=List It×Nat×List Int×Nat) (fun i=>p.all.drop i.2.1=i.1∧i.2.2.1++oK kd i.1=R∧i.2.2.2=i.2.2.1.length) (fun i=>i.1.length)
  (fun i=> [(1, .int .i64 kd),(2, .ptr 0 0),(5, .slice (.tok 0) 1 (i.2.2.1.map bP)),(9, .slice .shared 16 (p.all.map fL)),(10, .int .i64 (p.all.length:Int)),(11, .int .i64 (i.2.1:Int))]) (fun i=>⟨[cz p],[some i.2.2.2]⟩) ?_ (p.all,0,[],0) ⟨rfl,hR,rfl⟩)
 clear hR
 rintro⟨rest,k,out,n'⟩ ⟨h1,h2,h3⟩ IH
 dsimp only at h1 h2 h3
 subst h3
 have iZ:out.length≤1000:=by have:=congrArg List.length h2;rw[List.length_append]at this;omega
 cases rest with
 |nil=>
  have hD:=drop_nil h1
  simp only[oK,List.append_nil]at h2
  subst h2
  repeat' (first
 |simp only[go_sem,hD,hY,hZ,gA]
 |(with_reducible refine aE hQ ?_;exact bc))
 | cons a rest=>
  obtain⟨hY,g2,hD,g4⟩:=drop_cons h1
  have bO:k<4611686018427387904:=by omega
  have hZ:(out.length+1)*9≤bC:=by unfold bC;omega
  simp only[oK]at h2
  rcases Bool.eq_false_or_eq_true (kd==0)with c1|c1
  ·simp only [c1,Bool.true_or,if_true]at h2
   repeat' (first
 |simp only[go_sem,hD,hY,hZ,gA,c1]
 | (with_reducible refine aE hQ ?_;exact bc))
   refine eQ 1 1 ?_ ?_ (IH (rest,k+1,out++ [a.s.id],out.length+1) ⟨g2,by rw[← h2];simp,by simp⟩ (Nat.lt_succ_self _))
   ·(simp only[go_sem,hD,hY,hZ,gA,aI bO,List.map_append,List.map_cons,List.map_nil,bP];try exact bX)
   ·(simp only[go_sem,hD,hY,hZ,gA,aI bO,List.map_append,List.map_cons,List.map_nil,bP];try exact bX)
  rcases Bool.eq_false_or_eq_true (a.s.kind==kd)with c2|c2
  ·simp only [c1,c2,Bool.or_true,if_true]at h2
   repeat' (first
 |simp only[go_sem,hD,hY,hZ,gA,c1,c2]
 | (with_reducible refine aE hQ ?_;exact bc))
   refine eQ 1 1 ?_ ?_ (IH (rest,k+1,out++ [a.s.id],out.length+1) ⟨g2,by rw[← h2];simp,by simp⟩ (Nat.lt_succ_self _))
   ·(simp only[go_sem,hD,hY,hZ,gA,aI bO,List.map_append,List.map_cons,List.map_nil,bP];try exact bX)
   ·(simp only[go_sem,hD,hY,hZ,gA,aI bO,List.map_append,List.map_cons,List.map_nil,bP];try exact bX)
  ·simp only [c1,c2,Bool.or_false,Bool.false_eq_true,if_false]at h2
   repeat' (first
 |simp only[go_sem,hD,hY,hZ,gA,c1,c2]
 | (with_reducible refine aE hQ ?_;exact bc))
   refine eQ 1 1 ?_ ?_ (IH (rest,k+1,out,_) ⟨g2,h2,rfl⟩ (Nat.lt_succ_self _))
   ·(simp only[go_sem,hD,hY,hZ,gA,aI bO];try exact bX)
   ·(simp only[go_sem,hD,hY,hZ,gA,aI bO];try exact bX)
def avN (l:List Int) (n:Int):Int:=match l[(adJ n l.length).toNat]? with|some x=>x|none=>0
def Co (id:Int):List It→Option It
 | []=>none
 |i::l=>if i.s.id==id then some i else Co id l
def zL (id:Int):List Pc→Option (It×aG)
 | []=>none
 |f::l=>match Co id f.flat with|some i=>some (i,f.name)|none=>zL id l
def it0:It:=⟨Jh,0,0,false⟩
def an1 (r:Option (It×aG)):D:=match r with
 |some (i,nm)=> .tuple [.agg (fL i), .str nm, .bool true]
 |none=> .tuple [.agg (fL it0), .str [], .bool false]
def Pg.Cp (p:Pg) (id:Int):Sm:=match zL id p.procs with|some (i,_)=>i.s|none=>Jh
def da (t:aG) (n:Int):Int:=if n > 20000 then 20001 else if(t.length:Int)≥20000 - n then 20001 else n+1+t.length
mutual
def fc:Ex→Int→Int
 |⟨_,_,name,kids⟩,n=>nD kids (da name n)
def nD:List Ex→Int→Int
 | [],n=>n
 |x::l,n=>if n≤20000 then nD l (fc x n)else n
end
theorem mA {t:aG} {n:Int} (h0:0≤n):da t n≤20001∧(n≤20000→n+1≤da t n)∧0≤da t n∧(da t n≤20000→n+1+t.length=da t n):=by
 unfold da;split
 ·omega
 ·split<;>omega
theorem vQ : ∀ (m:Nat) (x:Ex),x.size≤m→∀ n:Int,0≤n→fc x n≤20001∧(n≤20000→n+1≤fc x n)∧0≤fc x n∧(fc x n≤20000→(x.size:Int)+1≤2*(fc x n - n)∧x.texts):=by
 intro m
 induction m with
 |zero=>rintro⟨op,v,name,kids⟩ h;simp only[Ex.size]at h;omega
 | succ m ih=>
  rintro⟨op,v,name,kids⟩ h n h0
  simp only[Ex.size]at h
  obtain⟨t1,t2,t3,t4⟩:=mA (t:=name) h0
  have go : ∀ (l:List Ex),Ex.a7 l≤m→∀ c:Int,0≤c→c≤20001→nD l c≤20001∧c≤nD l c∧(nD l c≤20000→(Ex.a7 l:Int)≤2*(nD l c - c)∧Ex.vE l):=by
   intro l
   induction l with
   |nil=>intro _ c h0 h1;simp only[nD,Ex.a7];exact⟨h1,Int.le_refl _,fun _=>⟨by omega,trivial⟩⟩
   | cons y l Sl=>
    intro hs c h0 h1
    simp only[Ex.a7]at hs ⊢
    simp only[nD]
    split
    ·rename_i hc
     obtain⟨a1,a2,a3,a4⟩:=ih y (by omega) c h0
     obtain⟨b1,b2,b3⟩:=Sl (by omega) (fc y c) a3 a1
     have:=a2 hc
     refine⟨b1,by omega,fun hw=>?_⟩
     obtain⟨c1,c2⟩:=b3 hw
     obtain⟨d1,d2⟩:=a4 (by omega)
     exact⟨by omega,d2,c2⟩
    ·exact⟨h1,Int.le_refl _,fun hw=>by omega⟩
  obtain⟨g1,g2,g3⟩:=go kids (by omega) (da name n) t3 t1
  simp only[fc,Ex.size]
  refine⟨g1,fun hn=>by have:=t2 hn;omega,by omega,fun hw=>?_⟩
  obtain⟨k1,k2⟩:=g3 hw
  have:=t4 (by omega)
  exact⟨by omega,by omega,k2⟩
theorem qz (t:aG) {n:Int} (h0:0≤n) (h1:n≤20001) (s:St):aF Tryz.prog gv [.str t, .int .i64 n] s (.int .i64 (da t n)) s:=by
 refine aF.pure ?_ rfl rfl s
 unfold S0
 have w1:IntKind.wrap .i64 (20000 - n)=20000 - n:=ei (by omega) (by omega)
 have w2:IntKind.wrap .i64 (n+1)=n+1:=ei (by omega) (by omega)
 by_cases c:n > 20000
 ·have c1:decide (n > 20000)=true:=by simp;omega
  have e:da t n=20001:=by simp[da,c]
  rw[e]
  refine aF.go pe rfl fun B Q hB hQ=>?_
  have⟨hD,hY,hZ,gA⟩:=bR
  repeat' (first
 |simp only[go_sem,hD,hY,hZ,gA,c1,w1,w2]
 |(with_reducible refine aE hQ ?_;exact bc))
 ·have c1:decide (n > 20000)=false:=by simp;omega
  by_cases d:(t.length:Int)≥20000 - n
  ·have d1:decide ((t.length:Int)≥20000 - n)=true:=by simp;omega
   have e:da t n=20001:=by unfold da;rw[if_neg c,if_pos d]
   rw[e]
   refine aF.go pe rfl fun B Q hB hQ=>?_
   have⟨hD,hY,hZ,gA⟩:=bR
   repeat' (first
 |simp only[go_sem,hD,hY,hZ,gA,c1,d1,w1,w2]
 | (with_reducible refine aE hQ ?_;exact bc))
  ·have d1:decide ((t.length:Int)≥20000 - n)=false:=by simp;omega
   have e:da t n=n+1+t.length:=by unfold da;rw[if_neg c,if_neg d]
   have w3:IntKind.wrap .i64 (n+1+t.length)=n+1+t.length:=ei (by omega) (by omega)
   rw[e]
   refine aF.go pe rfl fun B Q hB hQ=>?_
   have⟨hD,hY,hZ,gA⟩:=bR
   repeat' (first
 |simp only[go_sem,hD,hY,hZ,gA,c1,d1,w1,w2,w3]
 |(with_reducible refine aE hQ ?_;exact bc))
theorem Kg : ∀ (m:Nat) (x:Ex),x.size≤m→∀ {n:Int},0≤n→n≤20000→∀ s:St,aF Tryz.prog j7 [.agg (cj x), .int .i64 n] s (.int .i64 (fc x n)) s:=by
 intro m
 induction m with
 |zero=>rintro⟨op,v,name,kids⟩ h;simp only[Ex.size]at h;omega
 |succ m ih=>
  rintro⟨op,v,name,kids⟩ dO n h0 h1 s
  refine aF.pure ?_ (by simp[D.bK,D.ok,lU]) rfl s
  simp only[Ex.size]at dO
  have hk : ∀ y∈kids,∀ {n:Int},0≤n→n≤20000→∀ s:St,aF Tryz.prog j7 [.agg (cj y), .int .i64 n] s (.int .i64 (fc y n)) s:=fun y hy=>ih y (by have:=Ex.dk hy;omega)
  have ht:=fun s=>qz name h0 (by omega) s
  obtain⟨t1,t2,t3,t4⟩:=mA (t:=name) h0
  unfold S0
  generalize h:fc ⟨op,v,name,kids⟩ n=p
  simp only[fc]at h
  refine aF.go Br rfl fun B Q hB hQ=>?_
  have⟨hD,hY,hZ,gA⟩:=bR
  repeat' (first
 |simp only[go_sem,hD,hY,hZ,gA]
 |(with_reducible refine CU (ht _) ?_)
 |(with_reducible first|refine bl fun hc=>?_|refine bm fun hc=>?_|refine bn (fun hc=>?_) fun hc=>?_)<;>(try simp only[hc,bs,↓reduceIte]at h)<;>try simp only[hc]
 | (with_reducible refine aE hQ ?_;exact fO))
  refine ff 1 0 (bp.ind (ι:=List Ex×Nat×Int) (fun i=>kids.drop i.2.1=i.1∧nD i.1 i.2.2=p∧(i.2.1:Int)≤i.2.2∧i.2.2≤20001) (fun i=>i.1.length)
   (fun i=> [(1, .int .i64 i.2.2),(2, .ptr 0 0),(5, .int .i64 (i.2.1:Int))]) (fun i=>⟨[cj ⟨op,v,name,kids⟩],[]⟩) ?_ (kids,0,da name n) ⟨rfl,h,t3,t1⟩)
  rintro⟨rest,k,c⟩ ⟨g1,h,g3,g4⟩ IH
  dsimp only at g1 h g3 g4
  cases rest with
  |nil=>
   have hD:=drop_nil g1
   simp only[nD]at h
   repeat' (first
 |simp only[go_sem,hD,hY,hZ,gA]
 |(with_reducible first|refine bl fun hc=>?_|refine bm fun hc=>?_|refine bn (fun hc=>?_) fun hc=>?_)<;>(try simp only[hc,bs,↓reduceIte]at h)<;>try simp only[hc]
 | (with_reducible refine aE hQ ?_;exact fO))
  | cons y rest=>
   obtain⟨hY,g2,hD,g5⟩:=drop_cons g1
   simp only[nD]at h
   by_cases hc:c≤20000
   ·have c1:decide (c≤20000)=true:=by simp;omega
    have hy:=fun s=>hk y (List.mem_of_getElem? hY) (n:=c) (by omega) hc s
    obtain⟨a1,a2,a3,a4⟩:=vQ _ y (Nat.le_refl _) c (by omega)
    have:=a2 hc
    have w3:IntKind.wrap .i64 ((k:Int)+1)=((k+1:Nat):Int):=by rw[ei]<;>omega
    rw[if_pos hc]at h
    repeat' (first
 |simp only[go_sem,hD,hY,hZ,gA,c1,w3]
 |(with_reducible refine CU (hy _) ?_)
 |(with_reducible first|refine bl fun hc=>?_|refine bm fun hc=>?_|refine bn (fun hc=>?_) fun hc=>?_)<;>(try simp only[hc,bs,↓reduceIte]at h)<;>try simp only[hc]
 | (with_reducible refine aE hQ ?_;(try cases h);simp only [aS,aV,bF,bG,go_sem,hD,hY,hZ,gA,c1,w3];try exact cq))
    refine ff 1 0 (IH (rest,k+1,fc y c) ⟨g2,h,by dsimp only;omega,a1⟩ (Nat.lt_succ_self _))
   ·have c1:decide (c≤20000)=false:=by simp;omega
    rw[if_neg hc]at h
    repeat' (first
 |simp only[go_sem,hD,hY,hZ,gA,c1]
 |(with_reducible first|refine bl fun hc=>?_|refine bm fun hc=>?_|refine bn (fun hc=>?_) fun hc=>?_)<;>(try simp only[hc,bs,↓reduceIte]at h)<;>try simp only[hc]
 |(with_reducible refine aE hQ ?_;(try cases h);simp only[aS,aV,bF,bG,go_sem,hD,hY,hZ,gA,c1];try exact cq))
def dM:List aG→Int→Int
 | [],n=>n
 |t::l,n=>if n≤20000 then dM l (da t n)else n
def iO:List Ar→Int→Int
 | [],n=>n
 |a::l,n=>if n≤20000 then iO l (da a.name (fc a.x n))else n
def kB:List Pm→Int→Int
 | [],n=>n
 |a::l,n=>if n≤20000 then kB l (da a.name n)else n
mutual
def rL:Sm→Int→Int
 |⟨_,_,labels,name,proc,x,_,args,a8,aR⟩,n=>fC aR (fC a8 (iO args (da proc (da name (dM labels (fc x n))))))
def fC:List Sm→Int→Int
 | [],n=>n
 |s::l,n=>if n≤20000 then fC l (rL s n)else n
end
theorem Sw (s:Sm) (n:Int):rL s n=fC s.aR (fC s.a8 (iO s.args (da s.proc (da s.name (dM s.labels (fc s.x n)))))):=by cases s;simp only[rL]
def tC (f:Pc) (n:Int):Int:=fC f.body (kB f.params (dM f.fin (dM f.vars (da f.name n))))
def nE:List Pc→Int→Int
 | [],n=>n
 |f::l,n=>if n≤20000 then nE l (tC f n)else n
def Pg.Cq (p:Pg):Int:=nE p.procs (dM p.globals 0)
theorem k6 : ∀ (l:List aG) {n:Int},0≤n→n≤20001→dM l n≤20001∧n≤dM l n∧(dM l n≤20000→n+l.length≤dM l n∧∀ t∈l,t.length<4611686018427387904)
 | [],n,h0,h1=>by simp only[dM];exact⟨h1,Int.le_refl _,fun _=>⟨by simp,by simp⟩⟩
 | t::l,n,h0,h1=>by
  simp only[dM]
  split
  ·rename_i hc
   obtain⟨a1,a2,a3,a4⟩:=mA (t:=t) h0
   obtain⟨b1,b2,b3⟩:=k6 l (n:=da t n) a3 a1
   have:=a2 hc
   refine⟨b1,by omega,fun hw=>?_⟩
   obtain⟨c1,c2⟩:=b3 hw
   have:=a4 (by omega)
   refine⟨by simp only[List.length_cons];omega,fun s m=>?_⟩
   rcases List.mem_cons.1 m with rfl|m
   ·omega
   ·exact c2 s m
  ·exact⟨h1,Int.le_refl _,fun hw=>by omega⟩
theorem zM : ∀ (l:List Pm) {n:Int},0≤n→n≤20001→kB l n≤20001∧n≤kB l n∧(kB l n≤20000→n+l.length≤kB l n∧∀ t∈l,t.name.length<4611686018427387904)
 | [],n,h0,h1=>by simp only[kB];exact⟨h1,Int.le_refl _,fun _=>⟨by simp,by simp⟩⟩
 | t::l,n,h0,h1=>by
  simp only[kB]
  split
  ·rename_i hc
   obtain⟨a1,a2,a3,a4⟩:=mA (t:=t.name) h0
   obtain⟨b1,b2,b3⟩:=zM l (n:=da t.name n) a3 a1
   have:=a2 hc
   refine⟨b1,by omega,fun hw=>?_⟩
   obtain⟨c1,c2⟩:=b3 hw
   have:=a4 (by omega)
   refine⟨by simp only[List.length_cons];omega,fun s m=>?_⟩
   rcases List.mem_cons.1 m with rfl|m
   ·omega
   ·exact c2 s m
  ·exact⟨h1,Int.le_refl _,fun hw=>by omega⟩
theorem zN : ∀ (l:List Ar) {n:Int},0≤n→n≤20001→iO l n≤20001∧n≤iO l n∧
 (iO l n≤20000→(Ar.a7 l:Int)≤2*(iO l n - n)∧∀ a∈l,a.x.size<4611686018427387904∧a.x.texts∧a.name.length<4611686018427387904)
 | [],n,h0,h1=>by simp only[iO];exact⟨h1,Int.le_refl _,fun _=>⟨by simp[Ar.a7],by simp⟩⟩
 | a::l,n,h0,h1=>by
  simp only[iO]
  split
  ·rename_i hc
   obtain⟨a1,a2,a3,a4⟩:=vQ _ a.x (Nat.le_refl _) n h0
   obtain⟨e1,e2,e3,e4⟩:=mA (t:=a.name) a3
   obtain⟨b1,b2,b3⟩:=zN l (n:=da a.name (fc a.x n)) e3 e1
   have:=a2 hc
   have:fc a.x n≤da a.name (fc a.x n):=by
    by_cases h:fc a.x n≤20000
    ·have:=e2 h;omega
    ·have:da a.name (fc a.x n)=20001:=by unfold da;rw [if_pos (by omega)]
     omega
   refine⟨b1,by omega,fun hw=>?_⟩
   obtain⟨c1,c2⟩:=b3 hw
   have:=e4 (by omega)
   obtain⟨d1,d2⟩:=a4 (by omega)
   refine⟨by simp only[Ar.a7];omega,fun s m=>?_⟩
   rcases List.mem_cons.1 m with rfl|m
   ·exact⟨by omega,d2,by omega⟩
   ·exact c2 s m
  ·exact⟨h1,Int.le_refl _,fun hw=>by omega⟩
theorem lk {t:aG} {n:Int} (h0:0≤n) (h1:n≤20001):n≤da t n∧da t n≤20001∧(da t n≤20000→n+1≤da t n∧t.length<4611686018427387904):=by
 obtain⟨e1,e2,e3,e4⟩:=mA (t:=t) h0
 by_cases h:n≤20000
 ·have:=e2 h
  exact⟨by omega,e1,fun hw=>⟨by omega,by have:=e4 hw;omega⟩⟩
 ·have:da t n=20001:=by unfold da;rw [if_pos (by omega)]
  exact⟨by omega,e1,fun hw=>by omega⟩
mutual
theorem Hl : ∀ (s:Sm) {n:Int},0≤n→n≤20000→rL s n≤20001∧n+1≤rL s n∧(rL s n≤20000→(s.size:Int)+1≤2*(rL s n - n)∧s.wJ)
 |⟨id,kind,labels,name,proc,x,has,args,a8,aR⟩,n,h0,h1=>by
  obtain⟨a1,a2,a3,a4⟩:=vQ _ x (Nat.le_refl _) n h0
  have a2:=a2 h1
  obtain⟨b1,b2,b3⟩:=k6 labels a3 a1
  obtain⟨c1,c2,c3⟩:=lk (t:=name) (n:=dM labels (fc x n)) (by omega) b1
  obtain⟨d1,d2,d3⟩:=lk (t:=proc) (n:=da name (dM labels (fc x n))) (by omega) c2
  obtain⟨e1,e2,e3⟩:=zN args (n:=da proc (da name (dM labels (fc x n)))) (by omega) d2
  obtain⟨f1,f2,f3⟩:=rM a8 (n:=iO args (da proc (da name (dM labels (fc x n))))) (by omega) e1
  obtain⟨g1,g2,g3⟩:=rM aR (n:=fC a8 (iO args (da proc (da name (dM labels (fc x n)))))) (by omega) f1
  simp only[rL,Sm.size]
  refine⟨g1,by omega,fun hw=>?_⟩
  obtain⟨g4,g5⟩:=g3 hw
  obtain⟨f4,f5⟩:=f3 (by omega)
  obtain⟨e4,e5⟩:=e3 (by omega)
  obtain⟨d4,d5⟩:=d3 (by omega)
  obtain⟨c4,c5⟩:=c3 (by omega)
  obtain⟨b4,b5⟩:=b3 (by omega)
  obtain⟨a5,a6⟩:=a4 (by omega)
  have:=Ar.eH args
  refine⟨by omega, ?_⟩
  rw[DD]
  exact⟨⟨b5,by dsimp only;omega,c5,d5,by dsimp only;omega,a6,by dsimp only;omega,e5⟩,f5,g5⟩
theorem rM : ∀ (l:List Sm) {n:Int},0≤n→n≤20001→fC l n≤20001∧n≤fC l n∧(fC l n≤20000→(Sm.a7 l:Int)≤2*(fC l n - n)∧Sm.kv l)
 | [],n,h0,h1=>by simp only[fC];exact⟨h1,Int.le_refl _,fun _=>⟨by simp[Sm.a7],by simp only[Sm.kv]⟩⟩
 | s::l,n,h0,h1=>by
  simp only[fC]
  split
  ·rename_i hc
   obtain⟨a1,a2,a3⟩:=Hl s h0 hc
   obtain⟨b1,b2,b3⟩:=rM l (n:=rL s n) (by omega) a1
   refine⟨b1,by omega,fun hw=>?_⟩
   obtain⟨c1,c2⟩:=b3 hw
   obtain⟨d1,d2⟩:=a3 (by omega)
   exact⟨by simp only[Sm.a7];omega,d2,c2⟩
  ·exact⟨h1,Int.le_refl _,fun hw=>by omega⟩
end
theorem Hn (f:Pc) {n:Int} (h0:0≤n) (h1:n≤20000):tC f n≤20001∧n+1≤tC f n∧(tC f n≤20000→(f.size:Int)+1≤2*(tC f n - n)∧
 (f.name.length<4611686018427387904∧(∀ t∈f.vars,t.length<4611686018427387904)∧(∀ t∈f.fin,t.length<4611686018427387904)∧∀ a∈f.params,a.name.length<4611686018427387904)∧Sm.kv f.body):=by
 obtain⟨c1,c2,c3⟩:=lk (t:=f.name) h0 (by omega:n≤20001)
 have c4:=(mA (t:=f.name) h0).2.1 h1
 obtain⟨d1,d2,d3⟩:=k6 f.vars (n:=da f.name n) (by omega) c2
 obtain⟨e1,e2,e3⟩:=k6 f.fin (n:=dM f.vars (da f.name n)) (by omega) d1
 obtain⟨g1,g2,g3⟩:=zM f.params (n:=dM f.fin (dM f.vars (da f.name n))) (by omega) e1
 obtain⟨k1,k2,k3⟩:=rM f.body (n:=kB f.params (dM f.fin (dM f.vars (da f.name n)))) (by omega) g1
 unfold tC Pc.size
 refine⟨k1,by omega,fun hw=>?_⟩
 obtain⟨k4,k5⟩:=k3 hw
 obtain⟨g4,g5⟩:=g3 (by omega)
 obtain⟨e4,e5⟩:=e3 (by omega)
 obtain⟨d4,d5⟩:=d3 (by omega)
 obtain⟨_,c5⟩:=c3 (by omega)
 exact⟨by omega,⟨c5,d5,e5,g5⟩,k5⟩
theorem E1 : ∀ (l:List Pc) {n:Int},0≤n→n≤20001→nE l n≤20001∧n≤nE l n∧(nE l n≤20000→(Pc.a7 l:Int)≤2*(nE l n - n)∧∀ f∈l,
 (f.name.length<4611686018427387904∧(∀ t∈f.vars,t.length<4611686018427387904)∧(∀ t∈f.fin,t.length<4611686018427387904)∧∀ a∈f.params,a.name.length<4611686018427387904)∧Sm.kv f.body)
 | [],n,h0,h1=>by simp only[nE];exact⟨h1,Int.le_refl _,fun _=>⟨by simp[Pc.a7],by simp⟩⟩
 | f::l,n,h0,h1=>by
  simp only[nE]
  split
  ·rename_i hc
   obtain⟨a1,a2,a3⟩:=Hn f h0 hc
   obtain⟨b1,b2,b3⟩:=E1 l (n:=tC f n) (by omega) a1
   refine⟨b1,by omega,fun hw=>?_⟩
   obtain⟨c1,c2⟩:=b3 hw
   obtain⟨d1,d2⟩:=a3 (by omega)
   refine⟨by simp only[Pc.a7];omega,fun s m=>?_⟩
   rcases List.mem_cons.1 m with rfl|m
   ·exact d2
   ·exact c2 s m
  ·exact⟨h1,Int.le_refl _,fun hw=>by omega⟩
theorem Pw {p:Pg} (h:p.Cq≤20000):p.size≤40001∧p.H7:=by
 unfold Pg.Cq at h
 obtain⟨a1,a2,a3⟩:=k6 p.globals (n:=0) (by omega) (by omega)
 obtain⟨b1,b2,b3⟩:=E1 p.procs (n:=dM p.globals 0) (by omega) a1
 obtain⟨c1,c2⟩:=b3 h
 obtain⟨d1,d2⟩:=a3 (by omega)
 have:p.size≤40001:=by unfold Pg.size;omega
 exact⟨this,by omega,d2,fun f m=>(c2 f m).1,fun f m=>(c2 f m).2⟩
theorem w5 {l:List aG} {n:Int} (h0:0≤n) (h1:n≤20001) (s:St):aF Tryz.prog jI [.slice .shared 1 (l.map encStr), .int .i64 n] s (.int .i64 (dM l n)) s:=by
 refine aF.pure ?_ (by simp[D.bK,D.ok,fa,Tag.ok]) rfl s
 unfold S0
 generalize h:dM l n=p
 refine aF.go Ax rfl fun B Q hB hQ=>?_
 have⟨hD,hY,hZ,gA⟩:=bR
 repeat' (first
 |simp only[go_sem,hD,hY,hZ,gA]
 |(with_reducible refine aE hQ ?_;exact bc))
 refine ff 0 0 (bp.ind (ι:=List aG×Nat×Int) (fun i=>l.drop i.2.1=i.1∧dM i.1 i.2.2=p∧(i.2.1:Int)≤i.2.2∧i.2.2≤20001) (fun i=>i.1.length)
  (fun i=> [(0, .slice .shared 1 (l.map encStr)),(1, .int .i64 i.2.2),(5, .int .i64 (i.2.1:Int))]) (fun i=>⟨[],[]⟩) ?_ (l,0,n) ⟨rfl,h,h0,h1⟩)
 rintro⟨rest,k,c⟩ ⟨g1,h,g3,g4⟩ IH
 dsimp only at g1 h g3 g4
 cases rest with
 |nil=>
  have hD:=drop_nil g1
  simp only[dM]at h
  subst h
  repeat' (first
 |simp only[go_sem,hD,hY,hZ,gA]
 |(with_reducible refine aE hQ ?_;exact bc))
 | cons y rest=>
  obtain⟨hY,g2,hD,g5⟩:=drop_cons g1
  simp only[dM]at h
  by_cases hc:c≤20000
  ·have c1:decide (c≤20000)=true:=by simp;omega
   have hy:=fun s=>qz y (n:=c) (by omega) g4 s
   obtain⟨a1,a2,a3,a4⟩:=mA (t:=y) (n:=c) (by omega)
   have:=a2 hc
   have w3:IntKind.wrap .i64 ((k:Int)+1)=((k+1:Nat):Int):=by rw[ei]<;>omega
   rw[if_pos hc]at h
   repeat' (first
 |simp only[go_sem,hD,hY,hZ,gA,c1,w3]
 |(with_reducible refine CU (hy _) ?_)
 | (with_reducible refine aE hQ ?_;exact bc))
   refine ff 0 0 (IH (rest,k+1,da y c) ⟨g2,h,by dsimp only;omega,a1⟩ (Nat.lt_succ_self _))
  ·have c1:decide (c≤20000)=false:=by simp;omega
   rw[if_neg hc]at h
   subst h
   repeat' (first
 |simp only[go_sem,hD,hY,hZ,gA,c1]
 |(with_reducible refine aE hQ ?_;exact bc))
theorem Sx : ∀ (m:Nat) (l:List Sm),Sm.a7 l≤m→∀ {n:Int},0≤n→n≤20001→∀ s:St,aF Tryz.prog kK [.slice .shared 13 (l.map bh), .int .i64 n] s (.int .i64 (fC l n)) s:=by
 intro m
 induction m with
 | zero=>
  intro l h n h0 h1 s
  cases l with
  |nil=>
   have z:decide ((0:Int)<0)=false:=rfl
   refine aF.pure ?_ (by simp[D.bK,D.ok,D.gS,Tag.ok]) rfl s
   unfold S0
   simp only[fC]
   refine aF.go sa rfl fun B Q hB hQ=>?_
   have⟨hD,hY,hZ,gA⟩:=bR
   repeat' (first
 |simp only[go_sem,hD,hY,hZ,gA,z]
 |(with_reducible refine bp.kQ ?_)
 |(with_reducible refine aE hQ ?_;exact bc))
  |cons s l=>simp only[Sm.a7]at h;omega
 |succ m ih=>
  intro l h n h0 h1 s
  refine aF.pure ?_ (by simp[D.bK,D.ok,pD,Tag.ok]) rfl s
  unfold S0
  generalize hp:fC l n=p
  refine aF.go sa rfl fun B Q hB hQ=>?_
  have⟨hD,hY,hZ,gA⟩:=bR
  repeat' (first
 |simp only[go_sem,hD,hY,hZ,gA]
 | (with_reducible refine aE hQ ?_;exact bc))
  refine ff 0 0 (bp.ind (ι:=List Sm×Nat×Int) (fun i=>l.drop i.2.1=i.1∧fC i.1 i.2.2=p∧(i.2.1:Int)≤i.2.2∧i.2.2≤20001) (fun i=>i.1.length)
   (fun i=> [(0, .slice .shared 13 (l.map bh)),(1, .int .i64 i.2.2),(5, .int .i64 (i.2.1:Int))]) (fun i=>⟨[],[]⟩) ?_ (l,0,n) ⟨rfl,hp,h0,h1⟩)
  rintro⟨rest,k,c⟩ ⟨g1,hp,g3,g4⟩ IH
  dsimp only at g1 hp g3 g4
  cases rest with
  |nil=>
   have hD:=drop_nil g1
   simp only[fC]at hp
   subst hp
   repeat' (first
 |simp only[go_sem,hD,hY,hZ,gA]
 | (with_reducible refine aE hQ ?_;exact bc))
  | cons y rest=>
   obtain⟨hY,g2,hD,g5⟩:=drop_cons g1
   simp only[fC]at hp
   by_cases hc:c≤20000
   ·have c1:decide (c≤20000)=true:=by simp;omega
    have gD:=List.mem_of_getElem? hY
    have dO:=Sm.dk gD
    have Ty:s.ah.length≤s.ah.length∧Sm.a7 y.a8<y.size∧Sm.a7 y.aR<y.size:=by cases y;simp only[Sm.size];omega
    have w3:IntKind.wrap .i64 ((k:Int)+1)=((k+1:Nat):Int):=by rw[ei]<;>omega
    rw[if_pos hc]at hp
    obtain⟨a1,a2,a3,a4⟩:=vQ _ y.x (Nat.le_refl _) c (by omega)
    have a2:=a2 hc
    obtain⟨b1,b2,b3⟩:=k6 y.labels a3 a1
    obtain⟨c1',c2,c3⟩:=lk (t:=y.name) (n:=dM y.labels (fc y.x c)) (by omega) b1
    obtain⟨d1,d2,d3⟩:=lk (t:=y.proc) (n:=da y.name (dM y.labels (fc y.x c))) (by omega) c2
    have eE:=fun s=>Kg _ y.x (Nat.le_refl _) (n:=c) (by omega) hc s
    have eL:=fun s=>w5 (l:=y.labels) (n:=fc y.x c) (by omega) a1 s
    have eN:=fun s=>qz y.name (n:=dM y.labels (fc y.x c)) (by omega) b1 s
    have eP:=fun s=>qz y.proc (n:=da y.name (dM y.labels (fc y.x c))) (by omega) c2 s
    obtain⟨r1,r2,r3⟩:=Hl y (n:=c) (by omega) hc
    rw[Sw]at hp r1 r2
    generalize hC:da y.proc (da y.name (dM y.labels (fc y.x c)))=C at *
    obtain⟨s1,s2,s3⟩:=zN y.args (n:=C) (by omega) d2
    obtain⟨t1,t2,t3⟩:=rM y.a8 (n:=iO y.args C) (by omega) s1
    have eT:=fun s=>ih y.a8 (by omega) (n:=iO y.args C) (by omega) s1 s
    have eS:=fun s=>ih y.aR (by omega) (n:=fC y.a8 (iO y.args C)) (by omega) t1 s
    generalize hW:iO y.args C=W at *
    repeat' (first
 |simp only[go_sem,hD,hY,hZ,gA,c1,w3]
 |(with_reducible refine CU (eE _) ?_)
 |(with_reducible refine CU (eL _) ?_)
 |(with_reducible refine CU (eN _) ?_)
 |(with_reducible refine CU (eP _) ?_)
 | (with_reducible refine aE hQ ?_;exact bc))
    refine ff 1 0 (bp.ind (ι:=List Ar×Nat×Int) (fun i=>y.args.drop i.2.1=i.1∧iO i.1 i.2.2=W∧(i.2.1:Int)≤i.2.2∧i.2.2≤20001) (fun i=>i.1.length)
     (fun i=> [(0, .slice .shared 13 (l.map bh)),(1, .int .i64 i.2.2),(5, .int .i64 (k:Int)),(6, .ptr 0 0),(7, .int .i64 (i.2.1:Int))]) (fun i=>⟨[bh y],[]⟩) ?_ (y.args,0,C) ⟨rfl,hW,by dsimp only;omega,d2⟩)
    rintro⟨ars,j,e⟩ ⟨k1,hw,k3,k4⟩ By
    dsimp only at k1 hw k3 k4
    cases ars with
    |nil=>
     have hD:=drop_nil k1
     simp only[iO]at hw
     subst hw
     repeat' (first
 |simp only[go_sem,hD,hY,hZ,gA,w3]
 |(with_reducible refine CU (eT _) ?_)
 |(with_reducible refine CU (eS _) ?_)
 | (with_reducible refine aE hQ ?_;exact bc))
     refine ff 0 0 (IH (rest,k+1,fC y.aR (fC y.a8 e)) ⟨g2,hp,by dsimp only;omega,r1⟩ (Nat.lt_succ_self _))
    | cons a ars=>
     obtain⟨hY,k2,hD,k5⟩:=drop_cons k1
     simp only[iO]at hw
     by_cases he:e≤20000
     ·have e1:decide (e≤20000)=true:=by simp;omega
      have w4:IntKind.wrap .i64 ((j:Int)+1)=((j+1:Nat):Int):=by rw[ei]<;>omega
      rw[if_pos he]at hw
      obtain⟨u1,u2,u3,u4⟩:=vQ _ a.x (Nat.le_refl _) e (by omega)
      have u2:=u2 he
      obtain⟨v1,v2,v3⟩:=lk (t:=a.name) (n:=fc a.x e) u3 u1
      have eX:=fun s=>Kg _ a.x (Nat.le_refl _) (n:=e) (by omega) he s
      have eM:=fun s=>qz a.name (n:=fc a.x e) u3 u1 s
      repeat' (first
 |simp only[go_sem,hD,hY,hZ,gA,e1,w4]
 |(with_reducible refine CU (eX _) ?_)
 |(with_reducible refine CU (eM _) ?_)
 |(with_reducible refine aE hQ ?_;exact bc))
      refine ff 1 0 (By (ars,j+1,da a.name (fc a.x e)) ⟨k2,hw,by dsimp only;omega,v2⟩ (Nat.lt_succ_self _))
     ·have e1:decide (e≤20000)=false:=by simp;omega
      rw[if_neg he]at hw
      subst hw
      repeat' (first
 |simp only[go_sem,hD,hY,hZ,gA,e1,w3]
 |(with_reducible refine CU (eT _) ?_)
 |(with_reducible refine CU (eS _) ?_)
 | (with_reducible refine aE hQ ?_;exact bc))
      refine ff 0 0 (IH (rest,k+1,fC y.aR (fC y.a8 e)) ⟨g2,hp,by dsimp only;omega,r1⟩ (Nat.lt_succ_self _))
   ·have c1:decide (c≤20000)=false:=by simp;omega
    rw[if_neg hc]at hp
    subst hp
    repeat' (first
 |simp only[go_sem,hD,hY,hZ,gA,c1]
 |(with_reducible refine aE hQ ?_;exact bc))
theorem adO (p:Pg) (s:St):aF Tryz.prog xo [.agg (cz p)] s (.bool (decide (p.Cq≤20000))) s:=by
 refine aF.pure ?_ (by simp only[D.bK,D.ok,jw];rfl) rfl s
 unfold S0
 generalize hp:p.Cq=W
 unfold Pg.Cq at hp
 obtain⟨a1,a2,a3⟩:=k6 p.globals (n:=0) (by omega) (by omega)
 have eG:=fun s=>w5 (l:=p.globals) (n:=0) (by omega) (by omega) s
 refine aF.go HD rfl fun B Q hB hQ=>?_
 have⟨hD,hY,hZ,gA⟩:=bR
 repeat' (first
 |simp only[go_sem,hD,hY,hZ,gA]
 |(with_reducible refine CU (eG _) ?_)
 |(with_reducible refine aE hQ ?_;exact bc))
 refine ff 1 0 (bp.ind (ι:=List Pc×Nat×Int) (fun i=>p.procs.drop i.2.1=i.1∧nE i.1 i.2.2=W∧(i.2.1:Int)≤i.2.2∧i.2.2≤20001) (fun i=>i.1.length)
  (fun i=> [(1, .ptr 0 0),(3, .int .i64 i.2.2),(4, .int .i64 (i.2.1:Int))]) (fun i=>⟨[cz p],[]⟩) ?_ (p.procs,0,dM p.globals 0) ⟨rfl,hp,a2,a1⟩)
 rintro⟨rest,k,c⟩ ⟨g1,hp,g3,g4⟩ IH
 dsimp only at g1 hp g3 g4
 cases rest with
 |nil=>
  have hD:=drop_nil g1
  simp only[nE]at hp
  subst hp
  repeat' (first
 |simp only[go_sem,hD,hY,hZ,gA]
 |(with_reducible refine aE hQ ?_;exact bc))
 | cons f rest=>
  obtain⟨hY,g2,hD,g5⟩:=drop_cons g1
  simp only[nE]at hp
  by_cases hc:c≤20000
  ·have c1:decide (c≤20000)=true:=by simp;omega
   have w3:IntKind.wrap .i64 ((k:Int)+1)=((k+1:Nat):Int):=by rw[ei]<;>omega
   rw[if_pos hc]at hp
   obtain⟨r1,r2,r3⟩:=Hn f (n:=c) (by omega) hc
   unfold tC at hp r1 r2
   obtain⟨c1',c2,c3⟩:=lk (t:=f.name) (n:=c) (by omega) g4
   obtain⟨d1,d2,d3⟩:=k6 f.vars (n:=da f.name c) (by omega) c2
   obtain⟨e1,e2,e3⟩:=k6 f.fin (n:=dM f.vars (da f.name c)) (by omega) d1
   have eN:=fun s=>qz f.name (n:=c) (by omega) g4 s
   have eV:=fun s=>w5 (l:=f.vars) (n:=da f.name c) (by omega) c2 s
   have eF:=fun s=>w5 (l:=f.fin) (n:=dM f.vars (da f.name c)) (by omega) d1 s
   generalize hC:dM f.fin (dM f.vars (da f.name c))=C at *
   obtain⟨s1,s2,s3⟩:=zM f.params (n:=C) (by omega) e1
   have eT:=fun s=>Sx _ f.body (Nat.le_refl _) (n:=kB f.params C) (by omega) s1 s
   generalize hM:kB f.params C=M at *
   repeat' (first
 |simp only[go_sem,hD,hY,hZ,gA,c1,w3]
 |(with_reducible refine CU (eN _) ?_)
 |(with_reducible refine CU (eV _) ?_)
 |(with_reducible refine CU (eF _) ?_)
 | (with_reducible refine aE hQ ?_;exact bc))
   refine ff 2 0 (bp.ind (ι:=List Pm×Nat×Int) (fun i=>f.params.drop i.2.1=i.1∧kB i.1 i.2.2=M∧(i.2.1:Int)≤i.2.2∧i.2.2≤20001) (fun i=>i.1.length)
    (fun i=> [(1, .ptr 0 0),(3, .int .i64 i.2.2),(4, .int .i64 (k:Int)),(5, .ptr 1 0),(6, .int .i64 (i.2.1:Int))]) (fun i=>⟨[cz p,cu f],[]⟩) ?_ (f.params,0,C) ⟨rfl,hM,by dsimp only;omega,e1⟩)
   rintro⟨ms,j,e⟩ ⟨k1,hw,k3,k4⟩ By
   dsimp only at k1 hw k3 k4
   cases ms with
   |nil=>
    have hD:=drop_nil k1
    simp only[kB]at hw
    subst hw
    repeat' (first
 |simp only[go_sem,hD,hY,hZ,gA,w3]
 |(with_reducible refine CU (eT _) ?_)
 | (with_reducible refine aE hQ ?_;exact bc))
    refine ff 1 0 (IH (rest,k+1,fC f.body e) ⟨g2,hp,by dsimp only;omega,r1⟩ (Nat.lt_succ_self _))
   | cons a ms=>
    obtain⟨hY,k2,hD,k5⟩:=drop_cons k1
    simp only[kB]at hw
    by_cases he:e≤20000
    ·have e1:decide (e≤20000)=true:=by simp;omega
     have w4:IntKind.wrap .i64 ((j:Int)+1)=((j+1:Nat):Int):=by rw[ei]<;>omega
     rw[if_pos he]at hw
     obtain⟨v1,v2,v3⟩:=lk (t:=a.name) (n:=e) (by omega) k4
     have v4:=(mA (t:=a.name) (n:=e) (by omega)).2.1 he
     have eM:=fun s=>qz a.name (n:=e) (by omega) k4 s
     repeat' (first
 |simp only[go_sem,hD,hY,hZ,gA,e1,w4]
 |(with_reducible refine CU (eM _) ?_)
 | (with_reducible refine aE hQ ?_;exact bc))
     refine ff 2 0 (By (ms,j+1,da a.name e) ⟨k2,hw,by dsimp only;omega,v2⟩ (Nat.lt_succ_self _))
    ·have e1:decide (e≤20000)=false:=by simp;omega
     rw[if_neg he]at hw
     subst hw
     repeat' (first
 |simp only[go_sem,hD,hY,hZ,gA,e1,w3]
 |(with_reducible refine CU (eT _) ?_)
 |(with_reducible first|refine bl fun hc=>?_|refine bm fun hc=>?_|refine bn (fun hc=>?_) fun hc=>?_)<;>(try simp only[hc,bs,↓reduceIte]at h)<;>try simp only[hc]
 | (with_reducible refine aE hQ ?_;simp only [aS,aV,bF,bG,go_sem,hD,hY,hZ,gA,e1,w3];try exact cq))
     refine ff 1 0 (IH (rest,k+1,fC f.body e) ⟨g2,hp,by dsimp only;omega,r1⟩ (Nat.lt_succ_self _))
  ·have c1:decide (c≤20000)=false:=by simp;omega
   rw[if_neg hc]at hp
   subst hp
   repeat' (first
 |simp only[go_sem,hD,hY,hZ,gA,c1]
 |(with_reducible first|refine bl fun hc=>?_|refine bm fun hc=>?_|refine bn (fun hc=>?_) fun hc=>?_)<;>(try simp only[hc,bs,↓reduceIte]at h)<;>try simp only[hc]
 |(with_reducible refine aE hQ ?_;simp only[aS,aV,bF,bG,go_sem,hD,hY,hZ,gA,c1];try exact cq))
def adP:List aG→List aG→Bool
 | [],_=>true
 |_::_,[]=>true
 |x::l,y::l'=>if !(x==y)then false else adP l l'
def X8 (l l':List aG):Bool:=if(l.length:Int) != (l'.length:Int)then false else adP l l'
def Ar.pS:List Ar→List Ar→Bool
 | [],_=>true
 |_::_,[]=>true
 |a::l,b::l'=>if !(a.ref==b.ref) || !(a.name==b.name) || !(Ex.beq a.x b.x)then false else Ar.pS l l'
mutual
def Sm.beq:Sm→Sm→Bool
 |⟨id,kind,labels,name,proc,x,has,args,a8,aR⟩,⟨id',ahu,ZW,OU,uV,x',an6,Ej,adQ,adR⟩=>
  if id != id' ||kind != ahu || !(name==OU) || !(proc==uV) || !(has==an6) || !(X8 labels ZW) || !(Ex.beq x x') ||(args.length:Int) != (Ej.length:Int)then false
  else if !(Ar.pS args Ej)then false
  else if(if(a8.length:Int) != (adQ.length:Int)then false else Sm.pS a8 adQ)then(if(aR.length:Int) != (adR.length:Int)then false else Sm.pS aR adR)else false
def Sm.pS:List Sm→List Sm→Bool
 | [],_=>true
 |_::_,[]=>true
 |s::l,t::l'=>if !(Sm.beq s t)then false else Sm.pS l l'
end
def Sm.an7 (l l':List Sm):Bool:=if(l.length:Int) != (l'.length:Int)then false else Sm.pS l l'
def Pm.pS:List Pm→List Pm→Bool
 | [],_=>true
 |_::_,[]=>true
 |a::l,b::l'=>if !((a.name==b.name) && (a.ref==b.ref))then false else Pm.pS l l'
def Pc.pS:List Pc→List Pc→Bool
 | [],_=>true
 |_::_,[]=>true
 |f::l,g::l'=>
  if !(f.name==g.name) ||(f.params.length:Int) != (g.params.length:Int) || !(X8 f.vars g.vars) || !(X8 f.fin g.fin) || !(Sm.an7 f.body g.body)then false
  else if !(Pm.pS f.params g.params)then false else Pc.pS l l'
def Pg.beq (p q:Pg):Bool:=if !(X8 p.globals q.globals) ||(p.procs.length:Int) != (q.procs.length:Int)then false else Pc.pS p.procs q.procs
def Cr (n:Int):Ex:=⟨1,n,[],[]⟩
def rN (s:aG):Ex:=⟨2,0,s,[]⟩
def E2 (op:Int) (a b:Ex):Ex:=⟨op,0,[],[a,b]⟩
theorem ahv (n:Int) (s:St):aF Tryz.prog rj [.int .i64 n] s (.agg (cj (Cr n))) s:=by
 refine aF.pure ?_ rfl (by simp[D.ok,lU]) s
 unfold S0
 refine aF.go JC rfl fun B Q hB hQ=>?_
 have⟨hD,hY,hZ,gA⟩:=bR
 repeat' (first
 |simp only[go_sem,hD,hY,hZ,gA,Cr]
 |(with_reducible first|refine bl fun hc=>?_|refine bm fun hc=>?_|refine bn (fun hc=>?_) fun hc=>?_)<;>(try simp only[hc,bs,↓reduceIte]at h)<;>try simp only[hc]
 |(with_reducible refine aE hQ ?_;simp only[aS,aV,bF,bG,go_sem,hD,hY,hZ,gA,Cr];try exact cq))
theorem Px (t:aG) (s:St):aF Tryz.prog ld [.str t] s (.agg (cj (rN t))) s:=by
 refine aF.pure ?_ rfl (by simp[D.ok,lU]) s
 unfold S0
 refine aF.go HH rfl fun B Q hB hQ=>?_
 have⟨hD,hY,hZ,gA⟩:=bR
 repeat' (first
 |simp only[go_sem,hD,hY,hZ,gA,rN]
 |(with_reducible first|refine bl fun hc=>?_|refine bm fun hc=>?_|refine bn (fun hc=>?_) fun hc=>?_)<;>(try simp only[hc,bs,↓reduceIte]at h)<;>try simp only[hc]
 |(with_reducible refine aE hQ ?_;simp only[aS,aV,bF,bG,go_sem,hD,hY,hZ,gA,rN];try exact cq))
theorem Sy (op:Int) (a b:Ex) (s:St):aF Tryz.prog uO [.int .i64 op, .agg (cj a), .agg (cj b)] s (.agg (cj (E2 op a b))) s:=by
 refine aF.pure ?_ (by simp[D.bK,D.ok,lU]) (by simp[D.ok,lU]) s
 unfold S0
 refine aF.go JD rfl fun B Q hB hQ=>?_
 have⟨hD,hY,hZ,gA⟩:=bR
 repeat' (first
 |simp only[go_sem,hD,hY,hZ,gA,E2]
 |(with_reducible first|refine bl fun hc=>?_|refine bm fun hc=>?_|refine bn (fun hc=>?_) fun hc=>?_)<;>(try simp only[hc,bs,↓reduceIte]at h)<;>try simp only[hc]
 |(with_reducible refine aE hQ ?_;simp only[aS,aV,bF,bG,go_sem,hD,hY,hZ,gA,E2];try exact cq))
def source:aG:= [103,108,111,98,97,108,32,103,59,10,112,114,111,99,32,109,97,105,110,40,41,32,123,10,32,118,97,114,32,118,59,10,32,118,32,61,32,50,59,10,32,103,32,61,32,112,40,51,44,32,114,101,102,32,118,41,59,10,32,112,114,105,110,116,32,118,59,10,32,112,114,105,110,116,32,103,59,10,125,10,112,114,111,99,32,112,40,120,44,32,114,101,102,32,121,41,32,123,10,32,121,32,61,32,121,32,43,32,120,59,10,32,105,102,32,40,121,32,62,32,57,41,32,123,10,32,32,103,111,116,111,32,101,59,10,32,125,10,32,114,101,116,117,114,110,32,121,59,10,101,58,32,125,10]
def rO:Pg:=⟨[[103]],[
 ⟨[109,97,105,110],[],[[118]],[
  ⟨1,1,[],[118],[],Cr 2,false,[],[],[]⟩,
  ⟨2,4,[],[103],[112],q7,false,[⟨false,[],Cr 3⟩,⟨true,[118],q7⟩],[],[]⟩,
  ⟨3,3,[],[],[],rN [118],false,[],[],[]⟩,
  ⟨4,3,[],[],[],rN [103],false,[],[],[]⟩],[]⟩,
 ⟨[112],[⟨[120],false⟩,⟨[121],true⟩],[],[
  ⟨5,1,[],[121],[],E2 8 (rN [121]) (rN [120]),false,[],[],[]⟩,
  ⟨6,5,[],[],[],E2 12 (rN [121]) (Cr 9),false,[],[⟨7,10,[],[101],[],q7,false,[],[],[]⟩],[]⟩,
  ⟨8,9,[],[],[],rN [121],true,[],[],[]⟩],[[101]]⟩]⟩
theorem adS (s:St):aF Tryz.prog xq [] s (.agg (cz rO)) s:=by
 refine aF.pure ?_ rfl (by simp[D.ok,jw]) s
 unfold S0
 refine aF.go HG rfl fun B Q hB hQ=>?_
 have⟨hD,hY,hZ,gA⟩:=bR
 repeat' (first
 |simp only[go_sem,hD,hY,hZ,gA,rO]
 |(with_reducible refine CU (ahv _ _) ?_)
 |(with_reducible refine CU (Px _ _) ?_)
 |(with_reducible refine CU (Sy _ _ _ _) ?_)
 |(with_reducible refine aE hQ ?_;simp only[aS,aV,bF,bG,go_sem,hD,hY,hZ,gA];repeat' (first|exact Ok.out|with_reducible refine jb ?_ ?_|(simp;done))))
 repeat' (first|exact Ok.out|with_reducible refine Wk.agg ?_|with_reducible refine Wk.rows ?_|with_reducible refine Wk.slice ?_|with_reducible refine gC.cons ?_ ?_|with_reducible refine jr.cons ?_ ?_)
def Pg.au4 (p:Pg) (n:Int):aG:=match p.procs[(adJ n p.procs.length).toNat]? with|some f=>f.name|none=> []
theorem E3 {id:Int} : ∀ {l:List It},Co id l=none→∀ i∈l,i.s.id≠id
 | a::l,h,i,m=>by
  simp only[Co]at h
  split at h
  ·cases h
  ·rename_i c
   rcases List.mem_cons.1 m with rfl|m
   ·simpa using c
   ·exact E3 h i m
theorem E4 {id:Int} {i:It} : ∀ {l:List It},Co id l=some i→i∈l∧i.s.id=id
 | a::l,h=>by
  simp only[Co]at h
  split at h
  ·rename_i c
   cases h
   exact⟨List.mem_cons_self ..,eq_of_beq c⟩
  ·obtain⟨h1,h2⟩:=E4 h
   exact⟨List.mem_cons_of_mem _ h1,h2⟩
theorem E5 {id:Int} {r:It×aG} : ∀ {l:List Pc},zL id l=some r→∃ f∈l,r.1∈f.flat∧r.1.s.id=id∧r.2=f.name
 | f::l,h=>by
  simp only[zL]at h
  split at h
  ·rename_i i e
   cases h
   obtain⟨h1,h2⟩:=E4 e
   exact⟨f,List.mem_cons_self ..,h1,h2,rfl⟩
  ·obtain⟨g,h1,h2⟩:=E5 h
   exact⟨g,List.mem_cons_of_mem _ h1,h2⟩
theorem E6 {id:Int} : ∀ {l:List Pc},zL id l=none→∀ f∈l,∀ i∈f.flat,i.s.id≠id
 | f::l,h,g,m,i,hi=>by
  simp only[zL]at h
  split at h
  ·cases h
  ·rename_i e
   rcases List.mem_cons.1 m with rfl|m
   ·exact E3 e i hi
   ·exact E6 h g m i hi
theorem VJ {p:Pg} (hb:p.may=true) {id:Int} (h : ∃ v∈p.pre,v.id=id):p.Cp id∈p.pre∧(p.Cp id).id=id:=by
 obtain⟨v,hv,hid⟩:=h
 have il:=(zz hb).1
 unfold Pg.Cp
 cases e:zL id p.procs with
 |some r=>
  obtain⟨f,h1,h2,h3,_⟩:=E5 e
  refine⟨?_,h3⟩
  simp only[Pg.pre,List.mem_flatten,List.mem_map]
  exact⟨_,⟨f,h1,rfl⟩,by rw[← il f h1];exact List.mem_map_of_mem h2⟩
 |none=>
  simp only[Pg.pre,List.mem_flatten,List.mem_map]at hv
  obtain⟨l,⟨f,hf,rfl⟩,m⟩:=hv
  rw[← il f hf,List.mem_map]at m
  obtain⟨i,hi,rfl⟩:=m
  exact absurd hid (E6 e f hf i hi)
theorem VK {p:Pg} (h:(p.arity.1==0)=true) (h2:(p.alias.1==0)=true) : ∀ v∈p.pre,(v.kind==4)=true→v.yF p=true:=by
 unfold Pg.alias at h2
 rw[if_pos h]at h2
 intro v hv hk
 have : ∀ l:List Sm,((qe 8 (Ke p l)).1==0)=true→∀ v∈l,(v.kind==4)=true→v.yF p=true:=by
  intro l
  induction l with
  |nil=>intro _ v m;cases m
  | cons a l ih=>
   intro h v m hk
   simp only[Ke]at h
   split at h
   ·cases h
   ·rename_i c
    rcases List.mem_cons.1 m with rfl|m
    ·simpa[hk]using c
    ·exact ih h v m hk
 exact this _ h2 v hv hk
section
variable {a b:aG}
end
section
variable {a b:aG} (ha:isName a=true) (hb:isName b=true)
include ha hb
end
def Pg.check (p:Pg):Int×Int:=if p.scope.1==0 then(if p.arity.1==0 then(if p.jump.1==0 then p.alias else p.jump)else p.arity)else p.scope
end Go.Abs
namespace Go.Abs
mutual
def Sm.F3 (g:Sm→Sm):Sm→Sm
 |⟨id,kind,labels,name,proc,x,has,args,a8,aR⟩=> {g ⟨id,kind,labels,name,proc,x,has,args,a8,aR⟩with a8:=Sm.H9 g a8,aR:=Sm.H9 g aR}
def Sm.H9 (g:Sm→Sm):List Sm→List Sm
 | []=> []
 |s::l=>s.F3 g::Sm.H9 g l
end
def It.F3 (g:Sm→Sm) (i:It):It:= {i with s:=i.s.F3 g}
def Pc.F3 (g:Sm→Sm) (f:Pc):Pc:= {f with body:=Sm.H9 g f.body}
def Pg.F3 (g:Sm→Sm) (p:Pg):Pg:= {p with procs:=p.procs.map (Pc.F3 g)}
def awe (t:Sm) (v:Sm):Sm:=if v.id==t.id then t else v
theorem E7 {zH fin:List aG} : ∀ {l:List (Sm×Int)} {seen:List aG},sS zH fin seen l=none↔qd seen (ix (l.map Prod.fst)++fin)=false∧∀ q∈l,qn zH q.1 q.2=true
 | [],seen=>by
  simp only[sS,List.map_nil,ix,List.nil_append,List.not_mem_nil,false_imp_iff,implies_true,and_true]
  rw[BN]
  cases qd seen fin<;>simp
 | (v,lp)::l,seen=>by
  simp only[sS,List.map_cons,ix,List.append_assoc]
  rw[BN,L8 v.labels]
  cases h:qd seen v.labels
  ·simp only [Bool.false_eq_true,if_false,if_true,Bool.false_or]
   cases h2:qn zH v lp
   ·simp only [Bool.false_eq_true,if_false,reduceCtorEq,false_iff,not_and]
    intro _ h3
    have:=h3 (v,lp) (List.mem_cons_self ..)
    rw[h2]at this;cases this
   ·simp only [if_true,E7 (l:=l),List.mem_cons]
    constructor
    ·rintro⟨h3,h4⟩
     refine⟨h3,fun q hq=>?_⟩
     rcases hq with rfl|hq
     ·exact h2
     ·exact h4 q hq
    ·rintro⟨h3,h4⟩
     exact⟨h3,fun q hq=>h4 q (.inr hq)⟩
  ·simp
theorem E8 : ∀ {l:List Pc},sT l=none↔∀ f∈l,fF f.labels=false∧∀ q∈f.wX,qn f.labels q.1 q.2=true
 | []=>by simp[sT]
 | f::l=>by
  have e:sS f.labels f.fin [] f.wX=none↔fF f.labels=false∧∀ q∈f.wX,qn f.labels q.1 q.2=true:=by
   rw[E7,ZR];rfl
  simp only[sT,List.mem_cons]
  split
  ·rename_i id h
   simp only[reduceCtorEq,false_iff]
   intro h3
   rw[e.2 (h3 f (.inl rfl))]at h
   cases h
  ·rename_i h
   rw[E8 (l:=l)]
   constructor
   ·intro h3 g hg
    rcases hg with rfl|hg
    ·exact e.1 h
    ·exact h3 g hg
   ·exact fun h3 g hg=>h3 g (.inr hg)
structure Pg.Right (p:Pg):Prop where
 may:p.may=true
 tg:fF p.globals=false
 tp:fF p.pn=false
 main:p.tA=false
 own : ∀ f∈p.procs,fF (p.globals++f.own)=false
 known : ∀ f∈p.procs,∀ v∈Sm.dd f.body,v.known p f p.pn=true
 zH : ∀ f∈p.procs,fF f.labels=false
 leads : ∀ f∈p.procs,∀ q∈f.wX,qn f.labels q.1 q.2=true
 fits : ∀ v∈p.pre,(v.kind==4)=true→v.qm p=true
 single : ∀ v∈p.pre,(v.kind==4)=true→v.yF p=true
theorem zO {p:Pg} (h:(p.check.1==0)=true):p.Right:=by
 unfold Pg.check at h
 by_cases h1:(p.scope.1==0)=true
 ·rw [if_pos h1]at h
  by_cases h2:(p.arity.1==0)=true
  ·rw [if_pos h2]at h
   by_cases h3:(p.jump.1==0)=true
   ·rw [if_pos h3]at h
    obtain⟨k1,k2,k3,k4⟩:=DH h1
    have hj:sT p.procs=none:=by
     unfold Pg.jump at h3
     rw[if_pos h1]at h3
     cases e:sT p.procs with
     |none=>rfl
     |some id=>rw[e]at h3;cases h3
    rw[E8]at hj
    exact⟨BG h1,k1,k2,k3,fun f hf=>(k4 f hf).1,fun f hf=>(k4 f hf).2,fun f hf=>(hj f hf).1,fun f hf=>(hj f hf).2,(Kc h2).2,VK h2 h⟩
   ·rw[if_neg h3]at h;exact absurd h h3
  ·rw[if_neg h2]at h;exact absurd h h2
 ·rw[if_neg h1]at h;exact absurd h h1
def AtR (R:Int→Prop) (a:Int):Prop:=a = -1∨R a
theorem Cs {R:Int→Prop} {l:List Sm} {o:Int} (h : ∀ v∈Sm.dd l,R v.id) (ho:AtR R o):AtR R (gd l o):=by
 cases l with
 |nil=>exact ho
 |cons s l=>exact .inr (h s (by rw[Sm.dd,Sm.qc];exact List.mem_append_left _ (List.mem_cons_self ..)))
mutual
theorem adT {R:Int→Prop} (proc up next loop:Int) : ∀ s:Sm,(∀ v∈s.pre,R v.id)→AtR R next→(loop=0∨R loop)→
 ∀ x∈s.vN proc up next loop,x.proc=proc∧AtR R x.next∧(x.loop=0∨R x.loop)∧AtR R (gd x.s.a8 (-1))∧AtR R (gd x.s.aR (-1))∧x.s∈s.pre
 | ⟨id,kind,labels,name,pc,x,has,args,a8,aR⟩,h,hn,hl,y,m=>by
  have uL:=h _ (by rw[Sm.qc];exact List.mem_cons_self ..)
  have h1 : ∀ v∈Sm.dd a8,R v.id:=fun v m=>h v (by rw[Sm.qc];exact List.mem_cons_of_mem _ (List.mem_append_left _ m))
  have h2 : ∀ v∈Sm.dd aR,R v.id:=fun v m=>h v (by rw[Sm.qc];exact List.mem_cons_of_mem _ (List.mem_append_right _ m))
  have qS:AtR R (if kind==6 then id else next):=by split;exact .inr uL;exact hn
  have l9:(if kind==6 then id else loop)=0∨R (if kind==6 then id else loop):=by split;exact .inr uL;exact hl
  rw[Sm.qc]
  simp only[Sm.vN,List.mem_cons,List.mem_append]at m
  rcases m with rfl|m|m
  ·exact⟨rfl,hn,hl,Cs h1 (.inl rfl),Cs h2 (.inl rfl),List.mem_cons_self ..⟩
  ·obtain⟨g1,g2,g3,g4,g5,g6⟩:=yG proc id _ _ a8 h1 qS l9 y m
   exact⟨g1,g2,g3,g4,g5,List.mem_cons_of_mem _ (List.mem_append_left _ g6)⟩
  ·obtain⟨g1,g2,g3,g4,g5,g6⟩:=yG proc id _ _ aR h2 qS l9 y m
   exact⟨g1,g2,g3,g4,g5,List.mem_cons_of_mem _ (List.mem_append_right _ g6)⟩
theorem yG {R:Int→Prop} (proc up next loop:Int) : ∀ l:List Sm,(∀ v∈Sm.dd l,R v.id)→AtR R next→(loop=0∨R loop)→
 ∀ x∈Sm.jR proc up next loop l,x.proc=proc∧AtR R x.next∧(x.loop=0∨R x.loop)∧AtR R (gd x.s.a8 (-1))∧AtR R (gd x.s.aR (-1))∧x.s∈Sm.dd l
 | [],_,_,_,x,m=>by simp[Sm.jR]at m
 | s::l,h,hn,hl,x,m=>by
  simp only[Sm.dd,List.mem_append]at h
  simp only[Sm.jR,List.mem_append]at m
  simp only[Sm.dd,List.mem_append]
  rcases m with m|m
  ·obtain⟨g1,g2,g3,g4,g5,g6⟩:=adT proc up _ loop s (fun v m=>h v (.inl m)) (Cs (fun v m=>h v (.inr m)) hn) hl x m
   exact⟨g1,g2,g3,g4,g5, .inl g6⟩
  ·obtain⟨g1,g2,g3,g4,g5,g6⟩:=yG proc up next loop l (fun v m=>h v (.inr m)) hn hl x m
   exact⟨g1,g2,g3,g4,g5, .inr g6⟩
end
theorem Kh {x:Im} : ∀ (l:List Pc) (k:Nat),x∈pW k l→∃ i f,l[i]? = some f∧x∈Sm.jR ((k+i:Nat):Int) 0 (-1) 0 f.body
 | [],_,h=>by simp[pW]at h
 | f::l,k,h=>by
  simp only[pW,List.mem_append]at h
  rcases h with h|h
  ·exact⟨0,f,rfl,h⟩
  ·obtain⟨i,g,h1,h2⟩:=Kh l (k+1) h
   exact⟨i+1,g,by simpa using h1,by rw[show k+(i+1)=k+1+i by omega];exact h2⟩
theorem Ki {x:Im} : ∀ (l:List Pc) (k:Nat) {i:Nat} {f:Pc},l[i]? = some f→x∈Sm.jR ((k+i:Nat):Int) 0 (-1) 0 f.body→x∈pW k l
 |f::l,k,0,g,h,m=>by simp at h;subst h;exact List.mem_append_left _ m
 |f::l,k,i+1,g,h,m=>List.mem_append_right _ (Ki l (k+1) (i:=i) (by simpa using h) (by rw[show k+1+i=k+(i+1) by omega];exact m))
theorem Sz : ∀ (l:List Pc) (k:Nat),(pW k l).map Im.s=(l.map fun f=>Sm.dd f.body).flatten
 | [],_=>rfl
 |f::l,k=>by simp only[pW,List.map_append,rK,Sz l,List.map_cons,List.flatten_cons]
theorem Mh {R:Int→Prop} {fin:List aG} {XO:aG} : ∀ {l:List Sm},(∀ v∈l,R v.id)→(kZ fin XO l).2=true→AtR R (kZ fin XO l).1
 | [],_,h=>by
  simp only[kZ]at h ⊢
  split at h
  ·rename_i c;rw[if_pos c];exact .inl rfl
  ·cases h
 | v::l,hv,h=>by
  simp only[kZ]at h ⊢
  split
  ·exact .inr (hv v (List.mem_cons_self ..))
  ·rename_i c
   rw[if_neg c]at h
   exact Mh (fun w m=>hv w (List.mem_cons_of_mem _ m)) h
def Hm (L:List Im) (k:Int) (a:Int):Prop:=1≤a∧a≤(L.length:Int)∧(fp L a).proc=k
structure BS (p:Pg) (L:List Im) (x:Im) (f:Pc):Prop where
 self:fp L x.s.id=x∧1≤x.s.id∧x.s.id≤(L.length:Int)
 proc:p.procs[x.proc.toNat]? = some f∧0≤x.proc
 mem:x.s∈Sm.dd f.body
 next:AtR (Hm L x.proc) x.next
 loop:x.s.kind=7∨x.s.kind=8→Hm L x.proc x.loop
 a8:AtR (Hm L x.proc) (gd x.s.a8 (-1))
 aR:AtR (Hm L x.proc) (gd x.s.aR (-1))
 F2:x.s.kind=10→AtR (Hm L x.proc) (kZ f.fin x.s.name (Sm.dd f.body)).1
structure SA (p:Pg) (L:List Im):Prop where
 im : ∀ x∈L,∃ f,BS p L x f
 head : ∀ (i:Nat) (f:Pc),p.procs[i]? = some f→AtR (Hm L i) (gd f.body (-1))
theorem pk {p:Pg} (h:p.Right):SA p p.aX.L:=by
 have hL:=Sf h.may
 have hs:p.aX.L.map Im.s=p.pre:=by rw[hL,Sz];rfl
 have hlen:p.aX.L.length=p.pre.length:=by rw[← hs,List.length_map]
 have self : ∀ x∈p.aX.L,fp p.aX.L x.s.id=x∧1≤x.s.id∧x.s.id≤(p.aX.L.length:Int):=fun x m=>by
  obtain⟨i,hi⟩:=List.getElem?_of_mem m
  have h1:=BE h.may (i:=i) (v:=x.s) (by rw[← hs,List.getElem?_map,hi];rfl)
  have h2:=(List.getElem?_eq_some_iff.1 hi).1
  refine⟨?_,by omega,by omega⟩
  unfold fp
  rw[h1,show(((i+1:Nat):Int) - 1).toNat=i by omega,List.getD_eq_getElem?_getD,hi];rfl
 have there : ∀ (i:Nat) (f:Pc),p.procs[i]? = some f→∀ v∈Sm.dd f.body,Hm p.aX.L i v.id:=fun i f hf v m=>by
  rw[← rK (i:Int) 0 (-1) 0 f.body]at m
  obtain⟨x,hx,rfl⟩:=List.mem_map.1 m
  have hxL:x∈p.aX.L:=by rw[hL];exact Ki p.procs 0 hf (by simpa using hx)
  obtain⟨g1,g2,g3⟩:=self x hxL
  exact⟨g2,g3,by rw[g1];exact(yG (R:=fun _=>True) _ 0 (-1) 0 f.body (fun _ _=>trivial) (.inl rfl) (.inl rfl) x hx).1⟩
 refine⟨fun x m=>?_,fun i f hf=>Cs (there i f hf) (.inl rfl)⟩
 have m':=m
 rw[hL]at m'
 obtain⟨i,f,h1,h2⟩:=Kh p.procs 0 m'
 have hf:=List.mem_of_getElem? h1
 rw[Nat.zero_add]at h2
 obtain⟨g1,g2,g3,g4,g5,g6⟩:=yG (R:=Hm p.aX.L i) _ 0 (-1) 0 f.body (there i f h1) (.inl rfl) (.inl rfl) x h2
 have hl:=h.leads f hf (x.s,x.loop) (by rw[← J4 (i:Int) f];exact List.mem_map.2 ⟨x,h2,rfl⟩)
 refine⟨f,self x m,⟨by rw[g1];simpa using h1,by rw[g1];exact Int.natCast_nonneg _⟩,g6,by rw[g1];exact g2,fun hk=>?_,by rw[g1];exact g4,by rw[g1];exact g5,fun hk=>?_⟩
 ·rw [g1]
  refine g3.resolve_left fun e=>?_
  unfold qn at hl
  rw[if_pos (by rcases hk with hk|hk<;>simp[hk]),e]at hl
  cases hl
 ·rw [g1]
  refine Mh (there i f h1) ?_
  unfold qn at hl
  rw[if_neg (by simp[hk]),if_pos (by simp[hk])]at hl
  rw[BO];exact hl
theorem Hm.at {L:List Im} {k a:Int} (h:AtR (Hm L k) a):mL L a:=h.imp_right fun h=>⟨h.1,h.2.1⟩
theorem SA.lok {p:Pg} {L:List Im} (h:SA p L):wZ p L:=by
 refine⟨fun x m=>?_,fun x m=>?_,fun x m hk=>?_,fun x m hk=>?_,fun x m=>?_,fun x m=>?_,fun f hf=>?_⟩
 ·obtain⟨f,o⟩:=h.im x m;exact o.self.2
 ·obtain⟨f,o⟩:=h.im x m;exact Hm.at o.next
 ·obtain⟨f,o⟩:=h.im x m;exact⟨(o.loop hk).1,(o.loop hk).2.1⟩
 ·obtain⟨f,o⟩:=h.im x m;exact⟨f,o.proc.1,Hm.at (o.F2 hk)⟩
 ·obtain⟨f,o⟩:=h.im x m;exact Hm.at o.a8
 ·obtain⟨f,o⟩:=h.im x m;exact Hm.at o.aR
 ·obtain⟨i,hi⟩:=List.getElem?_of_mem hf
  exact Hm.at (h.head i f hi)
theorem Ho {p:Pg} (h:p.Right):wZ p p.aX.L:=(pk h).lok
theorem Kj {vars globals:List aG} {n:aG} : ∀ {l:List Pm},wP vars globals n l≠0→n∈l.map (·.name)∨n∈vars∨n∈globals
 | [],h=>by
  simp only[wP]at h
  split at h
  ·rename_i e;exact .inr (.inl ((ji _ _).1 e))
  ·split at h
   ·rename_i e;exact .inr (.inr ((ji _ _).1 e))
   ·exact absurd rfl h
 | a::l,h=>by
  simp only[wP]at h
  split at h
  ·rename_i e;exact .inl (by simp only[List.map_cons,List.mem_cons];exact .inl (by simpa using Eq.symm (by simpa using e)))
  ·rcases Kj h with h | h
   ·exact .inl (List.mem_cons_of_mem _ h)
   ·exact .inr h
theorem VL {p:Pg} {f:Pc} {v:Sm} (h:v.known p f p.pn=true) {n:aG} (m:n∈v.said):n∈p.globals++f.own:=by
 simp only[Sm.known,Bool.and_eq_true,Bool.not_eq_true']at h
 have h1:f.lD p n≠0:=fun e=>by
  have:v.said.any (fun n=>f.lD p n==0)=true:=List.any_eq_true.2 ⟨n,m,by simp[e]⟩
  rw[h.1]at this;cases this
 simp only[List.mem_append,Pc.own,Pc.tx]
 rcases Kj h1 with h2|h2|h2
 ·exact .inr (.inl h2)
 ·exact .inr (.inr h2)
 ·exact .inl h2
theorem uX {n:aG} : ∀ {l:List Ar} {out:List aG},n∈out∨(∃ a∈l,a.ref=true∧a.name=n)→n∈Ar.said out l
 | [],out,h=>by rcases h with h|⟨a,m,_⟩;exact h;cases m
 | b::l,out,h=>by
  simp only[Ar.said]
  refine uX ?_
  rcases h with h|⟨a,m,h1,h2⟩
  ·left;split<;>simp[h]
  ·rcases List.mem_cons.1 m with rfl | m
   ·left;rw[if_pos h1];simp[h2]
   ·exact .inr ⟨a,m,h1,h2⟩
theorem Kk {x:aG} : ∀ {l:List aG} {k:Nat},x∈l→∃ j:Nat,jh x (k:Int) l=((k+j:Nat):Int)∧j<l.length
 | s::l,k,m=>by
  by_cases e:x=s
  ·subst e;exact⟨0,by simp[jh],by simp⟩
  ·have e':(x==s)=false:=by simp [e]
   obtain⟨j,h1,h2⟩:=Kk (l:=l) (k:=k+1) ((List.mem_cons.1 m).resolve_left e)
   refine⟨j+1, ?_,by simp;omega⟩
   simp only[jh,e',Bool.false_eq_true,if_false]
   rw[show(k:Int)+1=((k+1:Nat):Int) by omega,h1];congr 1;omega
theorem Ia {name:aG} {f:Pc} : ∀ {l:List Pc} {k:Nat},iV name l=some f→∃ j:Nat,kX (fun f:Pc=>f.name==name) (k:Int) l=((k+j:Nat):Int)∧l[j]? = some f
 | g::l,k,h=>by
  simp only[iV]at h
  by_cases e:(g.name==name)=true
  ·rw [if_pos e]at h;cases h
   exact⟨0,by simp only[kX,e,if_true,Nat.add_zero],rfl⟩
  ·have e':(g.name==name)=false:=by simpa using e
   rw[if_neg e]at h
   obtain⟨j,h1,h2⟩:=Ia (l:=l) (k:=k+1) h
   refine⟨j+1, ?_,by simpa using h2⟩
   simp only[kX,e',Bool.false_eq_true,if_false]
   rw[show(k:Int)+1=((k+1:Nat):Int) by omega,h1];congr 1;omega
def DQ (p:Pg) (n:Nat) (fr:Fr):Prop:=∃ f,p.procs[fr.proc.toNat]? = some f∧0≤fr.proc∧fr.names=p.globals++f.own∧fr.vars.length=fr.names.length∧∀ c∈fr.vars,c<n
def Ct (L:List Im):List Fr→Prop
 | []=>False
 | [fr]=>fr.call=0
 |fr::uG::l=>(Hm L uG.proc fr.call∧(fp L fr.call).s.kind=4)∧Ct L (uG::l)
structure po (p:Pg) (L:List Im) (a:Int) (m:Mc):Prop where
 st:Ct L m.st
 fr : ∀ fr∈m.st,DQ p m.mem.length fr
 at_:AtR (Hm L m.top.proc) a
 ui:p.globals.length≤m.mem.length
theorem DQ.mono {p:Pg} {n n':Nat} {fr:Fr} (h:DQ p n fr) (hn:n≤n'):DQ p n' fr:=by
 obtain⟨f,h1,h2,h3,h4,h5⟩:=h
 exact⟨f,h1,h2,h3,h4,fun c m=>Nat.lt_of_lt_of_le (h5 c m) hn⟩
theorem Ct.ne {L:List Im} {l:List Fr} (h:Ct L l) : ∃ fr r,l=fr::r:=by
 cases l with
 |nil=>exact h.elim
 |cons fr r=>exact⟨fr,r,rfl⟩
theorem Mc.ZX {L:List Im} {m:Mc} (h:Ct L m.st):m.top∈m.st:=by
 obtain⟨fr,r,e⟩:=h.ne
 simp[Mc.top,e]
theorem po.of {p:Pg} {L:List Im} {a a':Int} {m m':Mc} (h:po p L a m) (h1:m'.st=m.st) (h2:m.mem.length≤m'.mem.length) (h3:AtR (Hm L m.top.proc) a'):po p L a' m':=by
 have ht:m'.top=m.top:=by unfold Mc.top;rw[h1]
 exact⟨by rw[h1];exact h.st,fun fr hf=>(h.fr fr (by rw[← h1];exact hf)).mono h2,by rw[ht];exact h3,Nat.le_trans h.ui h2⟩
section
variable {p:Pg} {L:List Im} {m:Mc}
theorem ZY {n:aG} {k:Nat} (h:DQ p k m.top) (hn:n∈m.top.names):m.cell n<k∧∃ j:Nat,jh n 0 m.top.names=(j:Int)∧m.top.vars[j]? = some (m.cell n):=by
 obtain⟨f,h1,h2,h3,h4,h5⟩:=h
 obtain⟨j,e1,e2⟩:=Kk (k:=0) hn
 have e3:jh n 0 m.top.names=(j:Int):=by simpa using e1
 have e4:m.top.vars[j]? = some (m.cell n):=by
  unfold Mc.cell
  rw[e3,Int.toNat_natCast,List.getD_eq_getElem?_getD,List.getElem?_eq_getElem (by omega)];rfl
 exact⟨h5 _ (List.mem_of_getElem? e4),j,e3,e4⟩
theorem F4 {k:Nat} (hk:p.globals.length≤k) : ∀ (l:List Ar) (m:Mc) (out:List Nat),DQ p m.mem.length m.top→(∀ a∈l,a.ref=true→a.name∈m.top.names)→(∀ c∈out,c<m.mem.length)→
 m.mem.length≤(Mc.args l m out).2.mem.length∧∀ o,(Mc.args l m out).1=some o→o.length=out.length+l.length∧∀ c∈o,c<(Mc.args l m out).2.mem.length
 | [],m,out,h,_,ho=>⟨Nat.le_refl _,fun o e=>by cases e;exact⟨rfl,ho⟩⟩
 | a::l,m,out,h,hn,ho=>by
  simp only[Mc.args]
  by_cases c:a.ref=true
  ·rw [if_pos c]
   obtain⟨g1,g2⟩:=F4 hk l m (out++ [m.cell a.name]) h (fun b mb=>hn b (List.mem_cons_of_mem _ mb)) fun x mx=>by
    rcases List.mem_append.1 mx with mx|mx
    ·exact ho x mx
    ·rw[List.mem_singleton.1 mx];exact(ZY h (hn a (List.mem_cons_self ..) c)).1
   exact⟨g1,fun o e=>⟨by rw[(g2 o e).1];simp;omega,(g2 o e).2⟩⟩
  ·rw [if_neg c]
   have he:=gH m a.x
   by_cases c2:(m.bo a.x).1.2=true
   ·rw [if_pos c2]
    have ht:({(m.bo a.x).2 with mem:=(m.bo a.x).2.mem++ [(m.bo a.x).1.1]} : Mc).top=m.top:=by unfold Mc.top;rw[he.1]
    have hl:(m.bo a.x).2.mem.length=m.mem.length:=by rw[he.2.1]
    obtain⟨g1,g2⟩:=F4 hk l {(m.bo a.x).2 with mem:=(m.bo a.x).2.mem++ [(m.bo a.x).1.1]} (out++ [(m.bo a.x).2.mem.length]) (by rw[ht];exact h.mono (by simp[hl])) (by rw[ht];exact fun b mb=>hn b (List.mem_cons_of_mem _ mb)) fun x mx=>by
     rcases List.mem_append.1 mx with mx|mx
     ·have:=ho x mx;simp[hl];omega
     ·rw[List.mem_singleton.1 mx];simp
    exact⟨Nat.le_trans (by simp[hl]) g1,fun o e=>⟨by rw[(g2 o e).1];simp;omega,(g2 o e).2⟩⟩
   ·rw [if_neg c2]
    exact⟨by rw[he.2.1];exact Nat.le_refl _,fun o e=>by cases e⟩
theorem Mi (hP:SA p L) {i:Nat} {f:Pc} (hf:p.procs[i]? = some f) {l:List Nat} {call:Int} (hl:l.length=f.params.length) (hc : ∀ c∈l,c<m.mem.length) (hg:p.globals.length≤m.mem.length)
 (rZ : ∀ fr∈m.st,DQ p m.mem.length fr) (jk:(m.st = []∧call=0)∨(Ct L m.st∧Hm L m.top.proc call∧(fp L call).s.kind=4)):po p L (m.open p (i:Int) l call).1 (m.open p (i:Int) l call).2:=by
 unfold Mc.open
 rw[Int.toNat_natCast,hf]
 dsimp only
 refine⟨?_,fun fr h=>?_,by exact hP.head i f hf,by simp;omega⟩
 ·rcases jk with ⟨h1,h2⟩ | ⟨h1,h2⟩
  ·rw[h1];exact h2
  ·obtain⟨fr,r,e⟩:=h1.ne
   dsimp only
   rw[e]at h1 ⊢
   have:m.top=fr:=by simp[Mc.top,e]
   rw[this]at h2
   exact⟨h2,h1⟩
 ·rcases List.mem_cons.1 h with rfl | h
  ·refine⟨f,by rw [Int.toNat_natCast];exact hf,Int.natCast_nonneg _,rfl,by simp [Pc.own,Pc.tx,hl],fun c m=> ?_⟩
   simp only[List.mem_append,List.mem_range,List.mem_map]at m
   simp only[List.length_append,List.length_replicate]
   rcases m with (m|m)|⟨x,m,rfl⟩
   ·omega
   ·have:=hc c m;omega
   ·omega
  ·exact(rZ fr h).mono (by simp)
theorem ZZ (hP:SA p L) {a:Int} (h:po p L a m) {g:Int} {a':Int} {m':Mc} (e:m.back L g=(some a',m')):po p L a' m':=by
 have hs:=h.st
 unfold Mc.back Mc.close at e
 dsimp only at e
 obtain⟨fr,r,es⟩:=hs.ne
 have ht:m.top=fr:=by simp[Mc.top,es]
 by_cases c:(m.top.call==0)=true
 ·rw[if_pos c]at e;cases e
 ·rw [if_neg c]at e
  rw[es]at hs
  cases r with
  |nil=>rw[ht]at c;exact absurd (beq_iff_eq.2 (show fr.call=0 from hs)) c
  | cons uG r=>
   obtain⟨⟨h1,_⟩,h2⟩:=hs
   have gD:fp L m.top.call∈L:=n8 (.inr (by rw[ht];exact⟨h1.1,h1.2.1⟩)) (by have:=h1.1;rw[ht];omega)
   obtain⟨f,o⟩:=hP.im _ gD
   have ho:=o.next
   rw[show(fp L m.top.call).proc=uG.proc by rw[ht];exact h1.2.2]at ho
   rw[ht]at ho
   split at e<;>(dsimp only at e;split at e)<;>first|(cases e;done)|skip
   all_goals
    cases e
    refine⟨by simp only[Mc.set,es,List.tail_cons];exact h2,fun q hq=>?_,by simp only[Mc.set,Mc.top,es,List.tail_cons,List.headD_cons];exact ho,by simp only[Mc.set,List.length_set];exact h.ui⟩
    simp only[Mc.set,List.length_set]at hq ⊢
    exact h.fr q (by rw[es]at hq ⊢;exact List.mem_cons_of_mem _ hq)
end
theorem zP {p:Pg} (hR:p.Right) {x:Im} {f:Pc} (h:BS p p.aX.L x f) {n:aG} (m:n∈x.s.said):n∈p.globals++f.own:=
 VL (hR.known f (List.mem_of_getElem? h.proc.1) x.s h.mem) m
theorem Z0 {p:Pg} (hR:p.Right) {x:Im} {f:Pc} (h:BS p p.aX.L x f) (hk:x.s.kind=4) : ∃ (j:Nat) (q:Pc),p.at x.s.proc=(j:Int)∧p.procs[j]? = some q∧x.s.args.length=q.params.length:=by
 have pV:x.s∈p.pre:=by
  simp only[Pg.pre,List.mem_flatten,List.mem_map];exact⟨_,⟨f,List.mem_of_getElem? h.proc.1,rfl⟩,h.mem⟩
 have hf:=hR.fits x.s pV (by simp[hk])
 unfold Sm.qm at hf
 simp only[Bool.and_eq_true]at hf
 cases e:p.find x.s.proc with
 |none=>rw[e]at hf;cases hf.2
 |some q=>
  rw[e]at hf
  obtain⟨j,h1,h2⟩:=Ia (k:=0) e
  refine⟨j,q,by simpa[Pg.at]using h1,h2, ?_⟩
  have:=hf.2
  simp only[Cn]at this
  split at this
  ·rename_i h3;have:=(beq_iff_eq.1 h3);omega
  ·cases this
theorem Z1 {p:Pg} (hR:p.Right) {m:Mc} {W:List Int} {x:Im} {f:Pc} {a a':Int} {m':Mc} (h:po p p.aX.L a m) (hx:BS p p.aX.L x f) (hk:x.s.kind=4) (hp:x.proc=m.top.proc) (Kl:(m.call p W x.s).2.fin=0)
 (e:m.call p W x.s=(a',m')) (h0:m.fin=0):po p p.aX.L a' m':=by
 have hP:=pk hR
 have zQ:=h.fr _ (Mc.ZX h.st)
 obtain⟨f',t1,t2,t3,t4,t5⟩:=zQ
 have ef:f'=f:=by have:=hx.proc.1;rw[hp,t1]at this;exact Option.some.inj this
 subst ef
 have adV : ∀ b∈x.s.args,b.ref=true→b.name∈m.top.names:=fun b mb hb=>by
  rw[t3];exact zP hR hx (uX (.inr ⟨b,mb,hb,rfl⟩))
 obtain⟨j,q,c1,c2,c3⟩:=Z0 hR hx hk
 have g1:=F4 h.ui x.s.args m [] ⟨f',t1,t2,t3,t4,t5⟩ adV (by simp)
 have g2:=u5 x.s.args m []
 have g3:=zJ x.s.args m [] h0
 unfold Mc.call at e Kl
 generalize Mc.args x.s.args m [] = r at *
 obtain⟨o,m1⟩:=r
 cases o with
 |none=>
  dsimp only at Kl g3
  rw[g3.2]at Kl;cases Kl
 | some l=>
  dsimp only at e Kl g1 g2 g3
  by_cases c:m1.st.length > 100
  ·rw[if_pos c]at Kl;cases Kl
  ·rw [if_neg c]at e
   have he:=eW W m1 x.s.id []
   have ht:(m1.event W x.s.id []).top=m.top:=by unfold Mc.top;rw[he.1,g2.1]
   have:=Mi (m:=m1.event W x.s.id []) hP c2 (l:=l) (call:=x.s.id) (by rw[(g1.2 l rfl).1,c3];simp) (by rw[he.2.1];exact(g1.2 l rfl).2) (by rw[he.2.1];exact Nat.le_trans h.ui g1.1)
    (by rw[he.1,he.2.1,g2.1];exact fun fr rZ=>(h.fr fr rZ).mono g1.1) (.inr ⟨by rw[he.1,g2.1];exact h.st,by rw[ht];exact⟨hx.self.2.1,hx.self.2.2,by rw[hx.self.1];exact hp⟩,by rw[hx.self.1];exact hk⟩)
   rw[← c1,e]at this
   exact this
theorem ahw {p:Pg} (hR:p.Right) {m:Mc} {T W:List Int} {x:Im} {f:Pc} {a:Int} (h:po p p.aX.L a m) (hx:BS p p.aX.L x f) (hp:x.proc=m.top.proc) :
 ((m.do p p.aX.L T W x).2.fin=0→po p p.aX.L (m.do p p.aX.L T W x).1 (m.do p p.aX.L T W x).2):=by
 intro h0
 have ev : ∀ (m1:Mc) (id:Int) (bN:List Int),(m1.event W id bN).st=m1.st∧(m1.event W id bN).mem=m1.mem:=fun m1 id bN=>⟨(eW W m1 id bN).1,(eW W m1 id bN).2.1⟩
 have key : ∀ (m1:Mc) (b:Int),m1.st=m.st→m1.mem.length=m.mem.length→AtR (Hm p.aX.L x.proc) b→po p p.aX.L b m1:=fun m1 b h1 h2 h3=>h.of h1 (Nat.le_of_eq h2.symm) (by rw[← hp];exact h3)
 have hw:=gH m x.s.x
 unfold Mc.do at h0 ⊢
 dsimp only at h0 ⊢
 by_cases c7:(x.s.kind==7)=true
 ·rw [if_pos c7]
  have hk:x.s.kind=7:=by simpa using c7
  have hl:=hx.loop (.inl hk)
  have gD:=n8 (L:=p.aX.L) (a:=x.loop) (.inr ⟨hl.1,hl.2.1⟩) (by have:=hl.1;omega)
  obtain⟨g,o⟩:=(pk hR).im _ gD
  refine key _ _ (ev _ _ _).1 (by rw[(ev _ _ _).2]) ?_
  have:=o.next
  rw[hl.2.2]at this;exact this
 rw[if_neg c7]at h0 ⊢
 by_cases c8:(x.s.kind==8)=true
 ·rw [if_pos c8]
  exact key _ _ (ev _ _ _).1 (by rw[(ev _ _ _).2]) (.inr (hx.loop (.inr (by simpa using c8))))
 rw[if_neg c8]at h0 ⊢
 by_cases yH:(x.s.kind==10)=true
 ·rw [if_pos yH]
  refine key _ _ (ev _ _ _).1 (by rw[(ev _ _ _).2]) ?_
  have:=hx.F2 (by simpa using yH)
  rw[hx.proc.1];exact this
 rw[if_neg yH]at h0 ⊢
 by_cases c2:(x.s.kind==2)=true
 ·rw [if_pos c2]at h0 ⊢
  split at h0
  ·cases h0
  ·rename_i n e
   exact key _ _ (ev _ _ _).1 (by rw[(ev _ _ _).2];simp[Mc.set]) hx.next
 rw[if_neg c2]at h0 ⊢
 by_cases cw:(m.bo x.s.x).1.2=true
 ·rw [if_pos cw]at h0 ⊢
  have e1:((m.bo x.s.x).2.event W x.s.id [(m.bo x.s.x).1.1]).st=m.st:=(ev _ _ _).1.trans hw.1
  have e2:((m.bo x.s.x).2.event W x.s.id [(m.bo x.s.x).1.1]).mem.length=m.mem.length:=by rw[(ev _ _ _).2,hw.2.1]
  have fo : ∀ (l:List Sm) (b:Int),AtR (Hm p.aX.L x.proc) (gd l (-1))→AtR (Hm p.aX.L x.proc) b→AtR (Hm p.aX.L x.proc) (firstM l b):=fun l b h1 h2=>by
   cases l with
   |nil=>exact h2
   |cons s l=>exact h1
  split
  ·exact key _ _ e1 (by simp only[Mc.set,List.length_set];exact e2) hx.next
  split
  ·exact key _ _ e1 e2 hx.next
  split
  ·refine key _ _ e1 e2 ?_
   split
   ·exact fo _ _ hx.aR hx.next
   ·exact fo _ _ hx.a8 hx.next
  split
  ·refine key _ _ e1 e2 ?_
   split
   ·exact hx.next
   ·exact fo _ _ hx.a8 (.inr ⟨hx.self.2.1,hx.self.2.2,by rw[hx.self.1]⟩)
  ·exact key _ _ e1 e2 hx.next
 ·rw [if_neg cw]at h0
  have:(m.bo x.s.x).2.fin=4:=by unfold Mc.bo;dsimp only;rw[if_neg (show ¬ (x.s.x.bo m.top.names m.bN).2=true from cw)]
  rw[this]at h0;cases h0
end Go.Abs
namespace Go.Abs
structure Lay where
 κ:List Nat
 φ:List Nat
 sd:D
 vd:D
def D.arr:D→List Nat
 | .eA _ o _ _=> [o]
 |_=> []
def Lay.own (y:Lay):List Nat:=0::(y.κ++(y.sd.arr++y.vd.arr))
def fq (o:Nat):List D:= [.ptr o 0]
def pw (κ:List Nat) (f:Fr):List D:= [.int .i64 f.proc, .slice .shared 1 (f.names.map encStr), .slice .shared 1 (f.vars.map fun c=>fq (κ.getD c 0)), .int .i64 f.call]
def fj (e:Int×List Int):List D:= [.int .i64 e.1, .slice .shared 1 (e.2.map bP)]
abbrev fy (p:Pg) (T W:List Int) (y:Lay) (m:Mc):List D:=
 [.dz (fA p) 0, .slice .shared 1 ((y.κ.take p.globals.length).map fq), .slice .shared 1 (T.map bP), .slice .shared 1 (W.map bP),y.sd,y.vd,
  .int .i64 m.fin, .int .i64 m.steps, .int .i64 m.reads, .slice (.tok 0) 1 (m.out.map bP), .slice (.tok 1) 2 (m.trace.map fj)]
def qA (n:Int):D:= .int .i64 n
def xH (o:Nat):D:= .ptr o 0
def jF (s:St) (d:D) (cs:List D):Prop:=(d = .ek 1∧cs = [])∨∃ o g more,d = .eA 1 o g cs.length∧s.ah[o]? = some (.int .i64 ((g:Nat):Int)::(cs++more))
structure Inv (p:Pg) (T W:List Int) (y:Lay) (m:Mc) (loc:List (Nat×List D)) (s:St):Prop where
 jG:s.ah[0]? = some (fy p T W y m)
 t0:s.aw[0]? = some (some m.out.length)
 t1:s.aw[1]? = some (some m.trace.length)
 len:y.κ.length=m.mem.length
 cell : ∀ (i c:Nat) (v:Int),y.κ[i]? = some c→m.mem[i]? = some v→s.ah[c]? = some [.int .i64 v]
 sy:y.φ.length=m.st.length
 frame : ∀ (i o:Nat) (fr:Fr),y.φ[i]? = some o→m.st[i]? = some fr→s.ah[o]? = some (pw y.κ fr)∧o∉y.own∧∀ c∈fr.vars,c<m.mem.length
 stack:jF s y.sd (y.φ.reverse.map xH)
 bN : ∃ l:List Int,jF s y.vd (l.map qA)
 own:y.own.Nodup
 loc : ∀ q∈loc,s.ah[q.1]? = some q.2∧q.1∉y.own
theorem jF.lt {s:St} {d:D} {cs:List D} (h:jF s d cs) : ∀ o∈d.arr,o<s.ah.length:=by
 rcases h with ⟨rfl,_⟩|⟨o,g,more,rfl,h⟩
 ·intro o m;simp[D.arr]at m
 ·intro o' m
  have:o'=o:=by simpa[D.arr]using m
  subst this;exact fY h
theorem jF.keep {s s':St} {d:D} {cs:List D} (h:jF s d cs) (k : ∀ o∈d.arr,s'.ah[o]? = s.ah[o]?):jF s' d cs:=by
 rcases h with h|⟨o,g,more,rfl,h⟩
 ·exact .inl h
 ·exact .inr ⟨o,g,more,rfl,by rw[k o (by simp[D.arr])];exact h⟩
theorem Hp {κ e:List Nat} {fr:Fr} (h : ∀ c∈fr.vars,c<κ.length):pw (κ++e) fr=pw κ fr:=by
 unfold pw
 rw[List.map_congr_left (g:=fun c=>fq (κ.getD c 0)) fun c m=>by rw[List.getD_eq_getElem?_getD,List.getD_eq_getElem?_getD,List.getElem?_append_left (h c m)]]
section
variable {p:Pg} {T W:List Int} {y:Lay} {m:Mc} {loc:List (Nat×List D)} {s:St}
theorem Inv.tD (h:Inv p T W y m loc s) : ∀ o∈y.own,o<s.ah.length:=by
 intro o mo
 simp only[Lay.own,List.mem_cons,List.mem_append]at mo
 rcases mo with rfl|mo|mo|mo
 ·exact fY h.jG
 ·obtain⟨i,hi⟩:=List.getElem?_of_mem mo
  have hD:=(List.getElem?_eq_some_iff.1 hi).1
  exact fY (h.cell i o _ hi (List.getElem?_eq_getElem (by rw[← h.len];exact hD)))
 ·exact h.stack.lt o mo
 ·obtain⟨l,hl⟩:=h.bN
  exact hl.lt o mo
theorem Inv.uH (h:Inv p T W y m loc s):0<s.ah.length:=fY h.jG
theorem Inv.sub (h:Inv p T W y m loc s) {adW:List (Nat×List D)} (hl : ∀ q∈adW,q∈loc):Inv p T W y m adW s:= {h with loc:=fun q m=>h.loc q (hl q m)}
theorem Inv.keep (h:Inv p T W y m loc s) {s':St} (k : ∀ (o:Nat) (r:List D),s.ah[o]? = some r→s'.ah[o]? = some r) (k0:s'.aw[0]? = s.aw[0]?) (k1:s'.aw[1]? = s.aw[1]?):Inv p T W y m loc s':=by
 have ka : ∀ {d:D} {cs:List D},jF s d cs→jF s' d cs:=fun ha=>ha.keep fun o mo=>by
  rw[List.getElem?_eq_getElem (ha.lt o mo)];exact k o _ (List.getElem?_eq_getElem _)
 obtain⟨l,hl⟩:=h.bN
 exact⟨k _ _ h.jG,by rw[k0];exact h.t0,by rw[k1];exact h.t1,h.len,fun i c v h1 h2=>k _ _ (h.cell i c v h1 h2),h.sy,fun i o fr h1 h2=>⟨k _ _ (h.frame i o fr h1 h2).1,(h.frame i o fr h1 h2).2⟩,
  ka h.stack,⟨l,ka hl⟩,h.own,fun q m=>⟨k _ _ (h.loc q m).1,(h.loc q m).2⟩⟩
theorem Inv.new (h:Inv p T W y m loc s) (row:List D):Inv p T W y m ((s.ah.length,row)::loc) ⟨s.ah++ [row],s.aw⟩:=by
 have h':=h.keep (s':=⟨s.ah++ [row],s.aw⟩) (fun o r e=>by rw[List.getElem?_append_left (fY e)];exact e) rfl rfl
 refine {h' with loc:=fun q mq=>?_}
 rcases List.mem_cons.1 mq with rfl|mq
 ·exact⟨by simp,fun mo=>Nat.lt_irrefl _ (h.tD _ mo)⟩
 ·exact h'.loc q mq
theorem Inv.aw (h:Inv p T W y m loc s) (ts:List (Option Nat)):Inv p T W y m loc ⟨s.ah,s.aw++ts⟩:=
 h.keep (fun _ _ e=>e) (List.getElem?_append_left (List.getElem?_eq_some_iff.1 h.t0).1) (List.getElem?_append_left (List.getElem?_eq_some_iff.1 h.t1).1)
theorem Inv.MF (h:Inv p T W y m loc s) {o:Nat} (ho:o∈y.own) (row:List D) {q:Nat} {r:List D} (hq:s.ah[q]? = some r) (hn:q≠o):(s.ah.set o row)[q]? = some r:=by
 rw[List.getElem?_set_ne (Ne.symm hn)];exact hq
theorem Inv.vS (h:Inv p T W y m loc s) {o:Nat} (ho:o∈y.κ++(y.sd.arr++y.vd.arr)):o≠0:=fun e=>by
 have:=h.own
 rw[Lay.own,List.nodup_cons]at this
 exact this.1 (e ▸ ho)
theorem Inv.tQ (h:Inv p T W y m loc s) {m':Mc} (h1:m'.st=m.st) (h2:m'.mem=m.mem) {ts:List (Option Nat)} (k0:ts[0]? = some (some m'.out.length)) (k1:ts[1]? = some (some m'.trace.length)) :
 Inv p T W y m' loc ⟨s.ah.set 0 (fy p T W y m'),ts⟩:=by
 have ne : ∀ {q:Nat} {r:List D},s.ah[q]? = some r→q≠0→(s.ah.set 0 (fy p T W y m'))[q]? = some r:=fun e hn=>h.MF (by simp[Lay.own]) _ e hn
 have nf : ∀ {q:Nat},q∉y.own→q≠0:=fun hq e=>hq (by rw[e];simp[Lay.own])
 have ka : ∀ {d:D} {cs:List D},(∀ o∈d.arr,o∈y.κ++(y.sd.arr++y.vd.arr))→jF s d cs→jF ⟨s.ah.set 0 (fy p T W y m'),ts⟩ d cs:=fun hd ha=>ha.keep fun o mo=>by
  show(s.ah.set 0 _)[o]? = _
  rw[List.getElem?_set_ne (Ne.symm (h.vS (hd o mo)))]
 obtain⟨l,hl⟩:=h.bN
 refine⟨by simp[h.uH],k0,k1,by rw[h2];exact h.len,fun i c v e1 e2=>ne (h.cell i c v e1 (by rw[← h2];exact e2)) (h.vS (List.mem_append_left _ (List.mem_of_getElem? e1))),by rw[h1];exact h.sy,fun i o fr e1 e2=>?_,
  ka (fun o m=>by simp[m]) h.stack,⟨l,ka (fun o m=>by simp[m]) hl⟩,h.own,fun q mq=>⟨ne (h.loc q mq).1 (nf (h.loc q mq).2),(h.loc q mq).2⟩⟩
 rw[h1]at e2
 obtain⟨g1,g2,g3⟩:=h.frame i o fr e1 e2
 exact⟨ne g1 (nf g2),g2,by rw[h2];exact g3⟩
theorem Inv.VM (h:Inv p T W y m loc s) {i c:Nat} (hc:y.κ[i]? = some c) (v:Int):Inv p T W y {m with mem:=m.mem.set i v} loc ⟨s.ah.set c [.int .i64 v],s.aw⟩:=by
 have gD:c∈y.κ:=List.mem_of_getElem? hc
 have oN:c<s.ah.length:=h.tD c (by simp[Lay.own,gD])
 have Am:=h.own
 rw[Lay.own,List.nodup_cons,List.nodup_append]at Am
 have hκ : ∀ i',y.κ[i']? = some c→i'=i:=fun i' e=>(List.getElem?_inj (List.getElem?_eq_some_iff.1 e).1 Am.2.1).1 (e.trans hc.symm)
 have ne : ∀ {q:Nat} {r:List D},s.ah[q]? = some r→q≠c→(s.ah.set c [.int .i64 v])[q]? = some r:=fun e hn=>h.MF (o:=c) (by simp[Lay.own,gD]) _ e hn
 have nf : ∀ {q:Nat},q∉y.own→q≠c:=fun hq e=>hq (by rw[e];simp[Lay.own,gD])
 have ka : ∀ {d:D} {cs:List D},(∀ o∈d.arr,o∈y.sd.arr++y.vd.arr)→jF s d cs→jF ⟨s.ah.set c [.int .i64 v],s.aw⟩ d cs:=fun hd ha=>ha.keep fun o mo=>by
  show(s.ah.set c _)[o]? = _
  rw[List.getElem?_set_ne (fun e=>Am.2.2.2 c gD o (hd o mo) e)]
 obtain⟨l,hl⟩:=h.bN
 refine⟨ne h.jG (fun e=>h.vS (List.mem_append_left _ gD) e.symm),h.t0,h.t1,by rw[h.len,List.length_set],fun i' c' v' e1 e2=>?_,h.sy,fun i' o fr e1 e2=>?_,
  ka (fun o m=>by simp[m]) h.stack,⟨l,ka (fun o m=>by simp[m]) hl⟩,h.own,fun q mq=>⟨ne (h.loc q mq).1 (nf (h.loc q mq).2),(h.loc q mq).2⟩⟩
 ·show(s.ah.set c _)[c']? = _
  simp only[List.getElem?_set]at e2
  by_cases e:i=i'
  ·subst e
   rw[hc]at e1;cases e1
   rw[if_pos rfl]at e2
   split at e2
   ·cases e2;simp[oN]
   ·cases e2
  ·rw [if_neg e]at e2
   have:c'≠c:=fun ec=>e (hκ i' (by rw[e1,ec])).symm
   exact ne (h.cell i' c' v' e1 e2) this
 ·obtain⟨g1,g2,g3⟩:=h.frame i' o fr e1 e2
  exact⟨ne g1 (nf g2),g2,by simpa using g3⟩
theorem Inv.an9 (h:Inv p T W y m loc s) (v:Int) (hg:p.globals.length≤m.mem.length):Inv p T W {y with κ:=y.κ++ [s.ah.length]} {m with mem:=m.mem++ [v]} loc ⟨s.ah++ [[.int .i64 v]],s.aw⟩:=by
 have h':=h.keep (s':=⟨s.ah++ [[.int .i64 v]],s.aw⟩) (fun o r e=>by rw[List.getElem?_append_left (fY e)];exact e) rfl rfl
 have nW:s.ah.length∉y.own:=fun mo=>Nat.lt_irrefl _ (h.tD _ mo)
 have Am:=h.own
 have ho : ∀ o,o∈Lay.own {y with κ:=y.κ++ [s.ah.length]}→o∈y.own∨o=s.ah.length:=fun o mo=>by
  simp only[Lay.own,List.mem_cons,List.mem_append]at mo ⊢
  rcases mo with rfl|(mo|rfl|mo)|mo|mo
  ·exact .inl (.inl rfl)
  ·exact .inl (.inr (.inl mo))
  ·exact .inr rfl
  ·cases mo
  ·exact .inl (.inr (.inr (.inl mo)))
  ·exact .inl (.inr (.inr (.inr mo)))
 refine⟨by rw[h'.jG];simp only[fy];rw[List.take_append_of_le_length (by rw[h.len];exact hg)],h'.t0,h'.t1,by simp[h.len],fun i c v' e1 e2=>?_,h'.sy,fun i o fr e1 e2=>?_,h'.stack,h'.bN, ?_,fun q mq=>⟨(h'.loc q mq).1,fun mo=>?_⟩⟩
 ·rcases Nat.lt_or_ge i y.κ.length with hi | hi
  ·rw [List.getElem?_append_left hi]at e1
   rw[List.getElem?_append_left (by rw[← h.len];exact hi)]at e2
   exact h'.cell i c v' e1 e2
  ·have ib:i=y.κ.length:=by
    have:=(List.getElem?_eq_some_iff.1 e1).1
    simp at this;omega
   subst ib
   rw[List.getElem?_append_right (Nat.le_refl _)]at e1
   rw[List.getElem?_append_right (by rw[h.len];exact Nat.le_refl _)]at e2
   simp at e1;subst e1
   simp[h.len]at e2;subst e2
   simp
 ·obtain⟨g1,g2,g3⟩:=h'.frame i o fr e1 e2
  refine⟨by rw[Hp (by rw[h.len];exact g3)];exact g1,fun mo=>?_,fun c mc=>by simp only[List.length_append];have:=g3 c mc;omega⟩
  rcases ho o mo with mo|rfl
  ·exact g2 mo
  ·exact absurd (fY (h.frame i _ fr e1 e2).1) (Nat.lt_irrefl _)
 ·have:(Lay.own {y with κ:=y.κ++ [s.ah.length]}).Perm (s.ah.length::y.own):=by
   simp only[Lay.own,List.append_assoc,List.singleton_append]
   exact(List.Perm.cons _ List.perm_middle).trans (List.Perm.swap _ _ _)
  rw[this.nodup_iff,List.nodup_cons]
  exact⟨nW,Am⟩
 ·rcases ho _ mo with mo | e
  ·exact(h'.loc q mq).2 mo
  ·exact absurd (fY (h.loc q mq).1) (by rw[e];exact Nat.lt_irrefl _)
theorem Inv.Py (h:Inv p T W y m loc s) {vd:D} {s1:St} (k : ∀ (o:Nat) (r:List D),s.ah[o]? = some r→o∉y.vd.arr→s1.ah[o]? = some r) (hv : ∃ l:List Int,jF s1 vd (l.map qA)) (hn:vd.arr=y.vd.arr∨vd.arr = []∨vd.arr = [s.ah.length]) (ht:s1.aw=s.aw) :
 Inv p T W {y with vd:=vd} m loc ⟨s1.ah.set 0 (fy p T W {y with vd:=vd} m),s1.aw⟩:=by
 have Am:=h.own
 have adX:=Am
 rw[Lay.own,List.nodup_cons,List.nodup_append,List.nodup_append]at adX
 obtain⟨n0,nκ,⟨ns,nv,X9⟩,Ko⟩:=adX
 have v0 : ∀ o∈y.vd.arr,o≠0:=fun o mo=>h.vS (by simp[mo])
 have qD:0<s1.ah.length:=fY (k 0 _ h.jG fun mo=>v0 0 mo rfl)
 have g : ∀ {o:Nat} {r:List D},s.ah[o]? = some r→o∉y.vd.arr→o≠0→(s1.ah.set 0 (fy p T W {y with vd:=vd} m))[o]? = some r:=fun e hv hn=>by
  rw[List.getElem?_set_ne (Ne.symm hn)];exact k _ _ e hv
 have Kp : ∀ o,o∈Lay.own {y with vd:=vd}→o∈y.own∨o=s.ah.length:=fun o mo=>by
  simp only[Lay.own,List.mem_cons,List.mem_append]at mo ⊢
  rcases mo with rfl|mo|mo|mo
  ·exact .inl (.inl rfl)
  ·exact .inl (.inr (.inl mo))
  ·exact .inl (.inr (.inr (.inl mo)))
  ·rcases hn with e | e | e
   ·rw[e]at mo;exact .inl (.inr (.inr (.inr mo)))
   ·rw[e]at mo;cases mo
   ·rw[e]at mo;exact .inr (List.mem_singleton.1 mo)
 have nk : ∀ o∈y.κ,o∉y.vd.arr:=fun o mo mv=>Ko o mo o (List.mem_append_right _ mv) rfl
 have nsd : ∀ o∈y.sd.arr,o∉y.vd.arr:=fun o mo mv=>X9 o mo o mv rfl
 have Ya : ∀ {o:Nat},o∉y.own→o∉y.vd.arr∧o≠0:=fun ho=>⟨fun mv=>ho (by simp[Lay.own,mv]),fun e=>ho (by rw[e];simp[Lay.own])⟩
 obtain⟨l,hl⟩:=hv
 refine⟨by simp[qD],by rw[ht];exact h.t0,by rw[ht];exact h.t1,h.len,fun i c v e1 e2=>g (h.cell i c v e1 e2) (nk c (List.mem_of_getElem? e1)) (h.vS (by simp[List.mem_of_getElem? e1])),h.sy,fun i o fr e1 e2=>?_, ?_,⟨l, ?_⟩, ?_,fun q mq=>?_⟩
 ·obtain⟨f1,f2,f3⟩:=h.frame i o fr e1 e2
  refine⟨g f1 (Ya f2).1 (Ya f2).2,fun mo=>?_,f3⟩
  rcases Kp o mo with mo|e
  ·exact f2 mo
  ·exact absurd (fY f1) (by rw[e];exact Nat.lt_irrefl _)
 ·refine h.stack.keep fun o mo=> ?_
  rw[List.getElem?_eq_getElem (h.stack.lt o mo)]
  exact g (List.getElem?_eq_getElem _) (nsd o mo) (h.vS (by simp[mo]))
 ·refine hl.keep fun o mo=> ?_
  have:o≠0:=by
   rcases hn with e|e|e
   ·rw[e]at mo;exact v0 o mo
   ·rw[e]at mo;cases mo
   ·rw[e]at mo;rw[List.mem_singleton.1 mo];have:=h.uH;omega
  show(s1.ah.set 0 _)[o]? = _
  rw[List.getElem?_set_ne (Ne.symm this)]
 ·rcases hn with e | e | e
  ·simp only[Lay.own,e];exact Am
  ·simp only [Lay.own,e,List.append_nil]
   rw[List.nodup_cons,List.nodup_append]
   exact⟨fun m=>n0 (by rcases List.mem_append.1 m with m|m<;>simp[m]),nκ,ns,fun a ma b mb=>Ko a ma b (List.mem_append_left _ mb)⟩
  ·simp only [Lay.own,e]
   have dh : ∀ o∈y.own,o≠s.ah.length:=fun o mo e=>by have:=h.tD o mo;omega
   rw[List.nodup_cons,List.nodup_append,List.nodup_append]
   refine⟨fun m=>?_,nκ,⟨ns,by simp,fun a ma b mb=>?_⟩,fun a ma b mb=>?_⟩
   ·rcases List.mem_append.1 m with m | m
    ·exact n0 (by simp[m])
    ·rcases List.mem_append.1 m with m | m
     ·exact n0 (by simp[m])
     ·have:=List.mem_singleton.1 m;have:=h.uH;omega
   ·rw[List.mem_singleton.1 mb];exact dh a (by simp[Lay.own,ma])
   ·rcases List.mem_append.1 mb with mb | mb
    ·exact Ko a ma b (List.mem_append_left _ mb)
    ·rw[List.mem_singleton.1 mb];exact dh a (by simp[Lay.own,ma])
 ·obtain⟨f1,f2⟩:=h.loc q mq
  refine⟨g f1 (Ya f2).1 (Ya f2).2,fun mo=>?_⟩
  rcases Kp q.1 mo with mo|e
  ·exact f2 mo
  ·exact absurd (fY f1) (by rw[e];exact Nat.lt_irrefl _)
end
end Go.Abs
namespace Go.Abs
set_option maxRecDepth 8000
open Go.Proofs
theorem Pz (b:Bool) (s:St):aF Tryz.prog jA [.bool b] s (.int .i64 (um b)) s:=by
 refine aF.pure ?_ rfl rfl s
 generalize h:um b=R
 simp only[um]at h
 unfold S0
 refine aF.go JG rfl fun B Q hB hQ=>?_
 have⟨hD,hY,hZ,gA⟩:=bR
 repeat' (first
 |simp only[go_sem,hD,hY,hZ,gA]
 |(with_reducible first|refine bl fun hc=>?_|refine bm fun hc=>?_|refine bn (fun hc=>?_) fun hc=>?_)<;>(try simp only[hc,bs,↓reduceIte]at h)<;>try simp only[hc]
 |(with_reducible refine aE hQ ?_;exact fO)
 |(cases h;done))
theorem Z2 (a:Int) (s:St):aF Tryz.prog rr [.int .i64 a] s (.bool (!(a==0))) s:=by
 refine aF.pure ?_ rfl rfl s
 have e:(a != 0) = !(a==0):=rfl
 unfold S0
 refine aF.go FR rfl fun B Q hB hQ=>?_
 have⟨hD,hY,hZ,gA⟩:=bR
 repeat' (first
 |simp only[go_sem,hD,hY,hZ,gA,e]
 |(with_reducible first|refine bl fun hc=>?_|refine bm fun hc=>?_|refine bn (fun hc=>?_) fun hc=>?_)<;>(try simp only[hc,bs,↓reduceIte]at h)<;>try simp only[hc]
 |(with_reducible refine aE hQ ?_;(try cases h);simp only[aS,aV,bF,bG,go_sem,hD,hY,hZ,gA,e];try exact cq)
 |(cases h;done))
abbrev zR (r:Int×Bool):D:= .tuple [.int .i64 r.1, .bool r.2]
theorem ahy (op a:Int) (s:St):aF Tryz.prog zi [.int .i64 op, .int .i64 a] s (zR (Pn op a)) s:=by
 refine aF.pure ?_ rfl rfl s
 generalize h:Pn op a=R
 simp only[Pn,E0]at h
 unfold S0
 refine aF.go JE rfl fun B Q hB hQ=>?_
 have⟨hD,hY,hZ,gA⟩:=bR
 repeat' (first
 |simp only[go_sem,hD,hY,hZ,gA]
 |(with_reducible refine CU (Pz _ _) ?_)
 |(with_reducible first|refine bl fun hc=>?_|refine bm fun hc=>?_|refine bn (fun hc=>?_) fun hc=>?_)<;>(try simp only[hc,bs,↓reduceIte]at h)<;>try simp only[hc]
 |(with_reducible refine aE hQ ?_;exact fO)
 |(cases h;done))
theorem VN (op a b:Int) (s:St):aF Tryz.prog ud [.int .i64 op, .int .i64 a, .int .i64 b] s (zR (Po op a b)) s:=by
 refine aF.pure ?_ rfl rfl s
 generalize h:Po op a b=R
 simp only[Po,E0]at h
 unfold S0
 rcases Bool.eq_false_or_eq_true (b==0)with b0|b0
 ·refine aF.go wI rfl fun B Q hB hQ=> ?_
  have⟨hD,hY,hZ,gA⟩:=bR
  repeat' (first
 |simp only[go_sem,hD,hY,hZ,gA]
 |(with_reducible first|refine bl fun hc=>?_|refine bm fun hc=>?_|refine bn (fun hc=>?_) fun hc=>?_)<;>(try simp only[hc,bs,↓reduceIte]at h)<;>try simp only[hc]
 |(with_reducible refine aE hQ ?_;exact fO)
 |(cases h;done))
 ·have hb:b≠0:=by simpa using b0
  refine aF.go wI rfl fun B Q hB hQ=>?_
  have⟨hD,hY,hZ,gA⟩:=bR
  repeat' (first
 |simp only[go_sem,hD,hY,hZ,gA,hb]
 |(with_reducible first|refine bl fun hc=>?_|refine bm fun hc=>?_|refine bn (fun hc=>?_) fun hc=>?_)<;>(try simp only[hc,bs,↓reduceIte]at h)<;>try simp only[hc]
 |(with_reducible refine aE hQ ?_;(try cases h);simp only[aS,aV,bF,bG,go_sem,hD,hY,hZ,gA,hb];try exact cq)
 |(cases h;done))
theorem SC (op a b:Int) (s:St):aF Tryz.prog sr [.int .i64 op, .int .i64 a, .int .i64 b] s (zR (Pp op a b)) s:=by
 refine aF.pure ?_ rfl rfl s
 have e:(a != b) = !(a==b):=rfl
 generalize h:Pp op a b=R
 simp only[Pp]at h
 unfold S0
 refine aF.go DA rfl fun B Q hB hQ=>?_
 have⟨hD,hY,hZ,gA⟩:=bR
 repeat' (first
 |simp only[go_sem,hD,hY,hZ,gA,e]
 |(with_reducible refine CU (Pz _ _) ?_)
 |(with_reducible first|refine bl fun hc=>?_|refine bm fun hc=>?_|refine bn (fun hc=>?_) fun hc=>?_)<;>(try simp only[hc,bs,↓reduceIte]at h)<;>try simp only[hc]
 |(with_reducible refine aE hQ ?_;(try cases h);simp only[aS,aV,bF,bG,go_sem,hD,hY,hZ,gA,e];try exact cq)
 |(cases h;done))
theorem ahz (op a b:Int) (s:St):aF Tryz.prog zj [.int .i64 op, .int .i64 a, .int .i64 b] s (zR (Pq op a b)) s:=by
 refine aF.pure ?_ rfl rfl s
 have e1:(a != 0) = !(a==0):=rfl
 have e2:(b != 0) = !(b==0):=rfl
 generalize h:Pq op a b=R
 simp only[Pq,E0]at h
 unfold S0
 refine aF.go JF rfl fun B Q hB hQ=>?_
 have⟨hD,hY,hZ,gA⟩:=bR
 repeat' (first
 |simp only[go_sem,hD,hY,hZ,gA,e1,e2]
 |(with_reducible refine CU (Pz _ _) ?_)
 |(with_reducible refine CU (VN _ _ _ _) ?_)
 |(with_reducible refine CU (SC _ _ _ _) ?_)
 |(with_reducible first|refine bl fun hc=>?_|refine bm fun hc=>?_|refine bn (fun hc=>?_) fun hc=>?_)<;>(try simp only[hc,bs,↓reduceIte]at h)<;>try simp only[hc]
 |(with_reducible refine aE hQ ?_;(try cases h);simp only[aS,aV,bF,bG,go_sem,hD,hY,hZ,gA,e1,e2];try exact cq)
 |(cases h;done))
def vT (x:Int) (k:Int):List Int→Int
 | []=> -1
 |s::l=>if x==s then k else vT x (k+1) l
theorem Mj (x:Int) : ∀ (l:List Int) (k:Int),0≤k→(vT x k l≥0↔l.contains x=true)
 | [],k,h=>by simp[vT]
 | s::l,k,h=>by
  by_cases e:x=s
  ·simp[vT,e];omega
  ·have e':(x==s)=false:=by simp [e]
   simp only[vT,e',Bool.false_eq_true,if_false,List.contains_cons,Bool.false_or]
   exact Mj x l (k+1) (by omega)
theorem VO {l:List Int} (hl:l.length<4611686018427387904) (x:Int) (s:St):aF Tryz.prog pb [.slice .shared 1 (l.map bP), .int .i64 x] s (.int .i64 (vT x 0 l)) s:=by
 refine aF.pure ?_ (by simp[D.bK,D.ok,Tag.ok,iz]) rfl s
 generalize h:vT x 0 l=p
 unfold S0
 refine aF.go zr rfl fun B Q hB hQ=>?_
 have⟨hD,hY,hZ,gA⟩:=bR
 repeat' (first
 |simp only[go_sem,hD,hY,hZ,gA]
 |(with_reducible first|refine bl fun hc=>?_|refine bm fun hc=>?_|refine bn (fun hc=>?_) fun hc=>?_)<;>(try simp only[hc,bs,↓reduceIte]at h)<;>try simp only[hc]
 |(with_reducible refine aE hQ ?_;exact fO)
 |(cases h;done))
 refine ff 0 0 (bp.ind (ι:=List Int×Nat) (fun i=>l.drop i.2=i.1∧vT x (i.2:Int) i.1=p) (fun i=>i.1.length)
  (fun i=> [(0, .slice .shared 1 (l.map bP)),(1, .int .i64 x),(7, .int .i64 (l.length:Int)),(8, .int .i64 (i.2:Int))]) (fun i=>⟨[],[]⟩) ?_ (l,0) ⟨rfl,h⟩)
 rintro⟨rest,k⟩ ⟨h1,h⟩ IH
 dsimp only at h1 h
 cases rest with
 |nil=>
  have hD:=drop_nil h1
  simp only[vT]at h
  repeat' (first
 |simp only[go_sem,hD,hY,hZ,gA]
 |(with_reducible first|refine bl fun hc=>?_|refine bm fun hc=>?_|refine bn (fun hc=>?_) fun hc=>?_)<;>(try simp only[hc,bs,↓reduceIte]at h)<;>try simp only[hc]
 |(with_reducible refine aE hQ ?_;exact fO)
 |(cases h;done))
 |cons a rest=>
  obtain⟨hY,g2,hD,g4⟩:=drop_cons h1
  have bO:k<4611686018427387904:=by omega
  simp only[vT]at h
  repeat' (first
 |simp only[go_sem,hD,hY,hZ,gA]
 |(with_reducible first|refine bl fun hc=>?_|refine bm fun hc=>?_|refine bn (fun hc=>?_) fun hc=>?_)<;>(try simp only[hc,bs,↓reduceIte]at h)<;>try simp only[hc]
 |(with_reducible refine aE hQ ?_;exact fO)
 |(cases h;done))
  refine eQ 0 0 ?_ ?_ (IH (rest,k+1) ⟨g2,h⟩ (Nat.lt_succ_self _))
  ·(simp only[go_sem,hD,hY,hZ,gA,aI bO];try exact bX)
  ·(simp only[go_sem,hD,hY,hZ,gA,aI bO];try exact bX)
theorem Lu {l:List Int} (hl:l.length<4611686018427387904) (x:Int) (s:St):aF Tryz.prog nq [.slice .shared 1 (l.map bP), .int .i64 x] s (.bool (l.contains x)) s:=by
 refine aF.pure ?_ (by simp[D.bK,D.ok,Tag.ok,iz]) rfl s
 have hi:=fun s=>VO hl x s
 have e:decide (vT x 0 l≥0)=l.contains x:=by
  have:=Mj x l 0 (Int.le_refl 0)
  cases h:l.contains x<;>simp_all
 unfold S0
 refine aF.go wa rfl fun B Q hB hQ=>?_
 have⟨hD,hY,hZ,gA⟩:=bR
 repeat' (first
 |simp only[go_sem,hD,hY,hZ,gA,e]
 |(with_reducible refine CU (hi _) ?_)
 |(with_reducible first|refine bl fun hc=>?_|refine bm fun hc=>?_|refine bn (fun hc=>?_) fun hc=>?_)<;>(try simp only[hc,bs,↓reduceIte]at h)<;>try simp only[hc]
 |(with_reducible refine aE hQ ?_;(try cases h);simp only[aS,aV,bF,bG,go_sem,hD,hY,hZ,gA,e];try exact cq)
 |(cases h;done))
theorem mZ (names:List aG) (bN:List Int) (op n:Int) (name:aG) (kids:List Ex):Ex.val names bN ⟨op,n,name,kids⟩=if op==1 then(n,true)else if op==2 then(Pr name names bN,true)else H8 op (kids.map (Ex.val names bN)):=by
 have e : ∀ l:List Ex,Ex.Ps names bN l=l.map (Ex.val names bN):=fun l=>by
  induction l with
  |nil=>rfl
  |cons x l ih=>simp only[Ex.Ps,List.map_cons,ih]
 simp only[Ex.val,e]
theorem adY {names:List aG} {bN:List Int} (hn:names.length<4611686018427387904) (hv:bN.length<4611686018427387904) : ∀ (n:Nat) (x:Ex),x.dp (n:Int)=true→
 aF Tryz.prog lf [.agg (cj x), .slice .shared 1 (names.map encStr), .slice .shared 1 (bN.map bP)] S0 (zR (x.val names bN)) S0:=by
 intro n
 induction n with
 |zero=>rintro⟨op,v,name,kids⟩ h;rw[JP]at h;omega
 | succ n ih=>
  rintro⟨op,v,name,kids⟩ h
  rw[JP]at h
  obtain⟨_,hk,h⟩:=h
  have JU:=fun s=>Cg hn name s
  generalize hR:Ex.val names bN ⟨op,v,name,kids⟩=R
  rw[mZ]at hR
  unfold S0
  by_cases o1:op=1
  ·subst o1
   simp only[beq_self_eq_true,if_true]at hR
   rw[← hR]
   show aF Tryz.prog lf _ _ (.tuple [.int .i64 v, .bool true]) _
   refine aF.go oy rfl fun B Q hB hQ=>?_
   have⟨hD,hY,hZ,gA⟩:=bR
   repeat' (first
 |simp only[go_sem,hD,hY,hZ,gA,beq_self_eq_true]
 |(with_reducible first|refine bl fun hc=>?_|refine bm fun hc=>?_|refine bn (fun hc=>?_) fun hc=>?_)<;>(try simp only[hc,bs,↓reduceIte]at h)<;>try simp only[hc]
 |(with_reducible refine aE hQ ?_;(try cases h);simp only[aS,aV,bF,bG,go_sem,hD,hY,hZ,gA,beq_self_eq_true];try exact cq)
 | (cases h;done))
  rw[if_neg o1]at h
  have b1:(op==1)=false:=by simp[o1]
  by_cases o2:op=2
  ·subst o2
   simp only[b1,Bool.false_eq_true,if_false,beq_self_eq_true,if_true,Pr]at hR
   by_cases hi:jh name 0 names≥0
   ·obtain⟨j,hj⟩:=Int.eq_ofNat_of_zero_le hi
    rw[if_pos hi]at hR
    have b2:decide (jh name 0 names≥0)=true:=by simpa using hi
    rw[hj]at b2 hR
    rw[hj]at JU
    rcases Nat.lt_or_ge j bN.length with hl|hl
    ·have b3:decide ((j:Int)<(bN.length:Int))=true:=by simp [hl]
     have hg:bN[j]? = some (bN.getD j 0):=by rw[List.getD_eq_getElem?_getD,List.getElem?_eq_getElem hl];rfl
     rw[Int.toNat_natCast]at hR
     rw[← hR]
     show aF Tryz.prog lf _ _ (.tuple [.int .i64 (bN.getD j 0), .bool true]) _
     refine aF.go oy rfl fun B Q hB hQ=>?_
     have⟨hD,hY,hZ,gA⟩:=bR
     repeat' (first
 |simp only[go_sem,hD,hY,hZ,gA,b1,b2,b3,hg,beq_self_eq_true,decide_true]
 |(with_reducible refine CU (JU _) ?_)
 |(with_reducible first|refine bl fun hc=>?_|refine bm fun hc=>?_|refine bn (fun hc=>?_) fun hc=>?_)<;>(try simp only[hc,bs,↓reduceIte]at h)<;>try simp only[hc]
 |(with_reducible refine aE hQ ?_;(try cases h);simp only[aS,aV,bF,bG,go_sem,hD,hY,hZ,gA,b1,b2,b3,hg,beq_self_eq_true,decide_true];try exact cq)
 | (cases h;done))
    ·have b3:decide ((j:Int)<(bN.length:Int))=false:=by simp;omega
     rw[Int.toNat_natCast,List.getD_eq_getElem?_getD,List.getElem?_eq_none hl,Option.getD_none]at hR
     rw[← hR]
     show aF Tryz.prog lf _ _ (.tuple [.int .i64 0, .bool true]) _
     refine aF.go oy rfl fun B Q hB hQ=>?_
     have⟨hD,hY,hZ,gA⟩:=bR
     repeat' (first
 |simp only[go_sem,hD,hY,hZ,gA,b1,b2,b3,beq_self_eq_true,decide_true]
 |(with_reducible refine CU (JU _) ?_)
 |(with_reducible first|refine bl fun hc=>?_|refine bm fun hc=>?_|refine bn (fun hc=>?_) fun hc=>?_)<;>(try simp only[hc,bs,↓reduceIte]at h)<;>try simp only[hc]
 |(with_reducible refine aE hQ ?_;(try cases h);simp only[aS,aV,bF,bG,go_sem,hD,hY,hZ,gA,b1,b2,b3,beq_self_eq_true,decide_true];try exact cq)
 | (cases h;done))
   ·rw [if_neg hi]at hR
    have b2:decide (jh name 0 names≥0)=false:=by simpa using hi
    rw[← hR]
    show aF Tryz.prog lf _ _ (.tuple [.int .i64 0, .bool true]) _
    refine aF.go oy rfl fun B Q hB hQ=>?_
    have⟨hD,hY,hZ,gA⟩:=bR
    repeat' (first
 |simp only[go_sem,hD,hY,hZ,gA,b1,b2,beq_self_eq_true]
 |(with_reducible refine CU (JU _) ?_)
 |(with_reducible first|refine bl fun hc=>?_|refine bm fun hc=>?_|refine bn (fun hc=>?_) fun hc=>?_)<;>(try simp only[hc,bs,↓reduceIte]at h)<;>try simp only[hc]
 |(with_reducible refine aE hQ ?_;(try cases h);simp only[aS,aV,bF,bG,go_sem,hD,hY,hZ,gA,b1,b2,beq_self_eq_true];try exact cq)
 | (cases h;done))
  rw[if_neg o2]at h
  have b2:(op==2)=false:=by simp[o2]
  simp only[b1,b2,Bool.false_eq_true,if_false]at hR
  have hd:=h.2.2
  rw[show((n+1:Nat):Int) - 1=(n:Int) by omega]at hd
  have ihs : ∀ {y:Ex},y∈kids→∀ s,aF Tryz.prog lf [.agg (cj y), .slice .shared 1 (names.map encStr), .slice .shared 1 (bN.map bP)] s (zR (y.val names bN)) s:=fun {y} hy s=>by
   have:y.dp (n:Int)=true:=by
    have key : ∀ l:List Ex,Ex.Bx (n:Int) l=true→y∈l→y.dp (n:Int)=true:=fun l=>by
     induction l with
     |nil=>intro _ m;cases m
     | cons z l Sl=>
      intro hz m
      simp only[Ex.Bx]at hz
      split at hz
      ·cases hz
      ·rename_i hz'
       rcases List.mem_cons.1 m with rfl|m
       ·simpa using hz'
       ·exact Sl hz m
    exact key kids hd hy
   exact aF.pure (ih y this) (by simp[D.bK,D.ok,Tag.ok,lU,fa,iz]) rfl s
  clear h JU
  have n1:((1:Nat):Int)=1:=rfl
  have e1:((1:Int)==1)=true:=rfl
  have e2:((2:Int)==1)=false:=rfl
  rename _=R=>h
  cases kids with
  |nil=>simp[om]at hk;omega
  | cons a kids=>
   have c1:=fun s=>ihs (y:=a) (by simp) s
   cases kids with
   |nil=>
    simp only[List.map_cons,List.map_nil,H8]at h
    refine aF.go oy rfl fun B Q hB hQ=>?_
    have⟨hD,hY,hZ,gA⟩:=bR
    repeat' (first
 |simp only[go_sem,hD,hY,hZ,gA,b1,b2,e1]
 |(with_reducible refine CU (c1 _) ?_)
 |(with_reducible refine CU (ahy _ _ _) ?_)
 |(with_reducible first|refine bl fun hc=>?_|refine bm fun hc=>?_|refine bn (fun hc=>?_) fun hc=>?_)<;>(try simp only[hc,bs,↓reduceIte]at h)<;>try simp only[hc]
 |(with_reducible refine aE hQ ?_;(try cases h);simp only[aS,aV,bF,bG,go_sem,hD,hY,hZ,gA,b1,b2,e1];try exact cq)
 | (cases h;done))
   | cons b kids=>
    cases kids with
    |nil=>
     have c2:=fun s=>ihs (y:=b) (by simp) s
     have e3 : [cj a,cj b][Int.toNat 1]? = some (cj b):=rfl
     simp only[List.map_cons,List.map_nil,H8]at h
     refine aF.go oy rfl fun B Q hB hQ=>?_
     have⟨hD,hY,hZ,gA⟩:=bR
     repeat' (first
 |simp only[go_sem,hD,hY,hZ,gA,b1,b2,e2,e3]
 |(with_reducible refine CU (c1 _) ?_)
 |(with_reducible refine CU (c2 _) ?_)
 |(with_reducible refine CU (Z2 _ _) ?_)
 |(with_reducible refine CU (ahz _ _ _ _) ?_)
 |(with_reducible first|refine bl fun hc=>?_|refine bm fun hc=>?_|refine bn (fun hc=>?_) fun hc=>?_)<;>(try simp only[hc,bs,↓reduceIte]at h)<;>try simp only[hc]
 |(with_reducible refine aE hQ ?_;(try cases h);simp only[aS,aV,bF,bG,go_sem,hD,hY,hZ,gA,b1,b2,e2,e3];try exact cq)
 | (cases h;done))
    |cons c kids=>simp[om]at hk;omega
theorem VP {x:Ex} {names:List aG} {bN:List Int} (hx:x.size<4611686018427387904) (ht:x.texts) (hn:names.length<4611686018427387904) (hv:bN.length<4611686018427387904) (s:St) :
 aF Tryz.prog wD [.agg (cj x), .slice .shared 1 (names.map encStr), .slice .shared 1 (bN.map bP)] s (zR (x.bo names bN)) s:=by
 refine aF.pure ?_ (by simp[D.bK,D.ok,Tag.ok,lU,fa,iz]) rfl s
 have hm:=fun s=>zv hx ht s
 rw[EO]at hm
 generalize h:x.bo names bN=R
 simp only[Ex.bo]at h
 unfold S0
 rcases Bool.eq_false_or_eq_true x.may with b|b
 ·rw [if_pos b]at h
  have c1:=fun s=>aF.pure (adY hn hv 20 x (by rw[show((20:Nat):Int)=20 from rfl,EO];exact b)) (by simp[D.bK,D.ok,Tag.ok,lU,fa,iz]) rfl s
  rw[h]at c1
  refine aF.go C2 rfl fun B Q hB hQ=>?_
  have⟨hD,hY,hZ,gA⟩:=bR
  repeat' (first
 |simp only[go_sem,hD,hY,hZ,gA,b]
 |(with_reducible refine CU (hm _) ?_)
 |(with_reducible refine CU (c1 _) ?_)
 |(with_reducible first|refine bl fun hc=>?_|refine bm fun hc=>?_|refine bn (fun hc=>?_) fun hc=>?_)<;>(try simp only[hc,bs,↓reduceIte]at h)<;>try simp only[hc]
 |(with_reducible refine aE hQ ?_;(try cases h);simp only[aS,aV,bF,bG,go_sem,hD,hY,hZ,gA,b];try exact cq)
 |(cases h;done))
 ·rw [if_neg (by simp [b])]at h
  refine aF.go C2 rfl fun B Q hB hQ=>?_
  have⟨hD,hY,hZ,gA⟩:=bR
  repeat' (first
 |simp only[go_sem,hD,hY,hZ,gA,b]
 |(with_reducible refine CU (hm _) ?_)
 |(with_reducible first|refine bl fun hc=>?_|refine bm fun hc=>?_|refine bn (fun hc=>?_) fun hc=>?_)<;>(try simp only[hc,bs,↓reduceIte]at h)<;>try simp only[hc]
 |(with_reducible refine aE hQ ?_;(try cases h);simp only[aS,aV,bF,bG,go_sem,hD,hY,hZ,gA,b];try exact cq)
 |(cases h;done))
theorem zS {size bytes:Nat} {rows:List (List D)} (h:rows≠ []) (hl:rows.length*(bytes+1)≤bC) {z:Nat} {g:Tag} (o:List (List D)) (T:List (Option Nat)) :
 iB size bytes (.slice .full z []) (.slice g size rows) ⟨o,T⟩=some (.slice (.tok T.length) size rows,⟨o,T++ [some rows.length]⟩):=by
 cases rows with
 |nil=>exact absurd rfl h
 |cons x r=>simp only[List.length_cons]at hl;simp[iB,hl]
theorem zT {size bytes z z':Nat} {g:Tag} (o:List (List D)) (T:List (Option Nat)) :
 iB size bytes (.slice .full z []) (.slice g z' []) ⟨o,T⟩=some (.slice .full z [],⟨o,T⟩):=by simp[iB,bC]
def Sm.bare (v:Sm):Sm:= {v with a8:= [],aR:= []}
end Go.Abs
