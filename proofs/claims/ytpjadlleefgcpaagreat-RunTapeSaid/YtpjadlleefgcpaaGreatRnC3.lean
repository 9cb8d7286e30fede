/-
  What is proved here: part 3 of the road to the claim (Sc2, Sc3, ScP, Sc4, Rng, FineM, Sc5, Ar1, Ar2, Ar3, Srt1, Shelf, SortR, SrtP, Tc1, Tc2, Tc3, Bsl, Tc4, Tc5, Tc6, FlP, JmpP, Jm1, Jm2, MirRun, RunTot, RunFu, RunOk, Swap0, Swap2p, ToP, Al1, Al2, Al3, MirParse, Room1, Al4, Full1, Fits1, Fits2, MirEq, RefEq2, LawTo1, AlP, LawAl2, SwP, MirMapS, RightP, RunLo, RunNm, RunMc, RunI, Ev1, Ev2, Cp1).
  No conditions.
-/
import Derived.Test.YtpjadlleefgcpaaGreatRnC2
import Derived.Shelf.Small.Bits
import Derived.Shelf.Strconv.Itoa0
import Derived.Shelf.Sort.Plain
import Derived.Shelf.Slices.Turned
import Derived.Ground.Names2Prog
import Derived.Shelf.Slices.Clone
import Derived.Shelf.Slices.CompactS
import Derived.Shelf.Slices.Cells
import Derived.Shelf.Slices.In.SortNone
import Derived.Ground.SlgnProg
import Derived.Shelf.SlicesE.Clone
import Derived.Test.YtpjadlleefgcpaaGreatProg
import Derived.Sort.Walk0

set_option linter.unusedSimpArgs false
set_option linter.unusedVariables false
namespace Go.Abs
set_option maxRecDepth 8000
open Go.Proofs
def wS (vars globals:List aG) (name:aG):List Pm→Int
 | []=>if fw vars name then 4 else if fw globals name then 1 else 0
 |a::l=>if a.name==name then(if a.ref then 3 else 2)else wS vars globals name l
def Pc.lE (p:Pg) (f:Pc) (name:aG):Int:=wS f.vars p.globals name f.params
theorem JQ {p:Pg} {f:Pc} (hp:f.params.length<1000000000) (hv:f.vars.length<1000000000) (hg:p.globals.length<1000000000) (name:aG) (s:St):aF Tryz.prog vB [.agg (cD p), .agg (cu f), .str name] s (.int .i64 (f.lE p name)) s:=by
 refine aF.pure ?_ (by simp[D.bL,D.ok,jv,xp]) rfl s
 have rX:=jB (l:=f.vars) (by omega) name
 have uA:=jB (l:=p.globals) (by omega) name
 generalize h:f.lE p name=q
 simp only[Pc.lE]at h
 unfold S0
 refine aF.go FT rfl fun B Q hB hQ=>?_
 have⟨hD,hY,hZ,gA⟩:=bR
 repeat' (first
 |simp only[go_sem,hD,hY,hZ,gA]
 |(with_reducible refine aE hQ ?_;exact bd))
 refine fi 2 0 (bt.ind (ι:=List Pm×Nat) (fun i=>f.params.drop i.2=i.1∧wS f.vars p.globals name i.1=q) (fun i=>i.1.length)
  (fun i=> [(2, .str name),(3, .ptr 0 0),(4, .ptr 1 0),(10, .slice .shared 2 (f.params.map iH)),(11, .int .i64 (f.params.length:Int)),(12, .int .i64 (i.2:Int))]) (fun i=>⟨[cD p,cu f],[]⟩) ?_ (f.params,0) ⟨rfl,h⟩)
 rintro⟨rest,k⟩ ⟨h1,h⟩ IH
 dsimp only at h1 h
 cases rest with
 | nil=>
  have hD:=drop_nil h1
  simp only[wS]at h
  rcases Bool.eq_false_or_eq_true (fw f.vars name)with b1|b1
  ·simp only [b1,if_true]at h
   subst h
   repeat' (first
 |simp only[go_sem,hD,hY,hZ,gA,b1]
 |(with_reducible refine CU (rX _ _) ?_)
 |(with_reducible refine CU (uA _ _) ?_)
 | (with_reducible refine aE hQ ?_;exact bd))
  ·simp only [b1,Bool.false_eq_true,if_false]at h
   rcases Bool.eq_false_or_eq_true (fw p.globals name)with b2|b2
   ·simp only [b2,if_true]at h
    subst h
    repeat' (first
 |simp only[go_sem,hD,hY,hZ,gA,b1,b2]
 |(with_reducible refine CU (rX _ _) ?_)
 |(with_reducible refine CU (uA _ _) ?_)
 | (with_reducible refine aE hQ ?_;exact bd))
   ·simp only [b2,Bool.false_eq_true,if_false]at h
    subst h
    repeat' (first
 |simp only[go_sem,hD,hY,hZ,gA,b1,b2]
 |(with_reducible refine CU (rX _ _) ?_)
 |(with_reducible refine CU (uA _ _) ?_)
 |(with_reducible refine aE hQ ?_;exact bd))
 | cons a rest=>
  obtain⟨hY,g2,hD,g4⟩:=drop_cons h1
  have bU:k<4611686018427387904:=by omega
  simp only[wS]at h
  rcases Bool.eq_false_or_eq_true (a.name==name)with b1|b1
  ·simp only [b1,if_true]at h
   rcases Bool.eq_false_or_eq_true a.ref with b2|b2
   ·simp only [b2,if_true]at h
    subst h
    repeat' (first
 |simp only[go_sem,hD,hY,hZ,gA,b1,b2]
 | (with_reducible refine aE hQ ?_;exact bd))
   ·simp only [b2,Bool.false_eq_true,if_false]at h
    subst h
    repeat' (first
 |simp only[go_sem,hD,hY,hZ,gA,b1,b2]
 | (with_reducible refine aE hQ ?_;exact bd))
  ·simp only [b1,Bool.false_eq_true,if_false]at h
   repeat' (first
 |simp only[go_sem,hD,hY,hZ,gA,b1]
 | (with_reducible refine aE hQ ?_;exact bd))
   refine eY 2 0 ?_ ?_ (IH (rest,k+1) ⟨g2,h⟩ (Nat.lt_succ_self _))
   ·(simp only[go_sem,hD,hY,hZ,gA,aI bU];try exact cj)
   ·(simp only[go_sem,hD,hY,hZ,gA,aI bU];try exact cj)
def iU (name:aG):List Pc→Option Pc
 | []=>none
 |f::l=>if f.name==name then some f else iU name l
def Pg.find (p:Pg) (name:aG):Option Pc:=iU name p.procs
def pc0:Pc:=⟨[],[],[],[],[]⟩
def aoJ (r:Option Pc):D:= .tuple [.agg (cu (r.getD pc0)), .bool r.isSome]
set_option maxRecDepth 8000
open Go.Proofs
def Pc.tx (f:Pc):List aG:=f.params.map (·.name)
def Pc.own (f:Pc):List aG:=f.tx++f.vars
theorem X3 {f:Pc} (hp:f.params.length<1000000) (hv:f.vars.length<1000000) (s:St):aF Tryz.prog sO [.agg (cu f)] s (.slice .shared 1 (f.own.map encStr)) s:=by
 refine aF.pure ?_ (by simp[D.bL,D.ok,xp]) (by simp only[D.ok,Tag.ok,fb];rfl) s
 generalize hR:f.own=R
 simp only[Pc.own]at hR
 unfold S0
 refine aF.go HR rfl fun B Q hB hQ=>?_
 have⟨hD,hY,hZ,gA⟩:=bR
 repeat' (first
 |simp only[go_sem,hD,hY,hZ,gA]
 |(with_reducible refine aE hQ ?_;exact bd))
 refine bt.sm 3 1 rfl ?_
 simp only[go_sem,hD,hY,hZ,gA]
 refine fi 1 1 (bt.ind (ι:=List Pm×Nat×List aG×Nat) (fun i=>f.params.drop i.2.1=i.1∧i.2.2.1++i.1.map (·.name)=f.tx∧i.2.2.2=i.2.2.1.length) (fun i=>i.1.length)
  (fun i=> [(1, .ptr 0 0),(3, .slice (.tok 0) 1 (i.2.2.1.map encStr)),(7, .slice .shared 2 (f.params.map iH)),(8, .int .i64 (f.params.length:Int)),(9, .int .i64 (i.2.1:Int))]) (fun i=>⟨[cu f],[some i.2.2.2]⟩) ?_ (f.params,0,[],0) ⟨rfl,rfl,rfl⟩)
 rintro⟨rest,k,out,n⟩ ⟨h1,h2,h3⟩ IH
 dsimp only at h1 h2 h3
 subst h3
 have hlo:out.length+rest.length<1000000:=by
  have:=congrArg List.length h2
  simp only[List.length_append,List.length_map,Pc.tx]at this
  omega
 cases rest with
 |nil=>
  have hD:=drop_nil h1
  simp only[List.map_nil,List.append_nil]at h2
  subst hR
  rw[← h2]at hQ
  have eQ:=kI (l:=out) (nx:=f.vars) rfl (by omega) (g:= .shared)
  repeat' (first
 |simp only[go_sem,hD,hY,hZ,gA,eQ]
 |(with_reducible refine aE hQ ?_;exact bd))
 |cons a rest=>
  obtain⟨hY,g2,hD,g4⟩:=drop_cons h1
  have bU:k<4611686018427387904:=by omega
  have hZ:(out.length+1)*17≤bC:=by unfold bC;omega
  repeat' (first
 |simp only[go_sem,hD,hY,hZ,gA]
 |(with_reducible refine aE hQ ?_;exact bd))
  refine eY 1 1 ?_ ?_ (IH (rest,k+1,out++ [a.name],out.length+1) ⟨g2,by rw[← h2];simp,by simp⟩ (Nat.lt_succ_self _))
  ·(simp only[go_sem,hD,hY,hZ,gA,aI bU,List.map_append,List.map_cons,List.map_nil,encStr];try exact cj)
  ·(simp only[go_sem,hD,hY,hZ,gA,aI bU,List.map_append,List.map_cons,List.map_nil,encStr];try exact cj)
def iI:aG:= [109,97,105,110]
def Sm.known (p:Pg) (f:Pc) (procs:List aG) (v:Sm):Bool:=
 !(v.said.any fun n=>f.lE p n==0) && (v.kind != 4 ||(v.proc != iI && fw procs v.proc))
structure Pc.Small (p:Pg) (f:Pc):Prop where
 par:f.params.length<1000000
 vars:f.vars.length<1000000
 ui:p.globals.length<1000000
def Cj (p:Pg) (f:Pc):List aG→Bool
 | []=>true
 |n::l=>if f.lE p n==0 then false else Cj p f l
theorem G0 (p:Pg) (f:Pc) : ∀ l,Cj p f l = !(l.any fun n=>f.lE p n==0)
 | []=>rfl
 |n::l=>by
  simp only[Cj,List.any_cons,G0 p f l]
  cases (f.lE p n==0)<;>simp
theorem JR (v:Sm) (h:v.nz):v.said.length<3000000:=by
 have : ∀ (l:List Ar) (out:List aG),(Ar.said out l).length≤out.length+2*Ar.a7 l:=by
  intro l
  induction l with
  |nil=>intro out;simp[Ar.said]
  |cons a l ih=>
   intro out
   simp only[Ar.said,Ar.a7]
   refine Nat.le_trans (ih _) ?_
   have:=lk a.x
   have:1≤a.x.size:=by obtain⟨_,_,_,_⟩:=a.x;simp[Ex.size]
   simp only[List.length_append]
   split<;>simp<;>omega
 have h1:=this v.args (v.sQ++v.x.names)
 have h2:=lk v.x
 have h3:=h.2.2
 have h4:v.sQ.length≤1:=by unfold Sm.sQ;split<;>simp
 simp only[List.length_append]at h1
 unfold Sm.said
 omega
theorem ZN {p:Pg} {f:Pc} {procs:List aG} {v:Sm} (hs:f.Small p) (wT:procs.length<1000000) (hv:v.nz) (s:St):aF Tryz.prog ql [.agg (cD p), .agg (cu f), .slice .shared 1 (procs.map encStr), .agg (bh v)] s (.bool (v.known p f procs)) s:=by
 refine aF.pure ?_ (by simp[D.bL,D.ok,jv,xp,rj,Tag.ok,fb]) rfl s
 have hn:=fun s=>BA hv s
 have hk:=fun n s=>JQ (p:=p) (f:=f) (by have:=hs.par;omega) (by have:=hs.vars;omega) (by have:=hs.ui;omega) n s
 have adw:=jB (l:=procs) (by omega) v.proc
 have hl:=JR v hv
 generalize h:v.known p f procs=q
 simp only[Sm.known, ← G0]at h
 unfold S0
 refine aF.go EC rfl fun B Q hB hQ=>?_
 have⟨hD,hY,hZ,gA⟩:=bR
 repeat' (first
 |simp only[go_sem,hD,hY,hZ,gA]
 |(with_reducible refine CU (hn _) ?_)
 |(with_reducible refine aE hQ ?_;exact bd))
 refine fi 3 0 (bt.ind (ι:=List aG×Nat) (fun i=>v.said.drop i.2=i.1∧(Cj p f i.1 && (v.kind != 4 ||(v.proc != iI && fw procs v.proc)))=q) (fun i=>i.1.length)
  (fun i=> [(2, .slice .shared 1 (procs.map encStr)),(4, .ptr 0 0),(5, .ptr 1 0),(7, .ptr 2 0),(12, .slice .shared 1 (v.said.map encStr)),(13, .int .i64 (v.said.length:Int)),(14, .int .i64 (i.2:Int))]) (fun i=>⟨[cD p,cu f,bh v],[]⟩) ?_ (v.said,0) ⟨rfl,h⟩)
 rintro⟨rest,k⟩ ⟨h1,h⟩ IH
 dsimp only at h1 h
 cases rest with
 | nil=>
  have hD:=drop_nil h1
  simp only[Cj,Bool.true_and]at h
  rcases Bool.eq_false_or_eq_true (v.kind != 4)with b1|b1
  ·simp only [b1,Bool.true_or]at h
   subst h
   repeat' (first
 |simp only[go_sem,hD,hY,hZ,gA,b1]
 | (with_reducible refine aE hQ ?_;exact bd))
  ·simp only [b1,Bool.false_or]at h
   rcases Bool.eq_false_or_eq_true (v.proc != iI)with b2|b2
   ·simp only [b2,Bool.true_and]at h
    unfold iI at b2
    have b3:(v.proc == [109,97,105,110]) = !(v.proc != [109,97,105,110]):=by simp only[bne,Bool.not_not]
    rw[b2]at b3
    simp only[Bool.not_true,Bool.not_false]at b3
    subst h
    repeat' (first
 |simp only[go_sem,hD,hY,hZ,gA,b1,b2,b3]
 |(with_reducible refine CU (adw _ _) ?_)
 | (with_reducible refine aE hQ ?_;exact bd))
   ·simp only [b2,Bool.false_and]at h
    unfold iI at b2
    have b3:(v.proc == [109,97,105,110]) = !(v.proc != [109,97,105,110]):=by simp only[bne,Bool.not_not]
    rw[b2]at b3
    simp only[Bool.not_true,Bool.not_false]at b3
    subst h
    repeat' (first
 |simp only[go_sem,hD,hY,hZ,gA,b1,b2,b3]
 |(with_reducible refine CU (adw _ _) ?_)
 |(with_reducible refine aE hQ ?_;exact bd))
 | cons a rest=>
  obtain⟨hY,g2,hD,g4⟩:=drop_cons h1
  have bU:k<4611686018427387904:=by omega
  simp only[Cj]at h
  rcases Bool.eq_false_or_eq_true (f.lE p a==0)with b1|b1
  ·simp only [b1,if_true,Bool.false_and]at h
   subst h
   repeat' (first
 |simp only[go_sem,hD,hY,hZ,gA,b1]
 |(with_reducible refine CU (hk _ _) ?_)
 | (with_reducible refine aE hQ ?_;exact bd))
  ·simp only [b1,Bool.false_eq_true,if_false]at h
   repeat' (first
 |simp only[go_sem,hD,hY,hZ,gA,b1]
 |(with_reducible refine CU (hk _ _) ?_)
 | (with_reducible refine aE hQ ?_;exact bd))
   refine eY 3 0 ?_ ?_ (IH (rest,k+1) ⟨g2,h⟩ (Nat.lt_succ_self _))
   ·(simp only[go_sem,hD,hY,hZ,gA,aI bU];try exact cj)
   ·(simp only[go_sem,hD,hY,hZ,gA,aI bU];try exact cj)
theorem L3 : ∀ (l pre:List aG),qd pre l=true↔(∃ x∈l,x∈pre)∨¬ l.Nodup
 | [],pre=>by simp[qd]
 | s::l,pre=>by
  simp only[qd]
  by_cases h:fw pre s=true
  ·simp only [h,if_true,true_iff]
   exact .inl ⟨s,List.mem_cons_self,(jg _ _).1 h⟩
  ·have h':s∉pre:=fun m=>h ((jg _ _).2 m)
   simp only[h,if_false,Bool.false_eq_true]
   rw[L3 l (pre++ [s])]
   simp only[List.mem_append,List.mem_singleton,List.mem_cons,List.nodup_cons,exists_eq_or_imp]
   constructor
   ·rintro(⟨x,m,h1 | h1⟩ | h1)
    ·exact .inl (.inr ⟨x,m,h1⟩)
    ·have h1:x=s:=by simpa using h1
     subst h1;exact .inr fun h=>h.1 m
    ·exact .inr fun h=>h1 h.2
   ·rintro((h1 | ⟨x,m,h1⟩) | h1)
    ·exact absurd h1 h'
    ·exact .inl ⟨x,m, .inl h1⟩
    ·by_cases m:s∈l
     ·exact .inl ⟨s,m, .inr (.inl rfl)⟩
     ·exact .inr fun h=>h1 ⟨m,h⟩
theorem G1 (l:List aG):fG l=true↔¬ l.Nodup:=by
 unfold fG;rw[L3];simp
theorem R5 (a b:List aG):fG (a++b)=(fG a ||(fG b ||b.any (fw a))):=by
 have h:fG (a++b)=true↔(fG a ||(fG b ||b.any (fw a)))=true:=by
  rw[G1,List.nodup_append]
  simp only[Bool.or_eq_true,G1,List.any_eq_true,jg]
  constructor
  ·intro h
   by_cases ha:a.Nodup
   ·by_cases hb:b.Nodup
    ·refine .inr (.inr (Classical.byContradiction fun hn=>h ⟨ha,hb,fun x hx y hy e=>hn ⟨y,hy,e ▸ hx⟩⟩))
    ·exact .inr (.inl hb)
   ·exact .inl ha
  ·rintro(h | h | ⟨x,h1,h2⟩) ⟨h3,h4,h5⟩
   ·exact h h3
   ·exact h h4
   ·exact h5 x h2 x h1 rfl
 cases h1:fG (a++b)<;>cases h2:(fG a ||(fG b ||b.any (fw a)))<;>simp_all
theorem JS (name:aG) : ∀ (l:List Pc) (k:Nat),(iU name l=none∧jf name (k:Int) (l.map (·.name)) = -1)∨∃ f j,iU name l=some f∧l[j]? = some f∧jf name (k:Int) (l.map (·.name))=((k+j:Nat):Int)
 | [],k=> .inl ⟨rfl,rfl⟩
 | f::l,k=>by
  by_cases h:f.name=name
  ·subst h
   refine .inr ⟨f,0,by simp[iU],rfl,by simp[jf]⟩
  ·have h1:(f.name==name)=false:=by simp [h]
   have h2:(name==f.name)=false:=by simp[Ne.symm h]
   simp only[iU,h1,Bool.false_eq_true,if_false,List.map_cons,jf,h2]
   rcases JS name l (k+1)with ⟨g1,g2⟩|⟨g,j,g1,g2,g3⟩
   ·exact .inl ⟨g1,by rw[← g2];rfl⟩
   ·refine .inr ⟨g,j+1,g1,by simpa using g2, ?_⟩
    rw[show((k:Int)+1)=((k+1:Nat):Int)from rfl,g3]
    congr 1;omega
theorem sw {name:aG} {f:Pc} : ∀ {l:List Pc},iU name l=some f→f∈l∧f.name=name
 |g::l,h=>by
  simp only[iU]at h
  split at h
  ·rename_i e;cases h;exact⟨List.mem_cons_self,by simpa using e⟩
  ·have:=sw h;exact⟨List.mem_cons_of_mem _ this.1,this.2⟩
mutual
theorem R6 (deep cy:Int) (aS:Bool) (out:List It) : ∀ s:Sm,∃ e,iS deep cy aS out s=out++e
 | ⟨id,kind,labels,name,proc,x,has,args,a8,e⟩=>by
  simp only[iS]
  split
  ·obtain⟨e1,h1⟩:=tz (deep+1) id false (out++ [⟨⟨id,kind,labels,name,proc,x,has,args,a8,e⟩,deep,cy,aS⟩]) a8
   obtain⟨e2,h2⟩:=tz (deep+1) id true (dQ (deep+1) id false (out++ [⟨⟨id,kind,labels,name,proc,x,has,args,a8,e⟩,deep,cy,aS⟩]) a8) e
   rw[h2,h1]
   exact⟨_,by rw[List.append_assoc,List.append_assoc]⟩
  ·exact⟨_,rfl⟩
theorem tz (deep cy:Int) (aS:Bool) (out:List It) : ∀ l:List Sm,∃ e,dQ deep cy aS out l=out++e
 | []=>⟨[],by simp[dQ]⟩
 | s::l=>by
  simp only[dQ]
  split
  ·obtain⟨e1,h1⟩:=R6 deep cy aS out s
   obtain⟨e2,h2⟩:=tz deep cy aS (iS deep cy aS out s) l
   rw[h2,h1]
   exact⟨_,by rw[List.append_assoc]⟩
  ·exact⟨[],by simp⟩
end
mutual
theorem R7 (deep cy:Int) (aS:Bool) (out:List It) : ∀ s:Sm,(iS deep cy aS out s).length≤200→(∀ i∈iS deep cy aS out s,i.deep≤12)→(iS deep cy aS out s).map It.s=out.map It.s++s.pre
 | ⟨id,kind,labels,name,proc,x,has,args,a8,e⟩,h1,h2=>by
  simp only[iS,Sm.pre]at h1 h2 ⊢
  by_cases hd:deep≤12
  ·simp only [hd,decide_true,if_true]at h1 h2 ⊢
   obtain⟨e2,g2⟩:=tz (deep+1) id true (dQ (deep+1) id false (out++ [⟨⟨id,kind,labels,name,proc,x,has,args,a8,e⟩,deep,cy,aS⟩]) a8) e
   have k1:(dQ (deep+1) id false (out++ [⟨⟨id,kind,labels,name,proc,x,has,args,a8,e⟩,deep,cy,aS⟩]) a8).length≤200:=by
    rw[g2,List.length_append]at h1;omega
   have k2 : ∀ i∈dQ (deep+1) id false (out++ [⟨⟨id,kind,labels,name,proc,x,has,args,a8,e⟩,deep,cy,aS⟩]) a8,i.deep≤12:=fun i m=>h2 i (by rw[g2];exact List.mem_append_left _ m)
   rw[wU (deep+1) id true _ e h1 h2,wU (deep+1) id false _ a8 k1 k2]
   simp
  ·simp only [hd,decide_false,Bool.false_eq_true,if_false]at h1 h2
   exact absurd (h2 _ (List.mem_append_right _ (List.mem_singleton.2 rfl))) (by simpa using hd)
theorem wU (deep cy:Int) (aS:Bool) (out:List It) : ∀ l:List Sm,(dQ deep cy aS out l).length≤200→(∀ i∈dQ deep cy aS out l,i.deep≤12)→(dQ deep cy aS out l).map It.s=out.map It.s++Sm.dd l
 | [],h1,h2=>by simp[dQ,Sm.dd]
 | s::l,h1,h2=>by
  simp only[dQ,Sm.dd]at h1 h2 ⊢
  by_cases hc:(out.length:Int)≤200
  ·simp only [hc,decide_true,if_true]at h1 h2 ⊢
   obtain⟨e2,g2⟩:=tz deep cy aS (iS deep cy aS out s) l
   have k1:(iS deep cy aS out s).length≤200:=by rw[g2,List.length_append]at h1;omega
   have k2 : ∀ i∈iS deep cy aS out s,i.deep≤12:=fun i m=>h2 i (by rw[g2];exact List.mem_append_left _ m)
   rw[wU deep cy aS _ l h1 h2,R7 deep cy aS out s k1 k2]
   simp
  ·simp only [hc,decide_false,Bool.false_eq_true,if_false]at h1
   omega
end
theorem JT : ∀ (l:List Pc) (out:List It),(allM out l).length≤200→(∀ i∈allM out l,i.deep≤12)→(∀ f∈l,f.flat.map It.s=Sm.dd f.body)∧(allM out l).map It.s=out.map It.s++(l.map fun f=>Sm.dd f.body).flatten
 | [],out,h1,h2=>⟨fun f m=>(by cases m),by simp[allM]⟩
 | f::l,out,h1,h2=>by
  simp only[allM]at h1 h2 ⊢
  by_cases hc:(((out++f.flat).length:Nat):Int) > 200
  ·simp only[hc,decide_true,if_true]at h1;omega
  ·simp only [hc,decide_false,Bool.false_eq_true,if_false]at h1 h2 ⊢
   obtain⟨k1,k2⟩:=JT l (out++f.flat) h1 h2
   have pV : ∀ (l:List Pc) (out:List It),∃ e,allM out l=out++e:=by
    intro l
    induction l with
    |nil=>intro out;exact⟨[],by simp[allM]⟩
    |cons g l ih=>
     intro out
     simp only[allM]
     split
     ·exact⟨_,rfl⟩
     ·obtain⟨e,h⟩:=ih (out++g.flat);exact⟨g.flat++e,by rw[h];simp⟩
   obtain⟨e,he⟩:=pV l (out++f.flat)
   have k3:f.flat.map It.s=Sm.dd f.body:=by
    have:=wU 1 0 false [] f.body (by
     have:f.flat.length≤200:=by simp only[List.length_append]at hc;omega
     exact this) (fun i m=>h2 i (by rw[he];exact List.mem_append_left _ (List.mem_append_right _ m)))
    simpa[Pc.flat]using this
   refine⟨fun g m=>?_, ?_⟩
   ·rcases List.mem_cons.1 m with rfl | m
    ·exact k3
    ·exact k1 g m
   ·rw[k2];simp[k3]
theorem BE : ∀ (l:List It) (n:Nat),It.fN n l=true→(∀ i∈l,i.deep≤12)∧∀ (j:Nat) (i:It),l[j]? = some i→i.s.id=((n+j+1:Nat):Int)
 | [],n,h=>⟨fun i m=>(by cases m),fun j i h=>by simp at h⟩
 | a::l,n,h=>by
  simp only[It.fN]at h
  split at h
  ·cases h
  ·rename_i c
   simp only[Bool.or_eq_true,not_or,bne_iff_ne,ne_eq,Decidable.not_not,decide_eq_true_eq,Int.not_lt,gt_iff_lt]at c
   obtain⟨k1,k2⟩:=BE l (n+1) h
   refine⟨fun i m=>?_,fun j i hj=>?_⟩
   ·rcases List.mem_cons.1 m with rfl | m
    ·exact c.1.2
    ·exact k1 i m
   ·cases j with
    |zero=>simp at hj;subst hj;rw[c.1.1]
    |succ j=>simp at hj;rw[k2 j i hj];congr 1;omega
theorem Ck {p:Pg} (h:p.may=true):p.all.length≤200∧It.fN 0 p.all=true:=by
 unfold Pg.may at h
 split at h
 ·cases h
 ·split at h
  ·cases h
  ·split at h
   ·cases h
   ·rename_i c
    exact⟨by simp only[decide_eq_true_eq,Int.not_lt,gt_iff_lt]at c;omega,h⟩
theorem zB {p:Pg} (h:p.may=true):(∀ f∈p.procs,f.flat.map It.s=Sm.dd f.body)∧p.all.map It.s=p.pre:=by
 obtain⟨h1,h2⟩:=Ck h
 have:=JT p.procs [] h1 (BE _ 0 h2).1
 simpa[Pg.pre,Pg.all]using this
theorem BF {p:Pg} (h:p.may=true) {i:Nat} {v:Sm} (hv:p.pre[i]? = some v):v.id=((i+1:Nat):Int):=by
 rw[← (zB h).2,List.getElem?_map,Option.map_eq_some_iff]at hv
 obtain⟨it,h1,rfl⟩:=hv
 have:=(BE _ 0 (Ck h).2).2 i it h1
 rw[this];congr 1;omega
set_option maxRecDepth 8000
open Go.Proofs
structure Pg.iJ (p:Pg):Prop where
 Pf:p.Ib
 sz:p.size≤900000
mutual
theorem adx : ∀ s:Sm,s.wM→s.size<1000000→∀ v∈s.pre,v.nz∧v.ug
 |⟨id,kind,labels,name,proc,x,has,args,a8,aS⟩,h,hs,v,m=>by
  simp only[Sm.wM]at h
  simp only[Sm.size]at hs
  simp only[Sm.pre,List.mem_cons,List.mem_append]at m
  rcases m with rfl|m|m
  ·exact⟨⟨h.1.xt,fun a ha=>(h.1.arg a ha).2.1,by dsimp only;omega⟩,h.1⟩
  ·exact Cl a8 h.2.1 (by omega) v m
  ·exact Cl aS h.2.2 (by omega) v m
theorem Cl : ∀ l:List Sm,Sm.ku l→Sm.a7 l<1000000→∀ v∈Sm.dd l,v.nz∧v.ug
 | [],h,hs,v,m=>by simp[Sm.dd]at m
 |s::l,h,hs,v,m=>by
  simp only[Sm.ku]at h
  simp only[Sm.a7]at hs
  simp only[Sm.dd,List.mem_append]at m
  rcases m with m|m
  ·exact adx s h.1 (by omega) v m
  ·exact Cl l h.2 (by omega) v m
end
theorem Pg.iJ.said {p:Pg} (h:p.iJ) {f:Pc} (hf:f∈p.procs) : ∀ v∈Sm.dd f.body,v.nz:=fun v m=>by
 have h1:=Pc.dm hf
 have h2:=h.sz
 simp only[Pg.size]at h2
 simp only[Pc.size]at h1
 exact(Cl f.body (h.Pf.body f hf) (by omega) v m).1
theorem Pg.iJ.small {p:Pg} (h:p.iJ) {f:Pc} (hf:f∈p.procs):f.Small p:=by
 have h1:=Pc.dm hf
 have h2:=h.sz
 simp only[Pg.size]at h2
 simp only[Pc.size]at h1
 exact⟨by omega,by omega,by omega⟩
theorem Pg.iJ.procs {p:Pg} (h:p.iJ):p.procs.length≤900000∧Pc.a7 p.procs≤900000∧p.globals.length≤900000:=by
 have h2:=h.sz
 have h3:=Pc.eJ p.procs
 simp only[Pg.size]at h2
 omega
def Pg.pn (p:Pg):List aG:=p.procs.map (·.name)
def BG (p:Pg) (f:Pc) (procs:List aG):List Sm→Option Sm
 | []=>none
 |v::l=>if v.known p f procs then BG p f procs l else some v
def vN (p:Pg) (procs:List aG):List Pc→Int×Int
 | []=>(0,0)
 |f::l=>if fG (p.globals++f.own)then(5,0)else match BG p f procs (Sm.dd f.body)with|some v=>(5,v.id)|none=>vN p procs l
def Pg.tA (p:Pg):Bool:=match p.find iI with|none=>true|some m=>decide ((m.params.length:Int) > 0)
def Pg.scope (p:Pg):Int×Int:=
 if p.may then if fG p.globals ||(fG p.pn ||p.tA)then(5,0)else vN p p.pn p.procs else(1,0)
theorem VC (p:Pg) (hl:p.globals.length<1000000) (n:aG):aF Tryz.prog oP ([.str n]++ [.ptr 0 0]) ⟨[cD p],[]⟩ (.bool (fw p.globals n)) ⟨[cD p],[]⟩:=by
 show aF Tryz.prog oP [.str n, .ptr 0 0] _ _ _
 have pJ:=jB (l:=p.globals) (by omega) n
 refine aF.go CG rfl fun B Q hB hQ=>?_
 have⟨hD,hY,hZ,gA⟩:=bR
 repeat' (first
 |simp only[go_sem,hD,hY,hZ,gA]
 |(with_reducible refine CU (pJ _ _) ?_)
 |(with_reducible refine aE hQ ?_;exact bd))
theorem X4 (n m:Nat) (p:Pg):D.gv n m (fA p)=fA p:=ig n m _ (uh p)
attribute [go_sem] X4
theorem ZO {p:Pg} {f:Pc} {procs:List aG} {v:Sm} (hs:f.Small p) (wT:procs.length<1000000) (hv:v.nz) (g:Tag) (s:St):aF Tryz.prog ql [.agg (cD p), .agg (cu f), .slice g 1 (procs.map encStr), .agg (bh v)] s (.bool (v.known p f procs)) s:=
 bM.qu (.cons (Wk.refl _) (.cons (Wk.refl _) (.cons (Wk.shared g 1 _) (jr.refl _)))) (ZN hs wT hv s)
theorem vO {p:Pg} (h:p.iJ) (s:St):aF Tryz.prog lY [.agg (cD p)] s (.agg [.int .i64 p.scope.1, .int .i64 p.scope.2]) s:=by
 refine aF.pure ?_ (by simp[D.bL,D.ok,jv]) rfl s
 have hm:=fun s=>JL h.Pf s
 simp only[Ci]at hm
 obtain⟨rU,rJ,rI⟩:=h.procs
 have dh:=fun s=>Ce (p:=p) (by omega) s
 have pL:=fun s=>DH (l:=p.globals) (by omega) .shared s
 have hpn:p.pn.length=p.procs.length:=by simp[Pg.pn]
 have Ec:=fun g s=>DH (l:=p.pn) (by omega) g s
 have JU:=fun g s=>(Cf (l:=p.pn) (by omega) iI s).XZ (Wk.shared g 1 (p.pn.map encStr))
 have DI:=fun g s=>(show aF Tryz.prog fX [.slice g 1 (p.pn.map encStr), .str [109,97,105,110]] s (.int .i64 (jf iI 0 p.pn)) s from JU g s)
 generalize hR:p.scope=R
 simp only[Pg.scope]at hR
 unfold S0
 rcases Bool.eq_false_or_eq_true p.may with hb|hb
 case inr=>
  simp only[hb]at hm
  simp only[hb,Bool.false_eq_true,if_false]at hR
  subst hR
  refine aF.go wH rfl fun B Q hB hQ=>?_
  have⟨hD,hY,hZ,gA⟩:=bR
  repeat' (first
 |simp only[go_sem,hD,hY,hZ,gA]
 |(with_reducible refine CU (hm _) ?_)
 |(with_reducible refine aE hQ ?_;exact bd))
 simp only[hb]at hm
 simp only[hb,if_true]at hR
 refine aF.go wH rfl fun B Q hB hQ=>?_
 have⟨hD,hY,hZ,gA⟩:=bR
 repeat' (first
 |simp only[go_sem,hD,hY,hZ,gA]
 |(with_reducible refine CU (hm _) ?_)
 |(with_reducible refine aE hQ ?_;exact bd))
 refine bt.sm 3 1 rfl ?_
 simp only[go_sem,hD,hY,hZ,gA]
 refine fi 2 1 (bt.ind (ι:=List Pc×Nat×List aG×Nat) (fun i=>p.procs.drop i.2.1=i.1∧i.2.2.1++i.1.map (·.name)=p.pn∧i.2.2.2=i.2.2.1.length) (fun i=>i.1.length)
  (fun i=> [(1, .ptr 0 0),(2, .ptr 1 0),(3, .slice (.tok 0) 1 (i.2.2.1.map encStr)),(18, .slice .shared 5 (p.procs.map cu)),(19, .int .i64 (p.procs.length:Int)),(20, .int .i64 (i.2.1:Int))]) (fun i=>⟨[cD p,[.int .i64 0, .int .i64 0]],[some i.2.2.2]⟩) ?_ (p.procs,0,[],0) ⟨rfl,rfl,rfl⟩)
 rintro⟨rest,k,out,n⟩ ⟨h1,h2,h3⟩ IH
 dsimp only at h1 h2 h3
 subst h3
 have hlo:out.length+rest.length≤900000:=by
  have:=congrArg List.length h2
  simp only[List.length_append,List.length_map]at this
  omega
 cases rest with
 |cons a rest=>
  obtain⟨hY,g2,hD,g4⟩:=drop_cons h1
  have bU:k<4611686018427387904:=by omega
  have hZ:(out.length+1)*17≤bC:=by unfold bC;omega
  repeat' (first
 |simp only[go_sem,hD,hY,hZ,gA]
 |(with_reducible refine aE hQ ?_;exact bd))
  refine eY 2 1 ?_ ?_ (IH (rest,k+1,out++ [a.name],out.length+1) ⟨g2,by rw[← h2];simp,by simp⟩ (Nat.lt_succ_self _))
  ·(simp only[go_sem,hD,hY,hZ,gA,aI bU,List.map_append,List.map_cons,List.map_nil,encStr];try exact cj)
  ·(simp only[go_sem,hD,hY,hZ,gA,aI bU,List.map_append,List.map_cons,List.map_nil,encStr];try exact cj)
 | nil=>
  have hD:=drop_nil h1
  simp only[List.map_nil,List.append_nil]at h2
  subst h2
  rcases Bool.eq_false_or_eq_true (fG p.globals)with b1|b1
  ·simp only [b1,Bool.true_or,if_true]at hR
   subst hR
   repeat' (first
 |simp only[go_sem,hD,hY,hZ,gA,b1]
 |(with_reducible refine CU (DI _ _) ?_)
 |(with_reducible refine CU (pL _) ?_)
 |(with_reducible refine CU (Ec _ _) ?_)
 | (with_reducible refine aE hQ ?_;exact bd))
  rcases Bool.eq_false_or_eq_true (fG p.pn)with b2|b2
  ·simp only [b1,b2,Bool.true_or,Bool.or_true,if_true]at hR
   subst hR
   repeat' (first
 |simp only[go_sem,hD,hY,hZ,gA,b1,b2]
 |(with_reducible refine CU (DI _ _) ?_)
 |(with_reducible refine CU (pL _) ?_)
 |(with_reducible refine CU (Ec _ _) ?_)
 | (with_reducible refine aE hQ ?_;exact bd))
  rcases JS iI p.procs 0 with ⟨e1,e2⟩|⟨m,j,e1,e2,e3⟩
  ·have b3:p.tA=true:=by unfold Pg.tA Pg.find;rw [e1]
   have hi:jf iI 0 p.pn = -1:=e2
   simp only[b1,b2,b3,Bool.or_true,if_true]at hR
   subst hR
   simp only[hi]at DI
   have d1:decide ((-1:Int)<0)=true:=by decide
   repeat' (first
 |simp only[go_sem,hD,hY,hZ,gA,b1,b2,d1]
 |(with_reducible refine CU (DI _ _) ?_)
 |(with_reducible refine CU (pL _) ?_)
 |(with_reducible refine CU (Ec _ _) ?_)
 | (with_reducible refine aE hQ ?_;exact bd))
  have hi:jf iI 0 p.pn=((j:Nat):Int):=by rw[show p.pn=p.procs.map (·.name)from rfl];simpa using e3
  simp only[hi]at DI
  have d1:decide (((j:Nat):Int)<0)=false:=by simp
  have hj:j<p.procs.length:=(List.getElem?_eq_some_iff.1 e2).1
  have b3:p.tA=decide ((m.params.length:Int) > 0):=by unfold Pg.tA Pg.find;rw[e1]
  rw[b3]at hR
  rcases Bool.eq_false_or_eq_true (decide ((m.params.length:Int) > 0))with b4|b4
  ·simp only [b1,b2,b4,Bool.or_true,if_true]at hR
   subst hR
   repeat' (first
 |simp only[go_sem,hD,hY,hZ,gA,b1,b2,d1,e2,b4]
 |(with_reducible refine CU (DI _ _) ?_)
 |(with_reducible refine CU (pL _) ?_)
 |(with_reducible refine CU (Ec _ _) ?_)
 |(with_reducible refine aE hQ ?_;exact bd))
  simp only[b1,b2,b4,Bool.or_false,Bool.false_eq_true,if_false]at hR
  repeat' (first
 |simp only[go_sem,hD,hY,hZ,gA,b1,b2,d1,e2,b4]
 |(with_reducible refine CU (DI _ _) ?_)
 |(with_reducible refine CU (pL _) ?_)
 |(with_reducible refine CU (Ec _ _) ?_)
 |(with_reducible refine CU (dh _) ?_)
 | (with_reducible refine aE hQ ?_;exact bd))
  refine fi 2 1 (bt.ind (ι:=List Pc×Nat) (fun i=>p.procs.drop i.2=i.1∧vN p p.pn i.1=R) (fun i=>i.1.length)
   (fun i=> [(1, .ptr 0 0),(2, .ptr 1 0),(3, .slice (.tok 0) 1 (p.pn.map encStr)),(7, .dA (fA p) 0),(57, .slice .shared 5 (p.procs.map cu)),(58, .int .i64 (p.procs.length:Int)),(59, .int .i64 (i.2:Int))]) (fun i=>⟨[cD p,[.int .i64 0, .int .i64 0]],[some p.pn.length]⟩) ?_ (p.procs,0) ⟨rfl,hR⟩)
  clear IH h1 hD hR
  rintro⟨rest,k⟩ ⟨h1,hR⟩ IH
  dsimp only at h1 hR
  cases rest with
  |nil=>
   have hD:=drop_nil h1
   simp only[vN]at hR
   subst hR
   repeat' (first
 |simp only[go_sem,hD,hY,hZ,gA]
 | (with_reducible refine aE hQ ?_;exact bd))
  | cons f rest=>
   obtain⟨hY,g2,hD,g4⟩:=drop_cons h1
   have bU:k<4611686018427387904:=by omega
   have Aq:=List.mem_of_getElem? hY
   have vP:=h.small Aq
   have R8:=fun s=>X3 (f:=f) vP.par vP.vars s
   have jk:f.own.length<4611686018427387904:=by have h1:=vP.par;have h2:=vP.vars;unfold Pc.own Pc.tx;simp;omega
   have hto:=fun s=>DH (l:=f.own) jk .shared s
   have C7:=fun {s:St} {o:Nat} (ho:s.ah[o]? = some (cD p))=>yA (l:=f.own) jk (f:=oP) (row:=cD p) (b:=fw p.globals) (jv p) (by with_unfolding_all rfl) (fun x _=>VC p vP.ui x) ho
   have VD:=fun {s:St} {o:Nat} (ho:s.ah[o]? = some (cD p))=>(show aF Tryz.prog fY [.slice .shared 1 (f.own.map encStr), .gd 130 [.ptr o 0]] s (.bool (f.own.any (fw p.globals))) s from C7 ho)
   simp only[vN,R5,b1,Bool.false_or]at hR
   rcases Bool.eq_false_or_eq_true (fG f.own)with c1|c1
   ·simp only [c1,Bool.true_or,if_true]at hR
    subst hR
    repeat' (first
 |simp only[go_sem,hD,hY,hZ,gA,c1]
 |(with_reducible refine CU (R8 _) ?_)
 |(with_reducible refine CU (hto _) ?_)
 |(with_reducible refine CU (VD (by with_unfolding_all rfl)) ?_)
 | (with_reducible refine aE hQ ?_;exact bd))
   rcases Bool.eq_false_or_eq_true (f.own.any (fw p.globals))with c2|c2
   ·simp only [c1,c2,Bool.false_or,if_true]at hR
    subst hR
    repeat' (first
 |simp only[go_sem,hD,hY,hZ,gA,c1,c2]
 |(with_reducible refine CU (R8 _) ?_)
 |(with_reducible refine CU (hto _) ?_)
 |(with_reducible refine CU (VD (by with_unfolding_all rfl)) ?_)
 | (with_reducible refine aE hQ ?_;exact bd))
   simp only[c1,c2,Bool.or_self,Bool.false_eq_true,if_false]at hR
   obtain⟨it,pO,wV⟩:=Vi hY (by omega)
   rw[← pO]at hR
   have adz:it.length≤900000:=by
    have e:=congrArg List.length pO
    have e2:=(lh p).2 k f hY
    obtain⟨a,b,e',_,_,e3,e4⟩:=e2
    have e5:=pf p
    have e6:=congrArg List.length e3
    rw[e4]at e5
    simp only[List.length_map,List.length_append]at e e5 e6
    omega
   repeat' (first
 |simp only[go_sem,hD,hY,hZ,gA,c1,c2]
 |(with_reducible refine CU (R8 _) ?_)
 |(with_reducible refine CU (hto _) ?_)
 |(with_reducible refine CU (VD (by with_unfolding_all rfl)) ?_)
 |(with_reducible refine CU (wV _) ?_)
 | (with_reducible refine aE hQ ?_;exact bd))
   obtain⟨q,hq⟩ : ∃ q,BG p f p.pn (it.map Im.s)=q:=⟨_,rfl⟩
   rw[hq]at hR
   refine fi 3 1 (bt.ind (ι:=List Im×Nat) (fun i=>it.drop i.2=i.1∧BG p f p.pn (i.1.map Im.s)=q) (fun i=>i.1.length)
    (fun i=> [(1, .ptr 0 0),(2, .ptr 1 0),(3, .slice (.tok 0) 1 (p.pn.map encStr)),(7, .dA (fA p) 0),(9, .ptr 2 0),(57, .slice .shared 5 (p.procs.map cu)),(58, .int .i64 (p.procs.length:Int)),(59, .int .i64 (k:Int)),(76, .slice .shared 17 (it.map dz)),(77, .int .i64 (it.length:Int)),(78, .int .i64 (i.2:Int))]) (fun i=>⟨[cD p,[.int .i64 0, .int .i64 0],cu f],[some p.pn.length]⟩) ?_ (it,0) ⟨rfl,hq⟩)
   rintro⟨B5,n⟩ ⟨j1,j2⟩ X5
   dsimp only at j1 j2
   have Ah:=hD
   cases B5 with
   |nil=>
    have an1:=drop_nil j1
    simp only[List.map_nil,BG]at j2
    subst j2
    simp only at hR
    repeat' (first
 |simp only[go_sem,hD,hY,hZ,gA,an1]
 | (with_reducible refine aE hQ ?_;exact bd))
    refine eY 2 1 ?_ ?_ (IH (rest,k+1) ⟨g2,hR⟩ (Nat.lt_succ_self _))
    ·(simp only[go_sem,hD,hY,hZ,gA,aI bU];try exact cj)
    ·(simp only[go_sem,hD,hY,hZ,gA,aI bU];try exact cj)
   | cons i B5=>
    obtain⟨ph,L4,yC,jg4⟩:=drop_cons j1
    have yD:n<4611686018427387904:=by omega
    have ET:i.s∈Sm.dd f.body:=by rw[← pO];exact List.mem_map_of_mem (List.mem_of_getElem? ph)
    have hkn:=ZO (v:=i.s) vP (procs:=p.pn) (by omega) (h.said Aq _ ET)
    simp only[List.map_cons,BG]at j2
    rcases Bool.eq_false_or_eq_true (i.s.known p f p.pn)with c3|c3
    ·simp only [c3,if_true]at j2
     repeat' (first
 |simp only[go_sem,hD,hY,hZ,gA,yC,ph,c3]
 |(with_reducible refine CU (hkn _ _) ?_)
 | (with_reducible refine aE hQ ?_;exact bd))
     refine eY 3 1 ?_ ?_ (X5 (B5,n+1) ⟨L4,j2⟩ (Nat.lt_succ_self _))
     ·(simp only[go_sem,hD,hY,hZ,gA,aI yD];try exact cj)
     ·(simp only[go_sem,hD,hY,hZ,gA,aI yD];try exact cj)
    ·simp only [c3,Bool.false_eq_true,if_false]at j2
     subst j2
     simp only at hR
     subst hR
     repeat' (first
 |simp only[go_sem,hD,hY,hZ,gA,yC,ph,c3]
 |(with_reducible refine CU (hkn _ _) ?_)
 |(with_reducible refine aE hQ ?_;exact bd))
end Go.Abs
namespace Go.Abs
mutual
def Ex.rK:Ex→Prop
 |⟨_,n,_,kids⟩=>n≤9223372036854775807∧Ex.xE kids
def Ex.xE:List Ex→Prop
 | []=>True
 |x::l=>x.rK∧Ex.xE l
end
mutual
def Sm.rK:Sm→Prop
 |⟨_,_,_,_,_,x,_,args,a8,aS⟩=>x.rK∧(∀ a∈args,a.x.rK)∧Sm.xE a8∧Sm.xE aS
def Sm.xE:List Sm→Prop
 | []=>True
 |s::l=>s.rK∧Sm.xE l
end
def Pg.rK (p:Pg):Prop:=∀ f∈p.procs,Sm.xE f.body
theorem G2 {f:Pc} : ∀ {l:List Pc} {n:Nat},Pc.fk n l=true→f∈l→(isName f.name=true∧fc f.vars=true∧fc f.fin=true∧Pm.fN f.params=true)∧∃ n,(Sm.gB 1 n f.body).1=true
 |g::l,n,h,m=>by
  simp only[Pc.fk]at h
  split at h
  ·cases h
  rename_i c1
  split at h
  ·cases h
  rename_i c2
  split at h
  ·cases h
  rename_i c3
  simp only[Bool.or_eq_true,Bool.not_eq_true',not_or,Bool.not_eq_false]at c1 c2 c3
  rcases List.mem_cons.1 m with rfl|m
  ·exact⟨⟨c1.1.1.2,c1.1.2,c1.2,c2⟩,n,c3⟩
  ·exact G2 h m
mutual
theorem Ph : ∀ (s:Sm) (nest:Int) (n:Nat),(Sm.pU nest n s).1=true→s.size<4611686018427387000→s.wM
 |⟨id,kind,labels,name,proc,x,has,args,a8,aS⟩,nest,n,hm,hs=>by
  obtain⟨_,_,h1,h2,h3,_⟩:=GZ hm
  rw[DF]
  rw[(tv h2).2]at h2
  rw[(tv h3).2]at h3
  refine⟨JO h1 hs,uR a8 _ _ h2 ?_,uR aS _ _ h3 ?_⟩<;>simp only[Sm.size]at hs<;>omega
theorem uR : ∀ (l:List Sm) (nest:Int) (n:Nat),(Sm.fk nest n l).1=true→Sm.a7 l<4611686018427387000→Sm.ku l
 | [],_,_,_,_=>by simp only[Sm.ku]
 |s::l,nest,n,hm,hs=>by
  simp only[Sm.fk]at hm
  simp only[Sm.a7]at hs
  split at hm
  ·cases hm
  rename_i hc
  simp only[Bool.not_eq_true',Bool.not_eq_false]at hc
  exact⟨Ph s nest n hc (by omega),uR l nest _ hm (by omega)⟩
end
theorem R9 {p:Pg} (h:p.may=true) (hs:p.size<4611686018427387000):p.Ib:=by
 have hf:=Vw h hs
 rw[← Ci]at h
 unfold Pg.F3 at h
 split at h
 ·cases h
 refine⟨hf.sz,hf.ui,hf.nX,fun f m=>?_⟩
 obtain⟨_,n,e⟩:=G2 h m
 rw[(tv e).2]at e
 have:=Pc.dm m
 simp only[Pg.size]at hs
 exact uR f.body 1 n e (by unfold Pc.size at this;omega)
set_option maxRecDepth 8000
open Go.Proofs
theorem VE (x:It):(fL x)[1]? = some (.int .i64 x.s.kind):=nd rfl
theorem VF (x:It):(fL x)[3]? = some (.str x.s.name):=nd rfl
theorem VG (x:It):(fL x)[4]? = some (.str x.s.proc):=nd rfl
theorem ZP (x:It):List.take 16 (fL x)=fL x:=nd rfl
attribute [go_sem] VE VF VG ZP
end Go.Abs
namespace Go.Abs
set_option maxRecDepth 8000
open Go.Proofs
def EU:List Pm→List Ar→Bool
 | [],_=>true
 |_,[]=>true
 |a::l,b::m=>if a.ref==b.ref then EU l m else false
def Cm (l:List Pm) (m:List Ar):Bool:=if(l.length:Int)==(m.length:Int)then EU l m else false
def Sm.qm (p:Pg) (v:Sm):Bool:=v.kind==4 && match p.find v.proc with|none=>false|some q=>Cm q.params v.args
theorem adA {l:List Pm} {m:List Ar} (hl:l.length<1000000000) (hm:m.length<1000000000) (s:St):aF Tryz.prog vC [.slice .shared 2 (l.map iH), .slice .shared 6 (m.map eC)] s (.bool (Cm l m)) s:=by
 refine aF.pure ?_ (by simp[D.bL,D.ok,Tag.ok,afS,H6]) rfl s
 generalize h:Cm l m=q
 simp only[Cm]at h
 unfold S0
 have b0:((l.length:Int) != (m.length:Int)) = !((l.length:Int)==(m.length:Int)):=rfl
 rcases Bool.eq_false_or_eq_true ((l.length:Int)==(m.length:Int))with b1|b1
 case inr=>
  rw[b1]at b0
  simp only[b1,Bool.false_eq_true,if_false]at h
  subst h
  refine aF.go yr rfl fun B Q hB hQ=>?_
  have⟨hD,hY,hZ,gA⟩:=bR
  repeat' (first
 |simp only[go_sem,hD,hY,hZ,gA,b0,Bool.not_false]
 |(with_reducible refine aE hQ ?_;exact bd))
 rw[b1]at b0
 simp only[b1,if_true]at h
 have X6:l.length=m.length:=by have:=eq_of_beq b1;omega
 refine aF.go yr rfl fun B Q hB hQ=>?_
 have⟨hD,hY,hZ,gA⟩:=bR
 repeat' (first
 |simp only[go_sem,hD,hY,hZ,gA,b0,Bool.not_true]
 |(with_reducible refine aE hQ ?_;exact bd))
 refine fi 0 0 (bt.ind (ι:=List Pm×List Ar×Nat) (fun i=>l.drop i.2.2=i.1∧m.drop i.2.2=i.2.1∧EU i.1 i.2.1=q) (fun i=>i.1.length)
  (fun i=> [(1, .slice .shared 6 (m.map eC)),(12, .slice .shared 2 (l.map iH)),(13, .int .i64 (l.length:Int)),(14, .int .i64 (i.2.2:Int))]) (fun i=>⟨[],[]⟩) ?_ (l,m,0) ⟨rfl,rfl,h⟩)
 rintro⟨r1,r2,k⟩ ⟨h1,h2,h⟩ IH
 dsimp only at h1 h2 h
 cases r1 with
 |nil=>
  have hD:=drop_nil h1
  simp only[EU]at h
  subst h
  repeat' (first
 |simp only[go_sem,hD,hY,hZ,gA]
 |(with_reducible refine aE hQ ?_;exact bd))
 | cons a r1=>
  obtain⟨hY,g2,hD,g4⟩:=drop_cons h1
  cases r2 with
  |nil=>have:=List.drop_eq_nil_iff.1 h2;omega
  | cons b r2=>
   obtain⟨X7,b2,Pj,_⟩:=drop_cons h2
   have bU:k<4611686018427387904:=by omega
   simp only[EU]at h
   have w1:(true==true)=true:=rfl
   have w2:(false==false)=true:=rfl
   have w3:(true==false)=false:=rfl
   have w4:(false==true)=false:=rfl
   have v1:(true != true)=false:=rfl
   have v2:(false != false)=false:=rfl
   have v3:(true != false)=true:=rfl
   have v4:(false != true)=true:=rfl
   rcases Bool.eq_false_or_eq_true a.ref with ea|ea
   ·rcases Bool.eq_false_or_eq_true b.ref with eb | eb
    ·simp only [ea,eb,w1,w2,if_true]at h
     repeat' (first
 |simp only[go_sem,hD,hY,hZ,gA,X7,Pj,ea,eb,w1,w2,v1,v2]
 | (with_reducible refine aE hQ ?_;exact bd))
     refine eY 0 0 ?_ ?_ (IH (r1,r2,k+1) ⟨g2,b2,h⟩ (Nat.lt_succ_self _))
     ·(simp only[go_sem,hD,hY,hZ,gA,aI bU];try exact cj)
     ·(simp only[go_sem,hD,hY,hZ,gA,aI bU];try exact cj)
    ·simp only [ea,eb,w3,w4,Bool.false_eq_true,if_false]at h
     subst h
     repeat' (first
 |simp only[go_sem,hD,hY,hZ,gA,X7,Pj,ea,eb,w3,w4,v3,v4]
 | (with_reducible refine aE hQ ?_;exact bd))
   ·rcases Bool.eq_false_or_eq_true b.ref with eb | eb
    ·simp only [ea,eb,w3,w4,Bool.false_eq_true,if_false]at h
     subst h
     repeat' (first
 |simp only[go_sem,hD,hY,hZ,gA,X7,Pj,ea,eb,w3,w4,v3,v4]
 | (with_reducible refine aE hQ ?_;exact bd))
    ·simp only [ea,eb,w1,w2,if_true]at h
     repeat' (first
 |simp only[go_sem,hD,hY,hZ,gA,X7,Pj,ea,eb,w1,w2,v1,v2]
 |(with_reducible refine aE hQ ?_;exact bd))
     refine eY 0 0 ?_ ?_ (IH (r1,r2,k+1) ⟨g2,b2,h⟩ (Nat.lt_succ_self _))
     ·(simp only[go_sem,hD,hY,hZ,gA,aI bU];try exact cj)
     ·(simp only[go_sem,hD,hY,hZ,gA,aI bU];try exact cj)
theorem adB {p:Pg} {v:Sm} (h:p.iJ) (hv:v.nz) (s:St):aF Tryz.prog vz [.agg (cD p), .agg (bh v)] s (.bool (v.qm p)) s:=by
 refine aF.pure ?_ (by simp[D.bL,D.ok,jv,rj]) rfl s
 obtain⟨rU,rJ,rI⟩:=h.procs
 have yi:v.args.length<1000000000:=by have:=Ar.eJ v.args;have:=hv.2.2;omega
 generalize hR:v.qm p=R
 simp only[Sm.qm]at hR
 unfold S0
 have b0:(v.kind != 4) = !(v.kind==4):=rfl
 rcases Bool.eq_false_or_eq_true (v.kind==4)with b1|b1
 case inr=>
  rw[b1]at b0
  simp only[b1,Bool.false_and]at hR
  subst hR
  refine aF.go yv rfl fun B Q hB hQ=>?_
  have⟨hD,hY,hZ,gA⟩:=bR
  repeat' (first
 |simp only[go_sem,hD,hY,hZ,gA,b0,Bool.not_false]
 |(with_reducible refine aE hQ ?_;exact bd))
 rw[b1]at b0
 simp only[b1,Bool.true_and,Pg.find]at hR
 refine aF.go yv rfl fun B Q hB hQ=>?_
 have⟨hD,hY,hZ,gA⟩:=bR
 repeat' (first
 |simp only[go_sem,hD,hY,hZ,gA,b0,Bool.not_true]
 |(with_reducible refine aE hQ ?_;exact bd))
 refine fi 2 0 (bt.ind (ι:=List Pc×Nat) (fun i=>p.procs.drop i.2=i.1∧(match iU v.proc i.1 with|none=>false|some q=>Cm q.params v.args)=R) (fun i=>i.1.length)
  (fun i=> [(3, .ptr 1 0),(11, .slice .shared 5 (p.procs.map cu)),(12, .int .i64 (p.procs.length:Int)),(13, .int .i64 (i.2:Int))]) (fun i=>⟨[cD p,bh v],[]⟩) ?_ (p.procs,0) ⟨rfl,hR⟩)
 clear hR
 rintro⟨rest,k⟩ ⟨h1,hR⟩ IH
 dsimp only at h1 hR
 cases rest with
 |nil=>
  have hD:=drop_nil h1
  simp only[iU]at hR
  subst hR
  repeat' (first
 |simp only[go_sem,hD,hY,hZ,gA]
 |(with_reducible refine aE hQ ?_;exact bd))
 | cons a rest=>
  obtain⟨hY,g2,hD,g4⟩:=drop_cons h1
  have bU:k<4611686018427387904:=by omega
  have vP:=h.small (List.mem_of_getElem? hY)
  have X1:=fun s=>adA (l:=a.params) (m:=v.args) (by have:=vP.par;omega) yi s
  simp only[iU]at hR
  rcases Bool.eq_false_or_eq_true (a.name==v.proc)with c1|c1
  ·simp only [c1,if_true]at hR
   subst hR
   repeat' (first
 |simp only[go_sem,hD,hY,hZ,gA,c1]
 |(with_reducible refine CU (X1 _) ?_)
 | (with_reducible refine aE hQ ?_;exact bd))
  ·simp only [c1,Bool.false_eq_true,if_false]at hR
   repeat' (first
 |simp only[go_sem,hD,hY,hZ,gA,c1]
 | (with_reducible refine aE hQ ?_;exact bd))
   refine eY 2 0 ?_ ?_ (IH (rest,k+1) ⟨g2,hR⟩ (Nat.lt_succ_self _))
   ·(simp only[go_sem,hD,hY,hZ,gA,aI bU];try exact cj)
   ·(simp only[go_sem,hD,hY,hZ,gA,aI bU];try exact cj)
def JV (p:Pg):List Sm→Option Sm
 | []=>none
 |v::l=>if v.kind==4 && !(v.qm p)then some v else JV p l
def qe (c:Int):Option Sm→Int×Int
 |some v=>(c,v.id)
 |none=>(0,0)
def Pg.arity (p:Pg):Int×Int:=if p.scope.1==0 then qe 6 (JV p p.pre)else(1,0)
theorem Pg.iJ.pre {p:Pg} (h:p.iJ) : ∀ v∈p.pre,v.nz:=fun v m=>by
 simp only[Pg.pre,List.mem_flatten,List.mem_map]at m
 obtain⟨l,⟨f,hf,rfl⟩,m⟩:=m
 exact h.said hf v m
theorem JW {p:Pg} (h:p.iJ) (s:St):aF Tryz.prog qk [.agg (cD p)] s (.agg [.int .i64 p.arity.1, .int .i64 p.arity.2]) s:=by
 refine aF.pure ?_ (by simp[D.bL,D.ok,jv]) rfl s
 obtain⟨rU,rJ,rI⟩:=h.procs
 have pJ:=fun s=>vO h s
 have dh:=fun s=>Ce (p:=p) (by omega) s
 have hL:=(lh p).1
 have sa:=pf p
 generalize hR:p.arity=R
 simp only[Pg.arity]at hR
 unfold S0
 have b0:(p.scope.1 != 0) = !(p.scope.1==0):=rfl
 rcases Bool.eq_false_or_eq_true (p.scope.1==0)with b1|b1
 case inr=>
  rw[b1]at b0
  simp only[b1,Bool.false_eq_true,if_false]at hR
  subst hR
  refine aF.go wI rfl fun B Q hB hQ=>?_
  have⟨hD,hY,hZ,gA⟩:=bR
  repeat' (first
 |simp only[go_sem,hD,hY,hZ,gA,b0,Bool.not_false]
 |(with_reducible refine CU (pJ _) ?_)
 |(with_reducible refine aE hQ ?_;exact bd))
 rw[b1]at b0
 simp only[b1,if_true, ← hL]at hR
 refine aF.go wI rfl fun B Q hB hQ=>?_
 have⟨hD,hY,hZ,gA⟩:=bR
 repeat' (first
 |simp only[go_sem,hD,hY,hZ,gA,b0,Bool.not_true,nY]
 |(with_reducible refine CU (pJ _) ?_)
 |(with_reducible refine CU (dh _) ?_)
 |(with_reducible refine aE hQ ?_;exact bd))
 refine fi 2 0 (bt.ind (ι:=List Im×Nat) (fun i=>p.aY.L.drop i.2=i.1∧qe 6 (JV p (i.1.map Im.s))=R) (fun i=>i.1.length)
  (fun i=> [(1, .ptr 0 0),(2, .ptr 1 0),(14, .slice .shared 17 (p.aY.L.map dz)),(15, .int .i64 (p.aY.L.length:Int)),(16, .int .i64 (i.2:Int))]) (fun i=>⟨[cD p,[.int .i64 0, .int .i64 0]],[]⟩) ?_ (p.aY.L,0) ⟨rfl,hR⟩)
 clear hR
 rintro⟨rest,k⟩ ⟨h1,hR⟩ IH
 dsimp only at h1 hR
 cases rest with
 |nil=>
  have hD:=drop_nil h1
  simp only[List.map_nil,JV,qe]at hR
  subst hR
  repeat' (first
 |simp only[go_sem,hD,hY,hZ,gA]
 |(with_reducible refine aE hQ ?_;exact bd))
 | cons a rest=>
  obtain⟨hY,g2,hD,g4⟩:=drop_cons h1
  have bU:k<4611686018427387904:=by omega
  have ET:a.s∈p.pre:=by rw[← hL];exact List.mem_map_of_mem (List.mem_of_getElem? hY)
  have L5:=fun s=>adB h (h.pre _ ET) s
  simp only[List.map_cons,JV]at hR
  rcases Bool.eq_false_or_eq_true (a.s.kind==4)with c1|c1
  ·rcases Bool.eq_false_or_eq_true (a.s.qm p)with c2 | c2
   ·simp only [c1,c2,Bool.not_true,Bool.and_false,Bool.false_eq_true,if_false]at hR
    repeat' (first
 |simp only[go_sem,hD,hY,hZ,gA,c1,c2]
 |(with_reducible refine CU (L5 _) ?_)
 | (with_reducible refine aE hQ ?_;exact bd))
    refine eY 2 0 ?_ ?_ (IH (rest,k+1) ⟨g2,hR⟩ (Nat.lt_succ_self _))
    ·(simp only[go_sem,hD,hY,hZ,gA,aI bU];try exact cj)
    ·(simp only[go_sem,hD,hY,hZ,gA,aI bU];try exact cj)
   ·simp only [c1,c2,Bool.not_false,Bool.and_true,if_true,qe]at hR
    subst hR
    repeat' (first
 |simp only[go_sem,hD,hY,hZ,gA,c1,c2]
 |(with_reducible refine CU (L5 _) ?_)
 | (with_reducible refine aE hQ ?_;exact bd))
  ·simp only [c1,Bool.false_and,Bool.false_eq_true,if_false]at hR
   repeat' (first
 |simp only[go_sem,hD,hY,hZ,gA,c1]
 |(with_reducible refine CU (L5 _) ?_)
 | (with_reducible refine aE hQ ?_;exact bd))
   refine eY 2 0 ?_ ?_ (IH (rest,k+1) ⟨g2,hR⟩ (Nat.lt_succ_self _))
   ·(simp only[go_sem,hD,hY,hZ,gA,aI bU];try exact cj)
   ·(simp only[go_sem,hD,hY,hZ,gA,aI bU];try exact cj)
theorem BH {p:Pg} (h:(p.scope.1==0)=true):p.may=true:=by
 unfold Pg.scope at h
 split at h
 ·assumption
 ·cases h
def nB (out:List aG):List aG→aG→Bool→aG×Bool
 | [],c,a=>(c,a)
 |s::l,c,a=>if !(fw out s) && (!a ||bytesLess s c)then nB out l s true else nB out l c a
def Sc (l out:List aG):List aG:=if(nB out l [] false).2 then out++ [(nB out l [] false).1]else out
def pG (l:List aG):Nat→List aG→List aG
 | 0,out=>out
 |n+1,out=>pG l n (Sc l out)
def kl (l:List aG):List aG:=pG l l.length []
end Go.Abs
namespace Go.Proofs
open Go.Shelf
def Tryz.Lp:Go.Shelf.Ren:=⟨fun| 190=>173| 125=>194| 258=>193| 128=>217| 129=>218| 302=>208| 303=>209| 304=>210| 305=>211| 306=>212| 307=>213| 308=>214| 309=>215| 310=>216| 333=>224| 329=>225| 330=>226| 334=>227| 335=>228| 336=>229| 344=>230|n=>n,fun| 31=>22| 9=>9| 3=>3| 46=>208| 0=>0| 51=>227| 53=>194| 4=>4| 183=>220| 182=>219| 131=>139| 5=>5| 218=>231| 222=>235| 228=>237| 229=>238|n=>n,fun|n=>n⟩
theorem Tryz.L6:Go.Proofs.Lays.n190 Tryz.prog Tryz.Lp:= {
 mixed:=by kernel_rfl
 f125:=Tryz.func194.trans (congrArg some (by kernel_rfl))
 f128:=Tryz.func217.trans (congrArg some (by kernel_rfl))
 f129:=Tryz.func218.trans (congrArg some (by kernel_rfl))
 f190:=Tryz.func173.trans (congrArg some (by kernel_rfl))
 f258:=Tryz.func193.trans (congrArg some (by kernel_rfl))
 f302:=Tryz.func208.trans (congrArg some (by kernel_rfl))
 f303:=Tryz.func209.trans (congrArg some (by kernel_rfl))
 f304:=Tryz.func210.trans (congrArg some (by kernel_rfl))
 f305:=Tryz.func211.trans (congrArg some (by kernel_rfl))
 f306:=Tryz.func212.trans (congrArg some (by kernel_rfl))
 f307:=Tryz.func213.trans (congrArg some (by kernel_rfl))
 f308:=Tryz.func214.trans (congrArg some (by kernel_rfl))
 f309:=Tryz.func215.trans (congrArg some (by kernel_rfl))
 f310:=Tryz.func216.trans (congrArg some (by kernel_rfl))
 f329:=Tryz.func225.trans (congrArg some (by kernel_rfl))
 f330:=Tryz.func226.trans (congrArg some (by kernel_rfl))
 f333:=Tryz.func224.trans (congrArg some (by kernel_rfl))
 f334:=Tryz.func227.trans (congrArg some (by kernel_rfl))
 f335:=Tryz.func228.trans (congrArg some (by kernel_rfl))
 f336:=Tryz.func229.trans (congrArg some (by kernel_rfl))
 f344:=Tryz.func230.trans (congrArg some (by kernel_rfl))
 t0:=Tryz.underlying0
 a0:=Tryz.isAgg0
 z0:=Tryz.sizeOf0
 v0:=Tryz.zeroValue0
 t3:=Tryz.underlying3
 a3:=Tryz.isAgg3
 z3:=Tryz.sizeOf3
 v3:=Tryz.zeroValue3
 t4:=Tryz.underlying4
 a4:=Tryz.isAgg4
 z4:=Tryz.sizeOf4
 v4:=Tryz.zeroValue4
 t5:=Tryz.underlying5
 a5:=Tryz.isAgg5
 z5:=Tryz.sizeOf5
 v5:=Tryz.zeroValue5
 t9:=Tryz.underlying9
 a9:=Tryz.isAgg9
 z9:=Tryz.sizeOf9
 v9:=Tryz.zeroValue9
 t31:=Tryz.underlying22
 a31:=Tryz.isAgg22
 z31:=Tryz.sizeOf22
 v31:=Tryz.zeroValue22
 t46:=Tryz.underlying208
 a46:=Tryz.isAgg208
 z46:=Tryz.sizeOf208
 v46:=Tryz.zeroValue208
 t51:=Tryz.underlying227
 a51:=Tryz.isAgg227
 z51:=Tryz.sizeOf227
 v51:=Tryz.zeroValue227
 t53:=Tryz.underlying194
 a53:=Tryz.isAgg194
 z53:=Tryz.sizeOf194
 v53:=Tryz.zeroValue194
 t131:=Tryz.underlying139
 a131:=Tryz.isAgg139
 z131:=Tryz.sizeOf139
 v131:=Tryz.zeroValue139
 t182:=Tryz.underlying219
 a182:=Tryz.isAgg219
 z182:=Tryz.sizeOf219
 v182:=Tryz.zeroValue219
 t183:=Tryz.underlying220
 a183:=Tryz.isAgg220
 z183:=Tryz.sizeOf220
 v183:=Tryz.zeroValue220
 t218:=Tryz.underlying231
 a218:=Tryz.isAgg231
 z218:=Tryz.sizeOf231
 v218:=Tryz.zeroValue231
 t222:=Tryz.underlying235
 a222:=Tryz.isAgg235
 z222:=Tryz.sizeOf235
 v222:=Tryz.zeroValue235
 t228:=Tryz.underlying237
 a228:=Tryz.isAgg237
 z228:=Tryz.sizeOf237
 v228:=Tryz.zeroValue237
 t229:=Tryz.underlying238
 a229:=Tryz.isAgg238
 z229:=Tryz.sizeOf238
 v229:=Tryz.zeroValue238}
open Go.Sort Go.RowKit in
theorem Tryz.slices_Sort_string (BI off cap:Nat) (ss:List (List UInt8)) (w:World) (hH:Holds encStr w BI off ss.toArray) (an2:BI<w.heap.size) (dO:ss.length<4611686018427387904) :
 Calls Tryz.prog 173 #[.slice (some ⟨BI,off,none⟩) ss.length cap] w fun e w'=>
  e = .returned (.tuple #[])∧∃ n os,w'=grow (putRow encStr (Sort.ahead w n) BI off (ss.mergeSort fun x y=>decide (x≤y)).toArray) os:=Any.slices_Sort_string Tryz.L6 BI off cap ss w hH an2 dO
def Tryz.Lq:Go.Shelf.Ren:=⟨fun| 194=>174|n=>n,fun| 31=>22| 9=>9| 3=>3| 4=>4| 0=>0|n=>n,fun|n=>n⟩
theorem Tryz.L7:Go.Proofs.Lays.n194 Tryz.prog Tryz.Lq:= {
 mixed:=by kernel_rfl
 f194:=Tryz.func174.trans (congrArg some (by kernel_rfl))
 t0:=Tryz.underlying0
 a0:=Tryz.isAgg0
 z0:=Tryz.sizeOf0
 v0:=Tryz.zeroValue0
 t3:=Tryz.underlying3
 a3:=Tryz.isAgg3
 z3:=Tryz.sizeOf3
 v3:=Tryz.zeroValue3
 t4:=Tryz.underlying4
 a4:=Tryz.isAgg4
 z4:=Tryz.sizeOf4
 v4:=Tryz.zeroValue4
 t9:=Tryz.underlying9
 a9:=Tryz.isAgg9
 z9:=Tryz.sizeOf9
 v9:=Tryz.zeroValue9
 t31:=Tryz.underlying22
 a31:=Tryz.isAgg22
 z31:=Tryz.sizeOf22
 v31:=Tryz.zeroValue22}
open Go.RowKit Go.Lib Go.Sort in
theorem Tryz.slices_Compact_string (BI off cap:Nat) (zs:List (List UInt8)) (w:World) (hH:Holds encStr w BI off zs.toArray) (dO:zs.length≤9223372036854775807) (tM:zs.length≤cap) :
 Calls Tryz.prog 174 #[.slice (some ⟨BI,off,none⟩) zs.length cap] w fun e w'=>e = .returned (.slice (some ⟨BI,off,none⟩) (Lib.compact zs).length cap)∧∃ q,w'=putRow encStr (Sort.ahead w q) BI off (Lib.compact zs++List.replicate (zs.length - (Lib.compact zs).length) []).toArray:=Any.slices_Compact_string Tryz.L7 BI off cap zs w hH dO tM
open Go.RowKit Go.Lib Go.Sort in
theorem Tryz.slices_Compact_string_empty (a:Option Addr) (cap:Nat) (w:World) :
 Calls Tryz.prog 174 #[.slice a 0 cap] w fun e w'=>e = .returned (.slice a 0 cap)∧w'=w:=Any.slices_Compact_string_empty Tryz.L7 a cap w
open Go.RowKit Go.Sort in
theorem Tryz.slices_Sort_string_none (p:Option Addr) (cap:Nat) (w:World) :
 Calls Tryz.prog 173 #[.slice p 0 cap] w fun e w'=>e = .returned (.tuple #[])∧w'=w:=Any.slices_Sort_string_none Tryz.L6 p cap w
end Go.Proofs
namespace Go.Abs
open Go.Proofs
section
variable {P:Program} {B:fU} {nt:Nat}
theorem ZQ {x:Operand} {t:Nat} (h:cX x=some (.s t)):x = .tmp t:=by
 unfold cX at h
 split at h
 ·cases h;rfl
 ·obtain⟨d,_,h⟩:=map_some h;cases h
 ·cases h
 ·cases h
theorem Pl {ops:Array Oper} {o:Oper} {g g':Option (Nat×Bool)} {dst:Option Nat} {f:Nat} {xs:List X} (h:sC P ops o g=some (.call dst g' f xs)) :
 g'=g∧∃ args mN,o.op = .call ⟨.value (.func f),args,mN⟩∧enters P f=true∧xS args.toList=some xs:=by
 unfold sC at h
 split at h
 ·rename_i f' args mN mM
  split at h
  ·rename_i he
   obtain⟨xs',h1,h2⟩:=map_some h
   cases h2
   exact⟨rfl,args,mN,mM,he,h1⟩
  ·cases h
 ·obtain⟨_,_,h⟩:=map_some h;cases h
 ·split at h
  ·cases h
  ·split at h<;>cases h
theorem Sd {ops:Array Oper} {o:Oper} {tmps:Array Value} (hg:ve ops o.guard=some none):Region.wanted o (yielded ops tmps)=true:=by
 have:o.guard=none:=by
  cases Gp:o.guard with
  |none=>rfl
  |some p=>
   obtain⟨j,b⟩:=p
   rw[Gp]at hg
   unfold ve at hg
   simp only at hg
   split at hg<;>cases hg
 simp[Region.wanted,this]
theorem Sem.adD {a k b f:Nat} {is:List AI} {Q:Exit→Tm→St→Prop} {tm:Tm} {s:St}
 (Pn : ∀ act w,Holds B nt (tm.put (some a) (tm.get k)) s act w→Calls P f #[act.tmps.getD a Go.undef] w fun e w'=>∃ v,e = .returned v∧∃ bx s',Holds B nt bx s' (act.put (some b) v) w'∧iY P is (Q .normal) bx s') :
 Sem P B nt (.run (.op (some a) none (.mv (.s k)):: .call (some b) none f [.s a]::is)) Q tm s:=by
 intro c hc act w hh
 obtain⟨id,ops,rfl,hi⟩:=lH hc
 refine wp_region ?_
 have key : ∀ (l:List Nat) (ol:List Oper),l.map (ops[·]?)=ol.map some→qS P nt ops ol=some (.op (some a) none (.mv (.s k)):: .call (some b) none f [.s a]::is)→wpOps P ops (pQ B nt Q) l act w:=by
  intro l ol hl xo
  match ol,l,hl with
  | [],_,_=>simp[qS]at xo
  |o0::ol,[],hl=>simp at hl
  | o0::ol,j0::l,hl=>
   simp only[List.map_cons,List.cons.injEq]at hl
   obtain⟨hj0,hl⟩:=hl
   unfold qS at xo
   split at xo
   ·rename_i i0 is0 h1 h2
    cases xo
    match ol,l,hl,h2 with
    | [],_,_,h2=>simp[qS]at h2
    |o1::ol,[],hl,_=>simp at hl
    | o1::ol,j1::l,hl,h2=>
     simp only[List.map_cons,List.cons.injEq]at hl
     obtain⟨hj1,hl⟩:=hl
     unfold qS at h2
     split at h2
     ·rename_i i1 is1 h3 h4
      cases h2
      obtain⟨M,e,r,ht,hn,hd⟩:=hh
      have GO:=tc h1
      have G3:=tc h3
      simp only[AI.dst]at GO G3
      refine xn (K':=fun bx s'=>bx=tm.put (some a) (tm.get k)∧s'=s) hj0 h1 r (B.laid.ext e) ht (by simp only[iY,guarded,aJ,X.ev,and_self]) (fun d v s1 w1 M1 hk e1 r1 hv=>?_)
      obtain⟨wk,rfl⟩:=hk
      have hH:=Holds.put e ht hn hd (yc h1) e1 r1 hv
      simp only[AI.dst]at wk
      rw[← GO]at hH ⊢
      rw[wk]at hH
      obtain⟨g,hg,_,hb⟩:=Bi h3
      obtain⟨rfl,args,mN,mM,za,oM⟩:=Pl hb
      simp only[wpOps,hj1,Sd hg,if_true]
      left
      have an3:args.map (act.put (some a) v).eval = #[(act.put (some a) v).tmps.getD a Go.undef]:=by
       have:args.toList = [.tmp a]:=by
        match hA:args.toList with
        | []=>rw[hA]at oM;simp[xS]at oM
        | [x]=>
         rw[hA]at oM
         simp only[xS]at oM
         split at oM
         ·rename_i x' r' hx hr
          cases oM
          rw[ZQ hx]
         ·cases oM
        | x::y::z=>
         rw[hA]at oM
         simp only[xS]at oM
         split at oM
         ·rename_i x' r' hx hr
          cases oM
          split at hr
          ·cases hr
          ·cases hr
         ·cases oM
       have:args = #[.tmp a]:=by rw[← Array.toArray_toList (xs:=args),this]
       rw[this]
       simp only[List.map_toArray,List.map_cons,List.map_nil]
       rfl
      have hex:(execOp (act.put (some a) v).eval o1).run P w1 = .ok (.enter f #[(act.put (some a) v).tmps.getD a Go.undef]) w1:=by
       obtain⟨dst,op,type,pos,after,guard⟩:=o1
       simp only at mM
       subst mM
       rw[← an3]
       exact xi (act.put (some a) v).eval dst f args mN type pos after guard rfl za w1
      unfold Oper.wp
      rw[hex,Oper.upon_enter]
      refine(Pn _ _ hH).mono ?_
      rintro en w' ⟨v',rfl,bx,s',hH',hvc⟩
      rw[← G3]
      exact Be (Q:=Q) l ol _ hl h4 bx s' _ w' hvc hH'
     ·cases h2
   ·cases xo
 exact key _ _ (Bf ops) hi
theorem G4 (hB:B.s = ⟨[],[]⟩) {tm:Tm} {s:St} {act:Act} {w:World} (h:Holds B nt tm s act w) {t:Nat} {l:List aG} (ht:s.aw[t]? = some (some l.length)) {k0:Nat} (hk0:tm.get k0 = .slice (.tok t) 1 (l.map encStr)) :
 (l = []∧∀ k,tm.get k = .slice (.tok t) 1 (l.map encStr)→(act.tmps.getD k Go.undef = .slice none 0 0∨∃ b q,act.tmps.getD k Go.undef = .slice (some ⟨b,q,none⟩) 0 0))∨
 ∃ (b cap:Nat) (vs:Array Value) (T:TypeId),(∀ k,tm.get k = .slice (.tok t) 1 (l.map encStr)→act.tmps.getD k Go.undef = .slice (some ⟨b,0,none⟩) l.length cap)∧l.length≤cap∧w.heap[b]? = some (.cells vs T (0,0))∧vs.size=cap∧B.w.heap.size≤b∧
  ∀ j (hj:j<l.length),vs[j]? = some (.string ⟨⟨l[j]⟩⟩):=by
 obtain⟨M,e,r,hr,_,_⟩:=h
 rcases r.tok t _ ht with ⟨h3,h4⟩|⟨b,cap,z,vs,T,h3,h4,h5,h6,h7⟩
 ·have hl:l = []:=List.eq_nil_of_length_eq_zero h4
  subst hl
  refine .inl ⟨rfl,fun k hk=>?_⟩
  have hv:=hr k
  rw[hk]at hv
  generalize act.tmps.getD k Go.undef=v at hv
  cases hv with
  |iA _ _ cap hc pL=>subst hc;exact .inl rfl
  |slice _ _ _ b q cap hl hs h1 h2 pL=>
   rcases(pL.2 _ ht).2 rfl with ⟨_,h0,_⟩|⟨b',_,kJ⟩
   ·subst h0;exact .inr ⟨b,q,rfl⟩
   ·rw[h3]at kJ;cases kJ
 ·right
  have each : ∀ k,tm.get k = .slice (.tok t) 1 (l.map encStr)→z=1∧act.tmps.getD k Go.undef = .slice (some ⟨b,0,none⟩) l.length cap∧l.length≤cap∧∀ j (hj:j<l.length),∃ u,M.G b j=some u∧RD M s (.str l[j]) u:=by
   intro k hk
   have hv:=hr k
   rw[hk]at hv
   generalize act.tmps.getD k Go.undef=v at hv
   generalize kh:l.map encStr=rows at hv
   cases hv with
   |iA _ _ cap hc pL=>
    have hl:l = []:=by cases l<;>simp at kh;rfl
    subst hl
    rcases(pL.2 _ ht).2 rfl with ⟨h0,_⟩|⟨b',h0,_⟩
    ·rw[h3]at h0;cases h0
    ·cases h0
   | slice _ _ _ b2 q awa hl hs h1 h2 pL=>
    subst kh
    rw[List.length_map]at hl pL
    rcases(pL.2 _ ht).2 rfl with ⟨h0,_⟩|⟨b',hb,kJ⟩
    ·rw[h3]at h0;cases h0
    ·cases hb
     rw[h3]at kJ
     cases kJ
     refine⟨rfl,by rw[List.length_map],hl,fun j hj=>?_⟩
     have e1:(l.map encStr)[j]? = some [.str l[j]]:=by rw[List.getElem?_map,List.getElem?_eq_getElem hj];rfl
     obtain⟨u,hu⟩:=h1 j _ 0 _ e1 rfl
     refine⟨u,by simpa using hu,h2 j _ 0 _ u e1 rfl hu⟩
  obtain⟨rfl,_,tM,mh⟩:=each k0 hk0
  have dh:B.w.heap.size≤b:=by
   rcases e.qo t b cap 1 ⟨_,ht⟩ h3 with ⟨⟨n,hn⟩,_⟩|h
   ·rw[hB]at hn;simp at hn
   ·exact h
  refine⟨b,cap,vs,T,fun k hk=>(each k hk).2.1,tM,h4,by simpa[zs]using h5,dh,fun j hj=>?_⟩
  obtain⟨u,hu,ib⟩:=mh j hj
  have:=(r.comm _ _ _ hu).1
  rw[jh h4,ib.lr]at this
  exact this
theorem JX (hB:B.s = ⟨[],[]⟩) {tm:Tm} {s:St} {act uk:Act} {w w':World} (h:Holds B nt tm s act w) {b cap:Nat} {vs:Array Value} {T:TypeId} (dO:vs.size=cap) (wE:B.w.heap.size≤b)
 (l6 : ∀ q,q<B.w.heap.size→w'.heap[q]? = w.heap[q]?) (ei:w'.heap[b]? = some (.cells vs T (0,0))) (uy:w.heap.size≤w'.heap.size) (uz:w'.os=w.os) (Ec:w'.tape=w.tape) (TB:w'.output=w.output)
 {l:List aG} (hl:l.length≤cap) (mh : ∀ j (hj:j<l.length),vs[j]? = some (.string ⟨⟨l[j]⟩⟩)) {k:Nat} (Po:uk.tmps.getD k Go.undef = .slice (some ⟨b,0,none⟩) l.length cap) (hn:uk.tmps.size=nt) (hd:uk.defers = []) :
 Holds B nt [(k, .slice (.tok 0) 1 (l.map encStr))] ⟨[],[some l.length]⟩ uk w':=by
 obtain⟨M,e,r,hr,_,_⟩:=h
 let M':Map:=⟨fun q o=>if q=b then(if o<l.length then(l[o]?).map fun x=>Value.string ⟨⟨x⟩⟩else none)else B.M.G q o,B.M.loc,fun _=>some (b,cap,1)⟩
 have hGb : ∀ q o v,B.M.G q o=some v→q<B.w.heap.size∧w'.cell? ⟨q,o,none⟩=some v∧v.oneCell'=true:=by
  intro q o v hq
  obtain⟨h1,h2⟩:=r.comm q o v (e.le.G q o v hq)
  have hD:=B.CW q o v hq
  refine⟨hD, ?_,h2⟩
  rw[← h1]
  simp[World.cell?,l6 q hD]
 have gV : ∀ j (hj:j<l.length),w'.cell? ⟨b,j,none⟩=some (.string ⟨⟨l[j]⟩⟩):=fun j hj=>by rw[jh ei];exact mh j hj
 have hY : ∀ (j:Nat) v,(if j<l.length then(l[j]?).map fun x=>Value.string ⟨⟨x⟩⟩else none)=some v→∃ hj:j<l.length,v = .string ⟨⟨l[j]⟩⟩:=by
  intro j v hv
  split at hv
  ·rename_i hj
   rw[List.getElem?_eq_getElem hj]at hv
   exact⟨hj,by simpa using hv.symm⟩
  ·cases hv
 refine⟨M',⟨⟨fun q o v hq=>?_,by simp[hB],fun o ho=> .refl _,by rw[hB];exact Nat.zero_le _,fun t n' ht _=>by rw[hB]at ht;exact absurd ht (Nat.not_lt_zero _)⟩,fun q hq _ _=>?_,fun o _ h2=>absurd h2 (Nat.not_lt_zero _),fun t q c z _ hb=>?_,fun q o eO=>?_,Nat.le_trans e.size uy,uz.trans e.os,Ec.trans e.tape,TB.trans e.output⟩,
  ⟨fun q o v hq=>?_,fun o ds ho=>by simp at ho,fun o ho=>absurd ho (Nat.not_lt_zero _),fun o o' ho=>absurd ho (Nat.not_lt_zero _),fun t n ht=>?_,fun t q c z o _ _ ho=>absurd ho (Nat.not_lt_zero _),fun t t' q c z c' z' vJ iX _ _=>?_⟩,fun u=>?_,hn,hd⟩
 ·show(if q=b then _ else B.M.G q o)=some v
  rw[if_neg (by have:=(hGb q o v hq).1;omega)]
  exact hq
 ·rw [l6 q hq]
  exact e.kept q hq (fun o ho=>by rw[hB]at ho;exact absurd ho (Nat.not_lt_zero _)) (fun t c z iX=>by rw[hB]at iX;obtain⟨n,vL⟩:=iX;simp at vL)
 ·cases hb;exact .inr wE
 ·by_cases hq:q=b
  ·subst hq;exact .inl wE
  ·exact absurd (show(if q=b then _ else B.M.G q o)=B.M.G q o from if_neg hq) eO
 ·have mL:(if q=b then(if o<l.length then(l[o]?).map fun x=>Value.string ⟨⟨x⟩⟩else none)else B.M.G q o)=some v:=hq
  by_cases hqb:q=b
  ·rw [if_pos hqb]at mL
   obtain⟨hj,rfl⟩:=hY o v mL
   rw[hqb]
   exact⟨gV o hj,rfl⟩
  ·rw [if_neg hqb]at mL
   exact(hGb q o v mL).2
 ·match t with
  | 0=>
   simp at ht
   subst ht
   refine .inr ⟨b,cap,1,vs,T,rfl,ei,by simp[zs,dO],hl,fun off ho=>?_,fun h=>by cases h⟩
   show(if b=b then(if off<l.length then _ else none)else B.M.G b off)=none
   rw[if_pos rfl,if_neg (by simp[zs]at ho;omega)]
  |t+1=>simp at ht
 ·obtain⟨n1,h1⟩:=vJ
  obtain⟨n2,h2⟩:=iX
  have a1:=(List.getElem?_eq_some_iff.1 h1).1
  have a2:=(List.getElem?_eq_some_iff.1 h2).1
  simp at a1 a2
  omega
 ·simp only [Tm.get]
  split
  ·rename_i hku
   subst hku
   rw[Po]
   have:=RD.slice (M:=M') (s:=⟨[],[some l.length]⟩) (.tok 0) 1 (l.map encStr) b 0 cap (by simpa using hl) (fun row hr=>by
    obtain⟨x,_,rfl⟩:=List.mem_map.1 hr;rfl) (fun i row j d e1 e2=>?_) (fun i row j d u e1 e2 eu=>?_) ⟨by simp,fun n vL=>by
    simp at vL
    subst vL
    exact⟨by simp,fun _=> .inr ⟨b,rfl,rfl⟩⟩⟩
   ·simpa using this
   ·rw [List.getElem?_map]at e1
    cases Aj:l[i]? with
    |none=>rw[Aj]at e1;cases e1
    |some x=>
     have qJ:=(List.getElem?_eq_some_iff.1 Aj).1
     rw[Aj]at e1
     cases e1
     have hj:j=0:=by cases j with|zero=>rfl|succ j=>simp[encStr]at e2
     subst hj
     refine⟨.string ⟨⟨x⟩⟩, ?_⟩
     show(if b=b then(if 0+(i*1+0)<l.length then _ else none)else _)=_
     rw[if_pos rfl,if_pos (by omega)]
     simp[Aj]
   ·rw [List.getElem?_map]at e1
    cases Aj:l[i]? with
    |none=>rw[Aj]at e1;cases e1
    |some x=>
     have qJ:=(List.getElem?_eq_some_iff.1 Aj).1
     rw[Aj]at e1
     cases e1
     have hj:j=0:=by cases j with|zero=>rfl|succ j=>simp[encStr]at e2
     subst hj
     have Ep:(if b=b then(if 0+(i*1+0)<l.length then(l[0+(i*1+0)]?).map fun x=>Value.string ⟨⟨x⟩⟩else none)else B.M.G b (0+(i*1+0)))=some u:=eu
     rw[if_pos rfl,if_pos (by omega)]at Ep
     simp[Aj]at Ep
     subst Ep
     simp[encStr]at e2
     subst e2
     exact .str x
  ·exact .junk _
theorem L8 (hB:B.s = ⟨[],[]⟩) {tm:Tm} {s:St} {act uk:Act} {w:World} (h:Holds B nt tm s act w) {k:Nat} (Po:uk.tmps.getD k Go.undef = .slice none 0 0∨∃ b q,uk.tmps.getD k Go.undef = .slice (some ⟨b,q,none⟩) 0 0) (hn:uk.tmps.size=nt) (hd:uk.defers = []) :
 Holds B nt [(k, .slice (.tok 0) 1 (([] : List aG).map encStr))] ⟨[],[some 0]⟩ uk w:=by
 obtain⟨M,e,r,hr,_,_⟩:=h
 let M':Map:=⟨B.M.G,B.M.loc,fun _=>none⟩
 refine⟨M',⟨⟨fun q o v hq=>hq,by simp[hB],fun o ho=> .refl _,by rw[hB];exact Nat.zero_le _,fun t n' ht _=>by rw[hB]at ht;exact absurd ht (Nat.not_lt_zero _)⟩,fun q hq _ _=>?_,fun o _ h2=>absurd h2 (Nat.not_lt_zero _),fun t q c z _ hb=>(by cases hb),fun q o eO=>absurd rfl eO,e.size,e.os,e.tape,e.output⟩,
  ⟨fun q o v hq=>r.comm q o v (e.le.G q o v hq),fun o ds ho=>by simp at ho,fun o ho=>absurd ho (Nat.not_lt_zero _),fun o o' ho=>absurd ho (Nat.not_lt_zero _),fun t n ht=>?_,fun t q c z o _ _ ho=>absurd ho (Nat.not_lt_zero _),fun t t' q c z c' z' vJ iX h1 _=>by cases h1⟩,fun u=>?_,hn,hd⟩
 ·exact e.kept q hq (fun o ho=>by rw[hB]at ho;exact absurd ho (Nat.not_lt_zero _)) (fun t c z iX=>by rw[hB]at iX;obtain⟨n,vL⟩:=iX;simp at vL)
 ·match t with
  | 0=>simp at ht;subst ht;exact .inl ⟨rfl,rfl⟩
  |t+1=>simp at ht
 ·simp only [Tm.get]
  split
  ·rename_i hku
   subst hku
   have pL : ∀ base,iP M' ⟨[],[some 0]⟩ (.tok 0) 1 0 base 0:=fun base=>⟨by simp,fun n vL=>by
    simp at vL
    subst vL
    exact⟨Nat.le_refl _,fun _=> .inl ⟨rfl,rfl,fun h=>by cases h⟩⟩⟩
   rcases Po with h|⟨b,q,h⟩
   ·rw[h];exact .iA _ _ 0 rfl (pL none)
   ·rw[h];exact .slice (.tok 0) 1 [] b q 0 (Nat.le_refl _) (by simp) (by simp) (by simp) (pL _)
  ·exact .junk _
theorem JY {α:Type} [Inhabited α] (enc:α→Value) (d:Array α) (c:Array Value) (j:Nat):(Sort.putCells enc 0 d c)[j]? = if j<d.size then(c[j]?).map fun _=>enc d[j]! else c[j]? :=by
 simp only[Sort.putCells,Array.getElem?_mapIdx]
 cases h:c[j]? with
 |none=>simp
 |some x=>by_cases hj:j<d.size<;>simp[hj]
theorem G5 {w:World} {b n cap:Nat} {vs:Array Value} {T:TypeId} (ei:w.heap[b]? = some (.cells vs T (0,0))) (dO:vs.size=cap) (l:List aG) (hl:l.length≤cap) (os:Array Obj) :
 (∀ q,q≠b→q<w.heap.size→(Sort.grow (Sort.putRow Go.Proofs.encStr (Sort.ahead w n) b 0 l.toArray) os).heap[q]? = w.heap[q]?)∧
 (Sort.grow (Sort.putRow Go.Proofs.encStr (Sort.ahead w n) b 0 l.toArray) os).heap[b]? = some (.cells (Sort.putCells Go.Proofs.encStr 0 l.toArray vs) T (0,0))∧w.heap.size≤(Sort.grow (Sort.putRow Go.Proofs.encStr (Sort.ahead w n) b 0 l.toArray) os).heap.size∧
 (Sort.putCells Go.Proofs.encStr 0 l.toArray vs).size=cap∧∀ j (hj:j<l.length),(Sort.putCells Go.Proofs.encStr 0 l.toArray vs)[j]? = some (.string ⟨⟨l[j]⟩⟩):=by
 have hb:b<w.heap.size:=(Array.getElem?_eq_some_iff.1 ei).1
 refine⟨fun q hq hD=>?_, ?_, ?_, ?_,fun j hj=>?_⟩
 ·simp only [Sort.grow,Sort.putRow,Sort.mapBlock,Sort.ahead]
  rw[Array.getElem?_append_left (by simpa using hD),Array.getElem?_modify]
  simp[Ne.symm hq]
 ·simp only [Sort.grow,Sort.putRow,Sort.mapBlock,Sort.ahead]
  rw[Array.getElem?_append_left (by simpa using hb),Array.getElem?_modify]
  simp[ei,Sort.onCells]
 ·simp[Sort.grow,Sort.putRow,Sort.mapBlock,Sort.ahead]
 ·simp[Sort.putCells,dO]
 ·rw [JY]
  have h1:j<l.toArray.size:=by simpa using hj
  have h2:vs[j]? = some vs[j]:=Array.getElem?_eq_getElem (by omega)
  rw[if_pos h1,h2]
  simp[hj]
def mw (l:List aG):List aG:=l.mergeSort fun x y=>decide (x≤y)
theorem JZ {act:Act} {b:Nat} {v:Value} {u:Nat} (h:u≠b):(act.put (some b) v).tmps.getD u Go.undef=act.tmps.getD u Go.undef:=by
 simp only[Act.put,Array.getD_eq_getD_getElem?]
 rw[Array.getElem?_setIfInBounds_ne (fun e=>h e.symm)]
theorem G6 {act:Act} {b:Nat} {v:Value} (h:b<act.tmps.size):(act.put (some b) v).tmps.getD b Go.undef=v:=by
 simp only[Act.put,Array.getD_eq_getD_getElem?]
 simp[h]
theorem Sem.sort (hB:B.s = ⟨[],[]⟩) {a k b t:Nat} {l:List aG} {is:List AI} {Q:Exit→Tm→St→Prop} {tm:Tm} {s:St} (hak:a≠k) (hbk:b≠k) (X0:a≠b)
 (hk:tm.get k = .slice (.tok t) 1 (l.map encStr)) (ht:s.aw[t]? = some (some l.length)) (hl:l.length<4611686018427387904)
 (h:iY Tryz.prog is (Q .normal) [(k, .slice (.tok 0) 1 ((mw l).map encStr))] ⟨[],[some l.length]⟩) :
 Sem Tryz.prog B nt (.run (.op (some a) none (.mv (.s k)):: .call (some b) none jy [.s a]::is)) Q tm s:=by
 refine Sem.adD fun act w hh=>?_
 have Af:(tm.put (some a) (tm.get k)).get k = .slice (.tok t) 1 (l.map encStr):=by rw[Tm.lz,if_neg (by simpa using hak)];exact hk
 have J0:(tm.put (some a) (tm.get k)).get a = .slice (.tok t) 1 (l.map encStr):=by rw[Tm.lz,if_pos rfl];exact hk
 have EV:(mw l).length=l.length:=List.length_mergeSort l
 have hn:(act.put (some b) (.tuple #[])).tmps.size=nt:=by obtain⟨_,_,_,_,h1,_⟩:=hh;simpa[Act.put]using h1
 have hd:(act.put (some b) (.tuple #[])).defers = []:=by obtain⟨_,_,_,_,_,h1⟩:=hh;simpa[Act.put]using h1
 have dO:(act.tmps).size=nt:=by obtain⟨_,_,_,_,h1,_⟩:=hh;exact h1
 rcases G4 hB hh ht J0 with ⟨rfl,hv⟩|⟨b',cap,vs,T,hv,tM,ei,oY,wE,mh⟩
 ·rw [show mw [] = [] by simp [mw]]at h
  have call : ∀ p,act.tmps.getD a Go.undef = .slice p 0 0→Calls Tryz.prog jy #[act.tmps.getD a Go.undef] w fun e w'=>∃ v,e = .returned v∧∃ bx s',Holds B nt bx s' (act.put (some b) v) w'∧iY Tryz.prog is (Q .normal) bx s':=by
   intro p hp
   rw[hp]
   refine(Tryz.slices_Sort_string_none p 0 w).mono ?_
   rintro e w' ⟨rfl,rfl⟩
   refine⟨_,rfl,_,_,L8 hB hh (k:=k) ?_ hn hd,h⟩
   rw[JZ (Ne.symm hbk)]
   exact hv k Af
  rcases hv a J0 with h1|⟨b',q,h1⟩
  ·exact call _ h1
  ·exact call _ h1
 ·rw [hv a J0]
  have hD:b'<w.heap.size:=(Array.getElem?_eq_some_iff.1 ei).1
  refine(Tryz.slices_Sort_string b' 0 cap l w (fun j hj=>?_) hD hl).mono ?_
  ·have Se:j<l.length:=by simpa using hj
   refine⟨?_,by simp[World.frozen?,ei]⟩
   rw[Nat.zero_add,jh ei,mh j Se]
   simp[Se]
  ·rintro e w' ⟨rfl,n,os,rfl⟩
   obtain⟨p1,p2,p3,p4,p5⟩:=G5 (n:=n) ei oY (mw l) (by omega) os
   have hH:=JX hB hh (uk:=act.put (some b) (.tuple #[])) (l:=mw l) (k:=k) p4 wE (fun q hq=>p1 q (by omega) (by obtain⟨M,e,_⟩:=hh;exact Nat.lt_of_lt_of_le hq e.size)) p2 p3 rfl rfl rfl (by omega) p5 (by rw[JZ (Ne.symm hbk),hv k Af,EV]) hn hd
   rw[EV]at hH
   exact⟨_,rfl,_,_,hH,h⟩
theorem Lr (l:List aG):(Lib.compact l).length≤l.length:=by
 unfold Lib.compact Lib.compactUpTo
 rw[List.length_map]
 exact Nat.le_trans (List.length_filter_le _ _) (by simp)
theorem Sem.compact (hB:B.s = ⟨[],[]⟩) {a k b t:Nat} {l:List aG} {is:List AI} {Q:Exit→Tm→St→Prop} {tm:Tm} {s:St} (hbt:b<nt)
 (hk:tm.get k = .slice (.tok t) 1 (l.map encStr)) (ht:s.aw[t]? = some (some l.length)) (hl:l.length<4611686018427387904)
 (h:iY Tryz.prog is (Q .normal) [(b, .slice (.tok 0) 1 ((Lib.compact l).map encStr))] ⟨[],[some (Lib.compact l).length]⟩) :
 Sem Tryz.prog B nt (.run (.op (some a) none (.mv (.s k)):: .call (some b) none jS [.s a]::is)) Q tm s:=by
 refine Sem.adD fun act w hh=>?_
 have J0:(tm.put (some a) (tm.get k)).get a = .slice (.tok t) 1 (l.map encStr):=by rw[Tm.lz,if_pos rfl];exact hk
 have dO:(act.tmps).size=nt:=by obtain⟨_,_,_,_,h1,_⟩:=hh;exact h1
 have hn : ∀ v,(act.put (some b) v).tmps.size=nt:=fun v=>by simpa[Act.put]using dO
 have hd : ∀ v,(act.put (some b) v).defers = []:=by obtain⟨_,_,_,_,_,h1⟩:=hh;intro v;simpa[Act.put]using h1
 rcases G4 hB hh ht J0 with ⟨rfl,hv⟩|⟨b',cap,vs,T,hv,tM,ei,oY,wE,mh⟩
 ·rw [show Lib.compact ([] : List aG) = []from rfl]at h
  have call : ∀ p,act.tmps.getD a Go.undef = .slice p 0 0→(p=none∨∃ b q,p=some ⟨b,q,none⟩)→Calls Tryz.prog jS #[act.tmps.getD a Go.undef] w fun e w'=>∃ v,e = .returned v∧∃ bx s',Holds B nt bx s' (act.put (some b) v) w'∧iY Tryz.prog is (Q .normal) bx s':=by
   intro p hp hq
   rw[hp]
   refine(Tryz.slices_Compact_string_empty p 0 w).mono ?_
   rintro e w' ⟨rfl,rfl⟩
   refine⟨_,rfl,_,_,L8 hB hh (k:=b) ?_ (hn _) (hd _),h⟩
   rw[G6 (by omega)]
   rcases hq with rfl|⟨x,y,rfl⟩
   ·exact .inl rfl
   ·exact .inr ⟨x,y,rfl⟩
  rcases hv a J0 with h1|⟨b',q,h1⟩
  ·exact call _ h1 (.inl rfl)
  ·exact call _ h1 (.inr ⟨b',q,rfl⟩)
 ·rw [hv a J0]
  have oK:(Lib.compact l).length≤l.length:=Lr l
  refine(Tryz.slices_Compact_string b' 0 cap l w (fun j hj=>?_) (by omega) tM).mono ?_
  ·have Se:j<l.length:=by simpa using hj
   refine⟨?_,by simp[World.frozen?,ei]⟩
   rw[Nat.zero_add,jh ei,mh j Se]
   simp[Se]
  ·rintro e w' ⟨rfl,q,rfl⟩
   obtain⟨p1,p2,p3,p4,p5⟩:=G5 (n:=q) ei oY (Lib.compact l++List.replicate (l.length - (Lib.compact l).length) []) (by simp;omega) #[]
   rw[Sort.grow_empty]at p1 p2 p3
   have hH:=JX hB hh (uk:=act.put (some b) (.slice (some ⟨b',0,none⟩) (Lib.compact l).length cap)) (l:=Lib.compact l) (k:=b) p4 wE (fun q hq=>p1 q (by omega) (by obtain⟨M,e,_⟩:=hh;exact Nat.lt_of_lt_of_le hq e.size)) p2 p3 rfl rfl rfl (by omega)
    (fun j hj=>by
     have:=p5 j (by simp;omega)
     rw[List.getElem_append_left hj]at this
     exact this) (G6 (by omega)) (hn _) (hd _)
   exact⟨_,rfl,_,_,hH,h⟩
end
end Go.Abs
namespace Go.Abs
theorem EW {a b:UInt8} : a<b↔a.toNat<b.toNat:=UInt8.lt_iff_toNat_lt
theorem yF : ∀ a:aG,bytesLess a a=false
 | []=>rfl
 |x::a=>by
  show Go.Op.bytesLess (x::a) (x::a)=false
  have h:=yF a
  have h:Go.Op.bytesLess a a=false:=h
  simp[Go.Op.bytesLess,h]
theorem yG : ∀ a b:aG,bytesLess a b=true∨a=b∨bytesLess b a=true
 | [],[]=> .inr (.inl rfl)
 | [],y::b=> .inl rfl
 |x::a,[]=> .inr (.inr rfl)
 | x::a,y::b=>by
  show Go.Op.bytesLess (x::a) (y::b)=true∨_∨Go.Op.bytesLess (y::b) (x::a)=true
  have h:Go.Op.bytesLess a b=true∨a=b∨Go.Op.bytesLess b a=true:=yG a b
  simp only[Go.Op.bytesLess,Bool.or_eq_true,Bool.and_eq_true,decide_eq_true_eq,beq_iff_eq,List.cons.injEq]
  by_cases e:x=y
  ·subst e
   rcases h with h|h|h
   ·exact .inl (.inr ⟨rfl,h⟩)
   ·exact .inr (.inl ⟨rfl,h⟩)
   ·exact .inr (.inr (.inr ⟨rfl,h⟩))
  ·have:x.toNat≠y.toNat:=fun h=>e (UInt8.toNat_inj.1 h)
   rcases Nat.lt_or_gt_of_ne this with h|h
   ·exact .inl (.inl (EW.2 h))
   ·exact .inr (.inr (.inl (EW.2 h)))
theorem EX : ∀ a b c:aG,bytesLess a b=true→bytesLess b c=true→bytesLess a c=true
 |a,b,[],h1,h2=>by cases b<;>cases h2
 |a,[],z::c,h1,h2=>by cases a<;>cases h1
 | [],y::b,z::c,h1,h2=>rfl
 | x::a,y::b,z::c,h1,h2=>by
  have h1:Go.Op.bytesLess (x::a) (y::b)=true:=h1
  have h2:Go.Op.bytesLess (y::b) (z::c)=true:=h2
  show Go.Op.bytesLess (x::a) (z::c)=true
  simp only[Go.Op.bytesLess,Bool.or_eq_true,Bool.and_eq_true,decide_eq_true_eq,beq_iff_eq]at h1 h2 ⊢
  rcases h1 with e1|⟨i1,e1⟩
  ·rcases h2 with e2 | ⟨i2,e2⟩
   ·exact .inl (EW.2 (Nat.lt_trans (EW.1 e1) (EW.1 e2)))
   ·exact .inl (i2 ▸ e1)
  ·rcases h2 with e2 | ⟨i2,e2⟩
   ·exact .inl (i1 ▸ e2)
   ·exact .inr ⟨i1.trans i2,EX a b c e1 e2⟩
def BJ (l:List aG):Prop:=l.Pairwise fun a b=>bytesLess a b=true
theorem xF : ∀ {a b:List aG},BJ a→BJ b→(∀ x,x∈a↔x∈b)→a=b
 | [],[],_,_,_=>rfl
 | [],y::b,_,_,h=>absurd ((h y).2 List.mem_cons_self) (by simp)
 |x::a,[],_,_,h=>absurd ((h x).1 List.mem_cons_self) (by simp)
 | x::a,y::b,h1,h2,h=>by
  obtain⟨g1,g2⟩:=List.pairwise_cons.1 h1
  obtain⟨g3,g4⟩:=List.pairwise_cons.1 h2
  have e:x=y:=by
   rcases List.mem_cons.1 ((h x).1 List.mem_cons_self)with e|m
   ·exact e
   ·rcases List.mem_cons.1 ((h y).2 List.mem_cons_self)with e | m'
    ·exact e.symm
    ·have:=EX _ _ _ (g3 x m) (g1 y m');rw[yF]at this;cases this
  subst e
  rw[xF g2 g4 fun z=>?_]
  constructor
  ·intro m
   rcases List.mem_cons.1 ((h z).1 (List.mem_cons_of_mem _ m))with e|m'
   ·subst e;have:=g1 z m;rw[yF]at this;cases this
   ·exact m'
  ·intro m
   rcases List.mem_cons.1 ((h z).2 (List.mem_cons_of_mem _ m))with e|m'
   ·subst e;have:=g3 z m;rw[yF]at this;cases this
   ·exact m'
theorem uS (out:List aG) : ∀ (l:List aG) (c:aG) (a:Bool),
 let q:=nB out l c a
 (q.2=false↔a=false∧∀ x∈l,x∈out)∧(q.2=true→((a=true∧q.1=c)∨(q.1∈l∧q.1∉out))∧(a=true→bytesLess c q.1=false)∧∀ x∈l,x∉out→bytesLess x q.1=false)
 | [],c,a=>by
  simp only[nB]
  refine⟨by simp,fun h=>⟨.inl ⟨h,by trivial⟩,fun _=>yF c,fun x m=>(by cases m)⟩⟩
 | s::l,c,a=>by
  simp only[nB]
  by_cases h1:fw out s=true
  ·have m:=(jg _ _).1 h1
   simp only[h1,Bool.not_true,Bool.false_and,Bool.false_eq_true,if_false]
   obtain⟨k1,k2⟩:=uS out l c a
   refine⟨k1.trans ⟨fun h=>⟨h.1,fun x hx=>?_⟩,fun h=>⟨h.1,fun x hx=>h.2 x (List.mem_cons_of_mem _ hx)⟩⟩,fun h=>?_⟩
   ·rcases List.mem_cons.1 hx with rfl | hx
    ·exact m
    ·exact h.2 x hx
   ·obtain⟨g1,g2,g3⟩:=k2 h
    refine⟨g1.imp_right fun h=>⟨List.mem_cons_of_mem _ h.1,h.2⟩,g2,fun x hx hn=>?_⟩
    rcases List.mem_cons.1 hx with rfl|hx
    ·exact absurd m hn
    ·exact g3 x hx hn
  ·have m:s∉out:=fun m=>h1 ((jg _ _).2 m)
   have rX:fw out s=false:=by simpa using h1
   by_cases h2:(!a ||bytesLess s c)=true
   ·simp only [rX,h2,Bool.not_false,Bool.and_self,if_true]
    obtain⟨k1,k2⟩:=uS out l s true
    refine⟨⟨fun h=>absurd (k1.1 h).1 (by simp),fun h=>absurd (h.2 s List.mem_cons_self) m⟩,fun h=>?_⟩
    obtain⟨g1,g2,g3⟩:=k2 h
    have g4:=g2 rfl
    refine⟨.inr ?_,fun ha=>?_,fun x hx hn=>?_⟩
    ·rcases g1 with ⟨_,e⟩ | g1
     ·rw[e];exact⟨List.mem_cons_self,m⟩
     ·exact⟨List.mem_cons_of_mem _ g1.1,g1.2⟩
    ·have h3:bytesLess s c=true:=by simpa [ha]using h2
     cases hh:bytesLess c (nB out l s true).1
     ·rfl
     ·have:=EX _ _ _ h3 hh;rw[g4]at this;cases this
    ·rcases List.mem_cons.1 hx with rfl | hx
     ·exact g4
     ·exact g3 x hx hn
   ·have uA:(!a || bytesLess s c)=false:=by simpa using h2
    have ha:a=true:=by cases a<;>simp_all
    have h3:bytesLess s c=false:=by cases a<;>simp_all
    simp only[rX,uA,Bool.not_false,Bool.and_false,Bool.false_eq_true,if_false]
    obtain⟨k1,k2⟩:=uS out l c a
    refine⟨⟨fun h=>absurd (k1.1 h).1 (by simp[ha]),fun h=>absurd h.1 (by simp[ha])⟩,fun h=>?_⟩
    obtain⟨g1,g2,g3⟩:=k2 h
    refine⟨g1.imp_right fun h=>⟨List.mem_cons_of_mem _ h.1,h.2⟩,g2,fun x hx hn=>?_⟩
    rcases List.mem_cons.1 hx with rfl|hx
    ·cases hh:bytesLess x (nB out l c a).1
     ·rfl
     ·have g4:=g2 ha
      rcases yG x c with e|e|e
      ·rw[h3]at e;cases e
      ·subst e;rw[g4]at hh;cases hh
      ·have:=EX _ _ _ e hh;rw[g4]at this;cases this
    ·exact g3 x hx hn
theorem xG (l:List aG) : ∀ (n:Nat) (out:List aG),BJ out→(∀ x∈out,x∈l)→(∀ x∈out,∀ y∈l,y∉out→bytesLess x y=true)→
 BJ (pG l n out)∧(∀ x∈pG l n out,x∈l)∧(∀ x∈out,x∈pG l n out)∧((∀ x∈l,x∈pG l n out)∨(pG l n out).length=out.length+n)
 | 0,out,h1,h2,h3=>⟨h1,h2,fun x m=>m, .inr rfl⟩
 | n+1,out,h1,h2,h3=>by
  simp only[pG,Sc]
  obtain⟨k1,k2⟩:=uS out l [] false
  cases hq:(nB out l [] false).2
  ·simp only [Bool.false_eq_true,if_false]
   obtain⟨g1,g2,g3,g4⟩:=xG l n out h1 h2 h3
   exact⟨g1,g2,g3, .inl fun x m=>g3 x ((k1.1 hq).2 x m)⟩
  ·simp only [if_true]
   obtain⟨g1,_,g3⟩:=k2 hq
   have g1:(nB out l [] false).1∈l∧(nB out l [] false).1∉out:=by
    rcases g1 with ⟨h,_⟩|g1
    ·cases h
    ·exact g1
   generalize (nB out l [] false).1=c at g1 g3
   obtain⟨r1,r2,r3,r4⟩:=xG l n (out++ [c])
    (by
     refine List.pairwise_append.2 ⟨h1,by simp,fun x hx y hy=>?_⟩
     have:y=c:=by simpa using hy
     subst this
     exact h3 x hx y g1.1 g1.2)
    (fun x hx=>by
     rcases List.mem_append.1 hx with hx|hx
     ·exact h2 x hx
     ·have:x=c:=by simpa using hx
      subst this;exact g1.1)
    (fun x hx y hy hn=>by
     have hyo:y∉out:=fun m=>hn (List.mem_append_left _ m)
     have hyc:y≠c:=fun e=>hn (List.mem_append_right _ (by simp[e]))
     rcases List.mem_append.1 hx with hx|hx
     ·exact h3 x hx y hy hyo
     ·have:x=c:=by simpa using hx
      subst this
      rcases yG x y with h|h|h
      ·exact h
      ·exact absurd h.symm hyc
      ·rw[g3 y hy hyo]at h;cases h)
   refine⟨r1,r2,fun x m=>r3 x (List.mem_append_left _ m),r4.imp_right fun h=>?_⟩
   rw[h];simp;omega
theorem wW : ∀ (a l:List aG),a.Nodup→(∀ x∈a,x∈l)→a.length≤l.length
 | [],l,_,_=>Nat.zero_le _
 |x::a,l,h,hm=>by
  obtain⟨h1,h2⟩:=List.nodup_cons.1 h
  have m:=hm x List.mem_cons_self
  have:=wW a (l.erase x) h2 fun y hy=>(List.mem_erase_of_ne (fun e=>h1 (by rw[← e];exact hy))).2 (hm y (List.mem_cons_of_mem _ hy))
  rw[List.length_erase_of_mem m]at this
  have:0<l.length:=List.length_pos_of_mem m
  simp only[List.length_cons];omega
theorem uT {l:List aG} (h:BJ l):l.Nodup:=h.imp fun {a b} h e=>by subst e;rw[yF]at h;cases h
theorem my (l:List aG):BJ (kl l)∧∀ x,x∈kl l↔x∈l:=by
 obtain⟨h1,h2,h3,h4⟩:=xG l l.length [] List.Pairwise.nil (fun x m=>(by cases m)) (fun x m=>(by cases m))
 refine⟨h1,fun x=>⟨h2 x,fun m=>?_⟩⟩
 rcases h4 with h4|h4
 ·exact h4 x m
 ·refine Classical.byContradiction fun hn=> ?_
  have:=wW (x::pG l l.length []) l (List.nodup_cons.2 ⟨hn,uT h1⟩) fun y hy=>by
   rcases List.mem_cons.1 hy with rfl|hy
   ·exact m
   ·exact h2 y hy
  simp only[List.length_cons,h4,List.length_nil]at this
  omega
theorem Ls (zs:List aG) (hs:zs.Pairwise fun a b=>bytesLess b a=false) : ∀ m,m≤zs.length→
 BJ (Lib.compactUpTo zs.toArray m)∧(∀ x,x∈Lib.compactUpTo zs.toArray m↔x∈zs.take m):=by
 intro m
 induction m with
 |zero=>intro _;exact⟨by simp[Lib.compactUpTo,BJ],fun x=>by simp[Lib.compactUpTo]⟩
 | succ m ih=>
  intro hm
  obtain⟨h1,h2⟩:=ih (by omega)
  have hz:zs[m]? = some zs[m]:=List.getElem?_eq_getElem (by omega)
  have e1:zs.toArray[m]! = zs[m]:=by simp[hm,Nat.lt_of_succ_le hm]
  have et:zs.take (m+1)=zs.take m++ [zs[m]]:=by rw[List.take_add_one,hz];rfl
  rw[Lib.compactUpTo_succ,e1,et]
  by_cases hk:Lib.keeps zs.toArray m=true
  ·rw [if_pos hk]
   refine⟨List.pairwise_append.2 ⟨h1,by simp,fun x hx y hy=>?_⟩,fun x=>by rw[List.mem_append,List.mem_append,h2]⟩
   have hy:y=zs[m]:=by simpa using hy
   subst hy
   have hx:=(h2 x).1 hx
   simp only[Lib.keeps,decide_eq_true_eq]at hk
   rcases hk with rfl|hk
   ·simp at hx
   ·have nA:m - 1<zs.length:=by omega
    have e2:zs.toArray[m - 1]! = zs[m - 1]:=by simp[nA]
    rw[e1,e2]at hk
    have h0:0<m:=by
     cases m with
     |zero=>simp at hx
     |succ m=>omega
    have hle : ∀ i j (hi:i<zs.length) (hj:j<zs.length),i<j→bytesLess zs[j] zs[i] = false:=fun i j hi hj WE=>List.pairwise_iff_getElem.1 hs i j hi hj WE
    have g1:bytesLess zs[m] zs[m - 1] = false:=hle (m - 1) m nA (by omega) (by omega)
    have g2:bytesLess zs[m - 1] zs[m] = true:=by
     rcases yG zs[m - 1] zs[m]with h|h|h
     ·exact h
     ·exact absurd h.symm hk
     ·rw[g1]at h;cases h
    obtain⟨i,hi,rfl⟩:=List.mem_iff_getElem.1 hx
    rw[List.length_take]at hi
    rw[List.getElem_take]
    by_cases oa:i=m - 1
    ·subst oa;exact g2
    ·have g3:=hle i (m - 1) (by omega) nA (by omega)
     rcases yG zs[i] zs[m - 1]with h|h|h
     ·exact EX _ _ _ h g2
     ·rw[h];exact g2
     ·rw[g3]at h;cases h
  ·rw [if_neg hk]
   simp only[List.append_nil]
   refine⟨h1,fun x=>?_⟩
   rw[h2]
   simp only[Lib.keeps,decide_eq_true_eq,not_or,ne_eq,Decidable.not_not]at hk
   obtain⟨k1,k2⟩:=hk
   have nA:m - 1<zs.length:=by omega
   have e2:zs.toArray[m - 1]! = zs[m - 1]:=by simp[nA]
   rw[e1,e2]at k2
   simp only[List.mem_append,List.mem_singleton]
   constructor
   ·exact .inl
   ·rintro(h | rfl)
    ·exact h
    ·rw [k2]
     exact List.mem_iff_getElem.2 ⟨m - 1,by rw[List.length_take];omega,by rw[List.getElem_take]⟩
theorem G7 (l:List aG):(mw l).Pairwise fun a b=>bytesLess b a=false:=by
 have h:=List.pairwise_mergeSort (le:=fun x y:aG=>decide (x≤y)) (fun a b c h1 h2=>?_) (fun a b=>?_) l
 ·refine h.imp fun {a b} h=> ?_
  rw[decide_eq_true_eq]at h
  show Go.Op.bytesLess b a=false
  rw[Go.Proofs.bytesLess_eq]
  simpa using h
 ·rw [decide_eq_true_eq]at h1 h2 ⊢
  exact List.le_trans h1 h2
 ·have:=List.le_total a b
  simpa using this
theorem BK (l:List aG):Lib.compact (mw l)=kl l:=by
 obtain⟨h1,h2⟩:=Ls (mw l) (G7 l) (mw l).length (Nat.le_refl _)
 obtain⟨h3,h4⟩:=my l
 refine xF h1 h3 fun x=>?_
 rw[h4]
 refine(h2 x).trans ?_
 rw[List.take_length]
 exact(List.mergeSort_perm _ _).mem_iff
set_option maxRecDepth 8000
open Go.Proofs
def lZ:List Sm→List aG
 | []=> []
 |v::l=>if v.kind==4 then v.proc::lZ l else lZ l
theorem C8 : ∀ l:List Sm,(lZ l).length≤l.length
 | []=>Nat.le_refl _
 |v::l=>by
  simp only[lZ]
  have:=C8 l
  split<;>simp<;>omega
def Pc.calls (f:Pc):List aG:=kl (lZ (Sm.dd f.body))
theorem BL {name:aG} : ∀ {l:List Pc} {k:Nat} {f:Pc},iU name l=some f→∃ j,l[j]? = some f∧kX (fun f:Pc=>f.name==name) (k:Int) l=((k+j:Nat):Int)
 | g::l,k,f,h=>by
  simp only[iU]at h
  cases e:(g.name==name)
  ·rw [e]at h
   simp only[Bool.false_eq_true,if_false]at h
   obtain⟨j,h1,h2⟩:=BL (k:=k+1) h
   refine⟨j+1,by simpa using h1, ?_⟩
   simp only[kX,e,Bool.false_eq_true,if_false]
   rw[show((k:Int)+1)=((k+1:Nat):Int)from rfl,h2]
   congr 1;omega
  ·rw [e]at h
   simp only[if_true,Option.some.injEq]at h
   exact⟨0,by simpa using h,by simp[kX,e]⟩
theorem ZR {p:Pg} (h:p.iJ) {name:aG} {f:Pc} (hf:p.find name=some f) (s:St):aF Tryz.prog ub [.dA (fA p) 0, .str name] s (.slice .shared 1 (f.calls.map encStr)) s:=by
 refine aF.pure ?_ (by simp[D.bL,D.ok,uh]) (by simp only[D.ok,Tag.ok,fb];rfl) s
 obtain⟨rU,rJ,rI⟩:=h.procs
 obtain⟨j,hj,q8⟩:=BL (k:=0) hf
 have q8:p.at name=((j:Nat):Int):=by unfold Pg.at;simpa using q8
 have wT:=fun s=>EH (p:=p) (by omega) name s
 rw[q8]at wT
 obtain⟨it,pO,wV⟩:=Vi hj (by omega)
 have adz:it.length≤900000:=by
  have e:=congrArg List.length pO
  obtain⟨a,b,e',_,_,e3,e4⟩:=(lh p).2 j f hj
  have e5:=pf p
  have e6:=congrArg List.length e3
  rw[e4]at e5
  simp only[List.length_map,List.length_append]at e e5 e6
  omega
 unfold S0
 obtain⟨fn,As,C7⟩:=Ez
 refine aF.intro ⟨fn,As,C7⟩ (Nat.le_of_ble_eq_true rfl) fun B hB=>?_
 generalize hQ:pR (⟨[],[]⟩:St).ah.length (⟨[],[]⟩:St).aw.length _ _ (⟨[],[]⟩:St)=Q
 have⟨hD,hY,hZ,gA⟩:=bR
 refine Sem.ni ?_
 repeat' (first
 |simp only[go_sem,hD,hY,hZ,gA]
 |(with_reducible refine aE hQ ?_;exact bd))
 refine Sem.ni ?_
 repeat' (first
 |simp only[go_sem,hD,hY,hZ,gA]
 |(with_reducible refine aE hQ ?_;exact bd))
 refine Sem.ni ?_
 repeat' (first
 |simp only[go_sem,hD,hY,hZ,gA]
 |(with_reducible refine CU (wT _) ?_)
 |(with_reducible refine CU (wV _) ?_)
 |(with_reducible refine aE hQ ?_;exact bd))
 refine bt.sm 5 1 rfl ?_
 simp only[go_sem,hD,hY,hZ,gA]
 obtain⟨R,hR⟩ : ∃ R,R=lZ (Sm.dd f.body):=⟨_,rfl⟩
 have hRl:R.length≤900000:=by rw[hR, ← pO];have:=C8 (it.map Im.s);rw[List.length_map]at this;omega
 refine fi 0 1 (bt.ind (ι:=List Im×Nat×List aG×Nat) (fun i=>it.drop i.2.1=i.1∧i.2.2.1++lZ (i.1.map Im.s)=R∧i.2.2.2=i.2.2.1.length) (fun i=>i.1.length)
  (fun i=> [(5, .slice (.tok 0) 1 (i.2.2.1.map encStr)),(12, .slice .shared 17 (it.map dz)),(13, .int .i64 (it.length:Int)),(14, .int .i64 (i.2.1:Int))]) (fun i=>⟨[],[some i.2.2.2]⟩) ?_ (it,0,[],0) ⟨rfl,by rw[hR,pO];rfl,rfl⟩)
 rintro⟨rest,k,out,n⟩ ⟨h1,h2,h3⟩ IH
 dsimp only at h1 h2 h3
 subst h3
 have jk:out.length≤900000:=by have:=congrArg List.length h2;rw[List.length_append]at this;omega
 cases rest with
 | cons a rest=>
  obtain⟨hY,g2,hD,g4⟩:=drop_cons h1
  have bU:k<4611686018427387904:=by omega
  have hZ:(out.length+1)*17≤bC:=by unfold bC;omega
  simp only[List.map_cons,lZ]at h2
  rcases Bool.eq_false_or_eq_true (a.s.kind==4)with c1|c1
  ·simp only [c1,if_true]at h2
   repeat' (first
 |simp only[go_sem,hD,hY,hZ,gA,c1]
 | (with_reducible refine aE hQ ?_;exact bd))
   refine eY 0 1 ?_ ?_ (IH (rest,k+1,out++ [a.s.proc],out.length+1) ⟨g2,by rw[← h2];simp,by simp⟩ (Nat.lt_succ_self _))
   ·(simp only[go_sem,hD,hY,hZ,gA,aI bU,List.map_append,List.map_cons,List.map_nil,encStr];try exact cj)
   ·(simp only[go_sem,hD,hY,hZ,gA,aI bU,List.map_append,List.map_cons,List.map_nil,encStr];try exact cj)
  ·simp only [c1,Bool.false_eq_true,if_false]at h2
   repeat' (first
 |simp only[go_sem,hD,hY,hZ,gA,c1]
 | (with_reducible refine aE hQ ?_;exact bd))
   refine eY 0 1 ?_ ?_ (IH (rest,k+1,out,_) ⟨g2,h2,rfl⟩ (Nat.lt_succ_self _))
   ·(simp only[go_sem,hD,hY,hZ,gA,aI bU];try exact cj)
   ·(simp only[go_sem,hD,hY,hZ,gA,aI bU];try exact cj)
 |nil=>
  have hD:=drop_nil h1
  simp only[List.map_nil,lZ,List.append_nil]at h2
  subst h2
  have EV:(mw out).length=out.length:=List.length_mergeSort out
  repeat' (first
 |simp only[go_sem,hD,hY,hZ,gA]
 |(with_reducible refine aE hQ ?_;exact bd))
  refine Sem.seq (Sem.sort (k:=5) (t:=0) (l:=out) hB (by decide) (by decide) (by decide) rfl rfl (by omega) ?_)
  show Sem _ _ _ _ _ _ _
  refine Sem.seq (Sem.compact (k:=5) (t:=0) (l:=mw out) hB (by decide) rfl (by rw[EV];rfl) (by rw[EV];omega) ?_)
  rw[BK]
  have an6:f.calls=kl out:=by unfold Pc.calls;rw[hR]
  rw[an6]at hQ
  refine iG (ac:= .ret) (Q:=Q) (tm:= [(32, .slice (.tok 0) 1 ((kl out).map encStr)),(4, .slice (.tok 0) 1 ((kl out).map encStr))]) (s:=⟨[],[some (kl out).length]⟩) ?_
  repeat' (first
 |simp only[go_sem,hD,hY,hZ,gA]
 |(with_reducible refine aE hQ ?_;exact bd))
theorem G8 {name:aG} : ∀ {l:List Pc},name∈l.map (·.name)→∃ f,iU name l=some f
 | f::l,h=>by
  simp only[iU]
  cases e:(f.name==name)
  ·simp only [Bool.false_eq_true,if_false]
   refine G8 ?_
   rcases List.mem_cons.1 h with h|h
   ·rw[h]at e;simp at e
   ·exact h
  ·exact⟨f,rfl⟩
theorem G9 {p:Pg} {f:Pc} {procs:List aG} : ∀ {l:List Sm},BG p f procs l=none→∀ v∈l,v.known p f procs=true
 | v::l,h,w,m=>by
  simp only[BG]at h
  split at h
  ·rename_i e
   rcases List.mem_cons.1 m with rfl|m
   ·exact e
   ·exact G9 h w m
  ·cases h
theorem Ha {p:Pg} {procs:List aG} : ∀ {l:List Pc},((vN p procs l).1==0)=true→∀ f∈l,fG (p.globals++f.own)=false∧∀ v∈Sm.dd f.body,v.known p f procs=true
 | g::l,h,f,m=>by
  simp only[vN]at h
  split at h
  ·cases h
  ·rename_i e
   split at h
   ·cases h
   ·rename_i e2
    rcases List.mem_cons.1 m with rfl|m
    ·exact⟨by simpa using e,G9 e2⟩
    ·exact Ha h f m
theorem DJ {p:Pg} (h:(p.scope.1==0)=true):fG p.globals=false∧fG p.pn=false∧p.tA=false∧∀ f∈p.procs,fG (p.globals++f.own)=false∧∀ v∈Sm.dd f.body,v.known p f p.pn=true:=by
 unfold Pg.scope at h
 split at h
 ·split at h
  ·cases h
  ·rename_i e
   simp only[Bool.or_eq_true,not_or,Bool.not_eq_true]at e
   exact⟨e.1,e.2.1,e.2.2,Ha h⟩
 ·cases h
theorem xH {x:aG} : ∀ {l:List Sm},x∈lZ l↔∃ v∈l,v.kind=4∧v.proc=x
 | []=>by simp[lZ]
 | v::l=>by
  simp only[lZ]
  cases e:(v.kind==4)
  ·have:v.kind≠4:=by simpa using e
   simp[this,xH (l:=l)]
  ·have:v.kind=4:=by simpa using e
   simp only[if_true,List.mem_cons,xH (l:=l),exists_eq_or_imp,this,true_and]
   constructor
   ·rintro(h | h)
    ·exact .inl h.symm
    ·exact .inr h
   ·rintro(h | h)
    ·exact .inl h.symm
    ·exact .inr h
theorem Sf {f:Pc} {x:aG} : x∈f.calls↔∃ v∈Sm.dd f.body,v.kind=4∧v.proc=x:=by
 unfold Pc.calls;rw[(my _).2,xH]
theorem C9 {p:Pg} (h:(p.scope.1==0)=true) {f:Pc} (hf:f∈p.procs) {x:aG} (m:x∈f.calls) : ∃ g,p.find x=some g:=by
 obtain⟨v,hv,h4,rfl⟩:=Sf.1 m
 have hk:=((DJ h).2.2.2 f hf).2 v hv
 simp only[Sm.known,h4,Bool.and_eq_true,Bool.or_eq_true]at hk
 rcases hk.2 with h|⟨_,h⟩
 ·simp at h
 ·exact G8 ((jg _ _).1 h)
def EY (p:Pg) (x:aG):List aG:=match p.find x with|some f=>f.calls|none=> []
def DK (out:List aG):List aG→List aG
 | []=>out
 |x::l=>DK (Ch out x) l
def wX (p:Pg):Nat→Nat→List aG→List aG
 | 0,_,out=>out
 |n+1,i,out=>match out[i]? with
  |some x=>wX p n (i+1) (DK out (EY p x))
  |none=>out
def Pg.work (p:Pg) (name:aG):List aG:=wX p (p.procs.length+1) 0 [name]
def Good (p:Pg) (out:List aG):Prop:=out.Nodup∧∀ x∈out,∃ f,p.find x=some f
theorem Good.len {p:Pg} {out:List aG} (h:Good p out):out.length≤p.procs.length:=by
 have:=wW out p.pn h.1 fun x m=>by
  obtain⟨f,hf⟩:=h.2 x m
  obtain⟨h1,h2⟩:=sw hf
  rw[← h2];exact List.mem_map_of_mem h1
 simpa[Pg.pn]using this
theorem Good.spk {p:Pg} {out:List aG} (h:Good p out) {x:aG} (hx : ∃ f,p.find x=some f):Good p (Ch out x):=by
 unfold Ch
 split
 ·exact h
 ·rename_i e
  have:x∉out:=fun m=>e ((jg _ _).2 m)
  refine⟨List.nodup_append.2 ⟨h.1,by simp,fun a ha b hb e'=>?_⟩,fun y hy=>?_⟩
  ·have hbx:b=x:=by simpa using hb
   rw[e',hbx]at ha;exact this ha
  ·rcases List.mem_append.1 hy with hy | hy
   ·exact h.2 y hy
   ·have:y=x:=by simpa using hy
    subst this;exact hx
theorem Good.add {p:Pg} : ∀ {l out:List aG},Good p out→(∀ x∈l,∃ f,p.find x=some f)→Good p (DK out l)
 | [],out,h,_=>h
 |x::l,out,h,hx=>Good.add (l:=l) (out:=Ch out x) (Good.spk h (hx x List.mem_cons_self)) fun y m=>hx y (List.mem_cons_of_mem _ m)
def tgB:Bool→Tag
 |true=> .tok 0
 |false=> .full
def tkB:Bool→Nat→List (Option Nat)
 |true,n=> [some n]
 |false,_=> []
def zC:AI→AI
 | .op d g (.du z k n ps)=> .op d g (.u9 z k n ps)
 |a=>a
section
variable {P:Program}
theorem Lt {nt:Nat} {ops:Array Oper} {i:Nat} {o:Oper} {ai:AI} (hi:ops[i]? = some o) (hc:cI P nt ops o=some ai)
 {M:Map} {s:St} {w:World} {tm:Tm} {act:Act} (r:Rel M s w) (kx:Laid M s w) (ht:l7 M s tm act.tmps) {K':Tm→St→Prop} (h:iY P [zC ai] K' tm s)
 {K:Act→World→Prop} {Q:Exit→Act→World→Prop}
 (hK : ∀ d v s1 w1 M1,K' (tm.put ai.dst d) s1→Ext M s w M1 s1 w1→Rel M1 s1 w1→RD M1 s1 d v→K (act.put o.dst v) w1):wpOp P ops Q i K act w:=by
 by_cases hb : ∃ d g z k n ps,ai = .op d g (.du z k n ps)
 ·obtain⟨d0,g0,z,k,n,ps,rfl⟩:=hb
  obtain⟨g,hg,_,hb⟩:=Bi hc
  rw[ta hb]at hK
  simp only[wpOp,hi]
  have skip:K' (tm.put o.dst (.tuple [])) s→K (act.put o.dst Go.undef) w:=fun hk=>hK _ _ _ _ _ hk (Ext.refl M s w) r .undef
  have hd:=ta hb
  simp only[AI.dst]at hd
  subst hd
  have oc:D3 P o=some (.du z k n ps)∧g0=g:=by
   unfold sC at hb
   split at hb
   ·split at hb
    ·obtain⟨xs,_,h⟩:=map_some hb;cases h
    ·cases hb
   ·obtain⟨xs,_,h⟩:=map_some hb;cases h
   ·split at hb
    ·cases hb
    ·split at hb
     ·rename_i oc
      simp only[Option.some.injEq,AI.op.injEq,true_and]at hb
      obtain⟨h1,h2⟩:=hb
      split at h2
      ·cases h2
      ·cases h2;exact⟨oc,h1.symm⟩
     ·rename_i ao eO oc
      simp only[Option.some.injEq,AI.op.injEq,true_and]at hb
      obtain⟨h1,h2⟩:=hb
      subst h2
      exact⟨oc,h1.symm⟩
     ·cases hb
  obtain⟨oc,rfl⟩:=oc
  simp only[zC,iY]at h
  rcases ki hg ht h with ⟨hw,hA⟩|⟨hw,hB⟩
  ·simp only [hw,if_true]
   left
   split at hA
   ·rename_i d s' qI
    obtain⟨v,w',M',dH,r',hv,e'⟩:=yZ oc r ht qI
    unfold Oper.wp
    rcases dH with dH|⟨dH,rfl⟩
    ·rw [dH,Oper.upon_value]
     exact hK _ _ _ _ _ hA e' r' hv
    ·rw [dH,Oper.upon_skip]
     exact hK _ _ _ _ _ hA e' r' hv
   ·exact hA.elim
  ·simp only [hw]
   exact skip hB
 ·have hs:zC ai=ai:=by
   unfold zC
   split
   ·rename_i d g z k n ps;exact absurd ⟨d,g,z,k,n,ps,rfl⟩ hb
   ·rfl
  rw[hs]at h
  exact xn hi hc r kx ht h hK
theorem ZS {a:AI} {r:List AI} {K:Tm→St→Prop} {tm:Tm} {s:St} (h:iY P (a::r) K tm s):iY P [a] (iY P r K) tm s:=by
 cases a<;>exact h
theorem Hb {B:fU} {nt:Nat} {ops:Array Oper} {Q:Exit→Tm→St→Prop} : ∀ (l:List Nat) (ol:List Oper) (is:List AI),l.map (ops[·]?)=ol.map some→qS P nt ops ol=some is→
 ∀ (tm:Tm) (s:St) (act:Act) (w:World),iY P (is.map zC) (Q .normal) tm s→Holds B nt tm s act w→wpOps P ops (pQ B nt Q) l act w
 | [],[],is,_,hc,tm,s,act,w,h,hh=>by cases hc;exact⟨tm,s,h,hh⟩
 | [],_::_,_,hl,_,_,_,_,_,_,_=>by simp at hl
 |_::_,[],_,hl,_,_,_,_,_,_,_=>by simp at hl
 | i::l,o::ol,is,hl,hc,tm,s,act,w,h,hh=>by
  simp only[List.map_cons,List.cons.injEq]at hl
  obtain⟨hi,hl⟩:=hl
  unfold qS at hc
  split at hc
  ·rename_i ai QA h1 h2
   cases hc
   obtain⟨M,e,r,ht,hn,hd⟩:=hh
   have qt:=yc h1
   have hdd:=tc h1
   rw[List.map_cons]at h
   have key:=Lt (K:=fun act w=>wpOps P ops (pQ B nt Q) l act w) (Q:=pQ B nt Q) hi h1 r (B.laid.ext e) ht (ZS h) (fun d v s1 w1 M1 hk e1 r1 hv=>
    Hb (Q:=Q) l ol QA hl h2 _ _ _ _ hk (hdd ▸ Holds.put e ht hn hd qt e1 r1 hv))
   simpa only[wpOps,wpOp,hi]using key
  ·cases hc
theorem Sem.swap {B:fU} {nt:Nat} {is:List AI} {Q:Exit→Tm→St→Prop} {tm:Tm} {s:St} (h:kb P B nt (.run (is.map zC)) Q tm s):Sem P B nt (.run is) Q tm s:=by
 intro c hc act w hh
 obtain⟨id,ops,rfl,hi⟩:=lH hc
 refine wp_region ?_
 exact Hb _ _ is (Bf ops) hi tm s act w (oq h) hh
end
end Go.Abs
namespace Go.Abs
set_option maxRecDepth 8000
open Go.Proofs
theorem Pp {l:List aG} (h:l.Nodup):mw l=kl l:=by
 refine xF ?_ (my l).1 fun x=>?_
 ·have h1:=G7 l
  have h2:(mw l).Nodup:=(List.mergeSort_perm l _).nodup_iff.2 h
  refine(List.pairwise_and_iff.2 ⟨h1,h2⟩).imp fun {a b} X0=>?_
  rcases yG a b with e|e|e
  ·exact e
  ·exact absurd e X0.2
  ·rw[X0.1]at e;cases e
 ·rw[(my l).2];exact(List.mergeSort_perm l _).mem_iff
theorem BM {p:Pg} (nM:(p.scope.1==0)=true) : ∀ (n i:Nat) (out:List aG),Good p out→Good p (wX p n i out)
 | 0,i,out,h=>h
 | n+1,i,out,h=>by
  simp only[wX]
  split
  ·rename_i x hx
   obtain⟨g,hg⟩:=h.2 x (List.mem_of_getElem? hx)
   refine BM nM n _ _ (h.add fun y m=>?_)
   unfold EY at m
   rw[hg]at m
   exact C9 nM (sw hg).1 m
  ·exact h
theorem DL {p:Pg} {name:aG} {f:Pc} (hf:p.find name=some f):Good p [name]:=
 ⟨by simp,fun x m=>by
  have:x=name:=by simpa using m
  subst this;exact⟨f,hf⟩⟩
theorem ZT {p:Pg} (h:p.iJ) (nM:(p.scope.1==0)=true) {name:aG} {f:Pc} (hf:p.find name=some f) (s:St):aF Tryz.prog xB [.dA (fA p) 0, .str name] s (.slice .shared 1 ((kl (p.work name)).map encStr)) s:=by
 refine aF.pure ?_ (by simp[D.bL,D.ok,uh]) (by simp only[D.ok,Tag.ok,fb];rfl) s
 obtain⟨rU,rJ,rI⟩:=h.procs
 obtain⟨R,hR⟩ : ∃ R,p.work name=R:=⟨_,rfl⟩
 have hgR:Good p R:=hR ▸ BM nM _ _ _ (DL hf)
 rw[hR, ← Pp hgR.1]
 unfold Pg.work at hR
 have hg0:Good p [name]:=DL hf
 have hRl:=hgR.len
 unfold S0
 obtain⟨fn,As,C7⟩:=HO
 refine aF.intro ⟨fn,As,C7⟩ (Nat.le_of_ble_eq_true rfl) fun B hB=>?_
 generalize hQ:pR (⟨[],[]⟩:St).ah.length (⟨[],[]⟩:St).aw.length _ _ (⟨[],[]⟩:St)=Q
 have⟨hD,hY,hZ,gA⟩:=bR
 refine Sem.ni ?_
 repeat' (first
 |simp only[go_sem,hD,hY,hZ,gA]
 |(with_reducible first|refine bo fun hc=>?_|refine bp fun hc=>?_|refine bq (fun hc=>?_) fun hc=>?_)<;>(try simp only[hc,bs,↓reduceIte]at h)<;>try simp only[hc]
 |(with_reducible refine aE hQ ?_;exact fV)
 |(cases h;done))
 refine Sem.seq (Sem.swap ?_)
 simp only[List.map_cons,List.map_nil,zC]
 repeat' (first
 |simp only[go_sem,hD,hY,hZ,gA]
 |(with_reducible first|refine bo fun hc=>?_|refine bp fun hc=>?_|refine bq (fun hc=>?_) fun hc=>?_)<;>(try simp only[hc,bs,↓reduceIte]at h)<;>try simp only[hc]
 |(with_reducible refine aE hQ ?_;exact fV)
 |(cases h;done))
 refine Sem.ni ?_
 repeat' (first
 |simp only[go_sem,hD,hY,hZ,gA]
 |(with_reducible first|refine bo fun hc=>?_|refine bp fun hc=>?_|refine bq (fun hc=>?_) fun hc=>?_)<;>(try simp only[hc,bs,↓reduceIte]at h)<;>try simp only[hc]
 |(with_reducible refine aE hQ ?_;exact fV)
 |(cases h;done))
 refine fi 0 1 (bt.ind (ι:=Nat×Nat×List aG×Nat) (fun i=>wX p i.1 i.2.1 i.2.2.1=R∧Good p i.2.2.1∧i.1+i.2.1=p.procs.length+1∧i.2.2.2=i.2.2.1.length) (fun i=>i.1)
  (fun i=> [(0, .dA (fA p) 0),(5, .slice (.tok 0) 1 (i.2.2.1.map encStr)),(6, .int .i64 (i.2.1:Int))]) (fun i=>⟨[],[some i.2.2.2]⟩) ?_ (p.procs.length+1,0,[name],1) ⟨hR,hg0,rfl,rfl⟩)
 rintro⟨n,i,out,no⟩ ⟨h1,h2,h3,h4⟩ IH
 dsimp only at h1 h2 h3 h4
 subst h4
 have jk:=h2.len
 cases hx:out[i]? with
 | none=>
  have hD:decide ((i:Int)<(out.length:Int))=false:=by have:=List.getElem?_eq_none_iff.1 hx;simp;omega
  have:R=out:=by
   cases n with
   |zero=>simpa[wX]using h1.symm
   |succ n=>simp only[wX,hx]at h1;exact h1.symm
  subst this
  repeat' (first
 |simp only[go_sem,hD,hY,hZ,gA]
 |(with_reducible first|refine bo fun hc=>?_|refine bp fun hc=>?_|refine bq (fun hc=>?_) fun hc=>?_)<;>(try simp only[hc,bs,↓reduceIte]at h)<;>try simp only[hc]
 |(with_reducible refine aE hQ ?_;exact fV)
 |(cases h;done))
  refine Sem.seq (Sem.sort (k:=5) (t:=0) (l:=R) hB (by decide) (by decide) (by decide) rfl rfl (by omega) ?_)
  refine iG (ac:=ac9) (Q:=Q) (tm:= [(5, .slice (.tok 0) 1 ((mw R).map encStr))]) (s:=⟨[],[some R.length]⟩) ?_
  repeat' (first
 |simp only[go_sem,hD,hY,hZ,gA]
 |(with_reducible first|refine bo fun hc=>?_|refine bp fun hc=>?_|refine bq (fun hc=>?_) fun hc=>?_)<;>(try simp only[hc,bs,↓reduceIte]at h)<;>try simp only[hc]
 |(with_reducible refine aE hQ ?_;exact fV)
 |(cases h;done))
 |some x=>
  have qJ:=(List.getElem?_eq_some_iff.1 hx).1
  have hD:decide ((i:Int)<(out.length:Int))=true:=by simp;omega
  have oa:i<4611686018427387904:=by omega
  cases n with
  |zero=>omega
  |succ n=>
  simp only[wX,hx]at h1
  obtain⟨g,J1⟩:=h2.2 x (List.mem_of_getElem? hx)
  have Sg:=(sw J1).1
  have X8:=fun s=>ZR h J1 s
  have hcn:EY p x=g.calls:=by unfold EY;rw[J1]
  rw[hcn]at h1
  have hth : ∀ y∈g.calls,∃ f,p.find y=some f:=fun y m=>C9 nM Sg m
  have awb:g.calls.length≤p.procs.length:=Good.len ⟨uT (my _).1,hth⟩
  obtain⟨W,hW⟩ : ∃ W,DK out g.calls=W:=⟨_,rfl⟩
  rw[hW]at h1
  repeat' (first
 |simp only[go_sem,hD,hY,hZ,gA,hx]
 |(with_reducible refine CU (X8 _) ?_)
 |(with_reducible first|refine bo fun hc=>?_|refine bp fun hc=>?_|refine bq (fun hc=>?_) fun hc=>?_)<;>(try simp only[hc,bs,↓reduceIte]at h)<;>try simp only[hc]
 |(with_reducible refine aE hQ ?_;(try cases h);simp only[aV,aX,bH,bI,go_sem,hD,hY,hZ,gA,hx];try exact cq)
 | (cases h;done))
  refine fi 0 1 (bt.ind (ι:=List aG×Nat×List aG×Nat) (fun j=>g.calls.drop j.2.1=j.1∧DK j.2.2.1 j.1=W∧Good p j.2.2.1∧j.2.2.2=j.2.2.1.length) (fun j=>j.1.length)
   (fun j=> [(0, .dA (fA p) 0),(5, .slice (.tok 0) 1 (j.2.2.1.map encStr)),(6, .int .i64 (i:Int)),(22, .slice .shared 1 (g.calls.map encStr)),(23, .int .i64 (g.calls.length:Int)),(24, .int .i64 (j.2.1:Int))]) (fun j=>⟨[],[some j.2.2.2]⟩) ?_ (g.calls,0,out,out.length) ⟨rfl,hW,h2,rfl⟩)
  clear hW
  rintro⟨rest,k,cG,n'⟩ ⟨j1,j2,j3,j4⟩ X5
  dsimp only at j1 j2 j3 j4
  subst j4
  have awc:=j3.len
  cases rest with
  |nil=>
   have adI:=drop_nil j1
   simp only[DK]at j2
   subst j2
   repeat' (first
 |simp only[go_sem,hD,hY,hZ,gA,adI]
 |(with_reducible first|refine bo fun hc=>?_|refine bp fun hc=>?_|refine bq (fun hc=>?_) fun hc=>?_)<;>(try simp only[hc,bs,↓reduceIte]at h)<;>try simp only[hc]
 |(with_reducible refine aE hQ ?_;(try cases h);simp only[aV,aX,bH,bI,go_sem,hD,hY,hZ,gA,adI];try exact cq)
 | (cases h;done))
   refine eY 0 1 ?_ ?_ (IH (n,i+1,cG,cG.length) ⟨h1,j3,by dsimp only;omega,rfl⟩ (Nat.lt_succ_self _))
   ·(simp only[go_sem,hD,hY,hZ,gA,aI oa];try exact cj)
   ·(simp only[go_sem,hD,hY,hZ,gA,aI oa];try exact cj)
  | cons y rest=>
   obtain⟨ph,L4,yC,jg4⟩:=drop_cons j1
   have yD:k<4611686018427387904:=by omega
   have hZ:(cG.length+1)*17≤bC:=by unfold bC;omega
   have Hc:=fun g s=>jB (l:=cG) (by omega) y g s
   have hy:=hth y (List.mem_of_getElem? ph)
   have C0:=j3.spk hy
   simp only[DK]at j2
   rcases Bool.eq_false_or_eq_true (fw cG y)with c1|c1
   ·simp only [Ch,c1,if_true]at j2
    repeat' (first
 |simp only[go_sem,hD,hY,hZ,gA,yC,ph,c1]
 |(with_reducible refine CU (Hc _ _) ?_)
 |(with_reducible first|refine bo fun hc=>?_|refine bp fun hc=>?_|refine bq (fun hc=>?_) fun hc=>?_)<;>(try simp only[hc,bs,↓reduceIte]at h)<;>try simp only[hc]
 |(with_reducible refine aE hQ ?_;(try cases h);simp only[aV,aX,bH,bI,go_sem,hD,hY,hZ,gA,yC,ph,c1];try exact cq)
 | (cases h;done))
    refine eY 0 1 ?_ ?_ (X5 (rest,k+1,cG,cG.length) ⟨L4,j2,j3,rfl⟩ (Nat.lt_succ_self _))
    ·(simp only[go_sem,hD,hY,hZ,gA,aI yD];try exact cj)
    ·(simp only[go_sem,hD,hY,hZ,gA,aI yD];try exact cj)
   ·simp only [Ch,c1,Bool.false_eq_true,if_false]at j2 C0
    repeat' (first
 |simp only[go_sem,hD,hY,hZ,gA,yC,ph,c1]
 |(with_reducible refine CU (Hc _ _) ?_)
 |(with_reducible first|refine bo fun hc=>?_|refine bp fun hc=>?_|refine bq (fun hc=>?_) fun hc=>?_)<;>(try simp only[hc,bs,↓reduceIte]at h)<;>try simp only[hc]
 |(with_reducible refine aE hQ ?_;(try cases h);simp only[aV,aX,bH,bI,go_sem,hD,hY,hZ,gA,yC,ph,c1];try exact cq)
 | (cases h;done))
    refine eY 0 1 ?_ ?_ (X5 (rest,k+1,cG++ [y],cG.length+1) ⟨L4,j2,C0,by simp⟩ (Nat.lt_succ_self _))
    ·(simp only[go_sem,hD,hY,hZ,gA,aI yD,List.map_append,List.map_cons,List.map_nil,encStr];try exact cj)
    ·(simp only[go_sem,hD,hY,hZ,gA,aI yD,List.map_append,List.map_cons,List.map_nil,encStr];try exact cj)
theorem J2 (name:aG) : ∀ l:List Pc,l.any (fun f=>f.name==name)=(iU name l).isSome
 | []=>rfl
 |f::l=>by
  simp only[List.any_cons,iU]
  cases e:(f.name==name)
  ·simp[J2 name l]
  ·simp
theorem VI (name:aG) (f:Pc):aF Tryz.prog oQ ([.agg (cu f)]++ [.ptr 0 0]) ⟨[[.str name]],[]⟩ (.bool (f.name==name)) ⟨[[.str name]],[]⟩:=by
 show aF Tryz.prog oQ [.agg (cu f), .ptr 0 0] _ _ _
 refine aF.go CD rfl fun B Q hB hQ=>?_
 have⟨hD,hY,hZ,gA⟩:=bR
 repeat' (first
 |simp only[go_sem,hD,hY,hZ,gA]
 |(with_reducible refine aE hQ ?_;exact bd))
def Pg.zD (p:Pg) (name:aG):Option Pc:=if p.scope.1==0 then p.find name else none
theorem VJ {p:Pg} (h:p.iJ) (name:aG) (s:St):aF Tryz.prog tZ [.agg (cD p), .str name] s (.bool (p.zD name).isSome) s:=by
 refine aF.pure ?_ (by simp[D.bL,D.ok,jv]) rfl s
 obtain⟨rU,rJ,rI⟩:=h.procs
 have pJ:=fun s=>vO h s
 have hi:=fun {s:St} {o:Nat} (ho:s.ah[o]? = some [.str name])=>Bx (AA (l:=p.procs) (f:=oQ) (row:= [.str name]) (b:=fun f:Pc=>f.name==name) (by omega) rfl (by with_unfolding_all rfl) (fun x _=>VI name x)) rfl (wC _) rfl ho
 have ic:=fun {s:St} {o:Nat} (ho:s.ah[o]? = some [.str name])=>(show aF Tryz.prog gN [.slice .shared 5 (p.procs.map cu), .gd 191 [.ptr o 0]] s (.bool (p.procs.any fun f:Pc=>f.name==name)) s from hi ho)
 simp only[J2]at ic
 unfold Pg.zD Pg.find
 unfold S0
 rcases Bool.eq_false_or_eq_true (p.scope.1==0)with b1|b1
 ·simp only [b1,if_true]
  refine aF.go wK rfl fun B Q hB hQ=>?_
  have⟨hD,hY,hZ,gA⟩:=bR
  repeat' (first
 |simp only[go_sem,hD,hY,hZ,gA,b1]
 |(with_reducible refine CU (pJ _) ?_)
 |(with_reducible refine CU (ic (by with_unfolding_all rfl)) ?_)
 |(with_reducible refine aE hQ ?_;exact bd))
 ·simp only [b1,Bool.false_eq_true,if_false,Option.isSome_none]
  refine aF.go wK rfl fun B Q hB hQ=>?_
  have⟨hD,hY,hZ,gA⟩:=bR
  repeat' (first
 |simp only[go_sem,hD,hY,hZ,gA,b1]
 |(with_reducible refine CU (pJ _) ?_)
 |(with_reducible refine CU (ic (by with_unfolding_all rfl)) ?_)
 |(with_reducible refine aE hQ ?_;exact bd))
def Pg.auX (p:Pg) (name:aG):List aG:=match p.zD name with|some f=>f.calls|none=> []
def Pg.an7 (p:Pg) (name:aG):List aG:=match p.zD name with|some _=>kl (p.work name)|none=> []
theorem Hd {p:Pg} {name:aG} {f:Pc} (h:p.zD name=some f):(p.scope.1==0)=true∧p.find name=some f:=by
 unfold Pg.zD at h
 split at h
 ·exact⟨by assumption,h⟩
 ·cases h
def sR (p:Pg) (out:List aG):List aG→List aG
 | []=>out
 |v::l=>sR p (if fw p.globals v then out++ [v]else out) l
def sS (p:Pg) (out:List aG):List Sm→List aG
 | []=>out
 |v::l=>sS p (sR p out v.said) l
def tB (p:Pg) (n:aG):List Sm:=match p.find n with|some f=>Sm.dd f.body|none=> []
def uU (p:Pg) (out:List aG):List aG→List aG
 | []=>out
 |n::l=>uU p (sS p out (tB p n)) l
theorem zE (p:Pg) : ∀ (l out:List aG),out.length≤(sR p out l).length∧(sR p out l).length≤out.length+l.length
 | [],out=>⟨Nat.le_refl _,Nat.le_refl _⟩
 |v::l,out=>by
  simp only[sR]
  have h:=zE p l (if fw p.globals v then out++ [v]else out)
  have h2:out.length≤(if fw p.globals v then out++ [v]else out).length∧(if fw p.globals v then out++ [v]else out).length≤out.length+1:=by split<;>simp
  simp only[List.length_cons]
  omega
def oR:List Sm→Nat
 | []=>0
 |v::l=>v.said.length+oR l
theorem BN : ∀ a b:List Sm,oR (a++b)=oR a+oR b
 | [],b=>by simp[oR]
 |v::a,b=>by simp only[List.cons_append,oR,BN a b];omega
theorem ZU (v:Sm):v.said.length≤1+v.x.size+2*Ar.a7 v.args:=by
 have : ∀ (l:List Ar) (out:List aG),(Ar.said out l).length≤out.length+2*Ar.a7 l:=by
  intro l
  induction l with
  |nil=>intro out;simp[Ar.said]
  |cons a l ih=>
   intro out
   simp only[Ar.said,Ar.a7]
   refine Nat.le_trans (ih _) ?_
   have:=lk a.x
   have:1≤a.x.size:=by obtain⟨_,_,_,_⟩:=a.x;simp[Ex.size]
   simp only[List.length_append]
   split<;>simp<;>omega
 have h1:=this v.args (v.sQ++v.x.names)
 have h2:=lk v.x
 have h4:v.sQ.length≤1:=by unfold Sm.sQ;split<;>simp
 simp only[List.length_append]at h1
 unfold Sm.said
 omega
mutual
theorem Si : ∀ s:Sm,oR s.pre≤2*s.size
 |⟨id,kind,labels,name,proc,x,has,args,a8,aS⟩=>by
  simp only[Sm.pre,oR,BN,Sm.size]
  have h1:=ZU ⟨id,kind,labels,name,proc,x,has,args,a8,aS⟩
  have h2:=uV a8
  have h3:=uV aS
  dsimp only at h1
  omega
theorem uV : ∀ l:List Sm,oR (Sm.dd l)≤2*Sm.a7 l
 | []=>by simp[Sm.dd,oR,Sm.a7]
 |s::l=>by
  simp only[Sm.dd,BN,Sm.a7]
  have:=Si s;have:=uV l;omega
end
theorem zF (p:Pg) : ∀ (l:List Sm) (out:List aG),out.length≤(sS p out l).length∧(sS p out l).length≤out.length+oR l
 | [],out=>⟨Nat.le_refl _,Nat.le_refl _⟩
 |v::l,out=>by
  simp only[sS,oR]
  have h:=zF p l (sR p out v.said)
  have h2:=zE p v.said out
  omega
theorem zG {p:Pg} (h:p.iJ) : ∀ (l out:List aG),out.length≤(uU p out l).length∧(uU p out l).length≤out.length+l.length*1800000
 | [],out=>⟨Nat.le_refl _,by simp[uU]⟩
 | n::l,out=>by
  simp only[uU]
  have h1:=zG h l (sS p out (tB p n))
  have h2:=zF p (tB p n) out
  have h3:oR (tB p n)≤1800000:=by
   unfold tB
   split
   ·rename_i f hf
    have:=uV f.body
    have h4:=Pc.dm (sw hf).1
    have h5:=h.procs.2.1
    simp only[Pc.size]at h4
    omega
   ·simp[oR]
  simp only[List.length_cons]
  omega
theorem Sj {p:Pg} (h:p.may=true):p.procs.length≤16:=by
 unfold Pg.may at h
 split at h
 ·cases h
 ·rename_i c
  simp only[Bool.or_eq_true,decide_eq_true_eq,not_or,Int.not_lt,gt_iff_lt]at c
  have:=c.1.2
  omega
def Pg.sx (p:Pg) (name:aG):List aG:=uU p [] (kl (p.work name))
def Pg.qf (p:Pg) (name:aG):List aG:=match p.zD name with|some _=>kl (p.sx name)|none=> []
theorem J3 {p:Pg} (nM:(p.scope.1==0)=true) {name:aG} {f:Pc} (hf:p.find name=some f):Good p (kl (p.work name)):=by
 have h:=BM nM (p.procs.length+1) 0 [name] (DL hf)
 refine⟨uT (my _).1,fun x m=>h.2 x ?_⟩
 exact((my _).2 x).1 m
theorem Sk {p:Pg} (h:p.iJ) (name:aG) (s:St):aF Tryz.prog rz [.agg (cD p), .str name] s (.slice .shared 1 ((p.qf name).map encStr)) s:=by
 refine aF.pure ?_ (by simp[D.bL,D.ok,jv]) (by simp only[D.ok,Tag.ok,fb];rfl) s
 have hk:=fun s=>VJ h name s
 have dh:=fun s=>Ce (p:=p) (by have:=h.procs;omega) s
 unfold Pg.qf
 unfold S0
 cases VK:p.zD name with
 |none=>
  simp only[VK,Option.isSome_none]at hk
  simp only[List.map_nil]
  refine aF.go uF rfl fun B Q hB hQ=>?_
  have⟨hD,hY,hZ,gA⟩:=bR
  repeat' (first
 |simp only[go_sem,hD,hY,hZ,gA]
 |(with_reducible refine CU (hk _) ?_)
 |(with_reducible refine aE hQ ?_;exact bd))
 |some f=>
 obtain⟨nM,hf⟩:=Hd VK
 simp only[VK,Option.isSome_some]at hk
 dsimp only
 obtain⟨rU,rJ,rI⟩:=h.procs
 have hN:=J3 nM hf
 obtain⟨N,hNe⟩ : ∃ N,kl (p.work name)=N:=⟨_,rfl⟩
 rw[hNe]at hN
 have hNl:=hN.len
 obtain⟨R,hR⟩ : ∃ R,p.sx name=R:=⟨_,rfl⟩
 rw[hR]
 unfold Pg.sx at hR
 rw[hNe]at hR
 have hRl:R.length≤28800000:=by
  have:=(zG h N []).2
  rw[hR]at this
  have h4:=Sj (BH nM)
  have h3:N.length*1800000≤16*1800000:=Nat.mul_le_mul_right _ (by omega)
  simp only[List.length_nil]at this
  omega
 have X8:=fun s=>ZT h nM hf s
 simp only[hNe]at X8
 obtain⟨fn,As,C7⟩:=uF
 refine aF.intro ⟨fn,As,C7⟩ (Nat.le_of_ble_eq_true rfl) fun B hB=>?_
 generalize hQ:pR (⟨[],[]⟩:St).ah.length (⟨[],[]⟩:St).aw.length _ _ (⟨[],[]⟩:St)=Q
 have⟨hD,hY,hZ,gA⟩:=bR
 refine Sem.ni ?_
 repeat' (first
 |simp only[go_sem,hD,hY,hZ,gA]
 |(with_reducible refine aE hQ ?_;exact bd))
 refine Sem.ni ?_
 repeat' (first
 |simp only[go_sem,hD,hY,hZ,gA]
 |(with_reducible refine CU (hk _) ?_)
 |(with_reducible refine aE hQ ?_;exact bd))
 refine Sem.ni ?_
 repeat' (first
 |simp only[go_sem,hD,hY,hZ,gA]
 |(with_reducible refine CU (dh _) ?_)
 |(with_reducible refine aE hQ ?_;exact bd))
 refine Sem.ni ?_
 repeat' (first
 |simp only[go_sem,hD,hY,hZ,gA]
 |(with_reducible refine aE hQ ?_;exact bd))
 refine Sem.ni ?_
 repeat' (first
 |simp only[go_sem,hD,hY,hZ,gA]
 |(with_reducible refine CU (X8 _) ?_)
 |(with_reducible refine aE hQ ?_;exact bd))
 refine bt.sm 6 1 rfl ?_
 simp only[go_sem,hD,hY,hZ,gA]
 refine fi 1 1 (bt.ind (ι:=List aG×Nat×List aG×Nat) (fun i=>N.drop i.2.1=i.1∧uU p i.2.2.1 i.1=R∧i.2.2.1.length≤R.length∧i.2.2.2=i.2.2.1.length) (fun i=>i.1.length)
  (fun i=> [(2, .ptr 0 0),(5, .dA (fA p) 0),(6, .slice (.tok 0) 1 (i.2.2.1.map encStr)),(21, .slice .shared 1 (N.map encStr)),(22, .int .i64 (N.length:Int)),(23, .int .i64 (i.2.1:Int))]) (fun i=>⟨[cD p],[some i.2.2.2]⟩) ?_ (N,0,[],0) ⟨rfl,hR,Nat.zero_le _,rfl⟩)
 rintro⟨rest,k,out,no⟩ ⟨h1,h2,h3,h4⟩ IH
 dsimp only at h1 h2 h3 h4
 subst h4
 cases rest with
 |nil=>
  have hD:=drop_nil h1
  simp only[uU]at h2
  subst h2
  have EV:(mw out).length=out.length:=List.length_mergeSort out
  repeat' (first
 |simp only[go_sem,hD,hY,hZ,gA]
 |(with_reducible refine aE hQ ?_;exact bd))
  refine Sem.seq (Sem.sort (k:=6) (t:=0) (l:=out) hB (by decide) (by decide) (by decide) rfl rfl (by omega) ?_)
  refine Sem.seq (Sem.compact (k:=6) (t:=0) (l:=mw out) hB (by decide) rfl (by rw[EV];rfl) (by rw[EV];omega) ?_)
  rw[BK]
  refine iG (ac:= .ret) (Q:=Q) (tm:= [(59, .slice (.tok 0) 1 ((kl out).map encStr)),(4, .slice (.tok 0) 1 ((kl out).map encStr))]) (s:=⟨[],[some (kl out).length]⟩) ?_
  repeat' (first
 |simp only[go_sem,hD,hY,hZ,gA]
 |(with_reducible refine aE hQ ?_;exact bd))
 | cons x rest=>
  obtain⟨hY,g2,hD,g4⟩:=drop_cons h1
  have bU:k<4611686018427387904:=by omega
  obtain⟨g,J1⟩:=hN.2 x (List.mem_of_getElem? hY)
  have Sg:=(sw J1).1
  have hbd:tB p x=Sm.dd g.body:=by unfold tB;rw[J1]
  simp only[uU,hbd]at h2
  obtain⟨j,hj,q8⟩:=BL (k:=0) J1
  have q8:p.at x=((j:Nat):Int):=by unfold Pg.at;simpa using q8
  have wT:=fun s=>EH (p:=p) (by omega) x s
  simp only[q8]at wT
  obtain⟨it,pO,wV⟩:=Vi hj (by omega)
  have adz:it.length≤900000:=by
   have e:=congrArg List.length pO
   obtain⟨a,b,e',_,_,e3,e4⟩:=(lh p).2 j g hj
   have e5:=pf p
   have e6:=congrArg List.length e3
   rw[e4]at e5
   simp only[List.length_map,List.length_append]at e e5 e6
   omega
  rw[← pO]at h2
  repeat' (first
 |simp only[go_sem,hD,hY,hZ,gA,hY]
 |(with_reducible refine CU (wT _) ?_)
 |(with_reducible refine CU (wV _) ?_)
 | (with_reducible refine aE hQ ?_;exact bd))
  obtain⟨W,hW⟩ : ∃ W,sS p out (it.map Im.s)=W:=⟨_,rfl⟩
  rw[hW]at h2
  have hWR:W.length≤R.length:=by have:=(zG h rest W).1;rw[h2]at this;exact this
  have R8:out.length≤W.length:=by have:=(zF p (it.map Im.s) out).1;rw[hW]at this;exact this
  refine fi 1 1 (bt.ind (ι:=List Im×Nat×List aG×Nat) (fun i=>it.drop i.2.1=i.1∧sS p i.2.2.1 (i.1.map Im.s)=W∧i.2.2.1.length≤W.length∧i.2.2.2=i.2.2.1.length) (fun i=>i.1.length)
   (fun i=> [(2, .ptr 0 0),(5, .dA (fA p) 0),(6, .slice (.tok 0) 1 (i.2.2.1.map encStr)),(21, .slice .shared 1 (N.map encStr)),(22, .int .i64 (N.length:Int)),(23, .int .i64 (k:Int)),(31, .slice .shared 17 (it.map dz)),(32, .int .i64 (it.length:Int)),(33, .int .i64 (i.2.1:Int))]) (fun i=>⟨[cD p],[some i.2.2.2]⟩) ?_ (it,0,out,out.length) ⟨rfl,hW,R8,rfl⟩)
  rintro⟨wY,k2,DM,no⟩ ⟨j1,j2,j3,j4⟩ EL
  dsimp only at j1 j2 j3 j4
  subst j4
  cases wY with
  |nil=>
   have VL:=drop_nil j1
   simp only[List.map_nil,sS]at j2
   subst j2
   repeat' (first
 |simp only[go_sem,hD,hY,hZ,gA,VL]
 | (with_reducible refine aE hQ ?_;exact bd))
   refine eY 1 1 ?_ ?_ (IH (rest,k+1,DM,DM.length) ⟨g2,h2,hWR,rfl⟩ (Nat.lt_succ_self _))
   ·(simp only[go_sem,hD,hY,hZ,gA,aI bU];try exact cj)
   ·(simp only[go_sem,hD,hY,hZ,gA,aI bU];try exact cj)
  |cons y wY=>
   obtain⟨ph,L4,yC,jg4⟩:=drop_cons j1
   have yD:k2<4611686018427387904:=by omega
   have hym:y.s∈Sm.dd g.body:=by rw[← pO];exact List.mem_map_of_mem (List.mem_of_getElem? ph)
   have rW:=h.said Sg _ hym
   have X1:=fun s=>BA rW s
   have EV:=JR _ rW
   simp only[List.map_cons,sS]at j2
   repeat' (first
 |simp only[go_sem,hD,hY,hZ,gA,yC,ph]
 |(with_reducible refine CU (X1 _) ?_)
 | (with_reducible refine aE hQ ?_;exact bd))
   obtain⟨V,hV⟩ : ∃ V,sR p DM y.s.said=V:=⟨_,rfl⟩
   rw[hV]at j2
   have hVW:V.length≤W.length:=by have:=(zF p (wY.map Im.s) V).1;rw[j2]at this;exact this
   have hoV:DM.length≤V.length:=by have:=(zE p y.s.said DM).1;rw[hV]at this;exact this
   refine fi 1 1 (bt.ind (ι:=List aG×Nat×List aG×Nat) (fun i=>y.s.said.drop i.2.1=i.1∧sR p i.2.2.1 i.1=V∧i.2.2.1.length≤V.length∧i.2.2.2=i.2.2.1.length) (fun i=>i.1.length)
    (fun i=> [(2, .ptr 0 0),(5, .dA (fA p) 0),(6, .slice (.tok 0) 1 (i.2.2.1.map encStr)),(21, .slice .shared 1 (N.map encStr)),(22, .int .i64 (N.length:Int)),(23, .int .i64 (k:Int)),(31, .slice .shared 17 (it.map dz)),(32, .int .i64 (it.length:Int)),(33, .int .i64 (k2:Int)),(39, .slice .shared 1 (y.s.said.map encStr)),(40, .int .i64 (y.s.said.length:Int)),(41, .int .i64 (i.2.1:Int))]) (fun i=>⟨[cD p],[some i.2.2.2]⟩) ?_ (y.s.said,0,DM,DM.length) ⟨rfl,hV,hoV,rfl⟩)
   rintro⟨EZ,k3,zH,no⟩ ⟨l1,l2,l3,l4⟩ IH3
   dsimp only at l1 l2 l3 l4
   subst l4
   cases EZ with
   |nil=>
    have an8:=drop_nil l1
    simp only[sR]at l2
    subst l2
    repeat' (first
 |simp only[go_sem,hD,hY,hZ,gA,an8]
 | (with_reducible refine aE hQ ?_;exact bd))
    refine eY 1 1 ?_ ?_ (EL (wY,k2+1,zH,zH.length) ⟨L4,j2,hVW,rfl⟩ (Nat.lt_succ_self _))
    ·(simp only[go_sem,hD,hY,hZ,gA,aI yD];try exact cj)
    ·(simp only[go_sem,hD,hY,hZ,gA,aI yD];try exact cj)
   | cons z EZ=>
    obtain⟨adK,lg2,llt,lg4⟩:=drop_cons l1
    have He:k3<4611686018427387904:=by omega
    have Hc:=fun g s=>jB (l:=p.globals) (by omega) z g s
    simp only[sR]at l2
    rcases Bool.eq_false_or_eq_true (fw p.globals z)with c1|c1
    ·simp only [c1,if_true]at l2
     have hZ:(zH.length+1)*17≤bC:=by unfold bC;omega
     have hoo:(zH++ [z]).length≤V.length:=by have:=(zE p EZ (zH++ [z])).1;rw[l2]at this;exact this
     repeat' (first
 |simp only[go_sem,hD,hY,hZ,gA,llt,adK,c1]
 |(with_reducible refine CU (Hc _ _) ?_)
 | (with_reducible refine aE hQ ?_;exact bd))
     refine eY 1 1 ?_ ?_ (IH3 (EZ,k3+1,zH++ [z],zH.length+1) ⟨lg2,l2,hoo,by simp⟩ (Nat.lt_succ_self _))
     ·(simp only[go_sem,hD,hY,hZ,gA,aI He,List.map_append,List.map_cons,List.map_nil,encStr];try exact cj)
     ·(simp only[go_sem,hD,hY,hZ,gA,aI He,List.map_append,List.map_cons,List.map_nil,encStr];try exact cj)
    ·simp only [c1,Bool.false_eq_true,if_false]at l2
     repeat' (first
 |simp only[go_sem,hD,hY,hZ,gA,llt,adK,c1]
 |(with_reducible refine CU (Hc _ _) ?_)
 |(with_reducible refine aE hQ ?_;exact bd))
     refine eY 1 1 ?_ ?_ (IH3 (EZ,k3+1,zH,zH.length) ⟨lg2,l2,l3,rfl⟩ (Nat.lt_succ_self _))
     ·(simp only[go_sem,hD,hY,hZ,gA,aI He];try exact cj)
     ·(simp only[go_sem,hD,hY,hZ,gA,aI He];try exact cj)
mutual
def Sm.its (deep cy:Int) (aS:Bool):Sm→List It
 |⟨id,kind,labels,name,proc,x,has,args,a8,e⟩=>⟨⟨id,kind,labels,name,proc,x,has,args,a8,e⟩,deep,cy,aS⟩::(Sm.VM (deep+1) id false a8++Sm.VM (deep+1) id true e)
def Sm.VM (deep cy:Int) (aS:Bool):List Sm→List It
 | []=> []
 |s::l=>s.its deep cy aS++Sm.VM deep cy aS l
end
def ga (l:List Sm) (none:Int):Int:=match l with| []=>none|t::_=>t.id
mutual
def Sm.vQ (proc up next loop:Int):Sm→List Im
 |⟨id,kind,labels,name,pc,x,has,args,a8,aS⟩=>⟨⟨id,kind,labels,name,pc,x,has,args,a8,aS⟩,proc,up,next,loop⟩::
  (Sm.jR proc id (if kind==6 then id else next) (if kind==6 then id else loop) a8++Sm.jR proc id (if kind==6 then id else next) (if kind==6 then id else loop) aS)
def Sm.jR (proc up next loop:Int):List Sm→List Im
 | []=> []
 |s::l=>s.vQ proc up (ga l next) loop++Sm.jR proc up next loop l
end
def oG (n:Nat) (l:List Sm):Prop:=∀ (i:Nat) (v:Sm),l[i]? = some v→v.id=((n+i+1:Nat):Int)
theorem oG.head {n:Nat} {v:Sm} {l:List Sm} (h:oG n (v::l)):v.id=((n+1:Nat):Int):=h 0 v rfl
theorem oG.tail {n:Nat} {v:Sm} {l:List Sm} (h:oG n (v::l)):oG (n+1) l:=fun i w hw=>by
 rw[h (i+1) w (by simpa using hw)];congr 1;omega
theorem oG.left {n:Nat} {a b:List Sm} (h:oG n (a++b)):oG n a:=fun i w hw=>h i w (by rw[List.getElem?_append_left (List.getElem?_eq_some_iff.1 hw).1];exact hw)
theorem oG.right {n:Nat} {a b:List Sm} (h:oG n (a++b)):oG (n+a.length) b:=fun i w hw=>by
 rw[h (a.length+i) w (by rw[List.getElem?_append_right (by omega)];simpa using hw)];congr 1;omega
theorem VN (s:Sm):s.pre=s::(Sm.dd s.a8++Sm.dd s.aS):=Sm.qc s
mutual
theorem L9 : ∀ s:Sm,s.jx=s.pre.length
 |⟨id,kind,labels,name,proc,x,has,args,a8,aS⟩=>by
  simp only[Sm.jx,Sm.pre,List.length_cons,List.length_append,zI a8,zI aS];omega
theorem zI : ∀ l:List Sm,Sm.jd l=(Sm.dd l).length
 | []=>rfl
 |s::l=>by simp only[Sm.jd,Sm.dd,List.length_append,L9 s,zI l]
end
mutual
theorem X9 (proc up next loop:Int) : ∀ s:Sm,(s.vQ proc up next loop).map Im.s=s.pre
 |⟨id,kind,labels,name,pc,x,has,args,a8,aS⟩=>by
  simp only[Sm.vQ,Sm.pre,List.map_cons,List.map_append,rL _ _ _ _ a8,rL _ _ _ _ aS]
theorem rL (proc up next loop:Int) : ∀ l:List Sm,(Sm.jR proc up next loop l).map Im.s=Sm.dd l
 | []=>rfl
 |s::l=>by simp only[Sm.jR,Sm.dd,List.map_append,X9 _ _ _ _ s,rL _ _ _ _ l]
end
theorem ZV (proc up next loop:Int) (s:Sm):(s.vQ proc up next loop).length=s.pre.length:=by rw[← X9 proc up next loop s,List.length_map]
theorem DN (proc up next loop:Int) (l:List Sm):(Sm.jR proc up next loop l).length=(Sm.dd l).length:=by rw[← rL proc up next loop l,List.length_map]
mutual
theorem ZW (proc up next loop:Int) (out:List Im) : ∀ s:Sm,oG out.length s.pre→Im.one proc up next loop out s=out++s.vQ proc up next loop
 | ⟨id,kind,labels,name,pc,x,has,args,a8,aS⟩,h=>by
  simp only[Sm.pre]at h
  have h0:id=((out.length+1:Nat):Int):=h.head
  have h1:=h.tail.left
  have h2:=h.tail.right
  have e0:((out.length:Int)+1)=id:=by rw[h0];rfl
  simp only[Im.one,Sm.vQ,e0]
  rw[vR proc id _ _ (out++ [_]) a8 (by rw[List.length_append];exact h1)]
  rw[vR proc id _ _ _ aS (by
   rw[List.length_append,List.length_append,DN];exact h2)]
  simp
theorem vR (proc up next loop:Int) (out:List Im) : ∀ l:List Sm,oG out.length (Sm.dd l)→Im.rows proc up next loop out l=out++Sm.jR proc up next loop l
 | [],h=>by simp[Im.rows,Sm.jR]
 | s::l,h=>by
  simp only[Sm.dd]at h
  have e:(if l.length=0 then next else(out.length:Int)+1+(s.jx:Int))=ga l next:=by
   cases l with
   |nil=>rfl
   |cons t l=>
    have h2:=h.right
    simp only[Sm.dd]at h2
    rw[VN t]at h2
    simp only[List.length_cons,ga]
    rw[if_neg (by omega),h2.head,L9]
    omega
  simp only[Im.rows,Sm.jR,e]
  rw[ZW proc up _ loop out s h.left,vR proc up next loop _ l (by rw[List.length_append,ZV];exact h.right)]
  simp
end
def pW (n:Nat):List Pc→List Im
 | []=> []
 |f::l=>Sm.jR n 0 (-1) 0 f.body++pW (n+1) l
theorem Sn : ∀ (l:List Pc) (n:Nat) (h:Sh),oG h.L.length ((l.map fun f=>Sm.dd f.body).flatten)→(Sh.go n h l).L=h.L++pW n l
 | [],n,h,_=>by simp[Sh.go,pW]
 | f::l,n,h,hi=>by
  simp only[List.map_cons,List.flatten_cons]at hi
  simp only[Sh.go,pW]
  have e:=vR (n:Int) 0 (-1) 0 h.L f.body hi.left
  rw[Sn l (n+1) _ (by
   show oG (Im.rows (n:Int) 0 (-1) 0 h.L f.body).length _
   rw[e,List.length_append,DN];exact hi.right)]
  show Im.rows (n:Int) 0 (-1) 0 h.L f.body++_=_
  rw[e];simp
theorem Ma {p:Pg} (h:p.may=true):oG 0 p.pre:=fun i v hv=>by rw[BF h hv];congr 1;omega
theorem Sp {p:Pg} (h:p.may=true):p.aY.L=pW 0 p.procs:=by
 have:=Sn p.procs 0 ⟨[],[],[]⟩ (Ma h)
 simpa[Pg.aY]using this
def Sq (l:List It):Nat→Int→Int
 | 0,_=>0
 |n+1,cy=>if cy==0 then 0 else match l[n]? with
  |none=>0
  |some x=>if x.s.id != cy then Sq l n cy else if x.s.kind==6 then cy else Sq l n x.cy
def Up (L:List It) (k:Nat) (its:List It) (vQ:List Im):Prop:=∀ (i:Nat) (a:It) (b:Im),its[i]? = some a→vQ[i]? = some b→a.s=b.s∧a.cy=b.up∧Sq L (k+i) a.cy=b.loop
def iV (seen:List aG):List aG→List aG×Bool
 | []=>(seen,true)
 |n::l=>if fw seen n then(seen,false)else iV (seen++ [n]) l
theorem BO : ∀ (l seen:List aG),iV seen l=(if qd seen l then((iV seen l).1,false)else(seen++l,true))
 | [],seen=>by simp[iV,qd]
 | n::l,seen=>by
  simp only[iV,qd]
  split
  ·rfl
  ·rw [BO l (seen++ [n])]
   split
   ·rfl
   ·simp
theorem Mb : ∀ (a b seen:List aG),qd seen (a++b)=(qd seen a ||qd (seen++a) b)
 | [],b,seen=>by simp[qd]
 |x::a,b,seen=>by
  simp only[List.cons_append,qd]
  split
  ·rfl
  ·rw[Mb a b (seen++ [x])];simp
theorem Hf : ∀ (l seen:List aG),seen.length≤(iV seen l).1.length∧(iV seen l).1.length≤seen.length+l.length
 | [],seen=>by simp[iV]
 |n::l,seen=>by
  simp only[iV]
  split
  ·simp
  ·have:=Hf l (seen++ [n]);simp at this ⊢;omega
def qn (zJ:List aG) (v:Sm) (loop:Int):Bool:=if v.kind==7 ||v.kind==8 then loop != 0 else if v.kind==10 then fw zJ v.name else true
def sT (zJ fin seen:List aG):List (Sm×Int)→Option Int
 | []=>if(iV seen fin).2 then none else some 0
 |(v,lp)::l=>if(iV seen v.labels).2 then(if qn zJ v lp then sT zJ fin (iV seen v.labels).1 l else some v.id)else some v.id
def iy:List Sm→List aG
 | []=> []
 |v::l=>v.labels++iy l
def Pc.labels (f:Pc):List aG:=iy (Sm.dd f.body)++f.fin
def Im.pair (m:Im):Sm×Int:=(m.s,m.loop)
def Pc.wZ (f:Pc):List (Sm×Int):=(Sm.jR 0 0 (-1) 0 f.body).map Im.pair
def sU:List Pc→Option Int
 | []=>none
 |f::l=>match sT f.labels f.fin [] f.wZ with
  |some id=>some id
  |none=>sU l
def yH (c:Int):Option Int→Int×Int
 |some id=>(c,id)
 |none=>(0,0)
def Pg.jump (p:Pg):Int×Int:=if p.scope.1==0 then yH 7 (sU p.procs)else(1,0)
mutual
theorem VO (proc up next uW Sr next' loop:Int) : ∀ s:Sm,(s.vQ proc up next loop).map Im.pair=(s.vQ uW Sr next' loop).map Im.pair
 |⟨id,kind,labels,name,pc,x,has,args,a8,aS⟩=>by
  simp only[Sm.vQ,List.map_cons,List.map_append,Im.pair]
  rw[w7 proc id _ uW id (if kind==6 then id else next') _ a8,w7 proc id _ uW id (if kind==6 then id else next') _ aS]
theorem w7 (proc up next uW Sr next' loop:Int) : ∀ l:List Sm,(Sm.jR proc up next loop l).map Im.pair=(Sm.jR uW Sr next' loop l).map Im.pair
 | []=>rfl
 |s::l=>by
  simp only[Sm.jR,List.map_append]
  rw[VO proc up _ uW Sr (ga l next') loop s,w7 proc up next uW Sr next' loop l]
end
theorem J4 (n:Int) (f:Pc):(Sm.jR n 0 (-1) 0 f.body).map Im.pair=f.wZ:=w7 _ _ _ _ _ _ _ _
theorem ZX (f:Pc):f.wZ.map Prod.fst=Sm.dd f.body:=by
 unfold Pc.wZ
 rw[List.map_map, ← rL 0 0 (-1) 0 f.body]
 rfl
def Md (l:List It):Nat→Int→Int
 | 0,_=>0
 |n+1,id=>match l[n]? with
  |none=>0
  |some x=>if x.s.id != id then Md l n id else if Sq l n x.cy != 0 then Sq l n x.cy else Md l n id
theorem Me : ∀ (l:List Pc) (n:Nat) (h:Sh),h.lo.length=n→h.hi.length=n→oG h.L.length ((l.map fun f=>Sm.dd f.body).flatten)→
 ∃ lo hi,Sh.go n h l = ⟨h.L++pW n l,h.lo++lo,h.hi++hi⟩∧lo.length=l.length∧hi.length=l.length∧
  ∀ (i:Nat) (f:Pc),l[i]? = some f→∃ a e:List Im,lo[i]? = some (((h.L++a).length:Int)+1)∧hi[i]? = some (((h.L++a++Sm.jR ((n+i:Nat):Int) 0 (-1) 0 f.body).length:Int)+1)∧pW n l=a++Sm.jR ((n+i:Nat):Int) 0 (-1) 0 f.body++e
 | [],n,h,hl,hh,_=>⟨[],[],by simp[Sh.go,pW],rfl,rfl,fun i f h=>by simp at h⟩
 | f::l,n,h,hl,hh,hi=>by
  simp only[List.map_cons,List.flatten_cons]at hi
  simp only[Sh.go,pW]
  have e1:=vR (n:Int) 0 (-1) 0 h.L f.body hi.left
  obtain⟨lo,ic,h2,h3,h4,h5⟩:=Me l (n+1) ⟨Im.rows (n:Int) 0 (-1) 0 h.L f.body,h.lo++ [(h.L.length:Int)+1],h.hi++ [((Im.rows (n:Int) 0 (-1) 0 h.L f.body).length:Int)+1]⟩ (by simp[hl]) (by simp[hh]) (by
   show oG (Im.rows (n:Int) 0 (-1) 0 h.L f.body).length _
   rw[e1,List.length_append,DN];exact hi.right)
  refine⟨((h.L.length:Int)+1)::lo,(((Im.rows (n:Int) 0 (-1) 0 h.L f.body).length:Int)+1)::ic, ?_,by simp[h3],by simp[h4],fun i g ic=>?_⟩
  ·rw[h2,e1];simp
  ·cases i with
   |zero=>
    simp only[List.getElem?_cons_zero,Option.some.injEq]at ic
    subst ic
    exact⟨[],pW (n+1) l,by simp,by rw[e1];simp,by simp⟩
   |succ i=>
    simp only[List.getElem?_cons_succ]at ic
    obtain⟨a,e,g1,g2,g3⟩:=h5 i g ic
    have en:n+1+i=n+(i+1):=by omega
    rw[en]at g2 g3
    refine⟨Sm.jR n 0 (-1) 0 f.body++a,e, ?_, ?_,by rw[g3];simp⟩
    ·rw[List.getElem?_cons_succ,g1,e1];simp
    ·rw[List.getElem?_cons_succ,g2,e1];simp
theorem adM {p:Pg} (hb:p.may=true) {i:Nat} {f:Pc} (hf:p.procs[i]? = some f) (hs:Pc.a7 p.procs<1000000000) (s:St) :
 aF Tryz.prog gM [.dA (fA p) 0, .int .i64 (i:Int)] s (.slice .shared 17 ((Sm.jR (i:Int) 0 (-1) 0 f.body).map dz)) s:=by
 obtain⟨lo,hi,h1,h2,h3,h4⟩:=Me p.procs 0 ⟨[],[],[]⟩ rfl rfl (Ma hb)
 obtain⟨a,e,g1,g2,g3⟩:=h4 i f hf
 simp only[Nat.zero_add,List.nil_append]at g1 g2 g3 h1
 refine adk hs (a:=a) (e:=e) ?_ ?_ ?_ s
 ·show(Sh.go 0 ⟨[],[],[]⟩ p.procs).lo[i]? = _
  rw[h1];exact g1
 ·show(Sh.go 0 ⟨[],[],[]⟩ p.procs).hi[i]? = _
  rw[h1];exact g2
 ·show(Sh.go 0 ⟨[],[],[]⟩ p.procs).L=_
  rw[h1];exact g3
theorem aF.an9 {P:Program} {f:FuncId} {pre post:List D} {rows oJ:List (List D)} {z z' k k':Nat} {b:Bool} (h:aF P f (pre++ .slice (.tok 0) z rows::post) ⟨[],[some k]⟩ (.tuple [.slice (.tok 0) z' oJ, .bool b]) ⟨[],[some k']⟩)
 (hp:D.bL 0 0 pre=true) (ha:D.bL 0 0 post=true) (hw:D.gS 0 0 rows=true) (hw':D.gS 0 0 oJ=true)
 {s:St} {t:Nat} (ht:s.aw[t]? = some (some k)):aF P f (pre++ .slice (.tok t) z rows::post) s (.tuple [.slice (.tok t) z' oJ, .bool b]) ⟨s.ah,s.aw.set t (some k')⟩:=by
 refine bM.frame [] [t] h (by simp) (by simp) (by simp) (by simpa using (List.getElem?_eq_some_iff.1 ht).1) rfl (fun i o' ds e1 e2=>by simp at e1) rfl (fun i t' e1=>?_)
  ?_ ?_ ?_
 ·cases i with
  |zero=>simp at e1;subst e1;simp[ht]
  |succ i=>simp at e1
 ·have h1:=fC [] [t] _ hp
  have h2:=fC [] [t] _ ha
  rw[fO]at h1 h2
  simp[fO,D.cW,Tag.cW,h1,h2,jl _ _ _ hw]
 ·have h1:=iB (n':=0) (m':=1) (Nat.le_refl 0) (Nat.zero_le 1) _ hp
  have h2:=iB (n':=0) (m':=1) (Nat.le_refl 0) (Nat.zero_le 1) _ ha
  rw[yd]at h1 h2 ⊢
  simp only[List.length_nil,List.length_cons,List.all_append,h1,Bool.true_and,List.all_cons,h2,Bool.and_true,D.ok,Tag.ok,mD (Nat.zero_le 0) (Nat.zero_le 1) _ hw]
  rfl
 ·rintro _ _ ⟨rfl,rfl⟩
  refine⟨by simp[D.back,D.cW,D.e9,Tag.cW,ky,jl _ _ _ hw'], ?_⟩
  simp[St.back,kC]
theorem adN {seen l:List aG} (hl:seen.length+l.length<1000000000):aF Tryz.prog qb [.slice (.tok 0) 1 (seen.map encStr), .slice .shared 1 (l.map encStr)] ⟨[],[some seen.length]⟩
 (.tuple [.slice (.tok 0) 1 ((iV seen l).1.map encStr), .bool (iV seen l).2]) ⟨[],[some (iV seen l).1.length]⟩:=by
 generalize hR:iV seen l=R
 refine aF.go HS rfl fun B Q hB hQ=>?_
 have⟨hD,hY,hZ,gA⟩:=bR
 repeat' (first
 |simp only[go_sem,hD,hY,hZ,gA]
 |(with_reducible refine aE hQ ?_;exact bd))
 refine fi 0 1 (bt.ind (ι:=List aG×Nat×List aG×Nat) (fun i=>l.drop i.2.1=i.1∧iV i.2.2.1 i.1=R∧i.2.2.2=i.2.2.1.length∧i.2.2.1.length+i.1.length<1000000000) (fun i=>i.1.length)
  (fun i=> [(0, .slice (.tok 0) 1 (i.2.2.1.map encStr)),(8, .slice .shared 1 (l.map encStr)),(9, .int .i64 (l.length:Int)),(10, .int .i64 (i.2.1:Int))]) (fun i=>⟨[],[some i.2.2.2]⟩) ?_ (l,0,seen,seen.length) ⟨rfl,hR,rfl,hl⟩)
 clear hR
 rintro⟨rest,k,out,n⟩ ⟨h1,h2,h3,h4⟩ IH
 dsimp only at h1 h2 h3 h4
 subst h3
 cases rest with
 |nil=>
  have hD:=drop_nil h1
  simp only[iV]at h2
  subst h2
  repeat' (first
 |simp only[go_sem,hD,hY,hZ,gA]
 |(with_reducible refine aE hQ ?_;exact bd))
 | cons x rest=>
  obtain⟨hY,g2,hD,g4⟩:=drop_cons h1
  have bU:k<4611686018427387904:=by omega
  simp only[List.length_cons]at h4
  have hZ:(out.length+1)*17≤bC:=by unfold bC;omega
  have Hc:=fun g s=>jB (l:=out) (by omega) x g s
  simp only[iV]at h2
  rcases Bool.eq_false_or_eq_true (fw out x)with c1|c1
  ·simp only [c1,if_true]at h2
   subst h2
   repeat' (first
 |simp only[go_sem,hD,hY,hZ,gA,c1]
 |(with_reducible refine CU (Hc _ _) ?_)
 | (with_reducible refine aE hQ ?_;exact bd))
  ·simp only [c1,Bool.false_eq_true,if_false]at h2
   repeat' (first
 |simp only[go_sem,hD,hY,hZ,gA,c1]
 |(with_reducible refine CU (Hc _ _) ?_)
 | (with_reducible refine aE hQ ?_;exact bd))
   refine eY 0 1 ?_ ?_ (IH (rest,k+1,out++ [x],out.length+1) ⟨g2,h2,by simp,by simp;omega⟩ (Nat.lt_succ_self _))
   ·(simp only[go_sem,hD,hY,hZ,gA,aI bU,List.map_append,List.map_cons,List.map_nil,encStr];try exact cj)
   ·(simp only[go_sem,hD,hY,hZ,gA,aI bU,List.map_append,List.map_cons,List.map_nil,encStr];try exact cj)
theorem Ss {seen l:List aG} (hl:seen.length+l.length<1000000000) {s:St} {t:Nat} (ht:s.aw[t]? = some (some seen.length)):aF Tryz.prog qb [.slice (.tok t) 1 (seen.map encStr), .slice .shared 1 (l.map encStr)] s
 (.tuple [.slice (.tok t) 1 ((iV seen l).1.map encStr), .bool (iV seen l).2]) ⟨s.ah,s.aw.set t (some (iV seen l).1.length)⟩:=
 (adN hl).an9 (pre:= []) (post:= [_]) rfl (by simp[D.bL,D.ok,Tag.ok,fb]) (fb _) (fb _) ht
theorem VP (x:Im):(dz x)[2]? = some (.slice .shared 1 (x.s.labels.map encStr)):=nd rfl
theorem Sv (x:Im):(dz x)[3]? = some (.str x.s.name):=nd rfl
attribute [go_sem] VP Sv
def kZ (fin:List aG) (label:aG):List Sm→Int×Bool
 | []=>if fw fin label then(-1,true)else(0,false)
 |v::l=>if fw v.labels label then(v.id,true)else kZ fin label l
theorem BP (fin:List aG) (label:aG) : ∀ l:List Sm,(kZ fin label l).2=fw (iy l++fin) label
 | []=>by simp only[kZ,iy,List.nil_append];split<;>simp_all
 | v::l=>by
  simp only[kZ,iy,List.append_assoc]
  have h:=BP fin label l
  rw[Bool.eq_iff_iff,jg]at h
  split
  ·rename_i c
   exact((jg _ _).2 (List.mem_append.2 (.inl ((jg _ _).1 c)))).symm
  ·rename_i c
   have:label∉v.labels:=fun m=>c ((jg _ _).2 m)
   rw[Bool.eq_iff_iff,h,jg]
   exact⟨fun m=>List.mem_append.2 (.inr m),fun m=>(List.mem_append.1 m).resolve_left this⟩
theorem J5 {p:Pg} {v:Sm} (ho:p.iJ) {f:Pc} (hf:f∈p.procs) (hv:v∈Sm.dd f.body):v.labels.length≤900000:=by
 have key : ∀ n:Nat,(∀ s:Sm,s.pre.length≤n→∀ v∈s.pre,v.labels.length≤s.size)∧(∀ l:List Sm,(Sm.dd l).length≤n→∀ v∈Sm.dd l,v.labels.length≤Sm.a7 l):=by
  intro n
  induction n with
  |zero=>
   refine⟨fun s h=>by rw[Sm.qc]at h;simp at h,fun l h v m=>?_⟩
   have:=List.eq_nil_of_length_eq_zero (Nat.le_zero.1 h)
   rw[this]at m;cases m
  | succ n ih=>
   have h1 : ∀ s:Sm,s.pre.length≤n+1→∀ v∈s.pre,v.labels.length≤s.size:=by
    intro s h v m
    rw[Sm.qc]at h m
    simp only[List.length_cons,List.length_append]at h
    obtain⟨id,kind,labels,name,proc,x,has,args,a8,aS⟩:=s
    simp only[Sm.size]
    rcases List.mem_cons.1 m with rfl|m
    ·dsimp only;omega
    ·rcases List.mem_append.1 m with m | m
     ·have:=ih.2 a8 (by dsimp only at h;omega) v m;omega
     ·have:=ih.2 aS (by dsimp only at h;omega) v m;omega
   refine⟨h1,fun l=>?_⟩
   induction l with
   |nil=>intro _ v m;cases m
   |cons s l Sw=>
    intro h v m
    simp only[Sm.dd,List.length_append]at h
    simp only[Sm.dd]at m
    simp only[Sm.a7]
    rcases List.mem_append.1 m with m|m
    ·have:=h1 s (by omega) v m;omega
    ·have:=Sw (by omega) v m;omega
 have h1:=(key (Sm.dd f.body).length).2 f.body (Nat.le_refl _) v hv
 have h2:=Pc.dm hf
 have h3:=ho.procs.2.1
 simp only[Pc.size]at h2
 omega
theorem Hg {p:Pg} (ho:p.iJ) {f:Pc} (hf:f∈p.procs):f.fin.length≤900000:=by
 have h2:=Pc.dm hf
 have h3:=ho.procs.2.1
 simp only[Pc.size]at h2
 omega
theorem E0 {p:Pg} (ho:p.iJ) {f:Pc} (hf:f∈p.procs):(Sm.dd f.body).length≤900000:=by
 rw[← zI]
 have:=nL f.body
 have h2:=Pc.dm hf
 have h3:=ho.procs.2.1
 simp only[Pc.size]at h2
 omega
theorem adO {p:Pg} (ho:p.iJ) (hb:p.may=true) {i:Nat} {f:Pc} (hf:p.procs[i]? = some f) (label:aG) (s:St) :
 aF Tryz.prog oO [.dA (fA p) 0, .int .i64 (i:Int), .str label] s (.tuple [.int .i64 (kZ f.fin label (Sm.dd f.body)).1, .bool (kZ f.fin label (Sm.dd f.body)).2]) s:=by
 refine aF.pure ?_ (by simp[D.bL,D.ok,uh]) rfl s
 obtain⟨rU,rJ,rI⟩:=ho.procs
 have Aq:=List.mem_of_getElem? hf
 have wV:=fun s=>adM hb hf (by omega) s
 have pV:=rL (i:Int) 0 (-1) 0 f.body
 have J6:=E0 ho Aq
 have vS:=Hg ho Aq
 have C7:=fun s=>rH (l:=f.fin) (by omega) label s
 have qJ:i<p.procs.length:=(List.getElem?_eq_some_iff.1 hf).1
 generalize hI:Sm.jR (i:Int) 0 (-1) 0 f.body=I at *
 have hIl:I.length≤900000:=by rw[← pV,List.length_map]at J6;exact J6
 obtain⟨R,hR⟩ : ∃ R,kZ f.fin label (Sm.dd f.body)=R:=⟨_,rfl⟩
 rw[hR]
 rw[← pV]at hR
 unfold S0
 refine aF.go CC rfl fun B Q hB hQ=>?_
 have⟨hD,hY,hZ,gA⟩:=bR
 repeat' (first
 |simp only[go_sem,hD,hY,hZ,gA]
 |(with_reducible refine CU (wV _) ?_)
 |(with_reducible refine aE hQ ?_;exact bd))
 refine fi 0 0 (bt.ind (ι:=List Im×Nat) (fun j=>I.drop j.2=j.1∧kZ f.fin label (j.1.map Im.s)=R) (fun j=>j.1.length)
  (fun j=> [(0, .dA (fA p) 0),(1, .int .i64 (i:Int)),(2, .str label),(12, .slice .shared 17 (I.map dz)),(13, .int .i64 (I.length:Int)),(14, .int .i64 (j.2:Int))]) (fun j=>⟨[],[]⟩) ?_ (I,0) ⟨rfl,hR⟩)
 clear hR
 rintro⟨rest,k⟩ ⟨h1,h2⟩ IH
 dsimp only at h1 h2
 cases rest with
 | nil=>
  have hD:=drop_nil h1
  simp only[List.map_nil,kZ]at h2
  rcases Bool.eq_false_or_eq_true (fw f.fin label)with c1|c1
  ·simp only [c1,if_true]at h2
   subst h2
   repeat' (first
 |simp only[go_sem,hD,hY,hZ,gA,nY,hf,c1]
 |(with_reducible refine CU (C7 _) ?_)
 | (with_reducible refine aE hQ ?_;exact bd))
  ·simp only [c1,Bool.false_eq_true,if_false]at h2
   subst h2
   repeat' (first
 |simp only[go_sem,hD,hY,hZ,gA,nY,hf,c1]
 |(with_reducible refine CU (C7 _) ?_)
 |(with_reducible refine aE hQ ?_;exact bd))
 | cons a rest=>
  obtain⟨hY,g2,hD,g4⟩:=drop_cons h1
  have bU:k<4611686018427387904:=by omega
  have ET:a.s∈Sm.dd f.body:=by rw[← pV];exact List.mem_map_of_mem (List.mem_of_getElem? hY)
  have oK:=fun s=>rH (l:=a.s.labels) (by have:=J5 ho Aq ET;omega) label s
  simp only[List.map_cons,kZ]at h2
  rcases Bool.eq_false_or_eq_true (fw a.s.labels label)with c1|c1
  ·simp only [c1,if_true]at h2
   subst h2
   repeat' (first
 |simp only[go_sem,hD,hY,hZ,gA,c1]
 |(with_reducible refine CU (oK _) ?_)
 | (with_reducible refine aE hQ ?_;exact bd))
  ·simp only [c1,Bool.false_eq_true,if_false]at h2
   repeat' (first
 |simp only[go_sem,hD,hY,hZ,gA,c1]
 |(with_reducible refine CU (oK _) ?_)
 | (with_reducible refine aE hQ ?_;exact bd))
   refine eY 0 0 ?_ ?_ (IH (rest,k+1) ⟨g2,h2⟩ (Nat.lt_succ_self _))
   ·(simp only[go_sem,hD,hY,hZ,gA,aI bU];try exact cj)
   ·(simp only[go_sem,hD,hY,hZ,gA,aI bU];try exact cj)
theorem ZY {p:Pg} (ho:p.iJ) (hb:p.may=true) {i:Nat} {f:Pc} (hf:p.procs[i]? = some f) (m:Im) (hm:m.proc=(i:Int)) (s:St) :
 aF Tryz.prog vA [.dA (fA p) 0, .agg (dz m)] s (.bool (qn f.labels m.s m.loop)) s:=by
 refine aF.pure ?_ (by simp[D.bL,D.ok,uh,O8]) rfl s
 have q8:=fun s=>adO ho hb hf m.s.name s
 have adP:=BP f.fin m.s.name (Sm.dd f.body)
 rw[← hm]at q8
 obtain⟨A,hA⟩ : ∃ A,kZ f.fin m.s.name (Sm.dd f.body)=A:=⟨_,rfl⟩
 rw[hA]at q8 adP
 obtain⟨R,hR⟩ : ∃ R,qn f.labels m.s m.loop=R:=⟨_,rfl⟩
 rw[hR]
 unfold qn Pc.labels at hR
 unfold S0
 rcases Bool.eq_false_or_eq_true (m.s.kind==7)with c1|c1
 ·simp only [c1,Bool.true_or,if_true]at hR
  subst hR
  refine aF.go pE rfl fun B Q hB hQ=>?_
  have⟨hD,hY,hZ,gA⟩:=bR
  repeat' (first
 |simp only[go_sem,hD,hY,hZ,gA,c1]
 |(with_reducible refine aE hQ ?_;exact bd))
 rcases Bool.eq_false_or_eq_true (m.s.kind==8)with c2|c2
 ·simp only [c1,c2,Bool.or_true,if_true]at hR
  subst hR
  refine aF.go pE rfl fun B Q hB hQ=>?_
  have⟨hD,hY,hZ,gA⟩:=bR
  repeat' (first
 |simp only[go_sem,hD,hY,hZ,gA,c1,c2]
 |(with_reducible refine aE hQ ?_;exact bd))
 rcases Bool.eq_false_or_eq_true (m.s.kind==10)with c3|c3
 ·simp only [c1,c2,c3,Bool.or_self,Bool.false_eq_true,if_false,if_true, ← adP]at hR
  subst hR
  refine aF.go pE rfl fun B Q hB hQ=>?_
  have⟨hD,hY,hZ,gA⟩:=bR
  repeat' (first
 |simp only[go_sem,hD,hY,hZ,gA,c1,c2,c3]
 |(with_reducible refine CU (q8 _) ?_)
 |(with_reducible refine aE hQ ?_;exact bd))
 ·simp only [c1,c2,c3,Bool.or_self,Bool.false_eq_true,if_false]at hR
  subst hR
  refine aF.go pE rfl fun B Q hB hQ=>?_
  have⟨hD,hY,hZ,gA⟩:=bR
  repeat' (first
 |simp only[go_sem,hD,hY,hZ,gA,c1,c2,c3]
 |(with_reducible refine aE hQ ?_;exact bd))
end Go.Abs
namespace Go.Abs
def E1 (x:Int):Int:=IntKind.wrap .i64 x
def um (b:Bool):Int:=if b then 1 else 0
def Pq (op a:Int):Int×Bool:=if op==3 then(E1 (0 - a),true)else if op==4 then(um (a==0),true)else(0,false)
def Pr (op a b:Int):Int×Bool:=
 if b==0 then(0,false)
 else if b == -1 then if op==7 then(0,true)else if a == -9223372036854775808 then(a,true)else(E1 (0 - a),true)
 else if op==7 then(a.tmod b,true)else(E1 (a.tdiv b),true)
def Ps (op a b:Int):Int×Bool:=
 if op==10 then(um (decide (a<b)),true)else if op==11 then(um (decide (a≤b)),true)else if op==12 then(um (decide (a > b)),true)
 else if op==13 then(um (decide (a≥b)),true)else if op==14 then(um (a==b),true)else if op==15 then(um (!(a==b)),true)else(0,false)
def Pt (op a b:Int):Int×Bool:=
 if op==8 then(E1 (a+b),true)else if op==9 then(E1 (a - b),true)else if op==5 then(E1 (a*b),true)
 else if op==6 ||op==7 then Pr op a b
 else if op==16 then(um (!(a==0) && !(b==0)),true)else if op==17 then(um (!(a==0) || !(b==0)),true)
 else Ps op a b
def Pu (name:aG) (names:List aG) (bK:List Int):Int:=if jf name 0 names≥0 then bK.getD (jf name 0 names).toNat 0 else 0
def Ic (op:Int):List (Int×Bool)→Int×Bool
 | []=>(0,false)
 | [a]=>if a.2 then Pq op a.1 else(0,false)
 |a::b::_=>if !a.2 then(0,false)else if op==16 && a.1==0 then(0,true)else if op==17 && !(a.1==0)then(1,true)else if !b.2 then(0,false)else Pt op a.1 b.1
mutual
def Ex.val (names:List aG) (bK:List Int):Ex→Int×Bool
 |⟨op,n,name,kids⟩=>if op==1 then(n,true)else if op==2 then(Pu name names bK,true)else Ic op (Ex.Pv names bK kids)
def Ex.Pv (names:List aG) (bK:List Int):List Ex→List (Int×Bool)
 | []=> []
 |x::l=>x.val names bK::Ex.Pv names bK l
end
def Ex.bA (x:Ex) (names:List aG) (bK:List Int):Int×Bool:=if x.may then x.val names bK else(0,false)
structure Fr where
 proc:Int
 names:List aG
 vars:List Nat
 call:Int
structure Mc where
 st:List Fr
 mem:List Int
 fin:Int
 steps:Int
 reads:Int
 out:List Int
 trace:List (Int×List Int)
def Mc.event (W:List Int) (m:Mc) (id:Int) (bK:List Int):Mc:=if W.contains id then {m with trace:=m.trace++ [(id,bK)]}else m
def Mc.top (m:Mc):Fr:=m.st.headD ⟨0,[],[],0⟩
def Mc.bK (m:Mc):List Int:=m.top.vars.map fun c=>m.mem.getD c 0
def Mc.cell (m:Mc) (name:aG):Nat:=m.top.vars.getD (jf name 0 m.top.names).toNat 0
def Mc.set (m:Mc) (name:aG) (v:Int):Mc:= {m with mem:=m.mem.set (m.cell name) v}
def Mc.bA (m:Mc) (x:Ex):(Int×Bool)×Mc:=
 let r:=x.bA m.top.names m.bK
 (r,if r.2 then m else {m with fin:=4})
def Mc.open (p:Pg) (m:Mc) (i:Int) (params:List Nat) (call:Int):Int×Mc:=
 match p.procs[i.toNat]? with
 |none=>(-1,m)
 |some f=>(ga f.body (-1),{m with st:=⟨i,p.globals++f.own,List.range p.globals.length++params++(List.range f.vars.length).map (m.mem.length + ·),call⟩::m.st,mem:=m.mem++List.replicate f.vars.length 0})
def fj (L:List Im) (id:Int):Im:=L.getD (id - 1).toNat ⟨Ji,0,0,0,0⟩
def Mc.close (L:List Im) (m:Mc) (xI:Int):Int×Mc:=
 let call:=m.top.call
 let m:= {m with st:=m.st.tail}
 if call==0 then(-1,{m with fin:=1})
 else
  let it:=fj L call
  (it.next,if it.s.name == []then m else m.set it.s.name xI)
def Mc.fa (W:List Int) (m:Mc) (s:Sm):Int×Mc:=
 if s.has then
  let r:=m.bA s.x
  (r.1.1,if r.1.2 then r.2.event W s.id [r.1.1]else r.2)
 else(0,m.event W s.id [])
def Mc.args:List Ar→Mc→List Nat→Option (List Nat)×Mc
 | [],m,out=>(some out,m)
 | a::l,m,out=>
  if a.ref then Mc.args l m (out++ [m.cell a.name])
  else
   let r:=m.bA a.x
   if r.1.2 then Mc.args l {r.2 with mem:=r.2.mem++ [r.1.1]} (out++ [r.2.mem.length])else(none,r.2)
def Mc.call (p:Pg) (W:List Int) (m:Mc) (s:Sm):Int×Mc:=
 match Mc.args s.args m []with
 |(none,m)=>(-1,m)
 |(some l,m)=>if m.st.length > 100 then(-1,{m with fin:=5})else(m.event W s.id []).open p (p.at s.proc) l s.id
def firstM (l:List Sm) (other:Int):Int:=ga l other
def Mc.do (p:Pg) (L:List Im) (tape W:List Int) (m:Mc) (it:Im):Int×Mc:=
 let s:=it.s
 if s.kind==7 then((fj L it.loop).next,m.event W s.id [])
 else if s.kind==8 then(it.loop,m.event W s.id [])
 else if s.kind==10 then((match p.procs[it.proc.toNat]? with|some f=>(kZ f.fin s.name (Sm.dd f.body)).1|none=>0),m.event W s.id [])
 else if s.kind==2 then
  match tape[m.reads.toNat]? with
  |none=>(-1,{m with fin:=3})
  |some n=>(it.next,(({m with reads:=m.reads+1} : Mc).set s.name n).event W s.id [n])
 else
  let r:=m.bA s.x
  if r.1.2 then
   let m:=r.2.event W s.id [r.1.1]
   let n:=r.1.1
   if s.kind==1 then(it.next,m.set s.name n)
   else if s.kind==3 then(it.next,{m with out:=m.out++ [n]})
   else if s.kind==5 then(if n==0 then firstM s.aS it.next else firstM s.a8 it.next,m)
   else if s.kind==6 then(if n==0 then it.next else firstM s.a8 s.id,m)
   else(it.next,m)
  else(-1,r.2)
def Mc.back (L:List Im) (m:Mc) (xI:Int):Option Int×Mc:=
 let r:=m.close L xI
 (if r.2.fin==0 then some r.1 else none,r.2)
def Mc.next (p:Pg) (L:List Im) (tape W:List Int) (fuel:Int) (at_:Int) (m:Mc):Option Int×Mc:=
 if at_ == -1 then m.back L 0
 else if m.steps==fuel then(none,{m with fin:=2})
 else
  let m:= {m with steps:=m.steps+1}
  let it:=fj L at_
  if it.s.kind==4 then
   let r:=m.call p W it.s
   (if r.2.fin==0 then some r.1 else none,r.2)
  else if it.s.kind==9 then
   let r:=m.fa W it.s
   if r.2.fin==0 then r.2.back L r.1 else(none,r.2)
  else
   let r:=m.do p L tape W it
   (if r.2.fin==0 then some r.1 else none,r.2)
def Mc.go (p:Pg) (L:List Im) (tape W:List Int) (fuel:Int):Nat→Int→Mc→Option Mc
 | 0,_,_=>none
 |N+1,at_,m=>
  match m.next p L tape W fuel at_ with
  |(none,m)=>some m
  |(some a,m)=>Mc.go p L tape W fuel N a m
def jK (p:Pg):Mc:=⟨[],List.replicate p.globals.length 0,0,0,0,[],[]⟩
def runM (p:Pg) (tape W:List Int) (fuel:Int):Option Mc:=
 let r:=(jK p).open p (p.at iI) [] 0
 Mc.go p p.aY.L tape W fuel (2*fuel.toNat+3) r.1 r.2
theorem dT (W:List Int) (m:Mc) (id:Int) (bK:List Int):(m.event W id bK).st=m.st∧(m.event W id bK).mem=m.mem∧(m.event W id bK).fin=m.fin∧(m.event W id bK).steps=m.steps∧(m.event W id bK).reads=m.reads∧(m.event W id bK).out=m.out:=by
 unfold Mc.event;split<;>exact⟨rfl,rfl,rfl,rfl,rfl,rfl⟩
theorem fB (m:Mc) (x:Ex):(m.bA x).2.st=m.st∧(m.bA x).2.mem=m.mem∧(m.bA x).2.steps=m.steps∧(m.bA x).2.reads=m.reads∧(m.bA x).2.out=m.out∧(m.bA x).2.trace=m.trace:=by
 unfold Mc.bA;dsimp only;split<;>exact⟨rfl,rfl,rfl,rfl,rfl,rfl⟩
theorem u7 : ∀ (l:List Ar) (m:Mc) (out:List Nat),(Mc.args l m out).2.st=m.st∧(Mc.args l m out).2.steps=m.steps
 | [],m,out=>⟨rfl,rfl⟩
 | a::l,m,out=>by
  simp only[Mc.args]
  split
  ·exact u7 l m _
  ·have h:=fB m a.x
   split
   ·have:=u7 l {(m.bA a.x).2 with mem:=(m.bA a.x).2.mem++ [(m.bA a.x).1.1]} (out++ [(m.bA a.x).2.mem.length])
    exact⟨this.1.trans h.1,this.2.trans h.2.2.1⟩
   ·exact⟨h.1,h.2.2.1⟩
theorem yI (p:Pg) (m:Mc) (i:Int) (l:List Nat) (c:Int):(m.open p i l c).2.st.length≤m.st.length+1∧(m.open p i l c).2.steps=m.steps:=by
 unfold Mc.open;split
 ·exact⟨Nat.le_succ _,rfl⟩
 ·exact⟨Nat.le_refl _,rfl⟩
theorem Mf (p:Pg) (W:List Int) (m:Mc) (s:Sm):(m.call p W s).2.st.length≤m.st.length+1∧(m.call p W s).2.steps=m.steps:=by
 have h:=u7 s.args m []
 unfold Mc.call
 generalize Mc.args s.args m [] = r at *
 obtain⟨o,m1⟩:=r
 dsimp only at h
 cases o with
 |none=>dsimp only;rw[h.1,h.2];exact⟨Nat.le_succ _,rfl⟩
 | some l=>
  dsimp only
  split
  ·dsimp only;rw[h.1,h.2];exact⟨Nat.le_succ _,rfl⟩
  ·have h2:=yI p (m1.event W s.id []) (p.at s.proc) l s.id
   rw[(dT ..).1,(dT ..).2.2.2.1,h.1,h.2]at h2
   exact h2
theorem zK (W:List Int) (m:Mc) (s:Sm):(m.fa W s).2.st=m.st∧(m.fa W s).2.steps=m.steps:=by
 have h:=fB m s.x
 unfold Mc.fa
 dsimp only
 split
 ·split
  ·exact⟨(dT ..).1.trans h.1,(dT ..).2.2.2.1.trans h.2.2.1⟩
  ·exact⟨h.1,h.2.2.1⟩
 ·exact⟨(dT ..).1,(dT ..).2.2.2.1⟩
theorem Pw (p:Pg) (L:List Im) (tape W:List Int) (m:Mc) (it:Im):(m.do p L tape W it).2.st=m.st∧(m.do p L tape W it).2.steps=m.steps:=by
 have h:=fB m it.s.x
 have e:=fun(m:Mc) id bK=>(⟨(dT W m id bK).1,(dT W m id bK).2.2.2.1⟩:(m.event W id bK).st=m.st∧(m.event W id bK).steps=m.steps)
 unfold Mc.do
 dsimp only
 repeat' split
 all_goals first
  |exact e ..
  |exact⟨rfl,rfl⟩
  |exact⟨(e ..).1.trans h.1,(e ..).2.trans h.2.2.1⟩
  |exact⟨h.1,h.2.2.1⟩
theorem J7 (L:List Im) (m:Mc) (g:Int):(m.close L g).2.st=m.st.tail∧(m.close L g).2.steps=m.steps∧(m.st = []→(m.close L g).2.fin=1):=by
 unfold Mc.close
 dsimp only
 split
 ·exact⟨rfl,rfl,fun _=>rfl⟩
 ·rename_i hc
  refine⟨by split<;>rfl,by split<;>rfl,fun e=>absurd ?_ hc⟩
  simp[Mc.top,e]
theorem back_eq {L:List Im} {m:Mc} {g:Int} {a:Int} {m':Mc} (h:m.back L g=(some a,m')):m'.st.length<m.st.length∧m'.steps=m.steps:=by
 obtain⟨h1,h2,h3⟩:=J7 L m g
 unfold Mc.back at h
 dsimp only at h
 split at h
 ·rename_i hf
  simp only[Prod.mk.injEq]at h
  rw[← h.2]
  refine⟨?_,h2⟩
  rw[h1,List.length_tail]
  cases e:m.st with
  |nil=>rw[h3 e]at hf;cases hf
  |cons x l=>simp
 ·simp at h
theorem Mg {p:Pg} {L:List Im} {tape W:List Int} {fuel a a':Int} {m m':Mc} (hs:m.steps≤fuel) (h:m.next p L tape W fuel a=(some a',m')) :
 m'.steps≤fuel∧2*(fuel - m'.steps)+m'.st.length<2*(fuel - m.steps)+m.st.length:=by
 unfold Mc.next at h
 split at h
 ·have:=back_eq h;omega
 split at h
 ·simp at h
 rename_i eO
 have hD:m.steps<fuel:=by(have:m.steps≠fuel:=by simpa using eO);omega
 dsimp only at h
 split at h
 ·have h1:=Mf p W {m with steps:=m.steps+1} (fj L a).s
  simp only[Prod.mk.injEq]at h
  rw[← h.2]
  dsimp only at h1
  omega
 split at h
 ·have h1:=zK W {m with steps:=m.steps+1} (fj L a).s
  dsimp only at h1
  split at h
  ·have h2:=back_eq h
   rw[h1.1,h1.2]at h2
   omega
  ·simp at h
 ·have h1:=Pw p L tape W {m with steps:=m.steps+1} (fj L a)
  simp only[Prod.mk.injEq]at h
  rw[← h.2,h1.1,h1.2]
  dsimp only
  omega
theorem Mh (p:Pg) (L:List Im) (tape W:List Int) (fuel:Int) : ∀ (N:Nat) (a:Int) (m:Mc),m.steps≤fuel→2*(fuel - m.steps)+m.st.length<N→∃ m',Mc.go p L tape W fuel N a m=some m'
 | 0,_,_,_,h=>by omega
 | N+1,a,m,hs,h=>by
  simp only[Mc.go]
  cases e:m.next p L tape W fuel a with
  | mk o m1=>
   cases o with
   |none=>exact⟨m1,rfl⟩
   |some a1=>
    have:=Mg hs e
    exact Mh p L tape W fuel N a1 m1 this.1 (by omega)
theorem Hh (p:Pg) (tape W:List Int) {fuel:Int} (h:0≤fuel) : ∃ m,runM p tape W fuel=some m:=by
 unfold runM
 have h1:=yI p (jK p) (p.at iI) [] 0
 have e1:(jK p).st.length=0:=rfl
 have e2:(jK p).steps=0:=rfl
 rw[e1,e2]at h1
 exact Mh p _ tape W fuel _ _ _ (by rw[h1.2];exact h) (by rw[h1.2];omega)
structure Grow (m m':Mc):Prop where
 trace : ∃ t,m'.trace=m.trace++t
 out : ∃ t,m'.out=m.out++t
 reads:m.reads≤m'.reads
 steps:m.steps≤m'.steps
theorem Grow.refl (m:Mc):Grow m m:=⟨⟨[],by simp⟩,⟨[],by simp⟩,Int.le_refl _,Int.le_refl _⟩
theorem Grow.trans {a b c:Mc} (h:Grow a b) (k:Grow b c):Grow a c:=by
 obtain⟨⟨t,h1⟩,⟨o,h2⟩,h3,h4⟩:=h
 obtain⟨⟨t',k1⟩,⟨o',k2⟩,k3,k4⟩:=k
 exact⟨⟨t++t',by rw[k1,h1,List.append_assoc]⟩,⟨o++o',by rw[k2,h2,List.append_assoc]⟩,Int.le_trans h3 k3,Int.le_trans h4 k4⟩
theorem Grow.of {m m':Mc} (h1:m'.trace=m.trace) (h2:m'.out=m.out) (h3:m'.reads=m.reads) (h4:m'.steps=m.steps):Grow m m':=
 ⟨⟨[],by simp[h1]⟩,⟨[],by simp[h2]⟩,by omega,by omega⟩
theorem uX (W:List Int) (m:Mc) (id:Int) (bK:List Int):Grow m (m.event W id bK):=by
 unfold Mc.event;split
 ·exact⟨⟨_,rfl⟩,⟨[],by simp⟩,Int.le_refl _,Int.le_refl _⟩
 ·exact .refl m
theorem zL (m:Mc) (x:Ex):Grow m (m.bA x).2:=by
 have:=fB m x
 exact .of this.2.2.2.2.2 this.2.2.2.2.1 this.2.2.2.1 this.2.2.1
theorem BQ : ∀ (l:List Ar) (m:Mc) (out:List Nat),Grow m (Mc.args l m out).2
 | [],m,out=> .refl m
 | a::l,m,out=>by
  simp only[Mc.args]
  split
  ·exact BQ l m _
  ·have h:=zL m a.x
   split
   ·refine Grow.trans ?_ (BQ l _ _)
    exact h.trans (.of rfl rfl rfl rfl)
   ·exact h
theorem Hi (p:Pg) (m:Mc) (i:Int) (l:List Nat) (c:Int):Grow m (m.open p i l c).2:=by
 unfold Mc.open;split<;>exact .of rfl rfl rfl rfl
theorem Sx (p:Pg) (W:List Int) (m:Mc) (s:Sm):Grow m (m.call p W s).2:=by
 have h:=BQ s.args m []
 unfold Mc.call
 generalize Mc.args s.args m [] = r at *
 obtain⟨o,m1⟩:=r
 cases o with
 |none=>exact h
 |some l=>
  dsimp only
  split
  ·exact h.trans (.of rfl rfl rfl rfl)
  ·exact(h.trans (uX ..)).trans (Hi ..)
theorem E2 (W:List Int) (m:Mc) (s:Sm):Grow m (m.fa W s).2:=by
 have h:=zL m s.x
 unfold Mc.fa
 dsimp only
 split
 ·split
  ·exact h.trans (uX ..)
  ·exact h
 ·exact uX ..
theorem ZZ (p:Pg) (L:List Im) (tape W:List Int) (m:Mc) (it:Im):Grow m (m.do p L tape W it).2:=by
 have h:=zL m it.s.x
 have e:=fun m id bK=>uX W m id bK
 unfold Mc.do
 dsimp only
 repeat' split
 all_goals first
  |exact e ..
  |exact .of rfl rfl rfl rfl
  |exact h.trans ((e ..).trans (.of rfl rfl rfl rfl))
  |exact h.trans (e ..)
  |exact h.trans ((e ..).trans ⟨⟨[],by simp⟩,⟨_,rfl⟩,Int.le_refl _,Int.le_refl _⟩)
  |exact h
  |exact Grow.trans ⟨⟨[],by simp[Mc.set]⟩,⟨[],by simp[Mc.set]⟩,by simp only[Mc.set];omega,by simp only[Mc.set];omega⟩ (e ..)
theorem Px (L:List Im) (m:Mc) (g:Int):Grow m (m.close L g).2:=by
 unfold Mc.close
 dsimp only
 repeat' split
 all_goals exact .of rfl rfl rfl rfl
theorem Hj (L:List Im) (m:Mc) (g:Int):Grow m (m.back L g).2:=Px L m g
theorem Hk (p:Pg) (L:List Im) (tape W:List Int) (fuel a:Int) (m:Mc):Grow m (m.next p L tape W fuel a).2:=by
 have hs:Grow m {m with steps:=m.steps+1}:=⟨⟨[],by simp⟩,⟨[],by simp⟩,Int.le_refl _,by dsimp only;omega⟩
 unfold Mc.next
 dsimp only
 split
 ·exact Hj ..
 split
 ·exact .of rfl rfl rfl rfl
 split
 ·exact hs.trans (Sx ..)
 split
 ·split
  ·exact hs.trans ((E2 ..).trans (Hj ..))
  ·exact hs.trans (E2 ..)
 ·exact hs.trans (ZZ ..)
theorem Mi (p:Pg) (L:List Im) (tape W:List Int) (fuel:Int) : ∀ (N:Nat) (a:Int) (m m':Mc),Mc.go p L tape W fuel N a m=some m'→Grow m m'
 | 0,_,_,_,h=>by simp[Mc.go]at h
 |N+1,a,m,m',h=>by
  have hg:=Hk p L tape W fuel a m
  simp only[Mc.go]at h
  split at h
  ·rename_i m1 e;rw[e]at hg;cases h;exact hg
  ·rename_i a1 m1 e;rw[e]at hg;exact hg.trans (Mi p L tape W fuel N a1 m1 m' h)
def nZ (L:List Im) (a:Int):Prop:=a = -1∨(1≤a∧a≤(L.length:Int))
theorem pj {L:List Im} {a:Int} (h:nZ L a) (hn:a≠ -1):fj L a∈L:=by
 rcases h with h|⟨h1,h2⟩
 ·exact absurd h hn
 ·unfold fj
  rw[List.getD_eq_getElem?_getD,List.getElem?_eq_getElem (show(a - 1).toNat<L.length by omega)]
  exact List.getElem_mem _
structure Au (p:Pg) (L:List Im):Prop where
 id : ∀ x∈L,1≤x.s.id∧x.s.id≤(L.length:Int)
 next : ∀ x∈L,nZ L x.next
 loop : ∀ x∈L,x.s.kind=7∨x.s.kind=8→1≤x.loop∧x.loop≤(L.length:Int)
 F4 : ∀ x∈L,x.s.kind=10→∃ f,p.procs[x.proc.toNat]? = some f∧nZ L (kZ f.fin x.s.name (Sm.dd f.body)).1
 a8 : ∀ x∈L,nZ L (ga x.s.a8 (-1))
 aS : ∀ x∈L,nZ L (ga x.s.aS (-1))
 nX : ∀ f∈p.procs,nZ L (ga f.body (-1))
def oH (L:List Im) (m:Mc):Prop:=∀ fr∈m.st,fr.call=0∨(1≤fr.call∧fr.call≤(L.length:Int))
theorem DO {L:List Im} {l:List Sm} {o:Int} (h:nZ L (ga l (-1))) (ho:nZ L o):nZ L (firstM l o):=by
 cases l with
 |nil=>exact ho
 |cons s l=>exact h
theorem oH.of {L:List Im} {m m':Mc} (h:oH L m) (e:m'.st=m.st):oH L m':=by unfold oH;rw[e];exact h
def Told (L:List Im) (r:Option Int×Mc):Prop:=
 match r.1 with
 |some a=>nZ L a∧oH L r.2∧r.2.fin=0∧(r.2.trace.length:Int)=r.2.steps
 |none=>((r.2.fin=1∨r.2.fin=2)∧(r.2.trace.length:Int)=r.2.steps)∨((r.2.fin=3∨r.2.fin=4∨r.2.fin=5)∧(r.2.trace.length:Int)+1=r.2.steps)
theorem uY {W:List Int} {m:Mc} {id:Int} {bK:List Int} (h:W.contains id=true):(m.event W id bK).trace=m.trace++ [(id,bK)]∧(m.event W id bK).fin=m.fin:=by
 unfold Mc.event;rw[if_pos h];exact⟨rfl,rfl⟩
theorem BR (m:Mc) (x:Ex) (h:m.fin=0):((m.bA x).1.2=true→(m.bA x).2.fin=0)∧((m.bA x).1.2=false→(m.bA x).2.fin=4):=by
 unfold Mc.bA
 dsimp only
 constructor
 ·intro e;rw[if_pos e];exact h
 ·intro e;rw[e];rfl
theorem Hl {p:Pg} {L:List Im} (hL:Au p L) {m:Mc} {g:Int} (hs:oH L m) (hf:m.fin=0) (ht:(m.trace.length:Int)=m.steps):Told L (m.back L g):=by
 unfold Mc.back Mc.close
 dsimp only
 by_cases hc:(m.top.call==0)=true
 ·rw [if_pos hc]
  exact .inl ⟨.inl rfl,ht⟩
 ·rw [if_neg hc]
  have eO:m.top.call≠0:=by simpa using hc
  have Pn:1≤m.top.call∧m.top.call≤(L.length:Int):=by
   cases e:m.st with
   |nil=>simp[Mc.top,e]at eO
   |cons fr l=>
    have:m.top=fr:=by simp[Mc.top,e]
    rw[this]at eO ⊢
    exact(hs fr (by rw[e];exact List.mem_cons_self ..)).resolve_left eO
  have gE:=pj (L:=L) (.inr Pn) (by omega)
  have ji:oH L {m with st:=m.st.tail}:=fun fr rY=>hs fr (List.mem_of_mem_tail rY)
  have e0 : ∀ m1:Mc,m1.fin=0→(m1.fin==0)=true:=fun m1 h=>by rw[h];rfl
  split
  ·rw[if_pos (e0 _ hf)];exact⟨hL.next _ gE,ji,hf,ht⟩
  ·rw[if_pos (e0 _ (by exact hf))];exact⟨hL.next _ gE,ji.of rfl,hf,ht⟩
theorem vT : ∀ (l:List Ar) (m:Mc) (out:List Nat),m.fin=0→(Mc.args l m out).2.trace=m.trace∧(match (Mc.args l m out).1 with|some _=>(Mc.args l m out).2.fin=0|none=>(Mc.args l m out).2.fin=4)
 | [],m,out,h=>⟨rfl,h⟩
 | a::l,m,out,h=>by
  have hw:=BR m a.x h
  have he:=fB m a.x
  simp only[Mc.args]
  by_cases c:a.ref=true
  ·rw[if_pos c];exact vT l m _ h
  ·rw [if_neg c]
   by_cases c2:(m.bA a.x).1.2=true
   ·rw [if_pos c2]
    obtain⟨h1,h2⟩:=vT l {(m.bA a.x).2 with mem:=(m.bA a.x).2.mem++ [(m.bA a.x).1.1]} (out++ [(m.bA a.x).2.mem.length]) (hw.1 c2)
    exact⟨h1.trans he.2.2.2.2.2,h2⟩
   ·rw [if_neg c2]
    exact⟨he.2.2.2.2.2,hw.2 (by simpa using c2)⟩
def BS (L:List Im) (r:Int×Mc):Prop:=
 (r.2.fin=0∧nZ L r.1∧oH L r.2∧(r.2.trace.length:Int)=r.2.steps)∨((r.2.fin=3∨r.2.fin=4∨r.2.fin=5)∧(r.2.trace.length:Int)+1=r.2.steps)
theorem BS.told {L:List Im} {r:Int×Mc} (h:BS L r):Told L (if r.2.fin==0 then some r.1 else none,r.2):=by
 obtain⟨a,m⟩:=r
 rcases h with ⟨h1,h2,h3,h4⟩|⟨h1,h2⟩
 ·dsimp only at h1 h2 h3 h4 ⊢
  rw[if_pos (by rw[h1];rfl)]
  exact⟨h2,h3,h1,h4⟩
 ·dsimp only at h1 h2 ⊢
  rw[if_neg (by simp only[beq_iff_eq];omega)]
  exact .inr ⟨h1,h2⟩
theorem Sy {p:Pg} {L:List Im} (hL:Au p L) {W:List Int} {m:Mc} {x:Im} (hx:x∈L) (hw:W.contains x.s.id=true) (hs:oH L m) (hf:m.fin=0) (ht:(m.trace.length:Int)+1=m.steps) :
 BS L (m.call p W x.s):=by
 have h:=u7 x.s.args m []
 have h2:=vT x.s.args m [] hf
 unfold Mc.call
 generalize Mc.args x.s.args m [] = r at *
 obtain⟨o,m1⟩:=r
 dsimp only at h h2
 cases o with
 |none=>
  dsimp only at h2 ⊢
  exact .inr ⟨.inr (.inl h2.2),by dsimp only;rw[h2.1,h.2];exact ht⟩
 | some l=>
  dsimp only at h2 ⊢
  by_cases c:m1.st.length > 100
  ·rw [if_pos c]
   exact .inr ⟨.inr (.inr rfl),by dsimp only;rw[h2.1,h.2];exact ht⟩
  ·rw [if_neg c]
   obtain⟨e1,e2⟩:=uY (m:=m1) (bK:= []) hw
   have e3:=dT W m1 x.s.id []
   have vg:oH L (m1.event W x.s.id []):=hs.of (e3.1.trans h.1)
   have wO:((m1.event W x.s.id []).trace.length:Int)=(m1.event W x.s.id []).steps:=by
    rw[e1,e3.2.2.2.1,h2.1,h.2,List.length_append]
    simp only[List.length_cons,List.length_nil];omega
   have L5:(m1.event W x.s.id []).fin=0:=e2.trans h2.2
   unfold Mc.open
   cases hp:p.procs[(p.at x.s.proc).toNat]? with
   |none=>exact .inl ⟨L5, .inl rfl,vg,wO⟩
   |some f=>
    refine .inl ⟨L5,hL.nX f (List.mem_of_getElem? hp),fun fr rY=>?_,wO⟩
    rcases List.mem_cons.1 rY with rfl|rY
    ·exact .inr (hL.id x hx)
    ·exact vg fr rY
theorem Py {p:Pg} {L:List Im} (hL:Au p L) {W:List Int} {m:Mc} {x:Im} (hw:W.contains x.s.id=true) (hs:oH L m) (hf:m.fin=0) (ht:(m.trace.length:Int)+1=m.steps) :
 Told L (if(m.fa W x.s).2.fin==0 then(m.fa W x.s).2.back L (m.fa W x.s).1 else(none,(m.fa W x.s).2)):=by
 have he:=zK W m x.s
 have key:((m.fa W x.s).2.fin=0∧((m.fa W x.s).2.trace.length:Int)=(m.fa W x.s).2.steps)∨((m.fa W x.s).2.fin=4∧((m.fa W x.s).2.trace.length:Int)+1=(m.fa W x.s).2.steps):=by
  rw[he.2]
  unfold Mc.fa
  have Sz:=BR m x.s.x hf
  have Hn:=fB m x.s.x
  by_cases c:x.s.has=true
  ·rw [if_pos c]
   dsimp only
   by_cases c2:(m.bA x.s.x).1.2=true
   ·rw [if_pos c2]
    obtain⟨e1,e2⟩:=uY (m:=(m.bA x.s.x).2) (bK:= [(m.bA x.s.x).1.1]) hw
    refine .inl ⟨e2.trans (Sz.1 c2), ?_⟩
    rw[e1,Hn.2.2.2.2.2,List.length_append]
    simp only[List.length_cons,List.length_nil];omega
   ·rw [if_neg c2]
    exact .inr ⟨Sz.2 (by simpa using c2),by rw[Hn.2.2.2.2.2];exact ht⟩
  ·rw [if_neg c]
   obtain⟨e1,e2⟩:=uY (m:=m) (bK:= []) hw
   refine .inl ⟨e2.trans hf, ?_⟩
   dsimp only
   rw[e1,List.length_append]
   simp only[List.length_cons,List.length_nil];omega
 generalize m.fa W x.s=r at *
 rcases key with ⟨k1,k2⟩|⟨k1,k2⟩
 ·rw [if_pos (by rw [k1];rfl)]
  exact Hl hL (hs.of he.1) k1 k2
 ·rw [if_neg (by simp only [beq_iff_eq];omega)]
  exact .inr ⟨.inr (.inl k1),k2⟩
theorem Z0 {p:Pg} {L:List Im} (hL:Au p L) {tape W:List Int} {m:Mc} {x:Im} (hx:x∈L) (hw:W.contains x.s.id=true) (hs:oH L m) (hf:m.fin=0) (ht:(m.trace.length:Int)+1=m.steps) :
 BS L (m.do p L tape W x):=by
 have go : ∀ {m1:Mc} {a:Int} {bK:List Int},m1.trace=m.trace→m1.steps=m.steps→m1.st=m.st→m1.fin=0→nZ L a→BS L (a,m1.event W x.s.id bK):=fun {m1 a bK} e1 e2 e3 e4 ha=>by
  obtain⟨g1,g2⟩:=uY (m:=m1) (bK:=bK) hw
  have g3:=dT W m1 x.s.id bK
  refine .inl ⟨g2.trans e4,ha,hs.of (g3.1.trans e3), ?_⟩
  dsimp only
  rw[g1,g3.2.2.2.1,e1,e2,List.length_append]
  simp only[List.length_cons,List.length_nil];omega
 have Sz:=BR m x.s.x hf
 have Hn:=fB m x.s.x
 have hid:=hL.id x hx
 unfold Mc.do
 dsimp only
 split
 ·rename_i c
  have hl:=hL.loop x hx (.inl (by simpa using c))
  exact go rfl rfl rfl hf (hL.next _ (pj (.inr hl) (by omega)))
 split
 ·rename_i c
  exact go rfl rfl rfl hf (.inr (hL.loop x hx (.inr (by simpa using c))))
 split
 ·rename_i c
  obtain⟨f,h1,h2⟩:=hL.F4 x hx (by simpa using c)
  rw[h1]
  exact go rfl rfl rfl hf h2
 split
 ·split
  ·exact .inr ⟨.inl rfl,ht⟩
  ·exact go rfl rfl rfl hf (hL.next x hx)
 ·by_cases c2:(m.bA x.s.x).1.2=true
  ·rw [if_pos c2]
   have base:=fun(a:Int) (ha:nZ L a)=>go (m1:=(m.bA x.s.x).2) (a:=a) (bK:= [(m.bA x.s.x).1.1]) Hn.2.2.2.2.2 Hn.2.2.1 Hn.1 (Sz.1 c2) ha
   have same : ∀ {a:Int} {m1 m2:Mc},BS L (a,m1)→m2.fin=m1.fin→m2.st=m1.st→m2.trace=m1.trace→m2.steps=m1.steps→BS L (a,m2):=fun {a m1 m2} h q1 q2 q3 q4=>by
    unfold BS oH at *
    dsimp only at *
    rw[q1,q2,q3,q4];exact h
   split
   ·exact same (base _ (hL.next x hx)) rfl rfl rfl rfl
   split
   ·exact same (base _ (hL.next x hx)) rfl rfl rfl rfl
   split
   ·refine base _ ?_
    split
    ·exact DO (hL.aS x hx) (hL.next x hx)
    ·exact DO (hL.a8 x hx) (hL.next x hx)
   split
   ·refine base _ ?_
    split
    ·exact hL.next x hx
    ·exact DO (hL.a8 x hx) (.inr hid)
   ·exact base _ (hL.next x hx)
  ·rw [if_neg c2]
   exact .inr ⟨.inr (.inl (Sz.2 (by simpa using c2))),by dsimp only;rw[Hn.2.2.2.2.2,Hn.2.2.1];exact ht⟩
theorem Ho {p:Pg} {L:List Im} (hL:Au p L) {tape W:List Int} (hW : ∀ x∈L,W.contains x.s.id=true) {fuel a:Int} {m:Mc} (ha:nZ L a) (hs:oH L m) (hf:m.fin=0) (ht:(m.trace.length:Int)=m.steps) :
 Told L (m.next p L tape W fuel a):=by
 unfold Mc.next
 by_cases c1:(a == -1)=true
 ·rw[if_pos c1];exact Hl hL hs hf ht
 ·rw [if_neg c1]
  by_cases c2:(m.steps==fuel)=true
  ·rw[if_pos c2];exact .inl ⟨.inr rfl,ht⟩
  ·rw [if_neg c2]
   have hx:=pj ha (by simpa using c1)
   have na:oH L {m with steps:=m.steps+1}:=hs.of rfl
   have Eg:((({m with steps:=m.steps+1} : Mc).trace.length:Nat):Int)+1=({m with steps:=m.steps+1} : Mc).steps:=by dsimp only;omega
   dsimp only
   split
   ·exact(Sy hL hx (hW _ hx) na hf Eg).told
   split
   ·exact Py hL (hW _ hx) na hf Eg
   ·exact(Z0 hL hx (hW _ hx) na hf Eg).told
def VQ (m:Mc):Prop:=((m.fin=1∨m.fin=2)∧(m.trace.length:Int)=m.steps)∨((m.fin=3∨m.fin=4∨m.fin=5)∧(m.trace.length:Int)+1=m.steps)
theorem Mj {p:Pg} {L:List Im} (hL:Au p L) {tape W:List Int} (hW : ∀ x∈L,W.contains x.s.id=true) {fuel:Int} : ∀ (N:Nat) (a:Int) (m m':Mc),nZ L a→oH L m→m.fin=0→(m.trace.length:Int)=m.steps→
 Mc.go p L tape W fuel N a m=some m'→VQ m'
 | 0,_,_,_,_,_,_,_,h=>by simp[Mc.go]at h
 |N+1,a,m,m',ha,hs,hf,ht,h=>by
  have hn:=Ho (fuel:=fuel) (tape:=tape) hL hW ha hs hf ht
  simp only[Mc.go]at h
  split at h
  ·rename_i m1 e;rw[e]at hn;cases h;exact hn
  ·rename_i a1 m1 e;rw[e]at hn;exact Mj hL hW N a1 m1 m' hn.1 hn.2.1 hn.2.2.1 hn.2.2.2 h
theorem J8 {p:Pg} {L:List Im} (hL:Au p L):nZ L ((jK p).open p (p.at iI) [] 0).1∧oH L ((jK p).open p (p.at iI) [] 0).2∧((jK p).open p (p.at iI) [] 0).2.fin=0∧
 ((((jK p).open p (p.at iI) [] 0).2.trace.length:Nat):Int)=((jK p).open p (p.at iI) [] 0).2.steps:=by
 unfold Mc.open
 cases hp:p.procs[(p.at iI).toNat]? with
 |none=>exact⟨.inl rfl,fun fr h=>by simp[jK]at h,rfl,rfl⟩
 |some f=>
  refine⟨hL.nX f (List.mem_of_getElem? hp),fun fr h=>?_,rfl,rfl⟩
  rcases List.mem_cons.1 h with rfl|h
  ·exact .inl rfl
  ·simp[jK]at h
theorem SA {p:Pg} (hL:Au p p.aY.L) {tape W:List Int} (hW : ∀ x∈p.aY.L,W.contains x.s.id=true) {fuel:Int} {m:Mc} (h:runM p tape W fuel=some m):VQ m:=by
 obtain⟨h1,h2,h3,h4⟩:=J8 hL
 exact Mj hL hW _ _ _ _ h1 h2 h3 h4 h
theorem J9 (p:Pg) (L:List Im) (tape W:List Int) {fuel:Int} : ∀ (N:Nat) (a:Int) (m m':Mc),m.steps≤fuel→Mc.go p L tape W fuel N a m=some m'→m'.steps≤fuel
 | 0,_,_,_,_,h=>by simp[Mc.go]at h
 | N+1,a,m,m',hs,h=>by
  simp only[Mc.go]at h
  cases e:m.next p L tape W fuel a with
  | mk o m1=>
   rw[e]at h
   cases o with
   |some a1=>exact J9 p L tape W N a1 m1 m' (Mg hs e).1 h
   | none=>
    cases h
    unfold Mc.next at e
    have hb : ∀ {m:Mc} {g:Int} {o:Option Int} {m2:Mc},m.back L g=(o,m2)→m2.steps=m.steps:=fun {m g o m2} h=>by
     have:=(J7 L m g).2.1
     unfold Mc.back at h
     simp only[Prod.mk.injEq]at h
     rw[← h.2];exact this
    split at e
    ·rw[hb e];exact hs
    split at e
    ·simp only[Prod.mk.injEq,true_and]at e;rw[← e];exact hs
    rename_i eO
    have hD:m.steps<fuel:=by(have:m.steps≠fuel:=by simpa using eO);omega
    dsimp only at e
    split at e
    ·have h1:=(Mf p W {m with steps:=m.steps+1} (fj L a).s).2
     simp only[Prod.mk.injEq]at e
     rw[← e.2,h1];dsimp only;omega
    split at e
    ·have h1:=(zK W {m with steps:=m.steps+1} (fj L a).s).2
     split at e
     ·rw[hb e,h1];dsimp only;omega
     ·simp only[Prod.mk.injEq,true_and]at e;rw[← e,h1];dsimp only;omega
    ·have h1:=(Pw p L tape W {m with steps:=m.steps+1} (fj L a)).2
     simp only[Prod.mk.injEq]at e
     rw[← e.2,h1];dsimp only;omega
def Da (a b t:aG):aG:=if t==a then b else if t==b then a else t
mutual
def Ex.swap (a b:aG):Ex→Ex
 |⟨op,n,name,kids⟩=>⟨op,n,Da a b name,Ex.zM a b kids⟩
def Ex.zM (a b:aG):List Ex→List Ex
 | []=> []
 |x::l=>x.swap a b::Ex.zM a b l
end
def Ar.swap (a b:aG) (x:Ar):Ar:=⟨x.ref,Da a b x.name,x.x.swap a b⟩
mutual
def Sm.swap (a b:aG):Sm→Sm
 |⟨id,kind,labels,name,proc,x,has,args,a8,aS⟩=>⟨id,kind,labels.map (Da a b),Da a b name,Da a b proc,x.swap a b,has,args.map (Ar.swap a b),Sm.zM a b a8,Sm.zM a b aS⟩
def Sm.zM (a b:aG):List Sm→List Sm
 | []=> []
 |s::l=>s.swap a b::Sm.zM a b l
end
def Pm.swap (a b:aG) (x:Pm):Pm:=⟨Da a b x.name,x.ref⟩
def Pc.swap (a b:aG) (f:Pc):Pc:=⟨Da a b f.name,f.params.map (Pm.swap a b),f.vars.map (Da a b),Sm.zM a b f.body,f.fin.map (Da a b)⟩
def Pg.swap (a b:aG) (p:Pg):Pg:=⟨p.globals.map (Da a b),p.procs.map (Pc.swap a b)⟩
def It.swap (a b:aG) (i:It):It:=⟨i.s.swap a b,i.deep,i.cy,i.aS⟩
def Ya:List Sm→List aG
 | []=> []
 |v::l=>v.said++Ya l
def ahD (p:Pg):List aG→List aG
 | []=> []
 |n::l=>Ya (tB p n)++ahD p l
set_option maxRecDepth 8000
open Go.Proofs
def pH (nm:aG) (T:List aG) (seen:List aG):List Ar→Bool
 | []=>true
 |a::l=>if a.ref then(if fw seen a.name ||(a.name==nm ||fw T a.name)then false else pH nm T (seen++ [a.name]) l)else pH nm T seen l
def apM (T:List aG) (seen:List aG):List Ar→Bool
 | []=>true
 |a::l=>if a.ref then(if fw seen a.name ||fw T a.name then false else apM T (seen++ [a.name]) l)else apM T seen l
def Sm.aob (v:Sm):List aG:=if v.name != []then [v.name]else []
theorem VR {v:Sm} (yi:v.args.length<1000000000) {T:List aG} (hT:T.length<4611686018427387904) (s:St) :
 aF Tryz.prog sq [.agg (bh v), .slice .shared 1 (T.map encStr)] s (.bool (pH v.name T [] v.args)) s:=by
 refine aF.pure ?_ (by simp[D.bL,D.ok,rj,Tag.ok,fb]) rfl s
 generalize hR:pH v.name T [] v.args=R
 have Yb:=fun x s=>rH hT x s
 unfold S0
 refine aF.go DD rfl fun B Q hB hQ=>?_
 have⟨hD,hY,hZ,gA⟩:=bR
 repeat' (first
 |simp only[go_sem,hD,hY,hZ,gA]
 |(with_reducible refine aE hQ ?_;exact bd))
 refine bt.sm 5 1 rfl ?_
 simp only[go_sem,hD,hY,hZ,gA]
 refine fi 1 1 (bt.ind (ι:=List Ar×Nat×List aG×Nat) (fun i=>v.args.drop i.2.1=i.1∧pH v.name T i.2.2.1 i.1=R∧i.2.2.1.length≤i.2.1∧i.2.2.2=i.2.2.1.length) (fun i=>i.1.length)
  (fun i=> [(1, .slice .shared 1 (T.map encStr)),(2, .ptr 0 0),(5, .slice (.tok 0) 1 (i.2.2.1.map encStr)),(9, .slice .shared 6 (v.args.map eC)),(10, .int .i64 (v.args.length:Int)),(11, .int .i64 (i.2.1:Int))]) (fun i=>⟨[bh v],[some i.2.2.2]⟩) ?_ (v.args,0,[],0) ⟨rfl,hR,Nat.le_refl _,rfl⟩)
 clear hR
 rintro⟨rest,k,seen,n'⟩ ⟨h1,h2,h3,h4⟩ IH
 dsimp only at h1 h2 h3 h4
 subst h4
 cases rest with
 |nil=>
  have hD:=drop_nil h1
  simp only[pH]at h2
  subst h2
  repeat' (first
 |simp only[go_sem,hD,hY,hZ,gA]
 |(with_reducible refine aE hQ ?_;exact bd))
 | cons a rest=>
  obtain⟨hY,g2,hD,g4⟩:=drop_cons h1
  have bU:k<4611686018427387904:=by omega
  have hZ:(seen.length+1)*17≤bC:=by unfold bC;omega
  have lb:=fun g s=>jB (l:=seen) (by omega) a.name g s
  simp only[pH]at h2
  rcases Bool.eq_false_or_eq_true a.ref with c1|c1
  case inr=>
   simp only[c1,Bool.false_eq_true,if_false]at h2
   repeat' (first
 |simp only[go_sem,hD,hY,hZ,gA,c1,Bool.not_false]
 | (with_reducible refine aE hQ ?_;exact bd))
   refine eY 1 1 ?_ ?_ (IH (rest,k+1,seen,_) ⟨g2,h2,by dsimp only;omega,rfl⟩ (Nat.lt_succ_self _))
   ·(simp only[go_sem,hD,hY,hZ,gA,aI bU];try exact cj)
   ·(simp only[go_sem,hD,hY,hZ,gA,aI bU];try exact cj)
  simp only[c1,if_true]at h2
  rcases Bool.eq_false_or_eq_true (fw seen a.name)with c2|c2
  ·simp only [c2,Bool.true_or,if_true]at h2
   subst h2
   repeat' (first
 |simp only[go_sem,hD,hY,hZ,gA,c1,c2,Bool.not_true]
 |(with_reducible refine CU (lb _ _) ?_)
 |(with_reducible refine CU (Yb _ _) ?_)
 | (with_reducible refine aE hQ ?_;exact bd))
  rcases Bool.eq_false_or_eq_true (a.name==v.name)with c3|c3
  ·simp only [c2,c3,Bool.false_or,Bool.true_or,if_true]at h2
   subst h2
   repeat' (first
 |simp only[go_sem,hD,hY,hZ,gA,c1,c2,c3,Bool.not_true]
 |(with_reducible refine CU (lb _ _) ?_)
 |(with_reducible refine CU (Yb _ _) ?_)
 | (with_reducible refine aE hQ ?_;exact bd))
  rcases Bool.eq_false_or_eq_true (fw T a.name)with c4|c4
  ·simp only [c2,c3,c4,Bool.false_or,if_true]at h2
   subst h2
   repeat' (first
 |simp only[go_sem,hD,hY,hZ,gA,c1,c2,c3,c4,Bool.not_true]
 |(with_reducible refine CU (lb _ _) ?_)
 |(with_reducible refine CU (Yb _ _) ?_)
 | (with_reducible refine aE hQ ?_;exact bd))
  ·simp only [c2,c3,c4,Bool.false_or,Bool.false_eq_true,if_false]at h2
   repeat' (first
 |simp only[go_sem,hD,hY,hZ,gA,c1,c2,c3,c4,Bool.not_true]
 |(with_reducible refine CU (lb _ _) ?_)
 |(with_reducible refine CU (Yb _ _) ?_)
 | (with_reducible refine aE hQ ?_;exact bd))
   refine eY 1 1 ?_ ?_ (IH (rest,k+1,seen++ [a.name],seen.length+1) ⟨g2,h2,by simp;omega,by simp⟩ (Nat.lt_succ_self _))
   ·(simp only[go_sem,hD,hY,hZ,gA,aI bU,List.map_append,List.map_cons,List.map_nil,encStr];try exact cj)
   ·(simp only[go_sem,hD,hY,hZ,gA,aI bU,List.map_append,List.map_cons,List.map_nil,encStr];try exact cj)
def nC (p:Pg):List Pc→List D
 | []=> []
 |f::l=> .str f.name:: .slice .shared 1 ((p.qf f.name).map encStr)::nC p l
theorem SB (p:Pg) : ∀ l,D.bL 0 0 (nC p l)=true
 | []=>rfl
 |f::l=>by simp only[nC,D.bL,D.ok,Tag.ok,fb,SB p l];rfl
theorem Z1 (n m:Nat) (p:Pg) (l:List Pc):D.gv n m (nC p l)=nC p l:=ig n m _ (SB p l)
attribute [go_sem] Z1
theorem Ka (p:Pg) : ∀ l m,nC p (l++m)=nC p l++nC p m
 | [],m=>rfl
 |f::l,m=>by simp only[List.cons_append,nC,Ka p l m]
theorem Kb {p:Pg} {nm:aG} {d:D} : ∀ {l:List Pc},nm∉l.map (·.name)→xe nm d (nC p l)=some (nC p l++ [.str nm,d])
 | [],_=>rfl
 |f::l,h=>by
  simp only[List.map_cons,List.mem_cons,not_or]at h
  have:(f.name==nm)=false:=by simpa using fun e=>h.1 e.symm
  simp only[nC,xe,this,Bool.false_eq_true,if_false,Kb h.2,List.cons_append]
theorem Kc {p:Pg} {nm:aG} {z:D} : ∀ {l:List Pc} {f:Pc},iU nm l=some f→yO nm z (nC p l)=some (.slice .shared 1 ((p.qf nm).map encStr))
 | g::l,f,h=>by
  simp only[iU]at h
  simp only[nC,yO]
  split at h
  ·rename_i e
   rw[if_pos e,eq_of_beq e]
  ·rename_i e
   rw[if_neg e]
   exact Kc h
theorem Z2 (l:List aG) : ∀ (s:List aG),qd s l=false→∀ a x b,l=a++x::b→x∉s++a:=by
 induction l with
 |nil=>intro s _ a x b e;cases a<;>cases e
 | cons y l ih=>
  intro s h a x b e
  simp only[qd]at h
  split at h
  ·cases h
  ·rename_i hy
   cases a with
   |nil=>cases e;simpa[← jg]using hy
   |cons z a=>
    cases e
    have:=ih (s++ [y]) h a x b rfl
    simpa using this
end Go.Abs
namespace Go.Abs
set_option maxRecDepth 8000
open Go.Proofs
theorem Kd {p:Pg} (h:(p.arity.1==0)=true):(p.scope.1==0)=true∧∀ v∈p.pre,(v.kind==4)=true→v.qm p=true:=by
 unfold Pg.arity at h
 split at h
 ·rename_i e
  refine⟨e,fun v hv hk=>?_⟩
  have : ∀ l:List Sm,((qe 6 (JV p l)).1==0)=true→∀ v∈l,(v.kind==4)=true→v.qm p=true:=by
   intro l
   induction l with
   |nil=>intro _ v m;cases m
   | cons a l ih=>
    intro h v m hk
    simp only[JV]at h
    split at h
    ·cases h
    ·rename_i c
     rcases List.mem_cons.1 m with rfl|m
     ·simpa[hk]using c
     ·exact ih h v m hk
  exact this _ h v hv hk
 ·cases h
theorem Hp {p:Pg} {v:Sm} (h:v.qm p=true) : ∃ f,p.find v.proc=some f:=by
 unfold Sm.qm at h
 cases e:p.find v.proc with
 |some f=>exact⟨f,rfl⟩
 |none=>rw[e]at h;simp at h
theorem Ke : ∀ {l:List It} {n:Nat} {i:It},It.fN n l=true→i∈l→i.s.one=true
 | j::l,n,i,h,m=>by
  simp only[It.fN]at h
  split at h
  ·cases h
  ·rename_i c
   simp only[Bool.or_eq_true,not_or,Bool.not_eq_true',Bool.not_eq_false]at c
   rcases List.mem_cons.1 m with rfl|m
   ·exact c.2
   ·exact Ke h m
theorem Mk {p:Pg} (h:p.may=true) : ∀ v∈p.pre,v.one=true:=fun v m=>by
 rw[← (zB h).2,List.mem_map]at m
 obtain⟨i,hi,rfl⟩:=m
 exact Ke (Ck h).2 hi
def Sm.yJ (p:Pg) (v:Sm):Bool:=pH v.name (p.qf v.proc) [] v.args
def Kf (p:Pg):List Sm→Option Sm
 | []=>none
 |v::l=>if v.kind==4 && !(v.yJ p)then some v else Kf p l
def Pg.alias (p:Pg):Int×Int:=if p.arity.1==0 then qe 8 (Kf p p.pre)else(1,0)
theorem Kg {p:Pg} (h:p.iJ) (nm:aG):(p.qf nm).length<4611686018427387904:=by
 unfold Pg.qf
 cases hs:p.zD nm with
 |none=>dsimp only;decide
 |some f=>
  obtain⟨nM,hf⟩:=Hd hs
  have h1:=(J3 nM hf).len
  have h2:=h.procs
  have h3:=(zG h (kl (p.work nm)) []).2
  have h4:(kl (p.work nm)).length*1800000≤900000*1800000:=Nat.mul_le_mul_right _ (by omega)
  have h5:(kl (p.sx nm)).length≤(p.sx nm).length:=wW _ _ (uT (my _).1) fun x m=>((my _).2 x).1 m
  dsimp only
  unfold Pg.sx at *
  simp only[List.length_nil]at h3
  omega
theorem Pz {v:Sm} (hv:v.nz):v.args.length<1000000000:=by have:=Ar.eJ v.args;have:=hv.2.2;omega
theorem SC {p:Pg} (h:p.iJ) (s:St):aF Tryz.prog tW [.agg (cD p)] s (.agg [.int .i64 p.alias.1, .int .i64 p.alias.2]) s:=by
 refine aF.pure ?_ (by simp[D.bL,D.ok,jv]) rfl s
 obtain⟨rU,rJ,rI⟩:=h.procs
 have pJ:=fun s=>JW h s
 have dh:=fun s=>Ce (p:=p) (by omega) s
 have hL:=(lh p).1
 have sa:=pf p
 generalize hR:p.alias=R
 simp only[Pg.alias]at hR
 unfold S0
 have b0:(p.arity.1 != 0) = !(p.arity.1==0):=rfl
 rcases Bool.eq_false_or_eq_true (p.arity.1==0)with b1|b1
 case inr=>
  rw[b1]at b0
  simp only[b1,Bool.false_eq_true,if_false]at hR
  subst hR
  refine aF.go wJ rfl fun B Q hB hQ=>?_
  have⟨hD,hY,hZ,gA⟩:=bR
  repeat' (first
 |simp only[go_sem,hD,hY,hZ,gA,b0,Bool.not_false]
 |(with_reducible refine CU (pJ _) ?_)
 |(with_reducible refine aE hQ ?_;exact bd))
 rw[b1]at b0
 obtain⟨nM,jo⟩:=Kd b1
 have htw:=(DJ nM).2.1
 simp only[b1,if_true, ← hL]at hR
 refine aF.go wJ rfl fun B Q hB hQ=>?_
 have⟨hD,hY,hZ,gA⟩:=bR
 repeat' (first
 |simp only[go_sem,hD,hY,hZ,gA,b0,Bool.not_true]
 |(with_reducible refine CU (pJ _) ?_)
 |(with_reducible refine aE hQ ?_;exact bd))
 refine eY 3 0 ?_ ?_ (bt.ind (ι:=List Pc×Nat×List Pc) (fun i=>p.procs.drop i.2.1=i.1∧p.procs=i.2.2++i.1) (fun i=>i.1.length)
  (fun i=> [(1, .ptr 0 0),(2, .ptr 1 0),(3, .fP 2),(15, .slice .shared 5 (p.procs.map cu)),(16, .int .i64 (p.procs.length:Int)),(17, .int .i64 (i.2.1:Int))]) (fun i=>⟨[cD p,[.int .i64 0, .int .i64 0],nC p i.2.2],[]⟩) ?_ (p.procs,0,[]) ⟨rfl,rfl⟩)
 ·(simp only[go_sem,hD,hY,hZ,gA,nC];try exact cj)
 ·(simp only[go_sem,hD,hY,hZ,gA,nC];try exact cj)
 rintro⟨rest,k,done⟩ ⟨h1,h2⟩ IH
 dsimp only at h1 h2
 cases rest with
 | cons a rest=>
  obtain⟨hY,g2,hD,g4⟩:=drop_cons h1
  have bU:k<4611686018427387904:=by omega
  have xY:=fun s=>Sk h a.name s
  have hnm:a.name∉done.map (·.name):=by
   have:=Z2 _ [] htw (done.map (·.name)) a.name (rest.map (·.name)) (by simp[Pg.pn,h2])
   simpa using this
  have hmp:xe a.name (.slice .shared 1 ((p.qf a.name).map encStr)) (nC p done)=some (nC p (done++ [a])):=by
   rw[Kb hnm,Ka];rfl
  repeat' (first
 |simp only[go_sem,hD,hY,hZ,gA,hmp]
 |(with_reducible refine CU (xY _) ?_)
 |(with_reducible refine aE hQ ?_;exact bd))
  refine eY 3 0 ?_ ?_ (IH (rest,k+1,done++ [a]) ⟨g2,by rw[h2];simp⟩ (Nat.lt_succ_self _))
  ·(simp only[go_sem,hD,hY,hZ,gA,aI bU];try exact cj)
  ·(simp only[go_sem,hD,hY,hZ,gA,aI bU];try exact cj)
 |nil=>
  have hD:=drop_nil h1
  rw[List.append_nil]at h2
  subst h2
  repeat' (first
 |simp only[go_sem,hD,hY,hZ,gA,nY]
 |(with_reducible refine CU (dh _) ?_)
 | (with_reducible refine aE hQ ?_;exact bd))
  refine fi 3 0 (bt.ind (ι:=List Im×Nat) (fun i=>p.aY.L.drop i.2=i.1∧qe 8 (Kf p (i.1.map Im.s))=R) (fun i=>i.1.length)
   (fun i=> [(1, .ptr 0 0),(2, .ptr 1 0),(3, .fP 2),(33, .slice .shared 17 (p.aY.L.map dz)),(34, .int .i64 (p.aY.L.length:Int)),(35, .int .i64 (i.2:Int))]) (fun i=>⟨[cD p,[.int .i64 0, .int .i64 0],nC p p.procs],[]⟩) ?_ (p.aY.L,0) ⟨rfl,hR⟩)
  clear hR
  rintro⟨rest,k⟩ ⟨h1,hR⟩ IH
  dsimp only at h1 hR
  cases rest with
  |nil=>
   have hD:=drop_nil h1
   simp only[List.map_nil,Kf,qe]at hR
   subst hR
   repeat' (first
 |simp only[go_sem,hD,hY,hZ,gA]
 | (with_reducible refine aE hQ ?_;exact bd))
  | cons a rest=>
   obtain⟨hY,g2,hD,g4⟩:=drop_cons h1
   have bU:k<4611686018427387904:=by omega
   have ET:a.s∈p.pre:=by rw[← hL];exact List.mem_map_of_mem (List.mem_of_getElem? hY)
   have vg:=fun s=>VR (Pz (h.pre _ ET)) (Kg h a.s.proc) s
   simp only[List.map_cons,Kf,Sm.yJ]at hR
   rcases Bool.eq_false_or_eq_true (a.s.kind==4)with c1|c1
   ·obtain⟨f,hf⟩:=Hp (jo _ ET c1)
    have hmg:=fun z=>Kc (p:=p) (z:=z) hf
    rcases Bool.eq_false_or_eq_true (pH a.s.name (p.qf a.s.proc) [] a.s.args)with c2|c2
    ·simp only [c1,c2,Bool.not_true,Bool.and_false,Bool.false_eq_true,if_false]at hR
     repeat' (first
 |simp only[go_sem,hD,hY,hZ,gA,c1,c2,hmg]
 |(with_reducible refine CU (vg _) ?_)
 | (with_reducible refine aE hQ ?_;exact bd))
     refine eY 3 0 ?_ ?_ (IH (rest,k+1) ⟨g2,hR⟩ (Nat.lt_succ_self _))
     ·(simp only[go_sem,hD,hY,hZ,gA,aI bU];try exact cj)
     ·(simp only[go_sem,hD,hY,hZ,gA,aI bU];try exact cj)
    ·simp only [c1,c2,Bool.not_false,Bool.and_true,if_true,qe]at hR
     subst hR
     repeat' (first
 |simp only[go_sem,hD,hY,hZ,gA,c1,c2,hmg]
 |(with_reducible refine CU (vg _) ?_)
 | (with_reducible refine aE hQ ?_;exact bd))
   ·simp only [c1,Bool.false_and,Bool.false_eq_true,if_false]at hR
    repeat' (first
 |simp only[go_sem,hD,hY,hZ,gA,c1]
 |(with_reducible refine CU (vg _) ?_)
 | (with_reducible refine aE hQ ?_;exact bd))
    refine eY 3 0 ?_ ?_ (IH (rest,k+1) ⟨g2,hR⟩ (Nat.lt_succ_self _))
    ·(simp only[go_sem,hD,hY,hZ,gA,aI bU];try exact cj)
    ·(simp only[go_sem,hD,hY,hZ,gA,aI bU];try exact cj)
def Sm.adT (p:Pg) (v:Sm):Bool:=v.qm p && apM (p.qf v.proc) v.aob v.args
def apF (p:Pg):List Sm→Option Sm
 | []=>none
 |v::l=>if v.kind==4 && !(v.adT p)then some v else apF p l
def rd0 (l:List p7):Rd:=⟨l,0,0,0,0⟩
def au8 (m:Nat) (text:aG):Option (Pg×Int×Int):=
 if(yx text).2.1 != 0 then some (pg0,(yx text).2)
 else(Rd.program m (rd0 (yx text).1)).bind fun p=>if p.2.code != 0 then some (pg0,p.2.code,p.2.Jp)else(p.1.Zu).bind fun q=>some (q,0,0)
def avX (m:Nat) (text:aG):Option (Ex×Int×Int):=
 if(yx text).2.1 != 0 then some (ri,(yx text).2)
 else(Rd.whole m (rd0 (yx text).1)).bind fun x=>x.2.RE.bind fun b=>
  if b then(x.2.bad 3).bind fun r=>if !r.good then some (ri,r.code,r.Jp)else some (x.1,0,0)
  else if !x.2.good then some (ri,x.2.code,x.2.Jp)else some (x.1,0,0)
def adU (n k:Int):Int:=if Int.tmod n k<0 then Int.tmod n k+k else Int.tmod n k
def ahE (t:aG):Nat→aG
 | 0=> []
 |n+1=>ahE t n++t
def two (i:Nat):aG:= [UInt8.ofNat (48+i / 10),UInt8.ofNat (48+i % 10)]
def adV (ahead:aG):Nat→aG
 | 0=> []
 |n+1=>(if n=0 then adV ahead n else adV ahead n++ [44])++(ahead++ [97]++two n)
def adW:Nat→aG
 | 0=> []
 |n+1=>adW n++([112,114,111,99,32,112]++two n++ [40,41,123,125])
def oI (k:Int):List It→List Int
 | []=> []
 |i::l=>if k==0 ||i.s.kind==k then i.s.id::oI k l else oI k l
theorem DP (k:Int) : ∀ l,(oI k l).length≤l.length
 | []=>Nat.le_refl _
 |i::l=>by
  have:=DP k l
  simp only[oI]
  split<;>simp<;>omega
theorem ahF {p:Pg} (hs:Pc.a7 p.procs<4611686018427387000) (sa:p.all.length≤1000) (kd:Int) (s:St):aF Tryz.prog zh [.agg (cD p), .int .i64 kd] s (.slice .shared 1 ((oI kd p.all).map bT)) s:=by
 refine aF.pure ?_ (by simp[D.bL,D.ok,jv]) (by simp only[D.ok,Tag.ok,iN];rfl) s
 have yi:=fun s=>ahw hs s
 obtain⟨R,hR⟩ : ∃ R,oI kd p.all=R:=⟨_,rfl⟩
 rw[hR]
 have hRl:R.length≤1000:=by rw[← hR];exact Nat.le_trans (DP kd p.all) sa
 unfold S0
 refine aF.go Jy rfl fun B Q hB hQ=>?_
 have⟨hD,hY,hZ,gA⟩:=bR
 repeat' (first
 |simp only[go_sem,hD,hY,hZ,gA]
 |(with_reducible refine CU (yi _) ?_)
 |(with_reducible refine aE hQ ?_;exact bd))
 refine bt.sm 5 1 rfl ?_
 simp only[go_sem,hD,hY,hZ,gA]
 refine fi 1 1 (bt.ind (ι:=List It×Nat×List Int×Nat) (fun i=>p.all.drop i.2.1=i.1∧i.2.2.1++oI kd i.1=R∧i.2.2.2=i.2.2.1.length) (fun i=>i.1.length)
  (fun i=> [(1, .int .i64 kd),(2, .ptr 0 0),(5, .slice (.tok 0) 1 (i.2.2.1.map bT)),(9, .slice .shared 16 (p.all.map fL)),(10, .int .i64 (p.all.length:Int)),(11, .int .i64 (i.2.1:Int))]) (fun i=>⟨[cD p],[some i.2.2.2]⟩) ?_ (p.all,0,[],0) ⟨rfl,hR,rfl⟩)
 clear hR
 rintro⟨rest,k,out,n'⟩ ⟨h1,h2,h3⟩ IH
 dsimp only at h1 h2 h3
 subst h3
 have jk:out.length≤1000:=by have:=congrArg List.length h2;rw[List.length_append]at this;omega
 cases rest with
 |nil=>
  have hD:=drop_nil h1
  simp only[oI,List.append_nil]at h2
  subst h2
  repeat' (first
 |simp only[go_sem,hD,hY,hZ,gA]
 |(with_reducible refine aE hQ ?_;exact bd))
 | cons a rest=>
  obtain⟨hY,g2,hD,g4⟩:=drop_cons h1
  have bU:k<4611686018427387904:=by omega
  have hZ:(out.length+1)*9≤bC:=by unfold bC;omega
  simp only[oI]at h2
  rcases Bool.eq_false_or_eq_true (kd==0)with c1|c1
  ·simp only [c1,Bool.true_or,if_true]at h2
   repeat' (first
 |simp only[go_sem,hD,hY,hZ,gA,c1]
 | (with_reducible refine aE hQ ?_;exact bd))
   refine eY 1 1 ?_ ?_ (IH (rest,k+1,out++ [a.s.id],out.length+1) ⟨g2,by rw[← h2];simp,by simp⟩ (Nat.lt_succ_self _))
   ·(simp only[go_sem,hD,hY,hZ,gA,aI bU,List.map_append,List.map_cons,List.map_nil,bT];try exact cj)
   ·(simp only[go_sem,hD,hY,hZ,gA,aI bU,List.map_append,List.map_cons,List.map_nil,bT];try exact cj)
  rcases Bool.eq_false_or_eq_true (a.s.kind==kd)with c2|c2
  ·simp only [c1,c2,Bool.or_true,if_true]at h2
   repeat' (first
 |simp only[go_sem,hD,hY,hZ,gA,c1,c2]
 | (with_reducible refine aE hQ ?_;exact bd))
   refine eY 1 1 ?_ ?_ (IH (rest,k+1,out++ [a.s.id],out.length+1) ⟨g2,by rw[← h2];simp,by simp⟩ (Nat.lt_succ_self _))
   ·(simp only[go_sem,hD,hY,hZ,gA,aI bU,List.map_append,List.map_cons,List.map_nil,bT];try exact cj)
   ·(simp only[go_sem,hD,hY,hZ,gA,aI bU,List.map_append,List.map_cons,List.map_nil,bT];try exact cj)
  ·simp only [c1,c2,Bool.or_false,Bool.false_eq_true,if_false]at h2
   repeat' (first
 |simp only[go_sem,hD,hY,hZ,gA,c1,c2]
 | (with_reducible refine aE hQ ?_;exact bd))
   refine eY 1 1 ?_ ?_ (IH (rest,k+1,out,_) ⟨g2,h2,rfl⟩ (Nat.lt_succ_self _))
   ·(simp only[go_sem,hD,hY,hZ,gA,aI bU];try exact cj)
   ·(simp only[go_sem,hD,hY,hZ,gA,aI bU];try exact cj)
def avY (l:List Int) (n:Int):Int:=match l[(adU n l.length).toNat]? with|some x=>x|none=>0
def Cn (id:Int):List It→Option It
 | []=>none
 |i::l=>if i.s.id==id then some i else Cn id l
def zN (id:Int):List Pc→Option (It×aG)
 | []=>none
 |f::l=>match Cn id f.flat with|some i=>some (i,f.name)|none=>zN id l
def it0:It:=⟨Ji,0,0,false⟩
def aoc (r:Option (It×aG)):D:=match r with
 |some (i,nm)=> .tuple [.agg (fL i), .str nm, .bool true]
 |none=> .tuple [.agg (fL it0), .str [], .bool false]
def Pg.Co (p:Pg) (id:Int):Sm:=match zN id p.procs with|some (i,_)=>i.s|none=>Ji
def da (t:aG) (n:Int):Int:=if n > 20000 then 20001 else if(t.length:Int)≥20000 - n then 20001 else n+1+t.length
mutual
def fe:Ex→Int→Int
 |⟨_,_,name,kids⟩,n=>nD kids (da name n)
def nD:List Ex→Int→Int
 | [],n=>n
 |x::l,n=>if n≤20000 then nD l (fe x n)else n
end
theorem mz {t:aG} {n:Int} (h0:0≤n):da t n≤20001∧(n≤20000→n+1≤da t n)∧0≤da t n∧(da t n≤20000→n+1+t.length=da t n):=by
 unfold da;split
 ·omega
 ·split<;>omega
theorem vU : ∀ (m:Nat) (x:Ex),x.size≤m→∀ n:Int,0≤n→fe x n≤20001∧(n≤20000→n+1≤fe x n)∧0≤fe x n∧(fe x n≤20000→(x.size:Int)+1≤2*(fe x n - n)∧x.texts):=by
 intro m
 induction m with
 |zero=>rintro⟨op,v,name,kids⟩ h;simp only[Ex.size]at h;omega
 | succ m ih=>
  rintro⟨op,v,name,kids⟩ h n h0
  simp only[Ex.size]at h
  obtain⟨t1,t2,t3,t4⟩:=mz (t:=name) h0
  have go : ∀ (l:List Ex),Ex.a7 l≤m→∀ c:Int,0≤c→c≤20001→nD l c≤20001∧c≤nD l c∧(nD l c≤20000→(Ex.a7 l:Int)≤2*(nD l c - c)∧Ex.vH l):=by
   intro l
   induction l with
   |nil=>intro _ c h0 h1;simp only[nD,Ex.a7];exact⟨h1,Int.le_refl _,fun _=>⟨by omega,trivial⟩⟩
   | cons y l Sw=>
    intro hs c h0 h1
    simp only[Ex.a7]at hs ⊢
    simp only[nD]
    split
    ·rename_i hc
     obtain⟨a1,a2,a3,a4⟩:=ih y (by omega) c h0
     obtain⟨b1,b2,b3⟩:=Sw (by omega) (fe y c) a3 a1
     have:=a2 hc
     refine⟨b1,by omega,fun hw=>?_⟩
     obtain⟨c1,c2⟩:=b3 hw
     obtain⟨d1,d2⟩:=a4 (by omega)
     exact⟨by omega,d2,c2⟩
    ·exact⟨h1,Int.le_refl _,fun hw=>by omega⟩
  obtain⟨g1,g2,g3⟩:=go kids (by omega) (da name n) t3 t1
  simp only[fe,Ex.size]
  refine⟨g1,fun hn=>by have:=t2 hn;omega,by omega,fun hw=>?_⟩
  obtain⟨k1,k2⟩:=g3 hw
  have:=t4 (by omega)
  exact⟨by omega,by omega,k2⟩
theorem qC (t:aG) {n:Int} (h0:0≤n) (h1:n≤20001) (s:St):aF Tryz.prog gp [.str t, .int .i64 n] s (.int .i64 (da t n)) s:=by
 refine aF.pure ?_ rfl rfl s
 unfold S0
 have w1:IntKind.wrap .i64 (20000 - n)=20000 - n:=ek (by omega) (by omega)
 have w2:IntKind.wrap .i64 (n+1)=n+1:=ek (by omega) (by omega)
 by_cases c:n > 20000
 ·have c1:decide (n > 20000)=true:=by simp;omega
  have e:da t n=20001:=by simp[da,c]
  rw[e]
  refine aF.go pd rfl fun B Q hB hQ=>?_
  have⟨hD,hY,hZ,gA⟩:=bR
  repeat' (first
 |simp only[go_sem,hD,hY,hZ,gA,c1,w1,w2]
 |(with_reducible refine aE hQ ?_;exact bd))
 ·have c1:decide (n > 20000)=false:=by simp;omega
  by_cases d:(t.length:Int)≥20000 - n
  ·have d1:decide ((t.length:Int)≥20000 - n)=true:=by simp;omega
   have e:da t n=20001:=by unfold da;rw[if_neg c,if_pos d]
   rw[e]
   refine aF.go pd rfl fun B Q hB hQ=>?_
   have⟨hD,hY,hZ,gA⟩:=bR
   repeat' (first
 |simp only[go_sem,hD,hY,hZ,gA,c1,d1,w1,w2]
 | (with_reducible refine aE hQ ?_;exact bd))
  ·have d1:decide ((t.length:Int)≥20000 - n)=false:=by simp;omega
   have e:da t n=n+1+t.length:=by unfold da;rw[if_neg c,if_neg d]
   have w3:IntKind.wrap .i64 (n+1+t.length)=n+1+t.length:=ek (by omega) (by omega)
   rw[e]
   refine aF.go pd rfl fun B Q hB hQ=>?_
   have⟨hD,hY,hZ,gA⟩:=bR
   repeat' (first
 |simp only[go_sem,hD,hY,hZ,gA,c1,d1,w1,w2,w3]
 |(with_reducible refine aE hQ ?_;exact bd))
theorem Kh : ∀ (m:Nat) (x:Ex),x.size≤m→∀ {n:Int},0≤n→n≤20000→∀ s:St,aF Tryz.prog jZ [.agg (cd x), .int .i64 n] s (.int .i64 (fe x n)) s:=by
 intro m
 induction m with
 |zero=>rintro⟨op,v,name,kids⟩ h;simp only[Ex.size]at h;omega
 |succ m ih=>
  rintro⟨op,v,name,kids⟩ dO n h0 h1 s
  refine aF.pure ?_ (by simp[D.bL,D.ok,lT]) rfl s
  simp only[Ex.size]at dO
  have hk : ∀ y∈kids,∀ {n:Int},0≤n→n≤20000→∀ s:St,aF Tryz.prog jZ [.agg (cd y), .int .i64 n] s (.int .i64 (fe y n)) s:=fun y hy=>ih y (by have:=Ex.dm hy;omega)
  have ht:=fun s=>qC name h0 (by omega) s
  obtain⟨t1,t2,t3,t4⟩:=mz (t:=name) h0
  unfold S0
  generalize h:fe ⟨op,v,name,kids⟩ n=p
  simp only[fe]at h
  refine aF.go Bt rfl fun B Q hB hQ=>?_
  have⟨hD,hY,hZ,gA⟩:=bR
  repeat' (first
 |simp only[go_sem,hD,hY,hZ,gA]
 |(with_reducible refine CU (ht _) ?_)
 |(with_reducible first|refine bo fun hc=>?_|refine bp fun hc=>?_|refine bq (fun hc=>?_) fun hc=>?_)<;>(try simp only[hc,bs,↓reduceIte]at h)<;>try simp only[hc]
 | (with_reducible refine aE hQ ?_;exact fV))
  refine fi 1 0 (bt.ind (ι:=List Ex×Nat×Int) (fun i=>kids.drop i.2.1=i.1∧nD i.1 i.2.2=p∧(i.2.1:Int)≤i.2.2∧i.2.2≤20001) (fun i=>i.1.length)
   (fun i=> [(1, .int .i64 i.2.2),(2, .ptr 0 0),(5, .int .i64 (i.2.1:Int))]) (fun i=>⟨[cd ⟨op,v,name,kids⟩],[]⟩) ?_ (kids,0,da name n) ⟨rfl,h,t3,t1⟩)
  rintro⟨rest,k,c⟩ ⟨g1,h,g3,g4⟩ IH
  dsimp only at g1 h g3 g4
  cases rest with
  |nil=>
   have hD:=drop_nil g1
   simp only[nD]at h
   repeat' (first
 |simp only[go_sem,hD,hY,hZ,gA]
 |(with_reducible first|refine bo fun hc=>?_|refine bp fun hc=>?_|refine bq (fun hc=>?_) fun hc=>?_)<;>(try simp only[hc,bs,↓reduceIte]at h)<;>try simp only[hc]
 | (with_reducible refine aE hQ ?_;exact fV))
  | cons y rest=>
   obtain⟨hY,g2,hD,g5⟩:=drop_cons g1
   simp only[nD]at h
   by_cases hc:c≤20000
   ·have c1:decide (c≤20000)=true:=by simp;omega
    have hy:=fun s=>hk y (List.mem_of_getElem? hY) (n:=c) (by omega) hc s
    obtain⟨a1,a2,a3,a4⟩:=vU _ y (Nat.le_refl _) c (by omega)
    have:=a2 hc
    have w3:IntKind.wrap .i64 ((k:Int)+1)=((k+1:Nat):Int):=by rw[ek]<;>omega
    rw[if_pos hc]at h
    repeat' (first
 |simp only[go_sem,hD,hY,hZ,gA,c1,w3]
 |(with_reducible refine CU (hy _) ?_)
 |(with_reducible first|refine bo fun hc=>?_|refine bp fun hc=>?_|refine bq (fun hc=>?_) fun hc=>?_)<;>(try simp only[hc,bs,↓reduceIte]at h)<;>try simp only[hc]
 | (with_reducible refine aE hQ ?_;(try cases h);simp only [aV,aX,bH,bI,go_sem,hD,hY,hZ,gA,c1,w3];try exact cq))
    refine fi 1 0 (IH (rest,k+1,fe y c) ⟨g2,h,by dsimp only;omega,a1⟩ (Nat.lt_succ_self _))
   ·have c1:decide (c≤20000)=false:=by simp;omega
    rw[if_neg hc]at h
    repeat' (first
 |simp only[go_sem,hD,hY,hZ,gA,c1]
 |(with_reducible first|refine bo fun hc=>?_|refine bp fun hc=>?_|refine bq (fun hc=>?_) fun hc=>?_)<;>(try simp only[hc,bs,↓reduceIte]at h)<;>try simp only[hc]
 |(with_reducible refine aE hQ ?_;(try cases h);simp only[aV,aX,bH,bI,go_sem,hD,hY,hZ,gA,c1];try exact cq))
def dM:List aG→Int→Int
 | [],n=>n
 |t::l,n=>if n≤20000 then dM l (da t n)else n
def iM:List Ar→Int→Int
 | [],n=>n
 |a::l,n=>if n≤20000 then iM l (da a.name (fe a.x n))else n
def kA:List Pm→Int→Int
 | [],n=>n
 |a::l,n=>if n≤20000 then kA l (da a.name n)else n
mutual
def rM:Sm→Int→Int
 |⟨_,_,labels,name,proc,x,_,args,a8,aS⟩,n=>fD aS (fD a8 (iM args (da proc (da name (dM labels (fe x n))))))
def fD:List Sm→Int→Int
 | [],n=>n
 |s::l,n=>if n≤20000 then fD l (rM s n)else n
end
theorem SE (s:Sm) (n:Int):rM s n=fD s.aS (fD s.a8 (iM s.args (da s.proc (da s.name (dM s.labels (fe s.x n)))))):=by cases s;simp only[rM]
def tC (f:Pc) (n:Int):Int:=fD f.body (kA f.params (dM f.fin (dM f.vars (da f.name n))))
def nE:List Pc→Int→Int
 | [],n=>n
 |f::l,n=>if n≤20000 then nE l (tC f n)else n
def Pg.Cp (p:Pg):Int:=nE p.procs (dM p.globals 0)
theorem k6 : ∀ (l:List aG) {n:Int},0≤n→n≤20001→dM l n≤20001∧n≤dM l n∧(dM l n≤20000→n+l.length≤dM l n∧∀ t∈l,t.length<4611686018427387904)
 | [],n,h0,h1=>by simp only[dM];exact⟨h1,Int.le_refl _,fun _=>⟨by simp,by simp⟩⟩
 | t::l,n,h0,h1=>by
  simp only[dM]
  split
  ·rename_i hc
   obtain⟨a1,a2,a3,a4⟩:=mz (t:=t) h0
   obtain⟨b1,b2,b3⟩:=k6 l (n:=da t n) a3 a1
   have:=a2 hc
   refine⟨b1,by omega,fun hw=>?_⟩
   obtain⟨c1,c2⟩:=b3 hw
   have:=a4 (by omega)
   refine⟨by simp only[List.length_cons];omega,fun s m=>?_⟩
   rcases List.mem_cons.1 m with rfl|m
   ·omega
   ·exact c2 s m
  ·exact⟨h1,Int.le_refl _,fun hw=>by omega⟩
theorem zO : ∀ (l:List Pm) {n:Int},0≤n→n≤20001→kA l n≤20001∧n≤kA l n∧(kA l n≤20000→n+l.length≤kA l n∧∀ t∈l,t.name.length<4611686018427387904)
 | [],n,h0,h1=>by simp only[kA];exact⟨h1,Int.le_refl _,fun _=>⟨by simp,by simp⟩⟩
 | t::l,n,h0,h1=>by
  simp only[kA]
  split
  ·rename_i hc
   obtain⟨a1,a2,a3,a4⟩:=mz (t:=t.name) h0
   obtain⟨b1,b2,b3⟩:=zO l (n:=da t.name n) a3 a1
   have:=a2 hc
   refine⟨b1,by omega,fun hw=>?_⟩
   obtain⟨c1,c2⟩:=b3 hw
   have:=a4 (by omega)
   refine⟨by simp only[List.length_cons];omega,fun s m=>?_⟩
   rcases List.mem_cons.1 m with rfl|m
   ·omega
   ·exact c2 s m
  ·exact⟨h1,Int.le_refl _,fun hw=>by omega⟩
theorem zP : ∀ (l:List Ar) {n:Int},0≤n→n≤20001→iM l n≤20001∧n≤iM l n∧
 (iM l n≤20000→(Ar.a7 l:Int)≤2*(iM l n - n)∧∀ a∈l,a.x.size<4611686018427387904∧a.x.texts∧a.name.length<4611686018427387904)
 | [],n,h0,h1=>by simp only[iM];exact⟨h1,Int.le_refl _,fun _=>⟨by simp[Ar.a7],by simp⟩⟩
 | a::l,n,h0,h1=>by
  simp only[iM]
  split
  ·rename_i hc
   obtain⟨a1,a2,a3,a4⟩:=vU _ a.x (Nat.le_refl _) n h0
   obtain⟨e1,e2,e3,e4⟩:=mz (t:=a.name) a3
   obtain⟨b1,b2,b3⟩:=zP l (n:=da a.name (fe a.x n)) e3 e1
   have:=a2 hc
   have:fe a.x n≤da a.name (fe a.x n):=by
    by_cases h:fe a.x n≤20000
    ·have:=e2 h;omega
    ·have:da a.name (fe a.x n)=20001:=by unfold da;rw [if_pos (by omega)]
     omega
   refine⟨b1,by omega,fun hw=>?_⟩
   obtain⟨c1,c2⟩:=b3 hw
   have:=e4 (by omega)
   obtain⟨d1,d2⟩:=a4 (by omega)
   refine⟨by simp only[Ar.a7];omega,fun s m=>?_⟩
   rcases List.mem_cons.1 m with rfl|m
   ·exact⟨by omega,d2,by omega⟩
   ·exact c2 s m
  ·exact⟨h1,Int.le_refl _,fun hw=>by omega⟩
theorem ll {t:aG} {n:Int} (h0:0≤n) (h1:n≤20001):n≤da t n∧da t n≤20001∧(da t n≤20000→n+1≤da t n∧t.length<4611686018427387904):=by
 obtain⟨e1,e2,e3,e4⟩:=mz (t:=t) h0
 by_cases h:n≤20000
 ·have:=e2 h
  exact⟨by omega,e1,fun hw=>⟨by omega,by have:=e4 hw;omega⟩⟩
 ·have:da t n=20001:=by unfold da;rw [if_pos (by omega)]
  exact⟨by omega,e1,fun hw=>by omega⟩
mutual
theorem Hq : ∀ (s:Sm) {n:Int},0≤n→n≤20000→rM s n≤20001∧n+1≤rM s n∧(rM s n≤20000→(s.size:Int)+1≤2*(rM s n - n)∧s.wM)
 |⟨id,kind,labels,name,proc,x,has,args,a8,aS⟩,n,h0,h1=>by
  obtain⟨a1,a2,a3,a4⟩:=vU _ x (Nat.le_refl _) n h0
  have a2:=a2 h1
  obtain⟨b1,b2,b3⟩:=k6 labels a3 a1
  obtain⟨c1,c2,c3⟩:=ll (t:=name) (n:=dM labels (fe x n)) (by omega) b1
  obtain⟨d1,d2,d3⟩:=ll (t:=proc) (n:=da name (dM labels (fe x n))) (by omega) c2
  obtain⟨e1,e2,e3⟩:=zP args (n:=da proc (da name (dM labels (fe x n)))) (by omega) d2
  obtain⟨f1,f2,f3⟩:=rN a8 (n:=iM args (da proc (da name (dM labels (fe x n))))) (by omega) e1
  obtain⟨g1,g2,g3⟩:=rN aS (n:=fD a8 (iM args (da proc (da name (dM labels (fe x n)))))) (by omega) f1
  simp only[rM,Sm.size]
  refine⟨g1,by omega,fun hw=>?_⟩
  obtain⟨g4,g5⟩:=g3 hw
  obtain⟨f4,f5⟩:=f3 (by omega)
  obtain⟨e4,e5⟩:=e3 (by omega)
  obtain⟨d4,d5⟩:=d3 (by omega)
  obtain⟨c4,c5⟩:=c3 (by omega)
  obtain⟨b4,b5⟩:=b3 (by omega)
  obtain⟨a5,a6⟩:=a4 (by omega)
  have:=Ar.eJ args
  refine⟨by omega, ?_⟩
  rw[DF]
  exact⟨⟨b5,by dsimp only;omega,c5,d5,by dsimp only;omega,a6,by dsimp only;omega,e5⟩,f5,g5⟩
theorem rN : ∀ (l:List Sm) {n:Int},0≤n→n≤20001→fD l n≤20001∧n≤fD l n∧(fD l n≤20000→(Sm.a7 l:Int)≤2*(fD l n - n)∧Sm.ku l)
 | [],n,h0,h1=>by simp only[fD];exact⟨h1,Int.le_refl _,fun _=>⟨by simp[Sm.a7],by simp only[Sm.ku]⟩⟩
 | s::l,n,h0,h1=>by
  simp only[fD]
  split
  ·rename_i hc
   obtain⟨a1,a2,a3⟩:=Hq s h0 hc
   obtain⟨b1,b2,b3⟩:=rN l (n:=rM s n) (by omega) a1
   refine⟨b1,by omega,fun hw=>?_⟩
   obtain⟨c1,c2⟩:=b3 hw
   obtain⟨d1,d2⟩:=a3 (by omega)
   exact⟨by simp only[Sm.a7];omega,d2,c2⟩
  ·exact⟨h1,Int.le_refl _,fun hw=>by omega⟩
end
theorem Hr (f:Pc) {n:Int} (h0:0≤n) (h1:n≤20000):tC f n≤20001∧n+1≤tC f n∧(tC f n≤20000→(f.size:Int)+1≤2*(tC f n - n)∧
 (f.name.length<4611686018427387904∧(∀ t∈f.vars,t.length<4611686018427387904)∧(∀ t∈f.fin,t.length<4611686018427387904)∧∀ a∈f.params,a.name.length<4611686018427387904)∧Sm.ku f.body):=by
 obtain⟨c1,c2,c3⟩:=ll (t:=f.name) h0 (by omega:n≤20001)
 have c4:=(mz (t:=f.name) h0).2.1 h1
 obtain⟨d1,d2,d3⟩:=k6 f.vars (n:=da f.name n) (by omega) c2
 obtain⟨e1,e2,e3⟩:=k6 f.fin (n:=dM f.vars (da f.name n)) (by omega) d1
 obtain⟨g1,g2,g3⟩:=zO f.params (n:=dM f.fin (dM f.vars (da f.name n))) (by omega) e1
 obtain⟨k1,k2,k3⟩:=rN f.body (n:=kA f.params (dM f.fin (dM f.vars (da f.name n)))) (by omega) g1
 unfold tC Pc.size
 refine⟨k1,by omega,fun hw=>?_⟩
 obtain⟨k4,k5⟩:=k3 hw
 obtain⟨g4,g5⟩:=g3 (by omega)
 obtain⟨e4,e5⟩:=e3 (by omega)
 obtain⟨d4,d5⟩:=d3 (by omega)
 obtain⟨_,c5⟩:=c3 (by omega)
 exact⟨by omega,⟨c5,d5,e5,g5⟩,k5⟩
theorem E3 : ∀ (l:List Pc) {n:Int},0≤n→n≤20001→nE l n≤20001∧n≤nE l n∧(nE l n≤20000→(Pc.a7 l:Int)≤2*(nE l n - n)∧∀ f∈l,
 (f.name.length<4611686018427387904∧(∀ t∈f.vars,t.length<4611686018427387904)∧(∀ t∈f.fin,t.length<4611686018427387904)∧∀ a∈f.params,a.name.length<4611686018427387904)∧Sm.ku f.body)
 | [],n,h0,h1=>by simp only[nE];exact⟨h1,Int.le_refl _,fun _=>⟨by simp[Pc.a7],by simp⟩⟩
 | f::l,n,h0,h1=>by
  simp only[nE]
  split
  ·rename_i hc
   obtain⟨a1,a2,a3⟩:=Hr f h0 hc
   obtain⟨b1,b2,b3⟩:=E3 l (n:=tC f n) (by omega) a1
   refine⟨b1,by omega,fun hw=>?_⟩
   obtain⟨c1,c2⟩:=b3 hw
   obtain⟨d1,d2⟩:=a3 (by omega)
   refine⟨by simp only[Pc.a7];omega,fun s m=>?_⟩
   rcases List.mem_cons.1 m with rfl|m
   ·exact d2
   ·exact c2 s m
  ·exact⟨h1,Int.le_refl _,fun hw=>by omega⟩
theorem PA {p:Pg} (h:p.Cp≤20000):p.size≤40001∧p.Ib:=by
 unfold Pg.Cp at h
 obtain⟨a1,a2,a3⟩:=k6 p.globals (n:=0) (by omega) (by omega)
 obtain⟨b1,b2,b3⟩:=E3 p.procs (n:=dM p.globals 0) (by omega) a1
 obtain⟨c1,c2⟩:=b3 h
 obtain⟨d1,d2⟩:=a3 (by omega)
 have:p.size≤40001:=by unfold Pg.size;omega
 exact⟨this,by omega,d2,fun f m=>(c2 f m).1,fun f m=>(c2 f m).2⟩
theorem w8 {l:List aG} {n:Int} (h0:0≤n) (h1:n≤20001) (s:St):aF Tryz.prog jH [.slice .shared 1 (l.map encStr), .int .i64 n] s (.int .i64 (dM l n)) s:=by
 refine aF.pure ?_ (by simp[D.bL,D.ok,fb,Tag.ok]) rfl s
 unfold S0
 generalize h:dM l n=p
 refine aF.go Ax rfl fun B Q hB hQ=>?_
 have⟨hD,hY,hZ,gA⟩:=bR
 repeat' (first
 |simp only[go_sem,hD,hY,hZ,gA]
 |(with_reducible refine aE hQ ?_;exact bd))
 refine fi 0 0 (bt.ind (ι:=List aG×Nat×Int) (fun i=>l.drop i.2.1=i.1∧dM i.1 i.2.2=p∧(i.2.1:Int)≤i.2.2∧i.2.2≤20001) (fun i=>i.1.length)
  (fun i=> [(0, .slice .shared 1 (l.map encStr)),(1, .int .i64 i.2.2),(5, .int .i64 (i.2.1:Int))]) (fun i=>⟨[],[]⟩) ?_ (l,0,n) ⟨rfl,h,h0,h1⟩)
 rintro⟨rest,k,c⟩ ⟨g1,h,g3,g4⟩ IH
 dsimp only at g1 h g3 g4
 cases rest with
 |nil=>
  have hD:=drop_nil g1
  simp only[dM]at h
  subst h
  repeat' (first
 |simp only[go_sem,hD,hY,hZ,gA]
 |(with_reducible refine aE hQ ?_;exact bd))
 | cons y rest=>
  obtain⟨hY,g2,hD,g5⟩:=drop_cons g1
  simp only[dM]at h
  by_cases hc:c≤20000
  ·have c1:decide (c≤20000)=true:=by simp;omega
   have hy:=fun s=>qC y (n:=c) (by omega) g4 s
   obtain⟨a1,a2,a3,a4⟩:=mz (t:=y) (n:=c) (by omega)
   have:=a2 hc
   have w3:IntKind.wrap .i64 ((k:Int)+1)=((k+1:Nat):Int):=by rw[ek]<;>omega
   rw[if_pos hc]at h
   repeat' (first
 |simp only[go_sem,hD,hY,hZ,gA,c1,w3]
 |(with_reducible refine CU (hy _) ?_)
 | (with_reducible refine aE hQ ?_;exact bd))
   refine fi 0 0 (IH (rest,k+1,da y c) ⟨g2,h,by dsimp only;omega,a1⟩ (Nat.lt_succ_self _))
  ·have c1:decide (c≤20000)=false:=by simp;omega
   rw[if_neg hc]at h
   subst h
   repeat' (first
 |simp only[go_sem,hD,hY,hZ,gA,c1]
 |(with_reducible refine aE hQ ?_;exact bd))
theorem SF : ∀ (m:Nat) (l:List Sm),Sm.a7 l≤m→∀ {n:Int},0≤n→n≤20001→∀ s:St,aF Tryz.prog kK [.slice .shared 13 (l.map bh), .int .i64 n] s (.int .i64 (fD l n)) s:=by
 intro m
 induction m with
 | zero=>
  intro l h n h0 h1 s
  cases l with
  |nil=>
   have z:decide ((0:Int)<0)=false:=rfl
   refine aF.pure ?_ (by simp[D.bL,D.ok,D.gS,Tag.ok]) rfl s
   unfold S0
   simp only[fD]
   refine aF.go rZ rfl fun B Q hB hQ=>?_
   have⟨hD,hY,hZ,gA⟩:=bR
   repeat' (first
 |simp only[go_sem,hD,hY,hZ,gA,z]
 |(with_reducible refine bt.kR ?_)
 |(with_reducible refine aE hQ ?_;exact bd))
  |cons s l=>simp only[Sm.a7]at h;omega
 |succ m ih=>
  intro l h n h0 h1 s
  refine aF.pure ?_ (by simp[D.bL,D.ok,pD,Tag.ok]) rfl s
  unfold S0
  generalize hp:fD l n=p
  refine aF.go rZ rfl fun B Q hB hQ=>?_
  have⟨hD,hY,hZ,gA⟩:=bR
  repeat' (first
 |simp only[go_sem,hD,hY,hZ,gA]
 | (with_reducible refine aE hQ ?_;exact bd))
  refine fi 0 0 (bt.ind (ι:=List Sm×Nat×Int) (fun i=>l.drop i.2.1=i.1∧fD i.1 i.2.2=p∧(i.2.1:Int)≤i.2.2∧i.2.2≤20001) (fun i=>i.1.length)
   (fun i=> [(0, .slice .shared 13 (l.map bh)),(1, .int .i64 i.2.2),(5, .int .i64 (i.2.1:Int))]) (fun i=>⟨[],[]⟩) ?_ (l,0,n) ⟨rfl,hp,h0,h1⟩)
  rintro⟨rest,k,c⟩ ⟨g1,hp,g3,g4⟩ IH
  dsimp only at g1 hp g3 g4
  cases rest with
  |nil=>
   have hD:=drop_nil g1
   simp only[fD]at hp
   subst hp
   repeat' (first
 |simp only[go_sem,hD,hY,hZ,gA]
 | (with_reducible refine aE hQ ?_;exact bd))
  | cons y rest=>
   obtain⟨hY,g2,hD,g5⟩:=drop_cons g1
   simp only[fD]at hp
   by_cases hc:c≤20000
   ·have c1:decide (c≤20000)=true:=by simp;omega
    have gE:=List.mem_of_getElem? hY
    have dO:=Sm.dm gE
    have TF:s.ah.length≤s.ah.length∧Sm.a7 y.a8<y.size∧Sm.a7 y.aS<y.size:=by cases y;simp only[Sm.size];omega
    have w3:IntKind.wrap .i64 ((k:Int)+1)=((k+1:Nat):Int):=by rw[ek]<;>omega
    rw[if_pos hc]at hp
    obtain⟨a1,a2,a3,a4⟩:=vU _ y.x (Nat.le_refl _) c (by omega)
    have a2:=a2 hc
    obtain⟨b1,b2,b3⟩:=k6 y.labels a3 a1
    obtain⟨c1',c2,c3⟩:=ll (t:=y.name) (n:=dM y.labels (fe y.x c)) (by omega) b1
    obtain⟨d1,d2,d3⟩:=ll (t:=y.proc) (n:=da y.name (dM y.labels (fe y.x c))) (by omega) c2
    have eE:=fun s=>Kh _ y.x (Nat.le_refl _) (n:=c) (by omega) hc s
    have eL:=fun s=>w8 (l:=y.labels) (n:=fe y.x c) (by omega) a1 s
    have eN:=fun s=>qC y.name (n:=dM y.labels (fe y.x c)) (by omega) b1 s
    have eP:=fun s=>qC y.proc (n:=da y.name (dM y.labels (fe y.x c))) (by omega) c2 s
    obtain⟨r1,r2,r3⟩:=Hq y (n:=c) (by omega) hc
    rw[SE]at hp r1 r2
    generalize hC:da y.proc (da y.name (dM y.labels (fe y.x c)))=C at *
    obtain⟨s1,s2,s3⟩:=zP y.args (n:=C) (by omega) d2
    obtain⟨t1,t2,t3⟩:=rN y.a8 (n:=iM y.args C) (by omega) s1
    have eT:=fun s=>ih y.a8 (by omega) (n:=iM y.args C) (by omega) s1 s
    have eS:=fun s=>ih y.aS (by omega) (n:=fD y.a8 (iM y.args C)) (by omega) t1 s
    generalize hW:iM y.args C=W at *
    repeat' (first
 |simp only[go_sem,hD,hY,hZ,gA,c1,w3]
 |(with_reducible refine CU (eE _) ?_)
 |(with_reducible refine CU (eL _) ?_)
 |(with_reducible refine CU (eN _) ?_)
 |(with_reducible refine CU (eP _) ?_)
 | (with_reducible refine aE hQ ?_;exact bd))
    refine fi 1 0 (bt.ind (ι:=List Ar×Nat×Int) (fun i=>y.args.drop i.2.1=i.1∧iM i.1 i.2.2=W∧(i.2.1:Int)≤i.2.2∧i.2.2≤20001) (fun i=>i.1.length)
     (fun i=> [(0, .slice .shared 13 (l.map bh)),(1, .int .i64 i.2.2),(5, .int .i64 (k:Int)),(6, .ptr 0 0),(7, .int .i64 (i.2.1:Int))]) (fun i=>⟨[bh y],[]⟩) ?_ (y.args,0,C) ⟨rfl,hW,by dsimp only;omega,d2⟩)
    rintro⟨ars,j,e⟩ ⟨k1,hw,k3,k4⟩ EL
    dsimp only at k1 hw k3 k4
    cases ars with
    |nil=>
     have hD:=drop_nil k1
     simp only[iM]at hw
     subst hw
     repeat' (first
 |simp only[go_sem,hD,hY,hZ,gA,w3]
 |(with_reducible refine CU (eT _) ?_)
 |(with_reducible refine CU (eS _) ?_)
 | (with_reducible refine aE hQ ?_;exact bd))
     refine fi 0 0 (IH (rest,k+1,fD y.aS (fD y.a8 e)) ⟨g2,hp,by dsimp only;omega,r1⟩ (Nat.lt_succ_self _))
    | cons a ars=>
     obtain⟨hY,k2,hD,k5⟩:=drop_cons k1
     simp only[iM]at hw
     by_cases he:e≤20000
     ·have e1:decide (e≤20000)=true:=by simp;omega
      have w4:IntKind.wrap .i64 ((j:Int)+1)=((j+1:Nat):Int):=by rw[ek]<;>omega
      rw[if_pos he]at hw
      obtain⟨u1,u2,u3,u4⟩:=vU _ a.x (Nat.le_refl _) e (by omega)
      have u2:=u2 he
      obtain⟨v1,v2,v3⟩:=ll (t:=a.name) (n:=fe a.x e) u3 u1
      have eX:=fun s=>Kh _ a.x (Nat.le_refl _) (n:=e) (by omega) he s
      have eM:=fun s=>qC a.name (n:=fe a.x e) u3 u1 s
      repeat' (first
 |simp only[go_sem,hD,hY,hZ,gA,e1,w4]
 |(with_reducible refine CU (eX _) ?_)
 |(with_reducible refine CU (eM _) ?_)
 |(with_reducible refine aE hQ ?_;exact bd))
      refine fi 1 0 (EL (ars,j+1,da a.name (fe a.x e)) ⟨k2,hw,by dsimp only;omega,v2⟩ (Nat.lt_succ_self _))
     ·have e1:decide (e≤20000)=false:=by simp;omega
      rw[if_neg he]at hw
      subst hw
      repeat' (first
 |simp only[go_sem,hD,hY,hZ,gA,e1,w3]
 |(with_reducible refine CU (eT _) ?_)
 |(with_reducible refine CU (eS _) ?_)
 | (with_reducible refine aE hQ ?_;exact bd))
      refine fi 0 0 (IH (rest,k+1,fD y.aS (fD y.a8 e)) ⟨g2,hp,by dsimp only;omega,r1⟩ (Nat.lt_succ_self _))
   ·have c1:decide (c≤20000)=false:=by simp;omega
    rw[if_neg hc]at hp
    subst hp
    repeat' (first
 |simp only[go_sem,hD,hY,hZ,gA,c1]
 |(with_reducible refine aE hQ ?_;exact bd))
theorem adZ (p:Pg) (s:St):aF Tryz.prog xr [.agg (cD p)] s (.bool (decide (p.Cp≤20000))) s:=by
 refine aF.pure ?_ (by simp only[D.bL,D.ok,jv];rfl) rfl s
 unfold S0
 generalize hp:p.Cp=W
 unfold Pg.Cp at hp
 obtain⟨a1,a2,a3⟩:=k6 p.globals (n:=0) (by omega) (by omega)
 have eG:=fun s=>w8 (l:=p.globals) (n:=0) (by omega) (by omega) s
 refine aF.go HH rfl fun B Q hB hQ=>?_
 have⟨hD,hY,hZ,gA⟩:=bR
 repeat' (first
 |simp only[go_sem,hD,hY,hZ,gA]
 |(with_reducible refine CU (eG _) ?_)
 |(with_reducible refine aE hQ ?_;exact bd))
 refine fi 1 0 (bt.ind (ι:=List Pc×Nat×Int) (fun i=>p.procs.drop i.2.1=i.1∧nE i.1 i.2.2=W∧(i.2.1:Int)≤i.2.2∧i.2.2≤20001) (fun i=>i.1.length)
  (fun i=> [(1, .ptr 0 0),(3, .int .i64 i.2.2),(4, .int .i64 (i.2.1:Int))]) (fun i=>⟨[cD p],[]⟩) ?_ (p.procs,0,dM p.globals 0) ⟨rfl,hp,a2,a1⟩)
 rintro⟨rest,k,c⟩ ⟨g1,hp,g3,g4⟩ IH
 dsimp only at g1 hp g3 g4
 cases rest with
 |nil=>
  have hD:=drop_nil g1
  simp only[nE]at hp
  subst hp
  repeat' (first
 |simp only[go_sem,hD,hY,hZ,gA]
 |(with_reducible refine aE hQ ?_;exact bd))
 | cons f rest=>
  obtain⟨hY,g2,hD,g5⟩:=drop_cons g1
  simp only[nE]at hp
  by_cases hc:c≤20000
  ·have c1:decide (c≤20000)=true:=by simp;omega
   have w3:IntKind.wrap .i64 ((k:Int)+1)=((k+1:Nat):Int):=by rw[ek]<;>omega
   rw[if_pos hc]at hp
   obtain⟨r1,r2,r3⟩:=Hr f (n:=c) (by omega) hc
   unfold tC at hp r1 r2
   obtain⟨c1',c2,c3⟩:=ll (t:=f.name) (n:=c) (by omega) g4
   obtain⟨d1,d2,d3⟩:=k6 f.vars (n:=da f.name c) (by omega) c2
   obtain⟨e1,e2,e3⟩:=k6 f.fin (n:=dM f.vars (da f.name c)) (by omega) d1
   have eN:=fun s=>qC f.name (n:=c) (by omega) g4 s
   have eV:=fun s=>w8 (l:=f.vars) (n:=da f.name c) (by omega) c2 s
   have eF:=fun s=>w8 (l:=f.fin) (n:=dM f.vars (da f.name c)) (by omega) d1 s
   generalize hC:dM f.fin (dM f.vars (da f.name c))=C at *
   obtain⟨s1,s2,s3⟩:=zO f.params (n:=C) (by omega) e1
   have eT:=fun s=>SF _ f.body (Nat.le_refl _) (n:=kA f.params C) (by omega) s1 s
   generalize hM:kA f.params C=M at *
   repeat' (first
 |simp only[go_sem,hD,hY,hZ,gA,c1,w3]
 |(with_reducible refine CU (eN _) ?_)
 |(with_reducible refine CU (eV _) ?_)
 |(with_reducible refine CU (eF _) ?_)
 | (with_reducible refine aE hQ ?_;exact bd))
   refine fi 2 0 (bt.ind (ι:=List Pm×Nat×Int) (fun i=>f.params.drop i.2.1=i.1∧kA i.1 i.2.2=M∧(i.2.1:Int)≤i.2.2∧i.2.2≤20001) (fun i=>i.1.length)
    (fun i=> [(1, .ptr 0 0),(3, .int .i64 i.2.2),(4, .int .i64 (k:Int)),(5, .ptr 1 0),(6, .int .i64 (i.2.1:Int))]) (fun i=>⟨[cD p,cu f],[]⟩) ?_ (f.params,0,C) ⟨rfl,hM,by dsimp only;omega,e1⟩)
   rintro⟨ms,j,e⟩ ⟨k1,hw,k3,k4⟩ EL
   dsimp only at k1 hw k3 k4
   cases ms with
   |nil=>
    have hD:=drop_nil k1
    simp only[kA]at hw
    subst hw
    repeat' (first
 |simp only[go_sem,hD,hY,hZ,gA,w3]
 |(with_reducible refine CU (eT _) ?_)
 | (with_reducible refine aE hQ ?_;exact bd))
    refine fi 1 0 (IH (rest,k+1,fD f.body e) ⟨g2,hp,by dsimp only;omega,r1⟩ (Nat.lt_succ_self _))
   | cons a ms=>
    obtain⟨hY,k2,hD,k5⟩:=drop_cons k1
    simp only[kA]at hw
    by_cases he:e≤20000
    ·have e1:decide (e≤20000)=true:=by simp;omega
     have w4:IntKind.wrap .i64 ((j:Int)+1)=((j+1:Nat):Int):=by rw[ek]<;>omega
     rw[if_pos he]at hw
     obtain⟨v1,v2,v3⟩:=ll (t:=a.name) (n:=e) (by omega) k4
     have v4:=(mz (t:=a.name) (n:=e) (by omega)).2.1 he
     have eM:=fun s=>qC a.name (n:=e) (by omega) k4 s
     repeat' (first
 |simp only[go_sem,hD,hY,hZ,gA,e1,w4]
 |(with_reducible refine CU (eM _) ?_)
 | (with_reducible refine aE hQ ?_;exact bd))
     refine fi 2 0 (EL (ms,j+1,da a.name e) ⟨k2,hw,by dsimp only;omega,v2⟩ (Nat.lt_succ_self _))
    ·have e1:decide (e≤20000)=false:=by simp;omega
     rw[if_neg he]at hw
     subst hw
     repeat' (first
 |simp only[go_sem,hD,hY,hZ,gA,e1,w3]
 |(with_reducible refine CU (eT _) ?_)
 |(with_reducible first|refine bo fun hc=>?_|refine bp fun hc=>?_|refine bq (fun hc=>?_) fun hc=>?_)<;>(try simp only[hc,bs,↓reduceIte]at h)<;>try simp only[hc]
 | (with_reducible refine aE hQ ?_;simp only [aV,aX,bH,bI,go_sem,hD,hY,hZ,gA,e1,w3];try exact cq))
     refine fi 1 0 (IH (rest,k+1,fD f.body e) ⟨g2,hp,by dsimp only;omega,r1⟩ (Nat.lt_succ_self _))
  ·have c1:decide (c≤20000)=false:=by simp;omega
   rw[if_neg hc]at hp
   subst hp
   repeat' (first
 |simp only[go_sem,hD,hY,hZ,gA,c1]
 |(with_reducible first|refine bo fun hc=>?_|refine bp fun hc=>?_|refine bq (fun hc=>?_) fun hc=>?_)<;>(try simp only[hc,bs,↓reduceIte]at h)<;>try simp only[hc]
 |(with_reducible refine aE hQ ?_;simp only[aV,aX,bH,bI,go_sem,hD,hY,hZ,gA,c1];try exact cq))
def ad0:List aG→List aG→Bool
 | [],_=>true
 |_::_,[]=>true
 |x::l,y::l'=>if !(x==y)then false else ad0 l l'
def Yc (l l':List aG):Bool:=if(l.length:Int) != (l'.length:Int)then false else ad0 l l'
def Ar.pS:List Ar→List Ar→Bool
 | [],_=>true
 |_::_,[]=>true
 |a::l,b::l'=>if !(a.ref==b.ref) || !(a.name==b.name) || !(Ex.beq a.x b.x)then false else Ar.pS l l'
mutual
def Sm.beq:Sm→Sm→Bool
 |⟨id,kind,labels,name,proc,x,has,args,a8,aS⟩,⟨id',ahG,Z3,OY,uW,x',aoh,Ei,ad1,ad2⟩=>
  if id != id' ||kind != ahG || !(name==OY) || !(proc==uW) || !(has==aoh) || !(Yc labels Z3) || !(Ex.beq x x') ||(args.length:Int) != (Ei.length:Int)then false
  else if !(Ar.pS args Ei)then false
  else if(if(a8.length:Int) != (ad1.length:Int)then false else Sm.pS a8 ad1)then(if(aS.length:Int) != (ad2.length:Int)then false else Sm.pS aS ad2)else false
def Sm.pS:List Sm→List Sm→Bool
 | [],_=>true
 |_::_,[]=>true
 |s::l,t::l'=>if !(Sm.beq s t)then false else Sm.pS l l'
end
def Sm.aoi (l l':List Sm):Bool:=if(l.length:Int) != (l'.length:Int)then false else Sm.pS l l'
def Pm.pS:List Pm→List Pm→Bool
 | [],_=>true
 |_::_,[]=>true
 |a::l,b::l'=>if !((a.name==b.name) && (a.ref==b.ref))then false else Pm.pS l l'
def Pc.pS:List Pc→List Pc→Bool
 | [],_=>true
 |_::_,[]=>true
 |f::l,g::l'=>
  if !(f.name==g.name) ||(f.params.length:Int) != (g.params.length:Int) || !(Yc f.vars g.vars) || !(Yc f.fin g.fin) || !(Sm.aoi f.body g.body)then false
  else if !(Pm.pS f.params g.params)then false else Pc.pS l l'
def Pg.beq (p q:Pg):Bool:=if !(Yc p.globals q.globals) ||(p.procs.length:Int) != (q.procs.length:Int)then false else Pc.pS p.procs q.procs
def Cq (n:Int):Ex:=⟨1,n,[],[]⟩
def rO (s:aG):Ex:=⟨2,0,s,[]⟩
def E4 (op:Int) (a b:Ex):Ex:=⟨op,0,[],[a,b]⟩
theorem ahH (n:Int) (s:St):aF Tryz.prog rp [.int .i64 n] s (.agg (cd (Cq n))) s:=by
 refine aF.pure ?_ rfl (by simp[D.ok,lT]) s
 unfold S0
 refine aF.go JC rfl fun B Q hB hQ=>?_
 have⟨hD,hY,hZ,gA⟩:=bR
 repeat' (first
 |simp only[go_sem,hD,hY,hZ,gA,Cq]
 |(with_reducible first|refine bo fun hc=>?_|refine bp fun hc=>?_|refine bq (fun hc=>?_) fun hc=>?_)<;>(try simp only[hc,bs,↓reduceIte]at h)<;>try simp only[hc]
 |(with_reducible refine aE hQ ?_;simp only[aV,aX,bH,bI,go_sem,hD,hY,hZ,gA,Cq];try exact cq))
theorem PB (t:aG) (s:St):aF Tryz.prog lf [.str t] s (.agg (cd (rO t))) s:=by
 refine aF.pure ?_ rfl (by simp[D.ok,lT]) s
 unfold S0
 refine aF.go HL rfl fun B Q hB hQ=>?_
 have⟨hD,hY,hZ,gA⟩:=bR
 repeat' (first
 |simp only[go_sem,hD,hY,hZ,gA,rO]
 |(with_reducible first|refine bo fun hc=>?_|refine bp fun hc=>?_|refine bq (fun hc=>?_) fun hc=>?_)<;>(try simp only[hc,bs,↓reduceIte]at h)<;>try simp only[hc]
 |(with_reducible refine aE hQ ?_;simp only[aV,aX,bH,bI,go_sem,hD,hY,hZ,gA,rO];try exact cq))
theorem SG (op:Int) (a b:Ex) (s:St):aF Tryz.prog uP [.int .i64 op, .agg (cd a), .agg (cd b)] s (.agg (cd (E4 op a b))) s:=by
 refine aF.pure ?_ (by simp[D.bL,D.ok,lT]) (by simp[D.ok,lT]) s
 unfold S0
 refine aF.go JD rfl fun B Q hB hQ=>?_
 have⟨hD,hY,hZ,gA⟩:=bR
 repeat' (first
 |simp only[go_sem,hD,hY,hZ,gA,E4]
 |(with_reducible first|refine bo fun hc=>?_|refine bp fun hc=>?_|refine bq (fun hc=>?_) fun hc=>?_)<;>(try simp only[hc,bs,↓reduceIte]at h)<;>try simp only[hc]
 |(with_reducible refine aE hQ ?_;simp only[aV,aX,bH,bI,go_sem,hD,hY,hZ,gA,E4];try exact cq))
def source:aG:= [103,108,111,98,97,108,32,103,59,10,112,114,111,99,32,109,97,105,110,40,41,32,123,10,32,118,97,114,32,118,59,10,32,118,32,61,32,50,59,10,32,103,32,61,32,112,40,51,44,32,114,101,102,32,118,41,59,10,32,112,114,105,110,116,32,118,59,10,32,112,114,105,110,116,32,103,59,10,125,10,112,114,111,99,32,112,40,120,44,32,114,101,102,32,121,41,32,123,10,32,121,32,61,32,121,32,43,32,120,59,10,32,105,102,32,40,121,32,62,32,57,41,32,123,10,32,32,103,111,116,111,32,101,59,10,32,125,10,32,114,101,116,117,114,110,32,121,59,10,101,58,32,125,10]
def rP:Pg:=⟨[[103]],[
 ⟨[109,97,105,110],[],[[118]],[
  ⟨1,1,[],[118],[],Cq 2,false,[],[],[]⟩,
  ⟨2,4,[],[103],[112],ri,false,[⟨false,[],Cq 3⟩,⟨true,[118],ri⟩],[],[]⟩,
  ⟨3,3,[],[],[],rO [118],false,[],[],[]⟩,
  ⟨4,3,[],[],[],rO [103],false,[],[],[]⟩],[]⟩,
 ⟨[112],[⟨[120],false⟩,⟨[121],true⟩],[],[
  ⟨5,1,[],[121],[],E4 8 (rO [121]) (rO [120]),false,[],[],[]⟩,
  ⟨6,5,[],[],[],E4 12 (rO [121]) (Cq 9),false,[],[⟨7,10,[],[101],[],ri,false,[],[],[]⟩],[]⟩,
  ⟨8,9,[],[],[],rO [121],true,[],[],[]⟩],[[101]]⟩]⟩
theorem ad3 (s:St):aF Tryz.prog xv [] s (.agg (cD rP)) s:=by
 refine aF.pure ?_ rfl (by simp[D.ok,jv]) s
 unfold S0
 refine aF.go HK rfl fun B Q hB hQ=>?_
 have⟨hD,hY,hZ,gA⟩:=bR
 repeat' (first
 |simp only[go_sem,hD,hY,hZ,gA,rP]
 |(with_reducible refine CU (ahH _ _) ?_)
 |(with_reducible refine CU (PB _ _) ?_)
 |(with_reducible refine CU (SG _ _ _ _) ?_)
 |(with_reducible refine aE hQ ?_;simp only[aV,aX,bH,bI,go_sem,hD,hY,hZ,gA];repeat' (first|exact Ok.out|with_reducible refine iZ ?_ ?_|(simp;done))))
 repeat' (first|exact Ok.out|with_reducible refine Wk.agg ?_|with_reducible refine Wk.rows ?_|with_reducible refine Wk.slice ?_|with_reducible refine gD.cons ?_ ?_|with_reducible refine jr.cons ?_ ?_)
def Pg.avf (p:Pg) (n:Int):aG:=match p.procs[(adU n p.procs.length).toNat]? with|some f=>f.name|none=> []
theorem E5 {id:Int} : ∀ {l:List It},Cn id l=none→∀ i∈l,i.s.id≠id
 | a::l,h,i,m=>by
  simp only[Cn]at h
  split at h
  ·cases h
  ·rename_i c
   rcases List.mem_cons.1 m with rfl|m
   ·simpa using c
   ·exact E5 h i m
theorem E6 {id:Int} {i:It} : ∀ {l:List It},Cn id l=some i→i∈l∧i.s.id=id
 | a::l,h=>by
  simp only[Cn]at h
  split at h
  ·rename_i c
   cases h
   exact⟨List.mem_cons_self ..,eq_of_beq c⟩
  ·obtain⟨h1,h2⟩:=E6 h
   exact⟨List.mem_cons_of_mem _ h1,h2⟩
theorem E7 {id:Int} {r:It×aG} : ∀ {l:List Pc},zN id l=some r→∃ f∈l,r.1∈f.flat∧r.1.s.id=id∧r.2=f.name
 | f::l,h=>by
  simp only[zN]at h
  split at h
  ·rename_i i e
   cases h
   obtain⟨h1,h2⟩:=E6 e
   exact⟨f,List.mem_cons_self ..,h1,h2,rfl⟩
  ·obtain⟨g,h1,h2⟩:=E7 h
   exact⟨g,List.mem_cons_of_mem _ h1,h2⟩
theorem E8 {id:Int} : ∀ {l:List Pc},zN id l=none→∀ f∈l,∀ i∈f.flat,i.s.id≠id
 | f::l,h,g,m,i,hi=>by
  simp only[zN]at h
  split at h
  ·cases h
  ·rename_i e
   rcases List.mem_cons.1 m with rfl|m
   ·exact E5 e i hi
   ·exact E8 h g m i hi
theorem VS {p:Pg} (hb:p.may=true) {id:Int} (h : ∃ v∈p.pre,v.id=id):p.Co id∈p.pre∧(p.Co id).id=id:=by
 obtain⟨v,hv,hid⟩:=h
 have il:=(zB hb).1
 unfold Pg.Co
 cases e:zN id p.procs with
 |some r=>
  obtain⟨f,h1,h2,h3,_⟩:=E7 e
  refine⟨?_,h3⟩
  simp only[Pg.pre,List.mem_flatten,List.mem_map]
  exact⟨_,⟨f,h1,rfl⟩,by rw[← il f h1];exact List.mem_map_of_mem h2⟩
 |none=>
  simp only[Pg.pre,List.mem_flatten,List.mem_map]at hv
  obtain⟨l,⟨f,hf,rfl⟩,m⟩:=hv
  rw[← il f hf,List.mem_map]at m
  obtain⟨i,hi,rfl⟩:=m
  exact absurd hid (E8 e f hf i hi)
theorem VT {p:Pg} (h:(p.arity.1==0)=true) (h2:(p.alias.1==0)=true) : ∀ v∈p.pre,(v.kind==4)=true→v.yJ p=true:=by
 unfold Pg.alias at h2
 rw[if_pos h]at h2
 intro v hv hk
 have : ∀ l:List Sm,((qe 8 (Kf p l)).1==0)=true→∀ v∈l,(v.kind==4)=true→v.yJ p=true:=by
  intro l
  induction l with
  |nil=>intro _ v m;cases m
  | cons a l ih=>
   intro h v m hk
   simp only[Kf]at h
   split at h
   ·cases h
   ·rename_i c
    rcases List.mem_cons.1 m with rfl|m
    ·simpa[hk]using c
    ·exact ih h v m hk
 exact this _ h2 v hv hk
section
variable {a b:aG}
end
section
variable {a b:aG} (ha:isName a=true) (hb:isName b=true)
include ha hb
end
def Pg.check (p:Pg):Int×Int:=if p.scope.1==0 then(if p.arity.1==0 then(if p.jump.1==0 then p.alias else p.jump)else p.arity)else p.scope
end Go.Abs
namespace Go.Abs
mutual
def Sm.F5 (g:Sm→Sm):Sm→Sm
 |⟨id,kind,labels,name,proc,x,has,args,a8,aS⟩=> {g ⟨id,kind,labels,name,proc,x,has,args,a8,aS⟩with a8:=Sm.Ie g a8,aS:=Sm.Ie g aS}
def Sm.Ie (g:Sm→Sm):List Sm→List Sm
 | []=> []
 |s::l=>s.F5 g::Sm.Ie g l
end
def It.F5 (g:Sm→Sm) (i:It):It:= {i with s:=i.s.F5 g}
def Pc.F5 (g:Sm→Sm) (f:Pc):Pc:= {f with body:=Sm.Ie g f.body}
def Pg.F5 (g:Sm→Sm) (p:Pg):Pg:= {p with procs:=p.procs.map (Pc.F5 g)}
def awn (t:Sm) (v:Sm):Sm:=if v.id==t.id then t else v
theorem E9 {zJ fin:List aG} : ∀ {l:List (Sm×Int)} {seen:List aG},sT zJ fin seen l=none↔qd seen (iy (l.map Prod.fst)++fin)=false∧∀ q∈l,qn zJ q.1 q.2=true
 | [],seen=>by
  simp only[sT,List.map_nil,iy,List.nil_append,List.not_mem_nil,false_imp_iff,implies_true,and_true]
  rw[BO]
  cases qd seen fin<;>simp
 | (v,lp)::l,seen=>by
  simp only[sT,List.map_cons,iy,List.append_assoc]
  rw[BO,Mb v.labels]
  cases h:qd seen v.labels
  ·simp only [Bool.false_eq_true,if_false,if_true,Bool.false_or]
   cases h2:qn zJ v lp
   ·simp only [Bool.false_eq_true,if_false,reduceCtorEq,false_iff,not_and]
    intro _ h3
    have:=h3 (v,lp) (List.mem_cons_self ..)
    rw[h2]at this;cases this
   ·simp only [if_true,E9 (l:=l),List.mem_cons]
    constructor
    ·rintro⟨h3,h4⟩
     refine⟨h3,fun q hq=>?_⟩
     rcases hq with rfl|hq
     ·exact h2
     ·exact h4 q hq
    ·rintro⟨h3,h4⟩
     exact⟨h3,fun q hq=>h4 q (.inr hq)⟩
  ·simp
theorem Fa : ∀ {l:List Pc},sU l=none↔∀ f∈l,fG f.labels=false∧∀ q∈f.wZ,qn f.labels q.1 q.2=true
 | []=>by simp[sU]
 | f::l=>by
  have e:sT f.labels f.fin [] f.wZ=none↔fG f.labels=false∧∀ q∈f.wZ,qn f.labels q.1 q.2=true:=by
   rw[E9,ZX];rfl
  simp only[sU,List.mem_cons]
  split
  ·rename_i id h
   simp only[reduceCtorEq,false_iff]
   intro h3
   rw[e.2 (h3 f (.inl rfl))]at h
   cases h
  ·rename_i h
   rw[Fa (l:=l)]
   constructor
   ·intro h3 g hg
    rcases hg with rfl|hg
    ·exact e.1 h
    ·exact h3 g hg
   ·exact fun h3 g hg=>h3 g (.inr hg)
structure Pg.Right (p:Pg):Prop where
 may:p.may=true
 tg:fG p.globals=false
 tp:fG p.pn=false
 main:p.tA=false
 own : ∀ f∈p.procs,fG (p.globals++f.own)=false
 known : ∀ f∈p.procs,∀ v∈Sm.dd f.body,v.known p f p.pn=true
 zJ : ∀ f∈p.procs,fG f.labels=false
 leads : ∀ f∈p.procs,∀ q∈f.wZ,qn f.labels q.1 q.2=true
 fits : ∀ v∈p.pre,(v.kind==4)=true→v.qm p=true
 single : ∀ v∈p.pre,(v.kind==4)=true→v.yJ p=true
theorem DR {p:Pg} (h:(p.check.1==0)=true):p.Right:=by
 unfold Pg.check at h
 by_cases h1:(p.scope.1==0)=true
 ·rw [if_pos h1]at h
  by_cases h2:(p.arity.1==0)=true
  ·rw [if_pos h2]at h
   by_cases h3:(p.jump.1==0)=true
   ·rw [if_pos h3]at h
    obtain⟨k1,k2,k3,k4⟩:=DJ h1
    have hj:sU p.procs=none:=by
     unfold Pg.jump at h3
     rw[if_pos h1]at h3
     cases e:sU p.procs with
     |none=>rfl
     |some id=>rw[e]at h3;cases h3
    rw[Fa]at hj
    exact⟨BH h1,k1,k2,k3,fun f hf=>(k4 f hf).1,fun f hf=>(k4 f hf).2,fun f hf=>(hj f hf).1,fun f hf=>(hj f hf).2,(Kd h2).2,VT h2 h⟩
   ·rw[if_neg h3]at h;exact absurd h h3
  ·rw[if_neg h2]at h;exact absurd h h2
 ·rw[if_neg h1]at h;exact absurd h h1
def AtR (R:Int→Prop) (a:Int):Prop:=a = -1∨R a
theorem Cr {R:Int→Prop} {l:List Sm} {o:Int} (h : ∀ v∈Sm.dd l,R v.id) (ho:AtR R o):AtR R (ga l o):=by
 cases l with
 |nil=>exact ho
 |cons s l=>exact .inr (h s (by rw[Sm.dd,Sm.qc];exact List.mem_append_left _ (List.mem_cons_self ..)))
mutual
theorem ad4 {R:Int→Prop} (proc up next loop:Int) : ∀ s:Sm,(∀ v∈s.pre,R v.id)→AtR R next→(loop=0∨R loop)→
 ∀ x∈s.vQ proc up next loop,x.proc=proc∧AtR R x.next∧(x.loop=0∨R x.loop)∧AtR R (ga x.s.a8 (-1))∧AtR R (ga x.s.aS (-1))∧x.s∈s.pre
 | ⟨id,kind,labels,name,pc,x,has,args,a8,aS⟩,h,hn,hl,y,m=>by
  have uM:=h _ (by rw[Sm.qc];exact List.mem_cons_self ..)
  have h1 : ∀ v∈Sm.dd a8,R v.id:=fun v m=>h v (by rw[Sm.qc];exact List.mem_cons_of_mem _ (List.mem_append_left _ m))
  have h2 : ∀ v∈Sm.dd aS,R v.id:=fun v m=>h v (by rw[Sm.qc];exact List.mem_cons_of_mem _ (List.mem_append_right _ m))
  have qY:AtR R (if kind==6 then id else next):=by split;exact .inr uM;exact hn
  have l8:(if kind==6 then id else loop)=0∨R (if kind==6 then id else loop):=by split;exact .inr uM;exact hl
  rw[Sm.qc]
  simp only[Sm.vQ,List.mem_cons,List.mem_append]at m
  rcases m with rfl|m|m
  ·exact⟨rfl,hn,hl,Cr h1 (.inl rfl),Cr h2 (.inl rfl),List.mem_cons_self ..⟩
  ·obtain⟨g1,g2,g3,g4,g5,g6⟩:=yK proc id _ _ a8 h1 qY l8 y m
   exact⟨g1,g2,g3,g4,g5,List.mem_cons_of_mem _ (List.mem_append_left _ g6)⟩
  ·obtain⟨g1,g2,g3,g4,g5,g6⟩:=yK proc id _ _ aS h2 qY l8 y m
   exact⟨g1,g2,g3,g4,g5,List.mem_cons_of_mem _ (List.mem_append_right _ g6)⟩
theorem yK {R:Int→Prop} (proc up next loop:Int) : ∀ l:List Sm,(∀ v∈Sm.dd l,R v.id)→AtR R next→(loop=0∨R loop)→
 ∀ x∈Sm.jR proc up next loop l,x.proc=proc∧AtR R x.next∧(x.loop=0∨R x.loop)∧AtR R (ga x.s.a8 (-1))∧AtR R (ga x.s.aS (-1))∧x.s∈Sm.dd l
 | [],_,_,_,x,m=>by simp[Sm.jR]at m
 | s::l,h,hn,hl,x,m=>by
  simp only[Sm.dd,List.mem_append]at h
  simp only[Sm.jR,List.mem_append]at m
  simp only[Sm.dd,List.mem_append]
  rcases m with m|m
  ·obtain⟨g1,g2,g3,g4,g5,g6⟩:=ad4 proc up _ loop s (fun v m=>h v (.inl m)) (Cr (fun v m=>h v (.inr m)) hn) hl x m
   exact⟨g1,g2,g3,g4,g5, .inl g6⟩
  ·obtain⟨g1,g2,g3,g4,g5,g6⟩:=yK proc up next loop l (fun v m=>h v (.inr m)) hn hl x m
   exact⟨g1,g2,g3,g4,g5, .inr g6⟩
end
theorem Ki {x:Im} : ∀ (l:List Pc) (k:Nat),x∈pW k l→∃ i f,l[i]? = some f∧x∈Sm.jR ((k+i:Nat):Int) 0 (-1) 0 f.body
 | [],_,h=>by simp[pW]at h
 | f::l,k,h=>by
  simp only[pW,List.mem_append]at h
  rcases h with h|h
  ·exact⟨0,f,rfl,h⟩
  ·obtain⟨i,g,h1,h2⟩:=Ki l (k+1) h
   exact⟨i+1,g,by simpa using h1,by rw[show k+(i+1)=k+1+i by omega];exact h2⟩
theorem Kj {x:Im} : ∀ (l:List Pc) (k:Nat) {i:Nat} {f:Pc},l[i]? = some f→x∈Sm.jR ((k+i:Nat):Int) 0 (-1) 0 f.body→x∈pW k l
 |f::l,k,0,g,h,m=>by simp at h;subst h;exact List.mem_append_left _ m
 |f::l,k,i+1,g,h,m=>List.mem_append_right _ (Kj l (k+1) (i:=i) (by simpa using h) (by rw[show k+1+i=k+(i+1) by omega];exact m))
theorem SH : ∀ (l:List Pc) (k:Nat),(pW k l).map Im.s=(l.map fun f=>Sm.dd f.body).flatten
 | [],_=>rfl
 |f::l,k=>by simp only[pW,List.map_append,rL,SH l,List.map_cons,List.flatten_cons]
theorem Ml {R:Int→Prop} {fin:List aG} {XU:aG} : ∀ {l:List Sm},(∀ v∈l,R v.id)→(kZ fin XU l).2=true→AtR R (kZ fin XU l).1
 | [],_,h=>by
  simp only[kZ]at h ⊢
  split at h
  ·rename_i c;rw[if_pos c];exact .inl rfl
  ·cases h
 | v::l,hv,h=>by
  simp only[kZ]at h ⊢
  split
  ·exact .inr (hv v (List.mem_cons_self ..))
  ·rename_i c
   rw[if_neg c]at h
   exact Ml (fun w m=>hv w (List.mem_cons_of_mem _ m)) h
def Hm (L:List Im) (k:Int) (a:Int):Prop:=1≤a∧a≤(L.length:Int)∧(fj L a).proc=k
structure BT (p:Pg) (L:List Im) (x:Im) (f:Pc):Prop where
 self:fj L x.s.id=x∧1≤x.s.id∧x.s.id≤(L.length:Int)
 proc:p.procs[x.proc.toNat]? = some f∧0≤x.proc
 mem:x.s∈Sm.dd f.body
 next:AtR (Hm L x.proc) x.next
 loop:x.s.kind=7∨x.s.kind=8→Hm L x.proc x.loop
 a8:AtR (Hm L x.proc) (ga x.s.a8 (-1))
 aS:AtR (Hm L x.proc) (ga x.s.aS (-1))
 F4:x.s.kind=10→AtR (Hm L x.proc) (kZ f.fin x.s.name (Sm.dd f.body)).1
structure SI (p:Pg) (L:List Im):Prop where
 im : ∀ x∈L,∃ f,BT p L x f
 head : ∀ (i:Nat) (f:Pc),p.procs[i]? = some f→AtR (Hm L i) (ga f.body (-1))
theorem pk {p:Pg} (h:p.Right):SI p p.aY.L:=by
 have hL:=Sp h.may
 have hs:p.aY.L.map Im.s=p.pre:=by rw[hL,SH];rfl
 have hlen:p.aY.L.length=p.pre.length:=by rw[← hs,List.length_map]
 have self : ∀ x∈p.aY.L,fj p.aY.L x.s.id=x∧1≤x.s.id∧x.s.id≤(p.aY.L.length:Int):=fun x m=>by
  obtain⟨i,hi⟩:=List.getElem?_of_mem m
  have h1:=BF h.may (i:=i) (v:=x.s) (by rw[← hs,List.getElem?_map,hi];rfl)
  have h2:=(List.getElem?_eq_some_iff.1 hi).1
  refine⟨?_,by omega,by omega⟩
  unfold fj
  rw[h1,show(((i+1:Nat):Int) - 1).toNat=i by omega,List.getD_eq_getElem?_getD,hi];rfl
 have there : ∀ (i:Nat) (f:Pc),p.procs[i]? = some f→∀ v∈Sm.dd f.body,Hm p.aY.L i v.id:=fun i f hf v m=>by
  rw[← rL (i:Int) 0 (-1) 0 f.body]at m
  obtain⟨x,hx,rfl⟩:=List.mem_map.1 m
  have hxL:x∈p.aY.L:=by rw[hL];exact Kj p.procs 0 hf (by simpa using hx)
  obtain⟨g1,g2,g3⟩:=self x hxL
  exact⟨g2,g3,by rw[g1];exact(yK (R:=fun _=>True) _ 0 (-1) 0 f.body (fun _ _=>trivial) (.inl rfl) (.inl rfl) x hx).1⟩
 refine⟨fun x m=>?_,fun i f hf=>Cr (there i f hf) (.inl rfl)⟩
 have m':=m
 rw[hL]at m'
 obtain⟨i,f,h1,h2⟩:=Ki p.procs 0 m'
 have hf:=List.mem_of_getElem? h1
 rw[Nat.zero_add]at h2
 obtain⟨g1,g2,g3,g4,g5,g6⟩:=yK (R:=Hm p.aY.L i) _ 0 (-1) 0 f.body (there i f h1) (.inl rfl) (.inl rfl) x h2
 have hl:=h.leads f hf (x.s,x.loop) (by rw[← J4 (i:Int) f];exact List.mem_map.2 ⟨x,h2,rfl⟩)
 refine⟨f,self x m,⟨by rw[g1];simpa using h1,by rw[g1];exact Int.natCast_nonneg _⟩,g6,by rw[g1];exact g2,fun hk=>?_,by rw[g1];exact g4,by rw[g1];exact g5,fun hk=>?_⟩
 ·rw [g1]
  refine g3.resolve_left fun e=>?_
  unfold qn at hl
  rw[if_pos (by rcases hk with hk|hk<;>simp[hk]),e]at hl
  cases hl
 ·rw [g1]
  refine Ml (there i f h1) ?_
  unfold qn at hl
  rw[if_neg (by simp[hk]),if_pos (by simp[hk])]at hl
  rw[BP];exact hl
theorem Hm.at {L:List Im} {k a:Int} (h:AtR (Hm L k) a):nZ L a:=h.imp_right fun h=>⟨h.1,h.2.1⟩
theorem SI.lok {p:Pg} {L:List Im} (h:SI p L):Au p L:=by
 refine⟨fun x m=>?_,fun x m=>?_,fun x m hk=>?_,fun x m hk=>?_,fun x m=>?_,fun x m=>?_,fun f hf=>?_⟩
 ·obtain⟨f,o⟩:=h.im x m;exact o.self.2
 ·obtain⟨f,o⟩:=h.im x m;exact Hm.at o.next
 ·obtain⟨f,o⟩:=h.im x m;exact⟨(o.loop hk).1,(o.loop hk).2.1⟩
 ·obtain⟨f,o⟩:=h.im x m;exact⟨f,o.proc.1,Hm.at (o.F4 hk)⟩
 ·obtain⟨f,o⟩:=h.im x m;exact Hm.at o.a8
 ·obtain⟨f,o⟩:=h.im x m;exact Hm.at o.aS
 ·obtain⟨i,hi⟩:=List.getElem?_of_mem hf
  exact Hm.at (h.head i f hi)
theorem SJ {p:Pg} (h:p.Right):Au p p.aY.L:=(pk h).lok
theorem Kk {vars globals:List aG} {n:aG} : ∀ {l:List Pm},wS vars globals n l≠0→n∈l.map (·.name)∨n∈vars∨n∈globals
 | [],h=>by
  simp only[wS]at h
  split at h
  ·rename_i e;exact .inr (.inl ((jg _ _).1 e))
  ·split at h
   ·rename_i e;exact .inr (.inr ((jg _ _).1 e))
   ·exact absurd rfl h
 | a::l,h=>by
  simp only[wS]at h
  split at h
  ·rename_i e;exact .inl (by simp only[List.map_cons,List.mem_cons];exact .inl (by simpa using Eq.symm (by simpa using e)))
  ·rcases Kk h with h | h
   ·exact .inl (List.mem_cons_of_mem _ h)
   ·exact .inr h
theorem VU {p:Pg} {f:Pc} {v:Sm} (h:v.known p f p.pn=true) {n:aG} (m:n∈v.said):n∈p.globals++f.own:=by
 simp only[Sm.known,Bool.and_eq_true,Bool.not_eq_true']at h
 have h1:f.lE p n≠0:=fun e=>by
  have:v.said.any (fun n=>f.lE p n==0)=true:=List.any_eq_true.2 ⟨n,m,by simp[e]⟩
  rw[h.1]at this;cases this
 simp only[List.mem_append,Pc.own,Pc.tx]
 rcases Kk h1 with h2|h2|h2
 ·exact .inr (.inl h2)
 ·exact .inr (.inr h2)
 ·exact .inl h2
theorem uZ {n:aG} : ∀ {l:List Ar} {out:List aG},n∈out∨(∃ a∈l,a.ref=true∧a.name=n)→n∈Ar.said out l
 | [],out,h=>by rcases h with h|⟨a,m,_⟩;exact h;cases m
 | b::l,out,h=>by
  simp only[Ar.said]
  refine uZ ?_
  rcases h with h|⟨a,m,h1,h2⟩
  ·left;split<;>simp[h]
  ·rcases List.mem_cons.1 m with rfl | m
   ·left;rw[if_pos h1];simp[h2]
   ·exact .inr ⟨a,m,h1,h2⟩
theorem Kl {x:aG} : ∀ {l:List aG} {k:Nat},x∈l→∃ j:Nat,jf x (k:Int) l=((k+j:Nat):Int)∧j<l.length
 | s::l,k,m=>by
  by_cases e:x=s
  ·subst e;exact⟨0,by simp[jf],by simp⟩
  ·have e':(x==s)=false:=by simp [e]
   obtain⟨j,h1,h2⟩:=Kl (l:=l) (k:=k+1) ((List.mem_cons.1 m).resolve_left e)
   refine⟨j+1, ?_,by simp;omega⟩
   simp only[jf,e',Bool.false_eq_true,if_false]
   rw[show(k:Int)+1=((k+1:Nat):Int) by omega,h1];congr 1;omega
theorem Ig {name:aG} {f:Pc} : ∀ {l:List Pc} {k:Nat},iU name l=some f→∃ j:Nat,kX (fun f:Pc=>f.name==name) (k:Int) l=((k+j:Nat):Int)∧l[j]? = some f
 | g::l,k,h=>by
  simp only[iU]at h
  by_cases e:(g.name==name)=true
  ·rw [if_pos e]at h;cases h
   exact⟨0,by simp only[kX,e,if_true,Nat.add_zero],rfl⟩
  ·have e':(g.name==name)=false:=by simpa using e
   rw[if_neg e]at h
   obtain⟨j,h1,h2⟩:=Ig (l:=l) (k:=k+1) h
   refine⟨j+1, ?_,by simpa using h2⟩
   simp only[kX,e',Bool.false_eq_true,if_false]
   rw[show(k:Int)+1=((k+1:Nat):Int) by omega,h1];congr 1;omega
def DS (p:Pg) (n:Nat) (fr:Fr):Prop:=∃ f,p.procs[fr.proc.toNat]? = some f∧0≤fr.proc∧fr.names=p.globals++f.own∧fr.vars.length=fr.names.length∧∀ c∈fr.vars,c<n
def Cs (L:List Im):List Fr→Prop
 | []=>False
 | [fr]=>fr.call=0
 |fr::uH::l=>(Hm L uH.proc fr.call∧(fj L fr.call).s.kind=4)∧Cs L (uH::l)
structure po (p:Pg) (L:List Im) (a:Int) (m:Mc):Prop where
 st:Cs L m.st
 fr : ∀ fr∈m.st,DS p m.mem.length fr
 at_:AtR (Hm L m.top.proc) a
 ui:p.globals.length≤m.mem.length
theorem DS.mono {p:Pg} {n n':Nat} {fr:Fr} (h:DS p n fr) (hn:n≤n'):DS p n' fr:=by
 obtain⟨f,h1,h2,h3,h4,h5⟩:=h
 exact⟨f,h1,h2,h3,h4,fun c m=>Nat.lt_of_lt_of_le (h5 c m) hn⟩
theorem Cs.ne {L:List Im} {l:List Fr} (h:Cs L l) : ∃ fr r,l=fr::r:=by
 cases l with
 |nil=>exact h.elim
 |cons fr r=>exact⟨fr,r,rfl⟩
theorem Mc.Z4 {L:List Im} {m:Mc} (h:Cs L m.st):m.top∈m.st:=by
 obtain⟨fr,r,e⟩:=h.ne
 simp[Mc.top,e]
theorem po.of {p:Pg} {L:List Im} {a a':Int} {m m':Mc} (h:po p L a m) (h1:m'.st=m.st) (h2:m.mem.length≤m'.mem.length) (h3:AtR (Hm L m.top.proc) a'):po p L a' m':=by
 have ht:m'.top=m.top:=by unfold Mc.top;rw[h1]
 exact⟨by rw[h1];exact h.st,fun fr hf=>(h.fr fr (by rw[← h1];exact hf)).mono h2,by rw[ht];exact h3,Nat.le_trans h.ui h2⟩
section
variable {p:Pg} {L:List Im} {m:Mc}
theorem Z5 {n:aG} {k:Nat} (h:DS p k m.top) (hn:n∈m.top.names):m.cell n<k∧∃ j:Nat,jf n 0 m.top.names=(j:Int)∧m.top.vars[j]? = some (m.cell n):=by
 obtain⟨f,h1,h2,h3,h4,h5⟩:=h
 obtain⟨j,e1,e2⟩:=Kl (k:=0) hn
 have e3:jf n 0 m.top.names=(j:Int):=by simpa using e1
 have e4:m.top.vars[j]? = some (m.cell n):=by
  unfold Mc.cell
  rw[e3,Int.toNat_natCast,List.getD_eq_getElem?_getD,List.getElem?_eq_getElem (by omega)];rfl
 exact⟨h5 _ (List.mem_of_getElem? e4),j,e3,e4⟩
theorem F6 {k:Nat} (hk:p.globals.length≤k) : ∀ (l:List Ar) (m:Mc) (out:List Nat),DS p m.mem.length m.top→(∀ a∈l,a.ref=true→a.name∈m.top.names)→(∀ c∈out,c<m.mem.length)→
 m.mem.length≤(Mc.args l m out).2.mem.length∧∀ o,(Mc.args l m out).1=some o→o.length=out.length+l.length∧∀ c∈o,c<(Mc.args l m out).2.mem.length
 | [],m,out,h,_,ho=>⟨Nat.le_refl _,fun o e=>by cases e;exact⟨rfl,ho⟩⟩
 | a::l,m,out,h,hn,ho=>by
  simp only[Mc.args]
  by_cases c:a.ref=true
  ·rw [if_pos c]
   obtain⟨g1,g2⟩:=F6 hk l m (out++ [m.cell a.name]) h (fun b mb=>hn b (List.mem_cons_of_mem _ mb)) fun x mx=>by
    rcases List.mem_append.1 mx with mx|mx
    ·exact ho x mx
    ·rw[List.mem_singleton.1 mx];exact(Z5 h (hn a (List.mem_cons_self ..) c)).1
   exact⟨g1,fun o e=>⟨by rw[(g2 o e).1];simp;omega,(g2 o e).2⟩⟩
  ·rw [if_neg c]
   have he:=fB m a.x
   by_cases c2:(m.bA a.x).1.2=true
   ·rw [if_pos c2]
    have ht:({(m.bA a.x).2 with mem:=(m.bA a.x).2.mem++ [(m.bA a.x).1.1]} : Mc).top=m.top:=by unfold Mc.top;rw[he.1]
    have hl:(m.bA a.x).2.mem.length=m.mem.length:=by rw[he.2.1]
    obtain⟨g1,g2⟩:=F6 hk l {(m.bA a.x).2 with mem:=(m.bA a.x).2.mem++ [(m.bA a.x).1.1]} (out++ [(m.bA a.x).2.mem.length]) (by rw[ht];exact h.mono (by simp[hl])) (by rw[ht];exact fun b mb=>hn b (List.mem_cons_of_mem _ mb)) fun x mx=>by
     rcases List.mem_append.1 mx with mx|mx
     ·have:=ho x mx;simp[hl];omega
     ·rw[List.mem_singleton.1 mx];simp
    exact⟨Nat.le_trans (by simp[hl]) g1,fun o e=>⟨by rw[(g2 o e).1];simp;omega,(g2 o e).2⟩⟩
   ·rw [if_neg c2]
    exact⟨by rw[he.2.1];exact Nat.le_refl _,fun o e=>by cases e⟩
theorem Mm (hP:SI p L) {i:Nat} {f:Pc} (hf:p.procs[i]? = some f) {l:List Nat} {call:Int} (hl:l.length=f.params.length) (hc : ∀ c∈l,c<m.mem.length) (hg:p.globals.length≤m.mem.length)
 (rY : ∀ fr∈m.st,DS p m.mem.length fr) (ji:(m.st = []∧call=0)∨(Cs L m.st∧Hm L m.top.proc call∧(fj L call).s.kind=4)):po p L (m.open p (i:Int) l call).1 (m.open p (i:Int) l call).2:=by
 unfold Mc.open
 rw[Int.toNat_natCast,hf]
 dsimp only
 refine⟨?_,fun fr h=>?_,by exact hP.head i f hf,by simp;omega⟩
 ·rcases ji with ⟨h1,h2⟩ | ⟨h1,h2⟩
  ·rw[h1];exact h2
  ·obtain⟨fr,r,e⟩:=h1.ne
   dsimp only
   rw[e]at h1 ⊢
   have:m.top=fr:=by simp[Mc.top,e]
   rw[this]at h2
   exact⟨h2,h1⟩
 ·rcases List.mem_cons.1 h with rfl | h
  ·refine⟨f,by rw [Int.toNat_natCast];exact hf,Int.natCast_nonneg _,rfl,by simp [Pc.own,Pc.tx,hl],fun c m=> ?_⟩
   simp only[List.mem_append,List.mem_range,List.mem_map]at m
   simp only[List.length_append,List.length_replicate]
   rcases m with (m|m)|⟨x,m,rfl⟩
   ·omega
   ·have:=hc c m;omega
   ·omega
  ·exact(rY fr h).mono (by simp)
theorem Z6 (hP:SI p L) {a:Int} (h:po p L a m) {g:Int} {a':Int} {m':Mc} (e:m.back L g=(some a',m')):po p L a' m':=by
 have hs:=h.st
 unfold Mc.back Mc.close at e
 dsimp only at e
 obtain⟨fr,r,es⟩:=hs.ne
 have ht:m.top=fr:=by simp[Mc.top,es]
 by_cases c:(m.top.call==0)=true
 ·rw[if_pos c]at e;cases e
 ·rw [if_neg c]at e
  rw[es]at hs
  cases r with
  |nil=>rw[ht]at c;exact absurd (beq_iff_eq.2 (show fr.call=0 from hs)) c
  | cons uH r=>
   obtain⟨⟨h1,_⟩,h2⟩:=hs
   have gE:fj L m.top.call∈L:=pj (.inr (by rw[ht];exact⟨h1.1,h1.2.1⟩)) (by have:=h1.1;rw[ht];omega)
   obtain⟨f,o⟩:=hP.im _ gE
   have ho:=o.next
   rw[show(fj L m.top.call).proc=uH.proc by rw[ht];exact h1.2.2]at ho
   rw[ht]at ho
   split at e<;>(dsimp only at e;split at e)<;>first|(cases e;done)|skip
   all_goals
    cases e
    refine⟨by simp only[Mc.set,es,List.tail_cons];exact h2,fun q hq=>?_,by simp only[Mc.set,Mc.top,es,List.tail_cons,List.headD_cons];exact ho,by simp only[Mc.set,List.length_set];exact h.ui⟩
    simp only[Mc.set,List.length_set]at hq ⊢
    exact h.fr q (by rw[es]at hq ⊢;exact List.mem_cons_of_mem _ hq)
end
theorem zQ {p:Pg} (hR:p.Right) {x:Im} {f:Pc} (h:BT p p.aY.L x f) {n:aG} (m:n∈x.s.said):n∈p.globals++f.own:=
 VU (hR.known f (List.mem_of_getElem? h.proc.1) x.s h.mem) m
theorem Z7 {p:Pg} (hR:p.Right) {x:Im} {f:Pc} (h:BT p p.aY.L x f) (hk:x.s.kind=4) : ∃ (j:Nat) (q:Pc),p.at x.s.proc=(j:Int)∧p.procs[j]? = some q∧x.s.args.length=q.params.length:=by
 have pV:x.s∈p.pre:=by
  simp only[Pg.pre,List.mem_flatten,List.mem_map];exact⟨_,⟨f,List.mem_of_getElem? h.proc.1,rfl⟩,h.mem⟩
 have hf:=hR.fits x.s pV (by simp[hk])
 unfold Sm.qm at hf
 simp only[Bool.and_eq_true]at hf
 cases e:p.find x.s.proc with
 |none=>rw[e]at hf;cases hf.2
 |some q=>
  rw[e]at hf
  obtain⟨j,h1,h2⟩:=Ig (k:=0) e
  refine⟨j,q,by simpa[Pg.at]using h1,h2, ?_⟩
  have:=hf.2
  simp only[Cm]at this
  split at this
  ·rename_i h3;have:=(beq_iff_eq.1 h3);omega
  ·cases this
theorem Z8 {p:Pg} (hR:p.Right) {m:Mc} {W:List Int} {x:Im} {f:Pc} {a a':Int} {m':Mc} (h:po p p.aY.L a m) (hx:BT p p.aY.L x f) (hk:x.s.kind=4) (hp:x.proc=m.top.proc) (Km:(m.call p W x.s).2.fin=0)
 (e:m.call p W x.s=(a',m')) (h0:m.fin=0):po p p.aY.L a' m':=by
 have hP:=pk hR
 have zR:=h.fr _ (Mc.Z4 h.st)
 obtain⟨f',t1,t2,t3,t4,t5⟩:=zR
 have ef:f'=f:=by have:=hx.proc.1;rw[hp,t1]at this;exact Option.some.inj this
 subst ef
 have ad6 : ∀ b∈x.s.args,b.ref=true→b.name∈m.top.names:=fun b mb hb=>by
  rw[t3];exact zQ hR hx (uZ (.inr ⟨b,mb,hb,rfl⟩))
 obtain⟨j,q,c1,c2,c3⟩:=Z7 hR hx hk
 have g1:=F6 h.ui x.s.args m [] ⟨f',t1,t2,t3,t4,t5⟩ ad6 (by simp)
 have g2:=u7 x.s.args m []
 have g3:=vT x.s.args m [] h0
 unfold Mc.call at e Km
 generalize Mc.args x.s.args m [] = r at *
 obtain⟨o,m1⟩:=r
 cases o with
 |none=>
  dsimp only at Km g3
  rw[g3.2]at Km;cases Km
 | some l=>
  dsimp only at e Km g1 g2 g3
  by_cases c:m1.st.length > 100
  ·rw[if_pos c]at Km;cases Km
  ·rw [if_neg c]at e
   have he:=dT W m1 x.s.id []
   have ht:(m1.event W x.s.id []).top=m.top:=by unfold Mc.top;rw[he.1,g2.1]
   have:=Mm (m:=m1.event W x.s.id []) hP c2 (l:=l) (call:=x.s.id) (by rw[(g1.2 l rfl).1,c3];simp) (by rw[he.2.1];exact(g1.2 l rfl).2) (by rw[he.2.1];exact Nat.le_trans h.ui g1.1)
    (by rw[he.1,he.2.1,g2.1];exact fun fr rY=>(h.fr fr rY).mono g1.1) (.inr ⟨by rw[he.1,g2.1];exact h.st,by rw[ht];exact⟨hx.self.2.1,hx.self.2.2,by rw[hx.self.1];exact hp⟩,by rw[hx.self.1];exact hk⟩)
   rw[← c1,e]at this
   exact this
theorem ahI {p:Pg} (hR:p.Right) {m:Mc} {T W:List Int} {x:Im} {f:Pc} {a:Int} (h:po p p.aY.L a m) (hx:BT p p.aY.L x f) (hp:x.proc=m.top.proc) :
 ((m.do p p.aY.L T W x).2.fin=0→po p p.aY.L (m.do p p.aY.L T W x).1 (m.do p p.aY.L T W x).2):=by
 intro h0
 have ev : ∀ (m1:Mc) (id:Int) (bK:List Int),(m1.event W id bK).st=m1.st∧(m1.event W id bK).mem=m1.mem:=fun m1 id bK=>⟨(dT W m1 id bK).1,(dT W m1 id bK).2.1⟩
 have key : ∀ (m1:Mc) (b:Int),m1.st=m.st→m1.mem.length=m.mem.length→AtR (Hm p.aY.L x.proc) b→po p p.aY.L b m1:=fun m1 b h1 h2 h3=>h.of h1 (Nat.le_of_eq h2.symm) (by rw[← hp];exact h3)
 have hw:=fB m x.s.x
 unfold Mc.do at h0 ⊢
 dsimp only at h0 ⊢
 by_cases c7:(x.s.kind==7)=true
 ·rw [if_pos c7]
  have hk:x.s.kind=7:=by simpa using c7
  have hl:=hx.loop (.inl hk)
  have gE:=pj (L:=p.aY.L) (a:=x.loop) (.inr ⟨hl.1,hl.2.1⟩) (by have:=hl.1;omega)
  obtain⟨g,o⟩:=(pk hR).im _ gE
  refine key _ _ (ev _ _ _).1 (by rw[(ev _ _ _).2]) ?_
  have:=o.next
  rw[hl.2.2]at this;exact this
 rw[if_neg c7]at h0 ⊢
 by_cases c8:(x.s.kind==8)=true
 ·rw [if_pos c8]
  exact key _ _ (ev _ _ _).1 (by rw[(ev _ _ _).2]) (.inr (hx.loop (.inr (by simpa using c8))))
 rw[if_neg c8]at h0 ⊢
 by_cases Hs:(x.s.kind==10)=true
 ·rw [if_pos Hs]
  refine key _ _ (ev _ _ _).1 (by rw[(ev _ _ _).2]) ?_
  have:=hx.F4 (by simpa using Hs)
  rw[hx.proc.1];exact this
 rw[if_neg Hs]at h0 ⊢
 by_cases c2:(x.s.kind==2)=true
 ·rw [if_pos c2]at h0 ⊢
  split at h0
  ·cases h0
  ·rename_i n e
   exact key _ _ (ev _ _ _).1 (by rw[(ev _ _ _).2];simp[Mc.set]) hx.next
 rw[if_neg c2]at h0 ⊢
 by_cases cw:(m.bA x.s.x).1.2=true
 ·rw [if_pos cw]at h0 ⊢
  have e1:((m.bA x.s.x).2.event W x.s.id [(m.bA x.s.x).1.1]).st=m.st:=(ev _ _ _).1.trans hw.1
  have e2:((m.bA x.s.x).2.event W x.s.id [(m.bA x.s.x).1.1]).mem.length=m.mem.length:=by rw[(ev _ _ _).2,hw.2.1]
  have fo : ∀ (l:List Sm) (b:Int),AtR (Hm p.aY.L x.proc) (ga l (-1))→AtR (Hm p.aY.L x.proc) b→AtR (Hm p.aY.L x.proc) (firstM l b):=fun l b h1 h2=>by
   cases l with
   |nil=>exact h2
   |cons s l=>exact h1
  split
  ·exact key _ _ e1 (by simp only[Mc.set,List.length_set];exact e2) hx.next
  split
  ·exact key _ _ e1 e2 hx.next
  split
  ·refine key _ _ e1 e2 ?_
   split
   ·exact fo _ _ hx.aS hx.next
   ·exact fo _ _ hx.a8 hx.next
  split
  ·refine key _ _ e1 e2 ?_
   split
   ·exact hx.next
   ·exact fo _ _ hx.a8 (.inr ⟨hx.self.2.1,hx.self.2.2,by rw[hx.self.1]⟩)
  ·exact key _ _ e1 e2 hx.next
 ·rw [if_neg cw]at h0
  have:(m.bA x.s.x).2.fin=4:=by unfold Mc.bA;dsimp only;rw[if_neg (show ¬ (x.s.x.bA m.top.names m.bK).2=true from cw)]
  rw[this]at h0;cases h0
end Go.Abs
namespace Go.Abs
structure Lay where
 κ:List Nat
 φ:List Nat
 sd:D
 vd:D
def D.arr:D→List Nat
 | .eB _ o _ _=> [o]
 |_=> []
def Lay.own (y:Lay):List Nat:=0::(y.κ++(y.sd.arr++y.vd.arr))
def fl (o:Nat):List D:= [.ptr o 0]
def pw (κ:List Nat) (f:Fr):List D:= [.int .i64 f.proc, .slice .shared 1 (f.names.map encStr), .slice .shared 1 (f.vars.map fun c=>fl (κ.getD c 0)), .int .i64 f.call]
def gC (e:Int×List Int):List D:= [.int .i64 e.1, .slice .shared 1 (e.2.map bT)]
abbrev fx (p:Pg) (T W:List Int) (y:Lay) (m:Mc):List D:=
 [.dA (fA p) 0, .slice .shared 1 ((y.κ.take p.globals.length).map fl), .slice .shared 1 (T.map bT), .slice .shared 1 (W.map bT),y.sd,y.vd,
  .int .i64 m.fin, .int .i64 m.steps, .int .i64 m.reads, .slice (.tok 0) 1 (m.out.map bT), .slice (.tok 1) 2 (m.trace.map gC)]
def qD (n:Int):D:= .int .i64 n
def xJ (o:Nat):D:= .ptr o 0
def jE (s:St) (d:D) (cs:List D):Prop:=(d = .ew 1∧cs = [])∨∃ o g more,d = .eB 1 o g cs.length∧s.ah[o]? = some (.int .i64 ((g:Nat):Int)::(cs++more))
structure Inv (p:Pg) (T W:List Int) (y:Lay) (m:Mc) (loc:List (Nat×List D)) (s:St):Prop where
 jF:s.ah[0]? = some (fx p T W y m)
 t0:s.aw[0]? = some (some m.out.length)
 t1:s.aw[1]? = some (some m.trace.length)
 len:y.κ.length=m.mem.length
 cell : ∀ (i c:Nat) (v:Int),y.κ[i]? = some c→m.mem[i]? = some v→s.ah[c]? = some [.int .i64 v]
 sy:y.φ.length=m.st.length
 frame : ∀ (i o:Nat) (fr:Fr),y.φ[i]? = some o→m.st[i]? = some fr→s.ah[o]? = some (pw y.κ fr)∧o∉y.own∧∀ c∈fr.vars,c<m.mem.length
 stack:jE s y.sd (y.φ.reverse.map xJ)
 bK : ∃ l:List Int,jE s y.vd (l.map qD)
 own:y.own.Nodup
 loc : ∀ q∈loc,s.ah[q.1]? = some q.2∧q.1∉y.own
theorem jE.lt {s:St} {d:D} {cs:List D} (h:jE s d cs) : ∀ o∈d.arr,o<s.ah.length:=by
 rcases h with ⟨rfl,_⟩|⟨o,g,more,rfl,h⟩
 ·intro o m;simp[D.arr]at m
 ·intro o' m
  have:o'=o:=by simpa[D.arr]using m
  subst this;exact fW h
theorem jE.keep {s s':St} {d:D} {cs:List D} (h:jE s d cs) (k : ∀ o∈d.arr,s'.ah[o]? = s.ah[o]?):jE s' d cs:=by
 rcases h with h|⟨o,g,more,rfl,h⟩
 ·exact .inl h
 ·exact .inr ⟨o,g,more,rfl,by rw[k o (by simp[D.arr])];exact h⟩
theorem Ht {κ e:List Nat} {fr:Fr} (h : ∀ c∈fr.vars,c<κ.length):pw (κ++e) fr=pw κ fr:=by
 unfold pw
 rw[List.map_congr_left (g:=fun c=>fl (κ.getD c 0)) fun c m=>by rw[List.getD_eq_getElem?_getD,List.getD_eq_getElem?_getD,List.getElem?_append_left (h c m)]]
section
variable {p:Pg} {T W:List Int} {y:Lay} {m:Mc} {loc:List (Nat×List D)} {s:St}
theorem Inv.tD (h:Inv p T W y m loc s) : ∀ o∈y.own,o<s.ah.length:=by
 intro o mo
 simp only[Lay.own,List.mem_cons,List.mem_append]at mo
 rcases mo with rfl|mo|mo|mo
 ·exact fW h.jF
 ·obtain⟨i,hi⟩:=List.getElem?_of_mem mo
  have hD:=(List.getElem?_eq_some_iff.1 hi).1
  exact fW (h.cell i o _ hi (List.getElem?_eq_getElem (by rw[← h.len];exact hD)))
 ·exact h.stack.lt o mo
 ·obtain⟨l,hl⟩:=h.bK
  exact hl.lt o mo
theorem Inv.uI (h:Inv p T W y m loc s):0<s.ah.length:=fW h.jF
theorem Inv.sub (h:Inv p T W y m loc s) {ad7:List (Nat×List D)} (hl : ∀ q∈ad7,q∈loc):Inv p T W y m ad7 s:= {h with loc:=fun q m=>h.loc q (hl q m)}
theorem Inv.keep (h:Inv p T W y m loc s) {s':St} (k : ∀ (o:Nat) (r:List D),s.ah[o]? = some r→s'.ah[o]? = some r) (k0:s'.aw[0]? = s.aw[0]?) (k1:s'.aw[1]? = s.aw[1]?):Inv p T W y m loc s':=by
 have ka : ∀ {d:D} {cs:List D},jE s d cs→jE s' d cs:=fun ha=>ha.keep fun o mo=>by
  rw[List.getElem?_eq_getElem (ha.lt o mo)];exact k o _ (List.getElem?_eq_getElem _)
 obtain⟨l,hl⟩:=h.bK
 exact⟨k _ _ h.jF,by rw[k0];exact h.t0,by rw[k1];exact h.t1,h.len,fun i c v h1 h2=>k _ _ (h.cell i c v h1 h2),h.sy,fun i o fr h1 h2=>⟨k _ _ (h.frame i o fr h1 h2).1,(h.frame i o fr h1 h2).2⟩,
  ka h.stack,⟨l,ka hl⟩,h.own,fun q m=>⟨k _ _ (h.loc q m).1,(h.loc q m).2⟩⟩
theorem Inv.new (h:Inv p T W y m loc s) (row:List D):Inv p T W y m ((s.ah.length,row)::loc) ⟨s.ah++ [row],s.aw⟩:=by
 have h':=h.keep (s':=⟨s.ah++ [row],s.aw⟩) (fun o r e=>by rw[List.getElem?_append_left (fW e)];exact e) rfl rfl
 refine {h' with loc:=fun q mq=>?_}
 rcases List.mem_cons.1 mq with rfl|mq
 ·exact⟨by simp,fun mo=>Nat.lt_irrefl _ (h.tD _ mo)⟩
 ·exact h'.loc q mq
theorem Inv.aw (h:Inv p T W y m loc s) (ts:List (Option Nat)):Inv p T W y m loc ⟨s.ah,s.aw++ts⟩:=
 h.keep (fun _ _ e=>e) (List.getElem?_append_left (List.getElem?_eq_some_iff.1 h.t0).1) (List.getElem?_append_left (List.getElem?_eq_some_iff.1 h.t1).1)
theorem Inv.MK (h:Inv p T W y m loc s) {o:Nat} (ho:o∈y.own) (row:List D) {q:Nat} {r:List D} (hq:s.ah[q]? = some r) (hn:q≠o):(s.ah.set o row)[q]? = some r:=by
 rw[List.getElem?_set_ne (Ne.symm hn)];exact hq
theorem Inv.vW (h:Inv p T W y m loc s) {o:Nat} (ho:o∈y.κ++(y.sd.arr++y.vd.arr)):o≠0:=fun e=>by
 have:=h.own
 rw[Lay.own,List.nodup_cons]at this
 exact this.1 (e ▸ ho)
theorem Inv.tQ (h:Inv p T W y m loc s) {m':Mc} (h1:m'.st=m.st) (h2:m'.mem=m.mem) {ts:List (Option Nat)} (k0:ts[0]? = some (some m'.out.length)) (k1:ts[1]? = some (some m'.trace.length)) :
 Inv p T W y m' loc ⟨s.ah.set 0 (fx p T W y m'),ts⟩:=by
 have ne : ∀ {q:Nat} {r:List D},s.ah[q]? = some r→q≠0→(s.ah.set 0 (fx p T W y m'))[q]? = some r:=fun e hn=>h.MK (by simp[Lay.own]) _ e hn
 have nf : ∀ {q:Nat},q∉y.own→q≠0:=fun hq e=>hq (by rw[e];simp[Lay.own])
 have ka : ∀ {d:D} {cs:List D},(∀ o∈d.arr,o∈y.κ++(y.sd.arr++y.vd.arr))→jE s d cs→jE ⟨s.ah.set 0 (fx p T W y m'),ts⟩ d cs:=fun hd ha=>ha.keep fun o mo=>by
  show(s.ah.set 0 _)[o]? = _
  rw[List.getElem?_set_ne (Ne.symm (h.vW (hd o mo)))]
 obtain⟨l,hl⟩:=h.bK
 refine⟨by simp[h.uI],k0,k1,by rw[h2];exact h.len,fun i c v e1 e2=>ne (h.cell i c v e1 (by rw[← h2];exact e2)) (h.vW (List.mem_append_left _ (List.mem_of_getElem? e1))),by rw[h1];exact h.sy,fun i o fr e1 e2=>?_,
  ka (fun o m=>by simp[m]) h.stack,⟨l,ka (fun o m=>by simp[m]) hl⟩,h.own,fun q mq=>⟨ne (h.loc q mq).1 (nf (h.loc q mq).2),(h.loc q mq).2⟩⟩
 rw[h1]at e2
 obtain⟨g1,g2,g3⟩:=h.frame i o fr e1 e2
 exact⟨ne g1 (nf g2),g2,by rw[h2];exact g3⟩
theorem Inv.VV (h:Inv p T W y m loc s) {i c:Nat} (hc:y.κ[i]? = some c) (v:Int):Inv p T W y {m with mem:=m.mem.set i v} loc ⟨s.ah.set c [.int .i64 v],s.aw⟩:=by
 have gE:c∈y.κ:=List.mem_of_getElem? hc
 have oK:c<s.ah.length:=h.tD c (by simp[Lay.own,gE])
 have Am:=h.own
 rw[Lay.own,List.nodup_cons,List.nodup_append]at Am
 have hκ : ∀ i',y.κ[i']? = some c→i'=i:=fun i' e=>(List.getElem?_inj (List.getElem?_eq_some_iff.1 e).1 Am.2.1).1 (e.trans hc.symm)
 have ne : ∀ {q:Nat} {r:List D},s.ah[q]? = some r→q≠c→(s.ah.set c [.int .i64 v])[q]? = some r:=fun e hn=>h.MK (o:=c) (by simp[Lay.own,gE]) _ e hn
 have nf : ∀ {q:Nat},q∉y.own→q≠c:=fun hq e=>hq (by rw[e];simp[Lay.own,gE])
 have ka : ∀ {d:D} {cs:List D},(∀ o∈d.arr,o∈y.sd.arr++y.vd.arr)→jE s d cs→jE ⟨s.ah.set c [.int .i64 v],s.aw⟩ d cs:=fun hd ha=>ha.keep fun o mo=>by
  show(s.ah.set c _)[o]? = _
  rw[List.getElem?_set_ne (fun e=>Am.2.2.2 c gE o (hd o mo) e)]
 obtain⟨l,hl⟩:=h.bK
 refine⟨ne h.jF (fun e=>h.vW (List.mem_append_left _ gE) e.symm),h.t0,h.t1,by rw[h.len,List.length_set],fun i' c' v' e1 e2=>?_,h.sy,fun i' o fr e1 e2=>?_,
  ka (fun o m=>by simp[m]) h.stack,⟨l,ka (fun o m=>by simp[m]) hl⟩,h.own,fun q mq=>⟨ne (h.loc q mq).1 (nf (h.loc q mq).2),(h.loc q mq).2⟩⟩
 ·show(s.ah.set c _)[c']? = _
  simp only[List.getElem?_set]at e2
  by_cases e:i=i'
  ·subst e
   rw[hc]at e1;cases e1
   rw[if_pos rfl]at e2
   split at e2
   ·cases e2;simp[oK]
   ·cases e2
  ·rw [if_neg e]at e2
   have:c'≠c:=fun ec=>e (hκ i' (by rw[e1,ec])).symm
   exact ne (h.cell i' c' v' e1 e2) this
 ·obtain⟨g1,g2,g3⟩:=h.frame i' o fr e1 e2
  exact⟨ne g1 (nf g2),g2,by simpa using g3⟩
theorem Inv.aoj (h:Inv p T W y m loc s) (v:Int) (hg:p.globals.length≤m.mem.length):Inv p T W {y with κ:=y.κ++ [s.ah.length]} {m with mem:=m.mem++ [v]} loc ⟨s.ah++ [[.int .i64 v]],s.aw⟩:=by
 have h':=h.keep (s':=⟨s.ah++ [[.int .i64 v]],s.aw⟩) (fun o r e=>by rw[List.getElem?_append_left (fW e)];exact e) rfl rfl
 have nU:s.ah.length∉y.own:=fun mo=>Nat.lt_irrefl _ (h.tD _ mo)
 have Am:=h.own
 have ho : ∀ o,o∈Lay.own {y with κ:=y.κ++ [s.ah.length]}→o∈y.own∨o=s.ah.length:=fun o mo=>by
  simp only[Lay.own,List.mem_cons,List.mem_append]at mo ⊢
  rcases mo with rfl|(mo|rfl|mo)|mo|mo
  ·exact .inl (.inl rfl)
  ·exact .inl (.inr (.inl mo))
  ·exact .inr rfl
  ·cases mo
  ·exact .inl (.inr (.inr (.inl mo)))
  ·exact .inl (.inr (.inr (.inr mo)))
 refine⟨by rw[h'.jF];simp only[fx];rw[List.take_append_of_le_length (by rw[h.len];exact hg)],h'.t0,h'.t1,by simp[h.len],fun i c v' e1 e2=>?_,h'.sy,fun i o fr e1 e2=>?_,h'.stack,h'.bK, ?_,fun q mq=>⟨(h'.loc q mq).1,fun mo=>?_⟩⟩
 ·rcases Nat.lt_or_ge i y.κ.length with hi | hi
  ·rw [List.getElem?_append_left hi]at e1
   rw[List.getElem?_append_left (by rw[← h.len];exact hi)]at e2
   exact h'.cell i c v' e1 e2
  ·have ic:i=y.κ.length:=by
    have:=(List.getElem?_eq_some_iff.1 e1).1
    simp at this;omega
   subst ic
   rw[List.getElem?_append_right (Nat.le_refl _)]at e1
   rw[List.getElem?_append_right (by rw[h.len];exact Nat.le_refl _)]at e2
   simp at e1;subst e1
   simp[h.len]at e2;subst e2
   simp
 ·obtain⟨g1,g2,g3⟩:=h'.frame i o fr e1 e2
  refine⟨by rw[Ht (by rw[h.len];exact g3)];exact g1,fun mo=>?_,fun c mc=>by simp only[List.length_append];have:=g3 c mc;omega⟩
  rcases ho o mo with mo|rfl
  ·exact g2 mo
  ·exact absurd (fW (h.frame i _ fr e1 e2).1) (Nat.lt_irrefl _)
 ·have:(Lay.own {y with κ:=y.κ++ [s.ah.length]}).Perm (s.ah.length::y.own):=by
   simp only[Lay.own,List.append_assoc,List.singleton_append]
   exact(List.Perm.cons _ List.perm_middle).trans (List.Perm.swap _ _ _)
  rw[this.nodup_iff,List.nodup_cons]
  exact⟨nU,Am⟩
 ·rcases ho _ mo with mo | e
  ·exact(h'.loc q mq).2 mo
  ·exact absurd (fW (h.loc q mq).1) (by rw[e];exact Nat.lt_irrefl _)
theorem Inv.PC (h:Inv p T W y m loc s) {vd:D} {s1:St} (k : ∀ (o:Nat) (r:List D),s.ah[o]? = some r→o∉y.vd.arr→s1.ah[o]? = some r) (hv : ∃ l:List Int,jE s1 vd (l.map qD)) (hn:vd.arr=y.vd.arr∨vd.arr = []∨vd.arr = [s.ah.length]) (ht:s1.aw=s.aw) :
 Inv p T W {y with vd:=vd} m loc ⟨s1.ah.set 0 (fx p T W {y with vd:=vd} m),s1.aw⟩:=by
 have Am:=h.own
 have ad8:=Am
 rw[Lay.own,List.nodup_cons,List.nodup_append,List.nodup_append]at ad8
 obtain⟨n0,nκ,⟨ns,nv,Yd⟩,Ko⟩:=ad8
 have v0 : ∀ o∈y.vd.arr,o≠0:=fun o mo=>h.vW (by simp[mo])
 have qH:0<s1.ah.length:=fW (k 0 _ h.jF fun mo=>v0 0 mo rfl)
 have g : ∀ {o:Nat} {r:List D},s.ah[o]? = some r→o∉y.vd.arr→o≠0→(s1.ah.set 0 (fx p T W {y with vd:=vd} m))[o]? = some r:=fun e hv hn=>by
  rw[List.getElem?_set_ne (Ne.symm hn)];exact k _ _ e hv
 have Kp : ∀ o,o∈Lay.own {y with vd:=vd}→o∈y.own∨o=s.ah.length:=fun o mo=>by
  simp only[Lay.own,List.mem_cons,List.mem_append]at mo ⊢
  rcases mo with rfl|mo|mo|mo
  ·exact .inl (.inl rfl)
  ·exact .inl (.inr (.inl mo))
  ·exact .inl (.inr (.inr (.inl mo)))
  ·rcases hn with e | e | e
   ·rw[e]at mo;exact .inl (.inr (.inr (.inr mo)))
   ·rw[e]at mo;cases mo
   ·rw[e]at mo;exact .inr (List.mem_singleton.1 mo)
 have nk : ∀ o∈y.κ,o∉y.vd.arr:=fun o mo mv=>Ko o mo o (List.mem_append_right _ mv) rfl
 have nsd : ∀ o∈y.sd.arr,o∉y.vd.arr:=fun o mo mv=>Yd o mo o mv rfl
 have Ye : ∀ {o:Nat},o∉y.own→o∉y.vd.arr∧o≠0:=fun ho=>⟨fun mv=>ho (by simp[Lay.own,mv]),fun e=>ho (by rw[e];simp[Lay.own])⟩
 obtain⟨l,hl⟩:=hv
 refine⟨by simp[qH],by rw[ht];exact h.t0,by rw[ht];exact h.t1,h.len,fun i c v e1 e2=>g (h.cell i c v e1 e2) (nk c (List.mem_of_getElem? e1)) (h.vW (by simp[List.mem_of_getElem? e1])),h.sy,fun i o fr e1 e2=>?_, ?_,⟨l, ?_⟩, ?_,fun q mq=>?_⟩
 ·obtain⟨f1,f2,f3⟩:=h.frame i o fr e1 e2
  refine⟨g f1 (Ye f2).1 (Ye f2).2,fun mo=>?_,f3⟩
  rcases Kp o mo with mo|e
  ·exact f2 mo
  ·exact absurd (fW f1) (by rw[e];exact Nat.lt_irrefl _)
 ·refine h.stack.keep fun o mo=> ?_
  rw[List.getElem?_eq_getElem (h.stack.lt o mo)]
  exact g (List.getElem?_eq_getElem _) (nsd o mo) (h.vW (by simp[mo]))
 ·refine hl.keep fun o mo=> ?_
  have:o≠0:=by
   rcases hn with e|e|e
   ·rw[e]at mo;exact v0 o mo
   ·rw[e]at mo;cases mo
   ·rw[e]at mo;rw[List.mem_singleton.1 mo];have:=h.uI;omega
  show(s1.ah.set 0 _)[o]? = _
  rw[List.getElem?_set_ne (Ne.symm this)]
 ·rcases hn with e | e | e
  ·simp only[Lay.own,e];exact Am
  ·simp only [Lay.own,e,List.append_nil]
   rw[List.nodup_cons,List.nodup_append]
   exact⟨fun m=>n0 (by rcases List.mem_append.1 m with m|m<;>simp[m]),nκ,ns,fun a ma b mb=>Ko a ma b (List.mem_append_left _ mb)⟩
  ·simp only [Lay.own,e]
   have dh : ∀ o∈y.own,o≠s.ah.length:=fun o mo e=>by have:=h.tD o mo;omega
   rw[List.nodup_cons,List.nodup_append,List.nodup_append]
   refine⟨fun m=>?_,nκ,⟨ns,by simp,fun a ma b mb=>?_⟩,fun a ma b mb=>?_⟩
   ·rcases List.mem_append.1 m with m | m
    ·exact n0 (by simp[m])
    ·rcases List.mem_append.1 m with m | m
     ·exact n0 (by simp[m])
     ·have:=List.mem_singleton.1 m;have:=h.uI;omega
   ·rw[List.mem_singleton.1 mb];exact dh a (by simp[Lay.own,ma])
   ·rcases List.mem_append.1 mb with mb | mb
    ·exact Ko a ma b (List.mem_append_left _ mb)
    ·rw[List.mem_singleton.1 mb];exact dh a (by simp[Lay.own,ma])
 ·obtain⟨f1,f2⟩:=h.loc q mq
  refine⟨g f1 (Ye f2).1 (Ye f2).2,fun mo=>?_⟩
  rcases Kp q.1 mo with mo|e
  ·exact f2 mo
  ·exact absurd (fW f1) (by rw[e];exact Nat.lt_irrefl _)
end
end Go.Abs
namespace Go.Abs
set_option maxRecDepth 8000
open Go.Proofs
theorem PD (b:Bool) (s:St):aF Tryz.prog jz [.bool b] s (.int .i64 (um b)) s:=by
 refine aF.pure ?_ rfl rfl s
 generalize h:um b=R
 simp only[um]at h
 unfold S0
 refine aF.go JG rfl fun B Q hB hQ=>?_
 have⟨hD,hY,hZ,gA⟩:=bR
 repeat' (first
 |simp only[go_sem,hD,hY,hZ,gA]
 |(with_reducible first|refine bo fun hc=>?_|refine bp fun hc=>?_|refine bq (fun hc=>?_) fun hc=>?_)<;>(try simp only[hc,bs,↓reduceIte]at h)<;>try simp only[hc]
 |(with_reducible refine aE hQ ?_;exact fV)
 |(cases h;done))
theorem aac (a:Int) (s:St):aF Tryz.prog rC [.int .i64 a] s (.bool (!(a==0))) s:=by
 refine aF.pure ?_ rfl rfl s
 have e:(a != 0) = !(a==0):=rfl
 unfold S0
 refine aF.go FU rfl fun B Q hB hQ=>?_
 have⟨hD,hY,hZ,gA⟩:=bR
 repeat' (first
 |simp only[go_sem,hD,hY,hZ,gA,e]
 |(with_reducible first|refine bo fun hc=>?_|refine bp fun hc=>?_|refine bq (fun hc=>?_) fun hc=>?_)<;>(try simp only[hc,bs,↓reduceIte]at h)<;>try simp only[hc]
 |(with_reducible refine aE hQ ?_;(try cases h);simp only[aV,aX,bH,bI,go_sem,hD,hY,hZ,gA,e];try exact cq)
 |(cases h;done))
abbrev zS (r:Int×Bool):D:= .tuple [.int .i64 r.1, .bool r.2]
theorem ahK (op a:Int) (s:St):aF Tryz.prog zk [.int .i64 op, .int .i64 a] s (zS (Pq op a)) s:=by
 refine aF.pure ?_ rfl rfl s
 generalize h:Pq op a=R
 simp only[Pq,E1]at h
 unfold S0
 refine aF.go JE rfl fun B Q hB hQ=>?_
 have⟨hD,hY,hZ,gA⟩:=bR
 repeat' (first
 |simp only[go_sem,hD,hY,hZ,gA]
 |(with_reducible refine CU (PD _ _) ?_)
 |(with_reducible first|refine bo fun hc=>?_|refine bp fun hc=>?_|refine bq (fun hc=>?_) fun hc=>?_)<;>(try simp only[hc,bs,↓reduceIte]at h)<;>try simp only[hc]
 |(with_reducible refine aE hQ ?_;exact fV)
 |(cases h;done))
theorem VW (op a b:Int) (s:St):aF Tryz.prog uc [.int .i64 op, .int .i64 a, .int .i64 b] s (zS (Pr op a b)) s:=by
 refine aF.pure ?_ rfl rfl s
 generalize h:Pr op a b=R
 simp only[Pr,E1]at h
 unfold S0
 rcases Bool.eq_false_or_eq_true (b==0)with b0|b0
 ·refine aF.go wL rfl fun B Q hB hQ=> ?_
  have⟨hD,hY,hZ,gA⟩:=bR
  repeat' (first
 |simp only[go_sem,hD,hY,hZ,gA]
 |(with_reducible first|refine bo fun hc=>?_|refine bp fun hc=>?_|refine bq (fun hc=>?_) fun hc=>?_)<;>(try simp only[hc,bs,↓reduceIte]at h)<;>try simp only[hc]
 |(with_reducible refine aE hQ ?_;exact fV)
 |(cases h;done))
 ·have hb:b≠0:=by simpa using b0
  refine aF.go wL rfl fun B Q hB hQ=>?_
  have⟨hD,hY,hZ,gA⟩:=bR
  repeat' (first
 |simp only[go_sem,hD,hY,hZ,gA,hb]
 |(with_reducible first|refine bo fun hc=>?_|refine bp fun hc=>?_|refine bq (fun hc=>?_) fun hc=>?_)<;>(try simp only[hc,bs,↓reduceIte]at h)<;>try simp only[hc]
 |(with_reducible refine aE hQ ?_;(try cases h);simp only[aV,aX,bH,bI,go_sem,hD,hY,hZ,gA,hb];try exact cq)
 |(cases h;done))
theorem SM (op a b:Int) (s:St):aF Tryz.prog sr [.int .i64 op, .int .i64 a, .int .i64 b] s (zS (Ps op a b)) s:=by
 refine aF.pure ?_ rfl rfl s
 have e:(a != b) = !(a==b):=rfl
 generalize h:Ps op a b=R
 simp only[Ps]at h
 unfold S0
 refine aF.go DC rfl fun B Q hB hQ=>?_
 have⟨hD,hY,hZ,gA⟩:=bR
 repeat' (first
 |simp only[go_sem,hD,hY,hZ,gA,e]
 |(with_reducible refine CU (PD _ _) ?_)
 |(with_reducible first|refine bo fun hc=>?_|refine bp fun hc=>?_|refine bq (fun hc=>?_) fun hc=>?_)<;>(try simp only[hc,bs,↓reduceIte]at h)<;>try simp only[hc]
 |(with_reducible refine aE hQ ?_;(try cases h);simp only[aV,aX,bH,bI,go_sem,hD,hY,hZ,gA,e];try exact cq)
 |(cases h;done))
theorem ahL (op a b:Int) (s:St):aF Tryz.prog zl [.int .i64 op, .int .i64 a, .int .i64 b] s (zS (Pt op a b)) s:=by
 refine aF.pure ?_ rfl rfl s
 have e1:(a != 0) = !(a==0):=rfl
 have e2:(b != 0) = !(b==0):=rfl
 generalize h:Pt op a b=R
 simp only[Pt,E1]at h
 unfold S0
 refine aF.go JF rfl fun B Q hB hQ=>?_
 have⟨hD,hY,hZ,gA⟩:=bR
 repeat' (first
 |simp only[go_sem,hD,hY,hZ,gA,e1,e2]
 |(with_reducible refine CU (PD _ _) ?_)
 |(with_reducible refine CU (VW _ _ _ _) ?_)
 |(with_reducible refine CU (SM _ _ _ _) ?_)
 |(with_reducible first|refine bo fun hc=>?_|refine bp fun hc=>?_|refine bq (fun hc=>?_) fun hc=>?_)<;>(try simp only[hc,bs,↓reduceIte]at h)<;>try simp only[hc]
 |(with_reducible refine aE hQ ?_;(try cases h);simp only[aV,aX,bH,bI,go_sem,hD,hY,hZ,gA,e1,e2];try exact cq)
 |(cases h;done))
def vX (x:Int) (k:Int):List Int→Int
 | []=> -1
 |s::l=>if x==s then k else vX x (k+1) l
theorem Mn (x:Int) : ∀ (l:List Int) (k:Int),0≤k→(vX x k l≥0↔l.contains x=true)
 | [],k,h=>by simp[vX]
 | s::l,k,h=>by
  by_cases e:x=s
  ·simp[vX,e];omega
  ·have e':(x==s)=false:=by simp [e]
   simp only[vX,e',Bool.false_eq_true,if_false,List.contains_cons,Bool.false_or]
   exact Mn x l (k+1) (by omega)
theorem VX {l:List Int} (hl:l.length<4611686018427387904) (x:Int) (s:St):aF Tryz.prog o9 [.slice .shared 1 (l.map bT), .int .i64 x] s (.int .i64 (vX x 0 l)) s:=by
 refine aF.pure ?_ (by simp[D.bL,D.ok,Tag.ok,iN]) rfl s
 generalize h:vX x 0 l=p
 unfold S0
 refine aF.go zu rfl fun B Q hB hQ=>?_
 have⟨hD,hY,hZ,gA⟩:=bR
 repeat' (first
 |simp only[go_sem,hD,hY,hZ,gA]
 |(with_reducible first|refine bo fun hc=>?_|refine bp fun hc=>?_|refine bq (fun hc=>?_) fun hc=>?_)<;>(try simp only[hc,bs,↓reduceIte]at h)<;>try simp only[hc]
 |(with_reducible refine aE hQ ?_;exact fV)
 |(cases h;done))
 refine fi 0 0 (bt.ind (ι:=List Int×Nat) (fun i=>l.drop i.2=i.1∧vX x (i.2:Int) i.1=p) (fun i=>i.1.length)
  (fun i=> [(0, .slice .shared 1 (l.map bT)),(1, .int .i64 x),(7, .int .i64 (l.length:Int)),(8, .int .i64 (i.2:Int))]) (fun i=>⟨[],[]⟩) ?_ (l,0) ⟨rfl,h⟩)
 rintro⟨rest,k⟩ ⟨h1,h⟩ IH
 dsimp only at h1 h
 cases rest with
 |nil=>
  have hD:=drop_nil h1
  simp only[vX]at h
  repeat' (first
 |simp only[go_sem,hD,hY,hZ,gA]
 |(with_reducible first|refine bo fun hc=>?_|refine bp fun hc=>?_|refine bq (fun hc=>?_) fun hc=>?_)<;>(try simp only[hc,bs,↓reduceIte]at h)<;>try simp only[hc]
 |(with_reducible refine aE hQ ?_;exact fV)
 |(cases h;done))
 |cons a rest=>
  obtain⟨hY,g2,hD,g4⟩:=drop_cons h1
  have bU:k<4611686018427387904:=by omega
  simp only[vX]at h
  repeat' (first
 |simp only[go_sem,hD,hY,hZ,gA]
 |(with_reducible first|refine bo fun hc=>?_|refine bp fun hc=>?_|refine bq (fun hc=>?_) fun hc=>?_)<;>(try simp only[hc,bs,↓reduceIte]at h)<;>try simp only[hc]
 |(with_reducible refine aE hQ ?_;exact fV)
 |(cases h;done))
  refine eY 0 0 ?_ ?_ (IH (rest,k+1) ⟨g2,h⟩ (Nat.lt_succ_self _))
  ·(simp only[go_sem,hD,hY,hZ,gA,aI bU];try exact cj)
  ·(simp only[go_sem,hD,hY,hZ,gA,aI bU];try exact cj)
theorem Lv {l:List Int} (hl:l.length<4611686018427387904) (x:Int) (s:St):aF Tryz.prog np [.slice .shared 1 (l.map bT), .int .i64 x] s (.bool (l.contains x)) s:=by
 refine aF.pure ?_ (by simp[D.bL,D.ok,Tag.ok,iN]) rfl s
 have hi:=fun s=>VX hl x s
 have e:decide (vX x 0 l≥0)=l.contains x:=by
  have:=Mn x l 0 (Int.le_refl 0)
  cases h:l.contains x<;>simp_all
 unfold S0
 refine aF.go wg rfl fun B Q hB hQ=>?_
 have⟨hD,hY,hZ,gA⟩:=bR
 repeat' (first
 |simp only[go_sem,hD,hY,hZ,gA,e]
 |(with_reducible refine CU (hi _) ?_)
 |(with_reducible first|refine bo fun hc=>?_|refine bp fun hc=>?_|refine bq (fun hc=>?_) fun hc=>?_)<;>(try simp only[hc,bs,↓reduceIte]at h)<;>try simp only[hc]
 |(with_reducible refine aE hQ ?_;(try cases h);simp only[aV,aX,bH,bI,go_sem,hD,hY,hZ,gA,e];try exact cq)
 |(cases h;done))
theorem mY (names:List aG) (bK:List Int) (op n:Int) (name:aG) (kids:List Ex):Ex.val names bK ⟨op,n,name,kids⟩=if op==1 then(n,true)else if op==2 then(Pu name names bK,true)else Ic op (kids.map (Ex.val names bK)):=by
 have e : ∀ l:List Ex,Ex.Pv names bK l=l.map (Ex.val names bK):=fun l=>by
  induction l with
  |nil=>rfl
  |cons x l ih=>simp only[Ex.Pv,List.map_cons,ih]
 simp only[Ex.val,e]
theorem ad9 {names:List aG} {bK:List Int} (hn:names.length<4611686018427387904) (hv:bK.length<4611686018427387904) : ∀ (n:Nat) (x:Ex),x.dp (n:Int)=true→
 aF Tryz.prog lg [.agg (cd x), .slice .shared 1 (names.map encStr), .slice .shared 1 (bK.map bT)] S0 (zS (x.val names bK)) S0:=by
 intro n
 induction n with
 |zero=>rintro⟨op,v,name,kids⟩ h;rw[JP]at h;omega
 | succ n ih=>
  rintro⟨op,v,name,kids⟩ h
  rw[JP]at h
  obtain⟨_,hk,h⟩:=h
  have JU:=fun s=>Cf hn name s
  generalize hR:Ex.val names bK ⟨op,v,name,kids⟩=R
  rw[mY]at hR
  unfold S0
  by_cases o1:op=1
  ·subst o1
   simp only[beq_self_eq_true,if_true]at hR
   rw[← hR]
   show aF Tryz.prog lg _ _ (.tuple [.int .i64 v, .bool true]) _
   refine aF.go ov rfl fun B Q hB hQ=>?_
   have⟨hD,hY,hZ,gA⟩:=bR
   repeat' (first
 |simp only[go_sem,hD,hY,hZ,gA,beq_self_eq_true]
 |(with_reducible first|refine bo fun hc=>?_|refine bp fun hc=>?_|refine bq (fun hc=>?_) fun hc=>?_)<;>(try simp only[hc,bs,↓reduceIte]at h)<;>try simp only[hc]
 |(with_reducible refine aE hQ ?_;(try cases h);simp only[aV,aX,bH,bI,go_sem,hD,hY,hZ,gA,beq_self_eq_true];try exact cq)
 | (cases h;done))
  rw[if_neg o1]at h
  have b1:(op==1)=false:=by simp[o1]
  by_cases o2:op=2
  ·subst o2
   simp only[b1,Bool.false_eq_true,if_false,beq_self_eq_true,if_true,Pu]at hR
   by_cases hi:jf name 0 names≥0
   ·obtain⟨j,hj⟩:=Int.eq_ofNat_of_zero_le hi
    rw[if_pos hi]at hR
    have b2:decide (jf name 0 names≥0)=true:=by simpa using hi
    rw[hj]at b2 hR
    rw[hj]at JU
    rcases Nat.lt_or_ge j bK.length with hl|hl
    ·have b3:decide ((j:Int)<(bK.length:Int))=true:=by simp [hl]
     have hg:bK[j]? = some (bK.getD j 0):=by rw[List.getD_eq_getElem?_getD,List.getElem?_eq_getElem hl];rfl
     rw[Int.toNat_natCast]at hR
     rw[← hR]
     show aF Tryz.prog lg _ _ (.tuple [.int .i64 (bK.getD j 0), .bool true]) _
     refine aF.go ov rfl fun B Q hB hQ=>?_
     have⟨hD,hY,hZ,gA⟩:=bR
     repeat' (first
 |simp only[go_sem,hD,hY,hZ,gA,b1,b2,b3,hg,beq_self_eq_true,decide_true]
 |(with_reducible refine CU (JU _) ?_)
 |(with_reducible first|refine bo fun hc=>?_|refine bp fun hc=>?_|refine bq (fun hc=>?_) fun hc=>?_)<;>(try simp only[hc,bs,↓reduceIte]at h)<;>try simp only[hc]
 |(with_reducible refine aE hQ ?_;(try cases h);simp only[aV,aX,bH,bI,go_sem,hD,hY,hZ,gA,b1,b2,b3,hg,beq_self_eq_true,decide_true];try exact cq)
 | (cases h;done))
    ·have b3:decide ((j:Int)<(bK.length:Int))=false:=by simp;omega
     rw[Int.toNat_natCast,List.getD_eq_getElem?_getD,List.getElem?_eq_none hl,Option.getD_none]at hR
     rw[← hR]
     show aF Tryz.prog lg _ _ (.tuple [.int .i64 0, .bool true]) _
     refine aF.go ov rfl fun B Q hB hQ=>?_
     have⟨hD,hY,hZ,gA⟩:=bR
     repeat' (first
 |simp only[go_sem,hD,hY,hZ,gA,b1,b2,b3,beq_self_eq_true,decide_true]
 |(with_reducible refine CU (JU _) ?_)
 |(with_reducible first|refine bo fun hc=>?_|refine bp fun hc=>?_|refine bq (fun hc=>?_) fun hc=>?_)<;>(try simp only[hc,bs,↓reduceIte]at h)<;>try simp only[hc]
 |(with_reducible refine aE hQ ?_;(try cases h);simp only[aV,aX,bH,bI,go_sem,hD,hY,hZ,gA,b1,b2,b3,beq_self_eq_true,decide_true];try exact cq)
 | (cases h;done))
   ·rw [if_neg hi]at hR
    have b2:decide (jf name 0 names≥0)=false:=by simpa using hi
    rw[← hR]
    show aF Tryz.prog lg _ _ (.tuple [.int .i64 0, .bool true]) _
    refine aF.go ov rfl fun B Q hB hQ=>?_
    have⟨hD,hY,hZ,gA⟩:=bR
    repeat' (first
 |simp only[go_sem,hD,hY,hZ,gA,b1,b2,beq_self_eq_true]
 |(with_reducible refine CU (JU _) ?_)
 |(with_reducible first|refine bo fun hc=>?_|refine bp fun hc=>?_|refine bq (fun hc=>?_) fun hc=>?_)<;>(try simp only[hc,bs,↓reduceIte]at h)<;>try simp only[hc]
 |(with_reducible refine aE hQ ?_;(try cases h);simp only[aV,aX,bH,bI,go_sem,hD,hY,hZ,gA,b1,b2,beq_self_eq_true];try exact cq)
 | (cases h;done))
  rw[if_neg o2]at h
  have b2:(op==2)=false:=by simp[o2]
  simp only[b1,b2,Bool.false_eq_true,if_false]at hR
  have hd:=h.2.2
  rw[show((n+1:Nat):Int) - 1=(n:Int) by omega]at hd
  have ihs : ∀ {y:Ex},y∈kids→∀ s,aF Tryz.prog lg [.agg (cd y), .slice .shared 1 (names.map encStr), .slice .shared 1 (bK.map bT)] s (zS (y.val names bK)) s:=fun {y} hy s=>by
   have:y.dp (n:Int)=true:=by
    have key : ∀ l:List Ex,Ex.Bz (n:Int) l=true→y∈l→y.dp (n:Int)=true:=fun l=>by
     induction l with
     |nil=>intro _ m;cases m
     | cons z l Sw=>
      intro hz m
      simp only[Ex.Bz]at hz
      split at hz
      ·cases hz
      ·rename_i hz'
       rcases List.mem_cons.1 m with rfl|m
       ·simpa using hz'
       ·exact Sw hz m
    exact key kids hd hy
   exact aF.pure (ih y this) (by simp[D.bL,D.ok,Tag.ok,lT,fb,iN]) rfl s
  clear h JU
  have n1:((1:Nat):Int)=1:=rfl
  have e1:((1:Int)==1)=true:=rfl
  have e2:((2:Int)==1)=false:=rfl
  rename _=R=>h
  cases kids with
  |nil=>simp[oh]at hk;omega
  | cons a kids=>
   have c1:=fun s=>ihs (y:=a) (by simp) s
   cases kids with
   |nil=>
    simp only[List.map_cons,List.map_nil,Ic]at h
    refine aF.go ov rfl fun B Q hB hQ=>?_
    have⟨hD,hY,hZ,gA⟩:=bR
    repeat' (first
 |simp only[go_sem,hD,hY,hZ,gA,b1,b2,e1]
 |(with_reducible refine CU (c1 _) ?_)
 |(with_reducible refine CU (ahK _ _ _) ?_)
 |(with_reducible first|refine bo fun hc=>?_|refine bp fun hc=>?_|refine bq (fun hc=>?_) fun hc=>?_)<;>(try simp only[hc,bs,↓reduceIte]at h)<;>try simp only[hc]
 |(with_reducible refine aE hQ ?_;(try cases h);simp only[aV,aX,bH,bI,go_sem,hD,hY,hZ,gA,b1,b2,e1];try exact cq)
 | (cases h;done))
   | cons b kids=>
    cases kids with
    |nil=>
     have c2:=fun s=>ihs (y:=b) (by simp) s
     have e3 : [cd a,cd b][Int.toNat 1]? = some (cd b):=rfl
     simp only[List.map_cons,List.map_nil,Ic]at h
     refine aF.go ov rfl fun B Q hB hQ=>?_
     have⟨hD,hY,hZ,gA⟩:=bR
     repeat' (first
 |simp only[go_sem,hD,hY,hZ,gA,b1,b2,e2,e3]
 |(with_reducible refine CU (c1 _) ?_)
 |(with_reducible refine CU (c2 _) ?_)
 |(with_reducible refine CU (aac _ _) ?_)
 |(with_reducible refine CU (ahL _ _ _ _) ?_)
 |(with_reducible first|refine bo fun hc=>?_|refine bp fun hc=>?_|refine bq (fun hc=>?_) fun hc=>?_)<;>(try simp only[hc,bs,↓reduceIte]at h)<;>try simp only[hc]
 |(with_reducible refine aE hQ ?_;(try cases h);simp only[aV,aX,bH,bI,go_sem,hD,hY,hZ,gA,b1,b2,e2,e3];try exact cq)
 | (cases h;done))
    |cons c kids=>simp[oh]at hk;omega
theorem VY {x:Ex} {names:List aG} {bK:List Int} (hx:x.size<4611686018427387904) (ht:x.texts) (hn:names.length<4611686018427387904) (hv:bK.length<4611686018427387904) (s:St) :
 aF Tryz.prog wG [.agg (cd x), .slice .shared 1 (names.map encStr), .slice .shared 1 (bK.map bT)] s (zS (x.bA names bK)) s:=by
 refine aF.pure ?_ (by simp[D.bL,D.ok,Tag.ok,lT,fb,iN]) rfl s
 have hm:=fun s=>zz hx ht s
 rw[EP]at hm
 generalize h:x.bA names bK=R
 simp only[Ex.bA]at h
 unfold S0
 rcases Bool.eq_false_or_eq_true x.may with b|b
 ·rw [if_pos b]at h
  have c1:=fun s=>aF.pure (ad9 hn hv 20 x (by rw[show((20:Nat):Int)=20 from rfl,EP];exact b)) (by simp[D.bL,D.ok,Tag.ok,lT,fb,iN]) rfl s
  rw[h]at c1
  refine aF.go C4 rfl fun B Q hB hQ=>?_
  have⟨hD,hY,hZ,gA⟩:=bR
  repeat' (first
 |simp only[go_sem,hD,hY,hZ,gA,b]
 |(with_reducible refine CU (hm _) ?_)
 |(with_reducible refine CU (c1 _) ?_)
 |(with_reducible first|refine bo fun hc=>?_|refine bp fun hc=>?_|refine bq (fun hc=>?_) fun hc=>?_)<;>(try simp only[hc,bs,↓reduceIte]at h)<;>try simp only[hc]
 |(with_reducible refine aE hQ ?_;(try cases h);simp only[aV,aX,bH,bI,go_sem,hD,hY,hZ,gA,b];try exact cq)
 |(cases h;done))
 ·rw [if_neg (by simp [b])]at h
  refine aF.go C4 rfl fun B Q hB hQ=>?_
  have⟨hD,hY,hZ,gA⟩:=bR
  repeat' (first
 |simp only[go_sem,hD,hY,hZ,gA,b]
 |(with_reducible refine CU (hm _) ?_)
 |(with_reducible first|refine bo fun hc=>?_|refine bp fun hc=>?_|refine bq (fun hc=>?_) fun hc=>?_)<;>(try simp only[hc,bs,↓reduceIte]at h)<;>try simp only[hc]
 |(with_reducible refine aE hQ ?_;(try cases h);simp only[aV,aX,bH,bI,go_sem,hD,hY,hZ,gA,b];try exact cq)
 |(cases h;done))
theorem sA {size bytes:Nat} {rows:List (List D)} (h:rows≠ []) (hl:rows.length*(bytes+1)≤bC) {z:Nat} {g:Tag} (o:List (List D)) (T:List (Option Nat)) :
 gY size bytes (.slice .full z []) (.slice g size rows) ⟨o,T⟩=some (.slice (.tok T.length) size rows,⟨o,T++ [some rows.length]⟩):=by
 cases rows with
 |nil=>exact absurd rfl h
 |cons x r=>simp only[List.length_cons]at hl;simp[gY,hl]
theorem qE {size bytes z z':Nat} {g:Tag} (o:List (List D)) (T:List (Option Nat)) :
 gY size bytes (.slice .full z []) (.slice g z' []) ⟨o,T⟩=some (.slice .full z [],⟨o,T⟩):=by simp[gY,bC]
def Sm.bare (v:Sm):Sm:= {v with a8:= [],aS:= []}
end Go.Abs
