/-
  What is proved here: part 3 of the road to the claim (Sc4, Rng, FineM, Sc5, Ar1, Ar2, Ar3, Srt1, Shelf, SortR, SrtP, Tc1, Tc2, Tc3, Bsl, Tc4, Tc5, Tc6, FlP, JmpP, Jm1, Jm2, MirRun, RunTot, RunFu, RunOk, Swap0, Swap2p, ToP, Al1, Al2, Al3, MirParse, Room1, Al4, Full1, Fits1, Fits2, MirEq, RefEq2, LawTo1, LawAl2, SwP, MirMapS, RightP, RunLo, RunNm, RunMc, RunI, Ev1, Ev2, Cp1, RunC0, RunC1, RunC2, RunC3).
  No conditions.
-/
import Derived.Test.YtpjadlleefgcpaaGreatRnA2
import Derived.Shelf.Small.Bits
import Derived.Shelf.Strconv.Itoa0
import Derived.Shelf.Sort.Plain
import Derived.Shelf.Slices.Turned
import Derived.Ground.Names2Prog
import Derived.Shelf.Slices.Clone
import Derived.Shelf.Slices.CompactS
import Derived.Shelf.Slices.Cells
import Derived.Shelf.Slices.In.SortNone
import Derived.Ground.SlgnProg
import Derived.Shelf.SlicesE.Clone
import Derived.Test.YtpjadlleefgcpaaGreatProg
import Derived.Sort.Walk0

set_option linter.unusedSimpArgs false
set_option linter.unusedVariables false
namespace Go.Abs
set_option maxRecDepth 8000
open Go.Proofs
structure Pg.iU (p:Pg):Prop where
 Nx:p.GY
 sz:p.size≤900000
mutual
theorem abp : ∀ s:Sm,s.vQ→s.size<1000000→∀ v∈s.pre,v.mQ∧v.tu
 |⟨id,kind,labels,name,proc,x,has,args,aY,aW⟩,h,hs,v,m=>by
  simp only[Sm.vQ]at h
  simp only[Sm.size]at hs
  simp only[Sm.pre,List.mem_cons,List.mem_append]at m
  rcases m with rfl|m|m
  ·exact⟨⟨h.1.xt,fun a ha=>(h.1.arg a ha).2.1,by dsimp only;omega⟩,h.1⟩
  ·exact Bs aY h.2.1 (by omega) v m
  ·exact Bs aW h.2.2 (by omega) v m
theorem Bs : ∀ l:List Sm,Sm.ke l→Sm.a8 l<1000000→∀ v∈Sm.cT l,v.mQ∧v.tu
 | [],h,hs,v,m=>by simp[Sm.cT]at m
 |s::l,h,hs,v,m=>by
  simp only[Sm.ke]at h
  simp only[Sm.a8]at hs
  simp only[Sm.cT,List.mem_append]at m
  rcases m with m|m
  ·exact abp s h.1 (by omega) v m
  ·exact Bs l h.2 (by omega) v m
end
theorem Pg.iU.said {p:Pg} (h:p.iU) {f:Pc} (hf:f∈p.procs) : ∀ v∈Sm.cT f.body,v.mQ:=fun v m=>by
 have h1:=Pc.dr hf
 have h2:=h.sz
 simp only[Pg.size]at h2
 simp only[Pc.size]at h1
 exact(Bs f.body (h.Nx.body f hf) (by omega) v m).1
theorem Pg.iU.small {p:Pg} (h:p.iU) {f:Pc} (hf:f∈p.procs):f.Small p:=by
 have h1:=Pc.dr hf
 have h2:=h.sz
 simp only[Pg.size]at h2
 simp only[Pc.size]at h1
 exact⟨by omega,by omega,by omega⟩
theorem Pg.iU.procs {p:Pg} (h:p.iU):p.procs.length≤900000∧Pc.a8 p.procs≤900000∧p.globals.length≤900000:=by
 have h2:=h.sz
 have h3:=Pc.eR p.procs
 simp only[Pg.size]at h2
 omega
def Pg.pn (p:Pg):List aF:=p.procs.map (·.name)
def AN (p:Pg) (f:Pc) (procs:List aF):List Sm→Option Sm
 | []=>none
 |v::l=>if v.known p f procs then AN p f procs l else some v
def uY (p:Pg) (procs:List aF):List Pc→Int×Int
 | []=>(0,0)
 |f::l=>if fv (p.globals++f.own)then(5,0)else match AN p f procs (Sm.cT f.body)with|some v=>(5,v.id)|none=>uY p procs l
def Pg.sR (p:Pg):Bool:=match p.find lK with|none=>true|some m=>decide ((m.params.length:Int) > 0)
def Pg.scope (p:Pg):Int×Int:=
 if p.may then if fv p.globals ||(fv p.pn ||p.sR)then(5,0)else uY p p.pn p.procs else(1,0)
theorem TC (p:Pg) (hl:p.globals.length<1000000) (n:aF):aG Tryz.prog oh ([.str n]++ [.ptr 0 0]) ⟨[cG p],[]⟩ (.bool (fe p.globals n)) ⟨[cG p],[]⟩:=by
 show aG Tryz.prog oh [.str n, .ptr 0 0] _ _ _
 have o5:=ji (l:=p.globals) (by omega) n
 refine aG.go BM rfl fun B Q hB hQ=>?_
 have⟨hD,hY,hZ,gA⟩:=bS
 repeat' (first
 |simp only[go_sem,hD,hY,hZ,gA]
 |(with_reducible refine CU (o5 _ _) ?_)
 |(with_reducible refine aE hQ ?_;exact bg))
theorem V0 (n m:Nat) (p:Pg):D.gf n m (fl p)=fl p:=gK n m _ (tv p)
attribute [go_sem] V0
theorem XS {p:Pg} {f:Pc} {procs:List aF} {v:Sm} (hs:f.Small p) (xC:procs.length<1000000) (hv:v.mQ) (g:Tag) (s:St):aG Tryz.prog pR [.agg (cG p), .agg (cj f), .slice g 1 (procs.map encStr), .agg (bk v)] s (.bool (v.known p f procs)) s:=
 bG.pg (.cons (Wk.refl _) (.cons (Wk.refl _) (.cons (Wk.shared g 1 _) (iZ.refl _)))) (XR hs xC hv s)
theorem uZ {p:Pg} (h:p.iU) (s:St):aG Tryz.prog lA [.agg (cG p)] s (.agg [.int .i64 p.scope.1, .int .i64 p.scope.2]) s:=by
 refine aG.pure ?_ (by simp[D.bI,D.ok,kp]) rfl s
 have hm:=fun s=>Iv h.Nx s
 simp only[Bq]at hm
 obtain⟨rj,qX,qW⟩:=h.procs
 have da:=fun s=>Bm (p:=p) (by omega) s
 have o6:=fun s=>CO (l:=p.globals) (by omega) .shared s
 have hpn:p.pn.length=p.procs.length:=by simp[Pg.pn]
 have Dm:=fun g s=>CO (l:=p.pn) (by omega) g s
 have IG:=fun g s=>(Bn (l:=p.pn) (by omega) lK s).VV (Wk.shared g 1 (p.pn.map encStr))
 have CP:=fun g s=>(show aG Tryz.prog fO [.slice g 1 (p.pn.map encStr), .str [109,97,105,110]] s (.int .i64 (iN lK 0 p.pn)) s from IG g s)
 generalize hR:p.scope=R
 simp only[Pg.scope]at hR
 unfold S0
 rcases Bool.eq_false_or_eq_true p.may with hb|hb
 case inr=>
  simp only[hb]at hm
  simp only[hb,Bool.false_eq_true,if_false]at hR
  subst hR
  refine aG.go vL rfl fun B Q hB hQ=>?_
  have⟨hD,hY,hZ,gA⟩:=bS
  repeat' (first
 |simp only[go_sem,hD,hY,hZ,gA]
 |(with_reducible refine CU (hm _) ?_)
 |(with_reducible refine aE hQ ?_;exact bg))
 simp only[hb]at hm
 simp only[hb,if_true]at hR
 refine aG.go vL rfl fun B Q hB hQ=>?_
 have⟨hD,hY,hZ,gA⟩:=bS
 repeat' (first
 |simp only[go_sem,hD,hY,hZ,gA]
 |(with_reducible refine CU (hm _) ?_)
 |(with_reducible refine aE hQ ?_;exact bg))
 refine bq.wx 3 1 rfl ?_
 simp only[go_sem,hD,hY,hZ,gA]
 refine fi 2 1 (bq.ind (ι:=List Pc×Nat×List aF×Nat) (fun i=>p.procs.drop i.2.1=i.1∧i.2.2.1++i.1.map (·.name)=p.pn∧i.2.2.2=i.2.2.1.length) (fun i=>i.1.length)
  (fun i=> [(1, .ptr 0 0),(2, .ptr 1 0),(3, .slice (.tok 0) 1 (i.2.2.1.map encStr)),(18, .slice .shared 5 (p.procs.map cj)),(19, .int .i64 (p.procs.length:Int)),(20, .int .i64 (i.2.1:Int))]) (fun i=>⟨[cG p,[.int .i64 0, .int .i64 0]],[some i.2.2.2]⟩) ?_ (p.procs,0,[],0) ⟨rfl,rfl,rfl⟩)
 rintro⟨rest,k,out,n⟩ ⟨h1,h2,h3⟩ IH
 dsimp only at h1 h2 h3
 subst h3
 have hlo:out.length+rest.length≤900000:=by
  have:=congrArg List.length h2
  simp only[List.length_append,List.length_map]at this
  omega
 cases rest with
 |cons a rest=>
  obtain⟨hY,g2,hD,g4⟩:=drop_cons h1
  have cf:k<4611686018427387904:=by omega
  have hZ:(out.length+1)*17≤bH:=by unfold bH;omega
  repeat' (first
 |simp only[go_sem,hD,hY,hZ,gA]
 |(with_reducible refine aE hQ ?_;exact bg))
  refine fj 2 1 ?_ ?_ (IH (rest,k+1,out++ [a.name],out.length+1) ⟨g2,by rw[← h2];simp,by simp⟩ (Nat.lt_succ_self _))
  ·(simp only[go_sem,hD,hY,hZ,gA,aJ cf,List.map_append,List.map_cons,List.map_nil,encStr];try exact cv)
  ·(simp only[go_sem,hD,hY,hZ,gA,aJ cf,List.map_append,List.map_cons,List.map_nil,encStr];try exact cv)
 | nil=>
  have hD:=drop_nil h1
  simp only[List.map_nil,List.append_nil]at h2
  subst h2
  rcases Bool.eq_false_or_eq_true (fv p.globals)with b1|b1
  ·simp only [b1,Bool.true_or,if_true]at hR
   subst hR
   repeat' (first
 |simp only[go_sem,hD,hY,hZ,gA,b1]
 |(with_reducible refine CU (CP _ _) ?_)
 |(with_reducible refine CU (o6 _) ?_)
 |(with_reducible refine CU (Dm _ _) ?_)
 | (with_reducible refine aE hQ ?_;exact bg))
  rcases Bool.eq_false_or_eq_true (fv p.pn)with b2|b2
  ·simp only [b1,b2,Bool.true_or,Bool.or_true,if_true]at hR
   subst hR
   repeat' (first
 |simp only[go_sem,hD,hY,hZ,gA,b1,b2]
 |(with_reducible refine CU (CP _ _) ?_)
 |(with_reducible refine CU (o6 _) ?_)
 |(with_reducible refine CU (Dm _ _) ?_)
 | (with_reducible refine aE hQ ?_;exact bg))
  rcases IC lK p.procs 0 with ⟨e1,e2⟩|⟨m,j,e1,e2,e3⟩
  ·have b3:p.sR=true:=by unfold Pg.sR Pg.find;rw [e1]
   have hi:iN lK 0 p.pn = -1:=e2
   simp only[b1,b2,b3,Bool.or_true,if_true]at hR
   subst hR
   simp only[hi]at CP
   have d1:decide ((-1:Int)<0)=true:=by decide
   repeat' (first
 |simp only[go_sem,hD,hY,hZ,gA,b1,b2,d1]
 |(with_reducible refine CU (CP _ _) ?_)
 |(with_reducible refine CU (o6 _) ?_)
 |(with_reducible refine CU (Dm _ _) ?_)
 | (with_reducible refine aE hQ ?_;exact bg))
  have hi:iN lK 0 p.pn=((j:Nat):Int):=by rw[show p.pn=p.procs.map (·.name)from rfl];simpa using e3
  simp only[hi]at CP
  have d1:decide (((j:Nat):Int)<0)=false:=by simp
  have hj:j<p.procs.length:=(List.getElem?_eq_some_iff.1 e2).1
  have b3:p.sR=decide ((m.params.length:Int) > 0):=by unfold Pg.sR Pg.find;rw[e1]
  rw[b3]at hR
  rcases Bool.eq_false_or_eq_true (decide ((m.params.length:Int) > 0))with b4|b4
  ·simp only [b1,b2,b4,Bool.or_true,if_true]at hR
   subst hR
   repeat' (first
 |simp only[go_sem,hD,hY,hZ,gA,b1,b2,d1,e2,b4]
 |(with_reducible refine CU (CP _ _) ?_)
 |(with_reducible refine CU (o6 _) ?_)
 |(with_reducible refine CU (Dm _ _) ?_)
 |(with_reducible refine aE hQ ?_;exact bg))
  simp only[b1,b2,b4,Bool.or_false,Bool.false_eq_true,if_false]at hR
  repeat' (first
 |simp only[go_sem,hD,hY,hZ,gA,b1,b2,d1,e2,b4]
 |(with_reducible refine CU (CP _ _) ?_)
 |(with_reducible refine CU (o6 _) ?_)
 |(with_reducible refine CU (Dm _ _) ?_)
 |(with_reducible refine CU (da _) ?_)
 | (with_reducible refine aE hQ ?_;exact bg))
  refine fi 2 1 (bq.ind (ι:=List Pc×Nat) (fun i=>p.procs.drop i.2=i.1∧uY p p.pn i.1=R) (fun i=>i.1.length)
   (fun i=> [(1, .ptr 0 0),(2, .ptr 1 0),(3, .slice (.tok 0) 1 (p.pn.map encStr)),(7, .dt (fl p) 0),(57, .slice .shared 5 (p.procs.map cj)),(58, .int .i64 (p.procs.length:Int)),(59, .int .i64 (i.2:Int))]) (fun i=>⟨[cG p,[.int .i64 0, .int .i64 0]],[some p.pn.length]⟩) ?_ (p.procs,0) ⟨rfl,hR⟩)
  clear IH h1 hD hR
  rintro⟨rest,k⟩ ⟨h1,hR⟩ IH
  dsimp only at h1 hR
  cases rest with
  |nil=>
   have hD:=drop_nil h1
   simp only[uY]at hR
   subst hR
   repeat' (first
 |simp only[go_sem,hD,hY,hZ,gA]
 | (with_reducible refine aE hQ ?_;exact bg))
  | cons f rest=>
   obtain⟨hY,g2,hD,g4⟩:=drop_cons h1
   have cf:k<4611686018427387904:=by omega
   have zn:=List.mem_of_getElem? hY
   have u5:=h.small zn
   have Qn:=fun s=>VZ (f:=f) u5.par u5.vars s
   have ju:f.own.length<4611686018427387904:=by have h1:=u5.par;have h2:=u5.vars;unfold Pc.own Pc.sP;simp;omega
   have hto:=fun s=>CO (l:=f.own) ju .shared s
   have Cc:=fun {s:St} {o:Nat} (ho:s.ah[o]? = some (cG p))=>xB (l:=f.own) ju (f:=oh) (row:=cG p) (b:=fe p.globals) (kp p) (by with_unfolding_all rfl) (fun x _=>TC p u5.tw x) ho
   have TD:=fun {s:St} {o:Nat} (ho:s.ah[o]? = some (cG p))=>(show aG Tryz.prog fP [.slice .shared 1 (f.own.map encStr), .fS 130 [.ptr o 0]] s (.bool (f.own.any (fe p.globals))) s from Cc ho)
   simp only[uY,Qk,b1,Bool.false_or]at hR
   rcases Bool.eq_false_or_eq_true (fv f.own)with c1|c1
   ·simp only [c1,Bool.true_or,if_true]at hR
    subst hR
    repeat' (first
 |simp only[go_sem,hD,hY,hZ,gA,c1]
 |(with_reducible refine CU (Qn _) ?_)
 |(with_reducible refine CU (hto _) ?_)
 |(with_reducible refine CU (TD (by with_unfolding_all rfl)) ?_)
 | (with_reducible refine aE hQ ?_;exact bg))
   rcases Bool.eq_false_or_eq_true (f.own.any (fe p.globals))with c2|c2
   ·simp only [c1,c2,Bool.false_or,if_true]at hR
    subst hR
    repeat' (first
 |simp only[go_sem,hD,hY,hZ,gA,c1,c2]
 |(with_reducible refine CU (Qn _) ?_)
 |(with_reducible refine CU (hto _) ?_)
 |(with_reducible refine CU (TD (by with_unfolding_all rfl)) ?_)
 | (with_reducible refine aE hQ ?_;exact bg))
   simp only[c1,c2,Bool.or_self,Bool.false_eq_true,if_false]at hR
   obtain⟨it,o9,xD⟩:=Tn hY (by omega)
   rw[← o9]at hR
   have abr:it.length≤900000:=by
    have e:=congrArg List.length o9
    have e2:=(nj p).2 k f hY
    obtain⟨a,b,e',_,_,e3,e4⟩:=e2
    have e5:=oJ p
    have e6:=congrArg List.length e3
    rw[e4]at e5
    simp only[List.length_map,List.length_append]at e e5 e6
    omega
   repeat' (first
 |simp only[go_sem,hD,hY,hZ,gA,c1,c2]
 |(with_reducible refine CU (Qn _) ?_)
 |(with_reducible refine CU (hto _) ?_)
 |(with_reducible refine CU (TD (by with_unfolding_all rfl)) ?_)
 |(with_reducible refine CU (xD _) ?_)
 | (with_reducible refine aE hQ ?_;exact bg))
   obtain⟨q,hq⟩ : ∃ q,AN p f p.pn (it.map Im.s)=q:=⟨_,rfl⟩
   rw[hq]at hR
   refine fi 3 1 (bq.ind (ι:=List Im×Nat) (fun i=>it.drop i.2=i.1∧AN p f p.pn (i.1.map Im.s)=q) (fun i=>i.1.length)
    (fun i=> [(1, .ptr 0 0),(2, .ptr 1 0),(3, .slice (.tok 0) 1 (p.pn.map encStr)),(7, .dt (fl p) 0),(9, .ptr 2 0),(57, .slice .shared 5 (p.procs.map cj)),(58, .int .i64 (p.procs.length:Int)),(59, .int .i64 (k:Int)),(76, .slice .shared 17 (it.map dq)),(77, .int .i64 (it.length:Int)),(78, .int .i64 (i.2:Int))]) (fun i=>⟨[cG p,[.int .i64 0, .int .i64 0],cj f],[some p.pn.length]⟩) ?_ (it,0) ⟨rfl,hq⟩)
   rintro⟨Bd,n⟩ ⟨j1,j2⟩ V1
   dsimp only at j1 j2
   have zb:=hD
   cases Bd with
   |nil=>
    have alv:=drop_nil j1
    simp only[List.map_nil,AN]at j2
    subst j2
    simp only at hR
    repeat' (first
 |simp only[go_sem,hD,hY,hZ,gA,alv]
 | (with_reducible refine aE hQ ?_;exact bg))
    refine fj 2 1 ?_ ?_ (IH (rest,k+1) ⟨g2,hR⟩ (Nat.lt_succ_self _))
    ·(simp only[go_sem,hD,hY,hZ,gA,aJ cf];try exact cv)
    ·(simp only[go_sem,hD,hY,hZ,gA,aJ cf];try exact cv)
   | cons i Bd=>
    obtain⟨oM,KH,xE,jg4⟩:=drop_cons j1
    have xF:n<4611686018427387904:=by omega
    have DW:i.s∈Sm.cT f.body:=by rw[← o9];exact List.mem_map_of_mem (List.mem_of_getElem? oM)
    have hkn:=XS (v:=i.s) u5 (procs:=p.pn) (by omega) (h.said zn _ DW)
    simp only[List.map_cons,AN]at j2
    rcases Bool.eq_false_or_eq_true (i.s.known p f p.pn)with c3|c3
    ·simp only [c3,if_true]at j2
     repeat' (first
 |simp only[go_sem,hD,hY,hZ,gA,xE,oM,c3]
 |(with_reducible refine CU (hkn _ _) ?_)
 | (with_reducible refine aE hQ ?_;exact bg))
     refine fj 3 1 ?_ ?_ (V1 (Bd,n+1) ⟨KH,j2⟩ (Nat.lt_succ_self _))
     ·(simp only[go_sem,hD,hY,hZ,gA,aJ xF];try exact cv)
     ·(simp only[go_sem,hD,hY,hZ,gA,aJ xF];try exact cv)
    ·simp only [c3,Bool.false_eq_true,if_false]at j2
     subst j2
     simp only at hR
     subst hR
     repeat' (first
 |simp only[go_sem,hD,hY,hZ,gA,xE,oM,c3]
 |(with_reducible refine CU (hkn _ _) ?_)
 |(with_reducible refine aE hQ ?_;exact bg))
end Go.Abs
namespace Go.Abs
mutual
def Ex.qY:Ex→Prop
 |⟨_,n,_,kids⟩=>n≤9223372036854775807∧Ex.wJ kids
def Ex.wJ:List Ex→Prop
 | []=>True
 |x::l=>x.qY∧Ex.wJ l
end
mutual
def Sm.qY:Sm→Prop
 |⟨_,_,_,_,_,x,_,args,aY,aW⟩=>x.qY∧(∀ a∈args,a.x.qY)∧Sm.wJ aY∧Sm.wJ aW
def Sm.wJ:List Sm→Prop
 | []=>True
 |s::l=>s.qY∧Sm.wJ l
end
def Pg.qY (p:Pg):Prop:=∀ f∈p.procs,Sm.wJ f.body
theorem FN {f:Pc} : ∀ {l:List Pc} {n:Nat},Pc.e8 n l=true→f∈l→(isName f.name=true∧eU f.vars=true∧eU f.fin=true∧Pm.fD f.params=true)∧∃ n,(Sm.gh 1 n f.body).1=true
 |g::l,n,h,m=>by
  simp only[Pc.e8]at h
  split at h
  ·cases h
  rename_i c1
  split at h
  ·cases h
  rename_i c2
  split at h
  ·cases h
  rename_i c3
  simp only[Bool.or_eq_true,Bool.not_eq_true',not_or,Bool.not_eq_false]at c1 c2 c3
  rcases List.mem_cons.1 m with rfl|m
  ·exact⟨⟨c1.1.1.2,c1.1.2,c1.2,c2⟩,n,c3⟩
  ·exact FN h m
mutual
theorem Ny : ∀ (s:Sm) (nest:Int) (n:Nat),(Sm.po nest n s).1=true→s.size<4611686018427387000→s.vQ
 |⟨id,kind,labels,name,proc,x,has,args,aY,aW⟩,nest,n,hm,hs=>by
  obtain⟨_,_,h1,h2,h3,_⟩:=FK hm
  rw[CM]
  rw[(sO h2).2]at h2
  rw[(sO h3).2]at h3
  refine⟨Iy h1 hs,uf aY _ _ h2 ?_,uf aW _ _ h3 ?_⟩<;>simp only[Sm.size]at hs<;>omega
theorem uf : ∀ (l:List Sm) (nest:Int) (n:Nat),(Sm.e8 nest n l).1=true→Sm.a8 l<4611686018427387000→Sm.ke l
 | [],_,_,_,_=>by simp only[Sm.ke]
 |s::l,nest,n,hm,hs=>by
  simp only[Sm.e8]at hm
  simp only[Sm.a8]at hs
  split at hm
  ·cases hm
  rename_i hc
  simp only[Bool.not_eq_true',Bool.not_eq_false]at hc
  exact⟨Ny s nest n hc (by omega),uf l nest _ hm (by omega)⟩
end
theorem Qo {p:Pg} (h:p.may=true) (hs:p.size<4611686018427387000):p.GY:=by
 have hf:=Tw h hs
 rw[← Bq]at h
 unfold Pg.EW at h
 split at h
 ·cases h
 refine⟨hf.sz,hf.tw,hf.oY,fun f m=>?_⟩
 obtain⟨_,n,e⟩:=FN h m
 rw[(sO e).2]at e
 have:=Pc.dr m
 simp only[Pg.size]at hs
 exact uf f.body 1 n e (by unfold Pc.size at this;omega)
set_option maxRecDepth 8000
open Go.Proofs
theorem TE (x:It):(jB x)[1]? = some (.int .i64 x.s.kind):=nd rfl
theorem TF (x:It):(jB x)[3]? = some (.str x.s.name):=nd rfl
theorem TG (x:It):(jB x)[4]? = some (.str x.s.proc):=nd rfl
theorem XT (x:It):List.take 16 (jB x)=jB x:=nd rfl
attribute [go_sem] TE TF TG XT
end Go.Abs
namespace Go.Abs
set_option maxRecDepth 8000
open Go.Proofs
def DX:List Pm→List Ar→Bool
 | [],_=>true
 |_,[]=>true
 |a::l,b::m=>if a.ref==b.ref then DX l m else false
def Bt (l:List Pm) (m:List Ar):Bool:=if(l.length:Int)==(m.length:Int)then DX l m else false
def Sm.pS (p:Pg) (v:Sm):Bool:=v.kind==4 && match p.find v.proc with|none=>false|some q=>Bt q.params v.args
theorem abt {l:List Pm} {m:List Ar} (hl:l.length<1000000000) (hm:m.length<1000000000) (s:St):aG Tryz.prog uQ [.slice .shared 2 (l.map iu), .slice .shared 6 (m.map eg)] s (.bool (Bt l m)) s:=by
 refine aG.pure ?_ (by simp[D.bI,D.ok,Tag.ok,adP,GQ]) rfl s
 generalize h:Bt l m=q
 simp only[Bt]at h
 unfold S0
 have b0:((l.length:Int) != (m.length:Int)) = !((l.length:Int)==(m.length:Int)):=rfl
 rcases Bool.eq_false_or_eq_true ((l.length:Int)==(m.length:Int))with b1|b1
 case inr=>
  rw[b1]at b0
  simp only[b1,Bool.false_eq_true,if_false]at h
  subst h
  refine aG.go xr rfl fun B Q hB hQ=>?_
  have⟨hD,hY,hZ,gA⟩:=bS
  repeat' (first
 |simp only[go_sem,hD,hY,hZ,gA,b0,Bool.not_false]
 |(with_reducible refine aE hQ ?_;exact bg))
 rw[b1]at b0
 simp only[b1,if_true]at h
 have V2:l.length=m.length:=by have:=eq_of_beq b1;omega
 refine aG.go xr rfl fun B Q hB hQ=>?_
 have⟨hD,hY,hZ,gA⟩:=bS
 repeat' (first
 |simp only[go_sem,hD,hY,hZ,gA,b0,Bool.not_true]
 |(with_reducible refine aE hQ ?_;exact bg))
 refine fi 0 0 (bq.ind (ι:=List Pm×List Ar×Nat) (fun i=>l.drop i.2.2=i.1∧m.drop i.2.2=i.2.1∧DX i.1 i.2.1=q) (fun i=>i.1.length)
  (fun i=> [(1, .slice .shared 6 (m.map eg)),(12, .slice .shared 2 (l.map iu)),(13, .int .i64 (l.length:Int)),(14, .int .i64 (i.2.2:Int))]) (fun i=>⟨[],[]⟩) ?_ (l,m,0) ⟨rfl,rfl,h⟩)
 rintro⟨r1,r2,k⟩ ⟨h1,h2,h⟩ IH
 dsimp only at h1 h2 h
 cases r1 with
 |nil=>
  have hD:=drop_nil h1
  simp only[DX]at h
  subst h
  repeat' (first
 |simp only[go_sem,hD,hY,hZ,gA]
 |(with_reducible refine aE hQ ?_;exact bg))
 | cons a r1=>
  obtain⟨hY,g2,hD,g4⟩:=drop_cons h1
  cases r2 with
  |nil=>have:=List.drop_eq_nil_iff.1 h2;omega
  | cons b r2=>
   obtain⟨V3,b2,Nz,_⟩:=drop_cons h2
   have cf:k<4611686018427387904:=by omega
   simp only[DX]at h
   have w1:(true==true)=true:=rfl
   have w2:(false==false)=true:=rfl
   have w3:(true==false)=false:=rfl
   have w4:(false==true)=false:=rfl
   have v1:(true != true)=false:=rfl
   have v2:(false != false)=false:=rfl
   have v3:(true != false)=true:=rfl
   have v4:(false != true)=true:=rfl
   rcases Bool.eq_false_or_eq_true a.ref with ea|ea
   ·rcases Bool.eq_false_or_eq_true b.ref with eb | eb
    ·simp only [ea,eb,w1,w2,if_true]at h
     repeat' (first
 |simp only[go_sem,hD,hY,hZ,gA,V3,Nz,ea,eb,w1,w2,v1,v2]
 | (with_reducible refine aE hQ ?_;exact bg))
     refine fj 0 0 ?_ ?_ (IH (r1,r2,k+1) ⟨g2,b2,h⟩ (Nat.lt_succ_self _))
     ·(simp only[go_sem,hD,hY,hZ,gA,aJ cf];try exact cv)
     ·(simp only[go_sem,hD,hY,hZ,gA,aJ cf];try exact cv)
    ·simp only [ea,eb,w3,w4,Bool.false_eq_true,if_false]at h
     subst h
     repeat' (first
 |simp only[go_sem,hD,hY,hZ,gA,V3,Nz,ea,eb,w3,w4,v3,v4]
 | (with_reducible refine aE hQ ?_;exact bg))
   ·rcases Bool.eq_false_or_eq_true b.ref with eb | eb
    ·simp only [ea,eb,w3,w4,Bool.false_eq_true,if_false]at h
     subst h
     repeat' (first
 |simp only[go_sem,hD,hY,hZ,gA,V3,Nz,ea,eb,w3,w4,v3,v4]
 | (with_reducible refine aE hQ ?_;exact bg))
    ·simp only [ea,eb,w1,w2,if_true]at h
     repeat' (first
 |simp only[go_sem,hD,hY,hZ,gA,V3,Nz,ea,eb,w1,w2,v1,v2]
 |(with_reducible refine aE hQ ?_;exact bg))
     refine fj 0 0 ?_ ?_ (IH (r1,r2,k+1) ⟨g2,b2,h⟩ (Nat.lt_succ_self _))
     ·(simp only[go_sem,hD,hY,hZ,gA,aJ cf];try exact cv)
     ·(simp only[go_sem,hD,hY,hZ,gA,aJ cf];try exact cv)
theorem abu {p:Pg} {v:Sm} (h:p.iU) (hv:v.mQ) (s:St):aG Tryz.prog uN [.agg (cG p), .agg (bk v)] s (.bool (v.pS p)) s:=by
 refine aG.pure ?_ (by simp[D.bI,D.ok,kp,qD]) rfl s
 obtain⟨rj,qX,qW⟩:=h.procs
 have Aj:v.args.length<1000000000:=by have:=Ar.eR v.args;have:=hv.2.2;omega
 generalize hR:v.pS p=R
 simp only[Sm.pS]at hR
 unfold S0
 have b0:(v.kind != 4) = !(v.kind==4):=rfl
 rcases Bool.eq_false_or_eq_true (v.kind==4)with b1|b1
 case inr=>
  rw[b1]at b0
  simp only[b1,Bool.false_and]at hR
  subst hR
  refine aG.go xv rfl fun B Q hB hQ=>?_
  have⟨hD,hY,hZ,gA⟩:=bS
  repeat' (first
 |simp only[go_sem,hD,hY,hZ,gA,b0,Bool.not_false]
 |(with_reducible refine aE hQ ?_;exact bg))
 rw[b1]at b0
 simp only[b1,Bool.true_and,Pg.find]at hR
 refine aG.go xv rfl fun B Q hB hQ=>?_
 have⟨hD,hY,hZ,gA⟩:=bS
 repeat' (first
 |simp only[go_sem,hD,hY,hZ,gA,b0,Bool.not_true]
 |(with_reducible refine aE hQ ?_;exact bg))
 refine fi 2 0 (bq.ind (ι:=List Pc×Nat) (fun i=>p.procs.drop i.2=i.1∧(match iF v.proc i.1 with|none=>false|some q=>Bt q.params v.args)=R) (fun i=>i.1.length)
  (fun i=> [(3, .ptr 1 0),(11, .slice .shared 5 (p.procs.map cj)),(12, .int .i64 (p.procs.length:Int)),(13, .int .i64 (i.2:Int))]) (fun i=>⟨[cG p,bk v],[]⟩) ?_ (p.procs,0) ⟨rfl,hR⟩)
 clear hR
 rintro⟨rest,k⟩ ⟨h1,hR⟩ IH
 dsimp only at h1 hR
 cases rest with
 |nil=>
  have hD:=drop_nil h1
  simp only[iF]at hR
  subst hR
  repeat' (first
 |simp only[go_sem,hD,hY,hZ,gA]
 |(with_reducible refine aE hQ ?_;exact bg))
 | cons a rest=>
  obtain⟨hY,g2,hD,g4⟩:=drop_cons h1
  have cf:k<4611686018427387904:=by omega
  have u5:=h.small (List.mem_of_getElem? hY)
  have VX:=fun s=>abt (l:=a.params) (m:=v.args) (by have:=u5.par;omega) Aj s
  simp only[iF]at hR
  rcases Bool.eq_false_or_eq_true (a.name==v.proc)with c1|c1
  ·simp only [c1,if_true]at hR
   subst hR
   repeat' (first
 |simp only[go_sem,hD,hY,hZ,gA,c1]
 |(with_reducible refine CU (VX _) ?_)
 | (with_reducible refine aE hQ ?_;exact bg))
  ·simp only [c1,Bool.false_eq_true,if_false]at hR
   repeat' (first
 |simp only[go_sem,hD,hY,hZ,gA,c1]
 | (with_reducible refine aE hQ ?_;exact bg))
   refine fj 2 0 ?_ ?_ (IH (rest,k+1) ⟨g2,hR⟩ (Nat.lt_succ_self _))
   ·(simp only[go_sem,hD,hY,hZ,gA,aJ cf];try exact cv)
   ·(simp only[go_sem,hD,hY,hZ,gA,aJ cf];try exact cv)
def II (p:Pg):List Sm→Option Sm
 | []=>none
 |v::l=>if v.kind==4 && !(v.pS p)then some v else II p l
def pJ (c:Int):Option Sm→Int×Int
 |some v=>(c,v.id)
 |none=>(0,0)
def Pg.arity (p:Pg):Int×Int:=if p.scope.1==0 then pJ 6 (II p p.pre)else(1,0)
theorem Pg.iU.pre {p:Pg} (h:p.iU) : ∀ v∈p.pre,v.mQ:=fun v m=>by
 simp only[Pg.pre,List.mem_flatten,List.mem_map]at m
 obtain⟨l,⟨f,hf,rfl⟩,m⟩:=m
 exact h.said hf v m
theorem IJ {p:Pg} (h:p.iU) (s:St):aG Tryz.prog pQ [.agg (cG p)] s (.agg [.int .i64 p.arity.1, .int .i64 p.arity.2]) s:=by
 refine aG.pure ?_ (by simp[D.bI,D.ok,kp]) rfl s
 obtain⟨rj,qX,qW⟩:=h.procs
 have o5:=fun s=>uZ h s
 have da:=fun s=>Bm (p:=p) (by omega) s
 have hL:=(nj p).1
 have FP:=oJ p
 generalize hR:p.arity=R
 simp only[Pg.arity]at hR
 unfold S0
 have b0:(p.scope.1 != 0) = !(p.scope.1==0):=rfl
 rcases Bool.eq_false_or_eq_true (p.scope.1==0)with b1|b1
 case inr=>
  rw[b1]at b0
  simp only[b1,Bool.false_eq_true,if_false]at hR
  subst hR
  refine aG.go vM rfl fun B Q hB hQ=>?_
  have⟨hD,hY,hZ,gA⟩:=bS
  repeat' (first
 |simp only[go_sem,hD,hY,hZ,gA,b0,Bool.not_false]
 |(with_reducible refine CU (o5 _) ?_)
 |(with_reducible refine aE hQ ?_;exact bg))
 rw[b1]at b0
 simp only[b1,if_true, ← hL]at hR
 refine aG.go vM rfl fun B Q hB hQ=>?_
 have⟨hD,hY,hZ,gA⟩:=bS
 repeat' (first
 |simp only[go_sem,hD,hY,hZ,gA,b0,Bool.not_true,nD]
 |(with_reducible refine CU (o5 _) ?_)
 |(with_reducible refine CU (da _) ?_)
 |(with_reducible refine aE hQ ?_;exact bg))
 refine fi 2 0 (bq.ind (ι:=List Im×Nat) (fun i=>p.aX.L.drop i.2=i.1∧pJ 6 (II p (i.1.map Im.s))=R) (fun i=>i.1.length)
  (fun i=> [(1, .ptr 0 0),(2, .ptr 1 0),(14, .slice .shared 17 (p.aX.L.map dq)),(15, .int .i64 (p.aX.L.length:Int)),(16, .int .i64 (i.2:Int))]) (fun i=>⟨[cG p,[.int .i64 0, .int .i64 0]],[]⟩) ?_ (p.aX.L,0) ⟨rfl,hR⟩)
 clear hR
 rintro⟨rest,k⟩ ⟨h1,hR⟩ IH
 dsimp only at h1 hR
 cases rest with
 |nil=>
  have hD:=drop_nil h1
  simp only[List.map_nil,II,pJ]at hR
  subst hR
  repeat' (first
 |simp only[go_sem,hD,hY,hZ,gA]
 |(with_reducible refine aE hQ ?_;exact bg))
 | cons a rest=>
  obtain⟨hY,g2,hD,g4⟩:=drop_cons h1
  have cf:k<4611686018427387904:=by omega
  have DW:a.s∈p.pre:=by rw[← hL];exact List.mem_map_of_mem (List.mem_of_getElem? hY)
  have hf1:=fun s=>abu h (h.pre _ DW) s
  simp only[List.map_cons,II]at hR
  rcases Bool.eq_false_or_eq_true (a.s.kind==4)with c1|c1
  ·rcases Bool.eq_false_or_eq_true (a.s.pS p)with c2 | c2
   ·simp only [c1,c2,Bool.not_true,Bool.and_false,Bool.false_eq_true,if_false]at hR
    repeat' (first
 |simp only[go_sem,hD,hY,hZ,gA,c1,c2]
 |(with_reducible refine CU (hf1 _) ?_)
 | (with_reducible refine aE hQ ?_;exact bg))
    refine fj 2 0 ?_ ?_ (IH (rest,k+1) ⟨g2,hR⟩ (Nat.lt_succ_self _))
    ·(simp only[go_sem,hD,hY,hZ,gA,aJ cf];try exact cv)
    ·(simp only[go_sem,hD,hY,hZ,gA,aJ cf];try exact cv)
   ·simp only [c1,c2,Bool.not_false,Bool.and_true,if_true,pJ]at hR
    subst hR
    repeat' (first
 |simp only[go_sem,hD,hY,hZ,gA,c1,c2]
 |(with_reducible refine CU (hf1 _) ?_)
 | (with_reducible refine aE hQ ?_;exact bg))
  ·simp only [c1,Bool.false_and,Bool.false_eq_true,if_false]at hR
   repeat' (first
 |simp only[go_sem,hD,hY,hZ,gA,c1]
 |(with_reducible refine CU (hf1 _) ?_)
 | (with_reducible refine aE hQ ?_;exact bg))
   refine fj 2 0 ?_ ?_ (IH (rest,k+1) ⟨g2,hR⟩ (Nat.lt_succ_self _))
   ·(simp only[go_sem,hD,hY,hZ,gA,aJ cf];try exact cv)
   ·(simp only[go_sem,hD,hY,hZ,gA,aJ cf];try exact cv)
theorem AP {p:Pg} (h:(p.scope.1==0)=true):p.may=true:=by
 unfold Pg.scope at h
 split at h
 ·assumption
 ·cases h
def mS (out:List aF):List aF→aF→Bool→aF×Bool
 | [],c,a=>(c,a)
 |s::l,c,a=>if !(fe out s) && (!a ||bytesLess s c)then mS out l s true else mS out l c a
def Qq (l out:List aF):List aF:=if(mS out l [] false).2 then out++ [(mS out l [] false).1]else out
def o3 (l:List aF):Nat→List aF→List aF
 | 0,out=>out
 |n+1,out=>o3 l n (Qq l out)
def jY (l:List aF):List aF:=o3 l l.length []
end Go.Abs
namespace Go.Proofs
open Go.Shelf
def Tryz.J5:Go.Shelf.Ren:=⟨fun| 190=>173| 125=>194| 258=>193| 128=>217| 129=>218| 302=>208| 303=>209| 304=>210| 305=>211| 306=>212| 307=>213| 308=>214| 309=>215| 310=>216| 333=>224| 329=>225| 330=>226| 334=>227| 335=>228| 336=>229| 344=>230|n=>n,fun| 31=>22| 9=>9| 3=>3| 46=>208| 0=>0| 51=>227| 53=>194| 4=>4| 183=>220| 182=>219| 131=>139| 5=>5| 218=>231| 222=>235| 228=>237| 229=>238|n=>n,fun|n=>n⟩
theorem Tryz.KI:Go.Proofs.Lays.n190 Tryz.prog Tryz.J5:= {
 mixed:=by kernel_rfl
 f125:=Tryz.func194.trans (congrArg some (by kernel_rfl))
 f128:=Tryz.func217.trans (congrArg some (by kernel_rfl))
 f129:=Tryz.func218.trans (congrArg some (by kernel_rfl))
 f190:=Tryz.func173.trans (congrArg some (by kernel_rfl))
 f258:=Tryz.func193.trans (congrArg some (by kernel_rfl))
 f302:=Tryz.func208.trans (congrArg some (by kernel_rfl))
 f303:=Tryz.func209.trans (congrArg some (by kernel_rfl))
 f304:=Tryz.func210.trans (congrArg some (by kernel_rfl))
 f305:=Tryz.func211.trans (congrArg some (by kernel_rfl))
 f306:=Tryz.func212.trans (congrArg some (by kernel_rfl))
 f307:=Tryz.func213.trans (congrArg some (by kernel_rfl))
 f308:=Tryz.func214.trans (congrArg some (by kernel_rfl))
 f309:=Tryz.func215.trans (congrArg some (by kernel_rfl))
 f310:=Tryz.func216.trans (congrArg some (by kernel_rfl))
 f329:=Tryz.func225.trans (congrArg some (by kernel_rfl))
 f330:=Tryz.func226.trans (congrArg some (by kernel_rfl))
 f333:=Tryz.func224.trans (congrArg some (by kernel_rfl))
 f334:=Tryz.func227.trans (congrArg some (by kernel_rfl))
 f335:=Tryz.func228.trans (congrArg some (by kernel_rfl))
 f336:=Tryz.func229.trans (congrArg some (by kernel_rfl))
 f344:=Tryz.func230.trans (congrArg some (by kernel_rfl))
 t0:=Tryz.underlying0
 a0:=Tryz.isAgg0
 z0:=Tryz.sizeOf0
 v0:=Tryz.zeroValue0
 t3:=Tryz.underlying3
 a3:=Tryz.isAgg3
 z3:=Tryz.sizeOf3
 v3:=Tryz.zeroValue3
 t4:=Tryz.underlying4
 a4:=Tryz.isAgg4
 z4:=Tryz.sizeOf4
 v4:=Tryz.zeroValue4
 t5:=Tryz.underlying5
 a5:=Tryz.isAgg5
 z5:=Tryz.sizeOf5
 v5:=Tryz.zeroValue5
 t9:=Tryz.underlying9
 a9:=Tryz.isAgg9
 z9:=Tryz.sizeOf9
 v9:=Tryz.zeroValue9
 t31:=Tryz.underlying22
 a31:=Tryz.isAgg22
 z31:=Tryz.sizeOf22
 v31:=Tryz.zeroValue22
 t46:=Tryz.underlying208
 a46:=Tryz.isAgg208
 z46:=Tryz.sizeOf208
 v46:=Tryz.zeroValue208
 t51:=Tryz.underlying227
 a51:=Tryz.isAgg227
 z51:=Tryz.sizeOf227
 v51:=Tryz.zeroValue227
 t53:=Tryz.underlying194
 a53:=Tryz.isAgg194
 z53:=Tryz.sizeOf194
 v53:=Tryz.zeroValue194
 t131:=Tryz.underlying139
 a131:=Tryz.isAgg139
 z131:=Tryz.sizeOf139
 v131:=Tryz.zeroValue139
 t182:=Tryz.underlying219
 a182:=Tryz.isAgg219
 z182:=Tryz.sizeOf219
 v182:=Tryz.zeroValue219
 t183:=Tryz.underlying220
 a183:=Tryz.isAgg220
 z183:=Tryz.sizeOf220
 v183:=Tryz.zeroValue220
 t218:=Tryz.underlying231
 a218:=Tryz.isAgg231
 z218:=Tryz.sizeOf231
 v218:=Tryz.zeroValue231
 t222:=Tryz.underlying235
 a222:=Tryz.isAgg235
 z222:=Tryz.sizeOf235
 v222:=Tryz.zeroValue235
 t228:=Tryz.underlying237
 a228:=Tryz.isAgg237
 z228:=Tryz.sizeOf237
 v228:=Tryz.zeroValue237
 t229:=Tryz.underlying238
 a229:=Tryz.isAgg238
 z229:=Tryz.sizeOf238
 v229:=Tryz.zeroValue238}
open Go.Sort Go.RowKit in
theorem Tryz.slices_Sort_string (AQ off cap:Nat) (ss:List (List UInt8)) (w:World) (hH:Holds encStr w AQ off ss.toArray) (alw:AQ<w.heap.size) (dK:ss.length<4611686018427387904) :
 Calls Tryz.prog 173 #[.slice (some ⟨AQ,off,none⟩) ss.length cap] w fun e w'=>
  e = .returned (.tuple #[])∧∃ n os,w'=grow (putRow encStr (Sort.ahead w n) AQ off (ss.mergeSort fun x y=>decide (x≤y)).toArray) os:=Any.slices_Sort_string Tryz.KI AQ off cap ss w hH alw dK
def Tryz.J6:Go.Shelf.Ren:=⟨fun| 194=>174|n=>n,fun| 31=>22| 9=>9| 3=>3| 4=>4| 0=>0|n=>n,fun|n=>n⟩
theorem Tryz.KK:Go.Proofs.Lays.n194 Tryz.prog Tryz.J6:= {
 mixed:=by kernel_rfl
 f194:=Tryz.func174.trans (congrArg some (by kernel_rfl))
 t0:=Tryz.underlying0
 a0:=Tryz.isAgg0
 z0:=Tryz.sizeOf0
 v0:=Tryz.zeroValue0
 t3:=Tryz.underlying3
 a3:=Tryz.isAgg3
 z3:=Tryz.sizeOf3
 v3:=Tryz.zeroValue3
 t4:=Tryz.underlying4
 a4:=Tryz.isAgg4
 z4:=Tryz.sizeOf4
 v4:=Tryz.zeroValue4
 t9:=Tryz.underlying9
 a9:=Tryz.isAgg9
 z9:=Tryz.sizeOf9
 v9:=Tryz.zeroValue9
 t31:=Tryz.underlying22
 a31:=Tryz.isAgg22
 z31:=Tryz.sizeOf22
 v31:=Tryz.zeroValue22}
open Go.RowKit Go.Lib Go.Sort in
theorem Tryz.slices_Compact_string (AQ off cap:Nat) (zs:List (List UInt8)) (w:World) (hH:Holds encStr w AQ off zs.toArray) (dK:zs.length≤9223372036854775807) (s5:zs.length≤cap) :
 Calls Tryz.prog 174 #[.slice (some ⟨AQ,off,none⟩) zs.length cap] w fun e w'=>e = .returned (.slice (some ⟨AQ,off,none⟩) (Lib.compact zs).length cap)∧∃ q,w'=putRow encStr (Sort.ahead w q) AQ off (Lib.compact zs++List.replicate (zs.length - (Lib.compact zs).length) []).toArray:=Any.slices_Compact_string Tryz.KK AQ off cap zs w hH dK s5
open Go.RowKit Go.Lib Go.Sort in
theorem Tryz.slices_Compact_string_empty (a:Option Addr) (cap:Nat) (w:World) :
 Calls Tryz.prog 174 #[.slice a 0 cap] w fun e w'=>e = .returned (.slice a 0 cap)∧w'=w:=Any.slices_Compact_string_empty Tryz.KK a cap w
open Go.RowKit Go.Sort in
theorem Tryz.slices_Sort_string_none (p:Option Addr) (cap:Nat) (w:World) :
 Calls Tryz.prog 173 #[.slice p 0 cap] w fun e w'=>e = .returned (.tuple #[])∧w'=w:=Any.slices_Sort_string_none Tryz.KI p cap w
end Go.Proofs
namespace Go.Abs
open Go.Proofs
section
variable {P:Program} {B:fM} {nt:Nat}
theorem XU {x:Operand} {t:Nat} (h:cX x=some (.s t)):x = .tmp t:=by
 unfold cX at h
 split at h
 ·cases h;rfl
 ·obtain⟨d,_,h⟩:=map_some h;cases h
 ·cases h
 ·cases h
theorem NB {ops:Array Oper} {o:Oper} {g g':Option (Nat×Bool)} {dst:Option Nat} {f:Nat} {xs:List X} (h:rS P ops o g=some (.call dst g' f xs)) :
 g'=g∧∃ args l7,o.op = .call ⟨.value (.func f),args,l7⟩∧enters P f=true∧wY args.toList=some xs:=by
 unfold rS at h
 split at h
 ·rename_i f' args l7 l6
  split at h
  ·rename_i he
   obtain⟨xs',h1,h2⟩:=map_some h
   cases h2
   exact⟨rfl,args,l7,l6,he,h1⟩
  ·cases h
 ·obtain⟨_,_,h⟩:=map_some h;cases h
 ·split at h
  ·cases h
  ·split at h<;>cases h
theorem Qr {ops:Array Oper} {o:Oper} {tmps:Array Value} (hg:ux ops o.guard=some none):Region.wanted o (yielded ops tmps)=true:=by
 have:o.guard=none:=by
  cases Fj:o.guard with
  |none=>rfl
  |some p=>
   obtain⟨j,b⟩:=p
   rw[Fj]at hg
   unfold ux at hg
   simp only at hg
   split at hg<;>cases hg
 simp[Region.wanted,this]
theorem Sem.abx {a k b f:Nat} {is:List AI} {Q:Exit→Tm→St→Prop} {tm:Tm} {s:St}
 (afz : ∀ act w,Holds B nt (tm.put (some a) (tm.get k)) s act w→Calls P f #[act.tmps.getD a Go.undef] w fun e w'=>∃ v,e = .returned v∧∃ bl s',Holds B nt bl s' (act.put (some b) v) w'∧iI P is (Q .normal) bl s') :
 Sem P B nt (.run (.op (some a) none (.mv (.s k)):: .call (some b) none f [.s a]::is)) Q tm s:=by
 intro c hc act w hh
 obtain⟨id,ops,rfl,hi⟩:=lb hc
 refine wp_region ?_
 have key : ∀ (l:List Nat) (ol:List Oper),l.map (ops[·]?)=ol.map some→qo P nt ops ol=some (.op (some a) none (.mv (.s k)):: .call (some b) none f [.s a]::is)→wpOps P ops (pe B nt Q) l act w:=by
  intro l ol hl wv
  match ol,l,hl with
  | [],_,_=>simp[qo]at wv
  |o0::ol,[],hl=>simp at hl
  | o0::ol,j0::l,hl=>
   simp only[List.map_cons,List.cons.injEq]at hl
   obtain⟨hj0,hl⟩:=hl
   unfold qo at wv
   split at wv
   ·rename_i i0 is0 h1 h2
    cases wv
    match ol,l,hl,h2 with
    | [],_,_,h2=>simp[qo]at h2
    |o1::ol,[],hl,_=>simp at hl
    | o1::ol,j1::l,hl,h2=>
     simp only[List.map_cons,List.cons.injEq]at hl
     obtain⟨hj1,hl⟩:=hl
     unfold qo at h2
     split at h2
     ·rename_i i1 is1 h3 h4
      cases h2
      obtain⟨M,e,r,ht,hn,hd⟩:=hh
      have V4:=sF h1
      have FQ:=sF h3
      simp only[AI.dst]at V4 FQ
      refine wu (K':=fun bl s'=>bl=tm.put (some a) (tm.get k)∧s'=s) hj0 h1 r (B.laid.ext e) ht (by simp only[iI,guarded,aI,X.ev,and_self]) (fun d v s1 w1 M1 hk e1 r1 hv=>?_)
      obtain⟨vv,rfl⟩:=hk
      have hH:=Holds.put e ht hn hd (xf h1) e1 r1 hv
      simp only[AI.dst]at vv
      rw[← V4]at hH ⊢
      rw[vv]at hH
      obtain⟨g,hg,_,hb⟩:=Ah h3
      obtain⟨rfl,args,l7,l6,x8,od⟩:=NB hb
      simp only[wpOps,hj1,Qr hg,if_true]
      left
      have alx:args.map (act.put (some a) v).eval = #[(act.put (some a) v).tmps.getD a Go.undef]:=by
       have:args.toList = [.tmp a]:=by
        match hA:args.toList with
        | []=>rw[hA]at od;simp[wY]at od
        | [x]=>
         rw[hA]at od
         simp only[wY]at od
         split at od
         ·rename_i x' r' hx hr
          cases od
          rw[XU hx]
         ·cases od
        | x::y::z=>
         rw[hA]at od
         simp only[wY]at od
         split at od
         ·rename_i x' r' hx hr
          cases od
          split at hr
          ·cases hr
          ·cases hr
         ·cases od
       have:args = #[.tmp a]:=by rw[← Array.toArray_toList (xs:=args),this]
       rw[this]
       simp only[List.map_toArray,List.map_cons,List.map_nil]
       rfl
      have hex:(execOp (act.put (some a) v).eval o1).run P w1 = .ok (.enter f #[(act.put (some a) v).tmps.getD a Go.undef]) w1:=by
       obtain⟨dst,op,type,pos,after,guard⟩:=o1
       simp only at l6
       subst l6
       rw[← alx]
       exact wj (act.put (some a) v).eval dst f args l7 type pos after guard rfl x8 w1
      unfold Oper.wp
      rw[hex,Oper.upon_enter]
      refine(afz _ _ hH).mono ?_
      rintro en w' ⟨v',rfl,bl,s',hH',hvc⟩
      rw[← FQ]
      exact Ad (Q:=Q) l ol _ hl h4 bl s' _ w' hvc hH'
     ·cases h2
   ·cases wv
 exact key _ _ (Ae ops) hi
theorem FR (hB:B.s = ⟨[],[]⟩) {tm:Tm} {s:St} {act:Act} {w:World} (h:Holds B nt tm s act w) {t:Nat} {l:List aF} (ht:s.av[t]? = some (some l.length)) {k0:Nat} (hk0:tm.get k0 = .slice (.tok t) 1 (l.map encStr)) :
 (l = []∧∀ k,tm.get k = .slice (.tok t) 1 (l.map encStr)→(act.tmps.getD k Go.undef = .slice none 0 0∨∃ b q,act.tmps.getD k Go.undef = .slice (some ⟨b,q,none⟩) 0 0))∨
 ∃ (b cap:Nat) (vs:Array Value) (T:TypeId),(∀ k,tm.get k = .slice (.tok t) 1 (l.map encStr)→act.tmps.getD k Go.undef = .slice (some ⟨b,0,none⟩) l.length cap)∧l.length≤cap∧w.heap[b]? = some (.cells vs T (0,0))∧vs.size=cap∧B.w.heap.size≤b∧
  ∀ j (hj:j<l.length),vs[j]? = some (.string ⟨⟨l[j]⟩⟩):=by
 obtain⟨M,e,r,hr,_,_⟩:=h
 rcases r.tok t _ ht with ⟨h3,h4⟩|⟨b,cap,z,vs,T,h3,h4,h5,h6,h7⟩
 ·have hl:l = []:=List.eq_nil_of_length_eq_zero h4
  subst hl
  refine .inl ⟨rfl,fun k hk=>?_⟩
  have hv:=hr k
  rw[hk]at hv
  generalize act.tmps.getD k Go.undef=v at hv
  cases hv with
  |iz _ _ cap hc o6=>subst hc;exact .inl rfl
  |slice _ _ _ b q cap hl hs h1 h2 o6=>
   rcases(o6.2 _ ht).2 rfl with ⟨_,h0,_⟩|⟨b',_,ku⟩
   ·subst h0;exact .inr ⟨b,q,rfl⟩
   ·rw[h3]at ku;cases ku
 ·right
  have each : ∀ k,tm.get k = .slice (.tok t) 1 (l.map encStr)→z=1∧act.tmps.getD k Go.undef = .slice (some ⟨b,0,none⟩) l.length cap∧l.length≤cap∧∀ j (hj:j<l.length),∃ u,M.G b j=some u∧RD M s (.str l[j]) u:=by
   intro k hk
   have hv:=hr k
   rw[hk]at hv
   generalize act.tmps.getD k Go.undef=v at hv
   generalize jT:l.map encStr=rows at hv
   cases hv with
   |iz _ _ cap hc o6=>
    have hl:l = []:=by cases l<;>simp at jT;rfl
    subst hl
    rcases(o6.2 _ ht).2 rfl with ⟨h0,_⟩|⟨b',h0,_⟩
    ·rw[h3]at h0;cases h0
    ·cases h0
   | slice _ _ _ b2 q atN hl hs h1 h2 o6=>
    subst jT
    rw[List.length_map]at hl o6
    rcases(o6.2 _ ht).2 rfl with ⟨h0,_⟩|⟨b',hb,ku⟩
    ·rw[h3]at h0;cases h0
    ·cases hb
     rw[h3]at ku
     cases ku
     refine⟨rfl,by rw[List.length_map],hl,fun j hj=>?_⟩
     have e1:(l.map encStr)[j]? = some [.str l[j]]:=by rw[List.getElem?_map,List.getElem?_eq_getElem hj];rfl
     obtain⟨u,hu⟩:=h1 j _ 0 _ e1 rfl
     refine⟨u,by simpa using hu,h2 j _ 0 _ u e1 rfl hu⟩
  obtain⟨rfl,_,s5,lH⟩:=each k0 hk0
  have da:B.w.heap.size≤b:=by
   rcases e.pU t b cap 1 ⟨_,ht⟩ h3 with ⟨⟨n,hn⟩,_⟩|h
   ·rw[hB]at hn;simp at hn
   ·exact h
  refine⟨b,cap,vs,T,fun k hk=>(each k hk).2.1,s5,h4,by simpa[zs]using h5,da,fun j hj=>?_⟩
  obtain⟨u,hu,jd⟩:=lH j hj
  have:=(r.comm _ _ _ hu).1
  rw[iP h4,jd.kT]at this
  exact this
theorem IK (hB:B.s = ⟨[],[]⟩) {tm:Tm} {s:St} {act tx:Act} {w w':World} (h:Holds B nt tm s act w) {b cap:Nat} {vs:Array Value} {T:TypeId} (dK:vs.size=cap) (vI:B.w.heap.size≤b)
 (lD : ∀ q,q<B.w.heap.size→w'.heap[q]? = w.heap[q]?) (dS:w'.heap[b]? = some (.cells vs T (0,0))) (tD:w.heap.size≤w'.heap.size) (tF:w'.os=w.os) (Dm:w'.tape=w.tape) (Ry:w'.output=w.output)
 {l:List aF} (hl:l.length≤cap) (lH : ∀ j (hj:j<l.length),vs[j]? = some (.string ⟨⟨l[j]⟩⟩)) {k:Nat} (NC:tx.tmps.getD k Go.undef = .slice (some ⟨b,0,none⟩) l.length cap) (hn:tx.tmps.size=nt) (hd:tx.defers = []) :
 Holds B nt [(k, .slice (.tok 0) 1 (l.map encStr))] ⟨[],[some l.length]⟩ tx w':=by
 obtain⟨M,e,r,hr,_,_⟩:=h
 let M':Map:=⟨fun q o=>if q=b then(if o<l.length then(l[o]?).map fun x=>Value.string ⟨⟨x⟩⟩else none)else B.M.G q o,B.M.loc,fun _=>some (b,cap,1)⟩
 have hGb : ∀ q o v,B.M.G q o=some v→q<B.w.heap.size∧w'.cell? ⟨q,o,none⟩=some v∧v.oneCell'=true:=by
  intro q o v hq
  obtain⟨h1,h2⟩:=r.comm q o v (e.le.G q o v hq)
  have hD:=B.B1 q o v hq
  refine⟨hD, ?_,h2⟩
  rw[← h1]
  simp[World.cell?,lD q hD]
 have ik : ∀ j (hj:j<l.length),w'.cell? ⟨b,j,none⟩=some (.string ⟨⟨l[j]⟩⟩):=fun j hj=>by rw[iP dS];exact lH j hj
 have hY : ∀ (j:Nat) v,(if j<l.length then(l[j]?).map fun x=>Value.string ⟨⟨x⟩⟩else none)=some v→∃ hj:j<l.length,v = .string ⟨⟨l[j]⟩⟩:=by
  intro j v hv
  split at hv
  ·rename_i hj
   rw[List.getElem?_eq_getElem hj]at hv
   exact⟨hj,by simpa using hv.symm⟩
  ·cases hv
 refine⟨M',⟨⟨fun q o v hq=>?_,by simp[hB],fun o ho=> .refl _,by rw[hB];exact Nat.zero_le _,fun t n' ht _=>by rw[hB]at ht;exact absurd ht (Nat.not_lt_zero _)⟩,fun q hq _ _=>?_,fun o _ h2=>absurd h2 (Nat.not_lt_zero _),fun t q c z _ hb=>?_,fun q o eK=>?_,Nat.le_trans e.size tD,tF.trans e.os,Dm.trans e.tape,Ry.trans e.output⟩,
  ⟨fun q o v hq=>?_,fun o ds ho=>by simp at ho,fun o ho=>absurd ho (Nat.not_lt_zero _),fun o o' ho=>absurd ho (Nat.not_lt_zero _),fun t n ht=>?_,fun t q c z o _ _ ho=>absurd ho (Nat.not_lt_zero _),fun t t' q c z c' z' uW kL _ _=>?_⟩,fun u=>?_,hn,hd⟩
 ·show(if q=b then _ else B.M.G q o)=some v
  rw[if_neg (by have:=(hGb q o v hq).1;omega)]
  exact hq
 ·rw [lD q hq]
  exact e.kept q hq (fun o ho=>by rw[hB]at ho;exact absurd ho (Nat.not_lt_zero _)) (fun t c z kL=>by rw[hB]at kL;obtain⟨n,zm⟩:=kL;simp at zm)
 ·cases hb;exact .inr vI
 ·by_cases hq:q=b
  ·subst hq;exact .inl vI
  ·exact absurd (show(if q=b then _ else B.M.G q o)=B.M.G q o from if_neg hq) eK
 ·have l5:(if q=b then(if o<l.length then(l[o]?).map fun x=>Value.string ⟨⟨x⟩⟩else none)else B.M.G q o)=some v:=hq
  by_cases hqb:q=b
  ·rw [if_pos hqb]at l5
   obtain⟨hj,rfl⟩:=hY o v l5
   rw[hqb]
   exact⟨ik o hj,rfl⟩
  ·rw [if_neg hqb]at l5
   exact(hGb q o v l5).2
 ·match t with
  | 0=>
   simp at ht
   subst ht
   refine .inr ⟨b,cap,1,vs,T,rfl,dS,by simp[zs,dK],hl,fun off ho=>?_,fun h=>by cases h⟩
   show(if b=b then(if off<l.length then _ else none)else B.M.G b off)=none
   rw[if_pos rfl,if_neg (by simp[zs]at ho;omega)]
  |t+1=>simp at ht
 ·obtain⟨n1,h1⟩:=uW
  obtain⟨n2,h2⟩:=kL
  have a1:=(List.getElem?_eq_some_iff.1 h1).1
  have a2:=(List.getElem?_eq_some_iff.1 h2).1
  simp at a1 a2
  omega
 ·simp only [Tm.get]
  split
  ·rename_i hku
   subst hku
   rw[NC]
   have:=RD.slice (M:=M') (s:=⟨[],[some l.length]⟩) (.tok 0) 1 (l.map encStr) b 0 cap (by simpa using hl) (fun row hr=>by
    obtain⟨x,_,rfl⟩:=List.mem_map.1 hr;rfl) (fun i row j d e1 e2=>?_) (fun i row j d u e1 e2 eu=>?_) ⟨by simp,fun n zm=>by
    simp at zm
    subst zm
    exact⟨by simp,fun _=> .inr ⟨b,rfl,rfl⟩⟩⟩
   ·simpa using this
   ·rw [List.getElem?_map]at e1
    cases ze:l[i]? with
    |none=>rw[ze]at e1;cases e1
    |some x=>
     have qf:=(List.getElem?_eq_some_iff.1 ze).1
     rw[ze]at e1
     cases e1
     have hj:j=0:=by cases j with|zero=>rfl|succ j=>simp[encStr]at e2
     subst hj
     refine⟨.string ⟨⟨x⟩⟩, ?_⟩
     show(if b=b then(if 0+(i*1+0)<l.length then _ else none)else _)=_
     rw[if_pos rfl,if_pos (by omega)]
     simp[ze]
   ·rw [List.getElem?_map]at e1
    cases ze:l[i]? with
    |none=>rw[ze]at e1;cases e1
    |some x=>
     have qf:=(List.getElem?_eq_some_iff.1 ze).1
     rw[ze]at e1
     cases e1
     have hj:j=0:=by cases j with|zero=>rfl|succ j=>simp[encStr]at e2
     subst hj
     have Dy:(if b=b then(if 0+(i*1+0)<l.length then(l[0+(i*1+0)]?).map fun x=>Value.string ⟨⟨x⟩⟩else none)else B.M.G b (0+(i*1+0)))=some u:=eu
     rw[if_pos rfl,if_pos (by omega)]at Dy
     simp[ze]at Dy
     subst Dy
     simp[encStr]at e2
     subst e2
     exact .str x
  ·exact .junk _
theorem KM (hB:B.s = ⟨[],[]⟩) {tm:Tm} {s:St} {act tx:Act} {w:World} (h:Holds B nt tm s act w) {k:Nat} (NC:tx.tmps.getD k Go.undef = .slice none 0 0∨∃ b q,tx.tmps.getD k Go.undef = .slice (some ⟨b,q,none⟩) 0 0) (hn:tx.tmps.size=nt) (hd:tx.defers = []) :
 Holds B nt [(k, .slice (.tok 0) 1 (([] : List aF).map encStr))] ⟨[],[some 0]⟩ tx w:=by
 obtain⟨M,e,r,hr,_,_⟩:=h
 let M':Map:=⟨B.M.G,B.M.loc,fun _=>none⟩
 refine⟨M',⟨⟨fun q o v hq=>hq,by simp[hB],fun o ho=> .refl _,by rw[hB];exact Nat.zero_le _,fun t n' ht _=>by rw[hB]at ht;exact absurd ht (Nat.not_lt_zero _)⟩,fun q hq _ _=>?_,fun o _ h2=>absurd h2 (Nat.not_lt_zero _),fun t q c z _ hb=>(by cases hb),fun q o eK=>absurd rfl eK,e.size,e.os,e.tape,e.output⟩,
  ⟨fun q o v hq=>r.comm q o v (e.le.G q o v hq),fun o ds ho=>by simp at ho,fun o ho=>absurd ho (Nat.not_lt_zero _),fun o o' ho=>absurd ho (Nat.not_lt_zero _),fun t n ht=>?_,fun t q c z o _ _ ho=>absurd ho (Nat.not_lt_zero _),fun t t' q c z c' z' uW kL h1 _=>by cases h1⟩,fun u=>?_,hn,hd⟩
 ·exact e.kept q hq (fun o ho=>by rw[hB]at ho;exact absurd ho (Nat.not_lt_zero _)) (fun t c z kL=>by rw[hB]at kL;obtain⟨n,zm⟩:=kL;simp at zm)
 ·match t with
  | 0=>simp at ht;subst ht;exact .inl ⟨rfl,rfl⟩
  |t+1=>simp at ht
 ·simp only [Tm.get]
  split
  ·rename_i hku
   subst hku
   have o6 : ∀ base,iB M' ⟨[],[some 0]⟩ (.tok 0) 1 0 base 0:=fun base=>⟨by simp,fun n zm=>by
    simp at zm
    subst zm
    exact⟨Nat.le_refl _,fun _=> .inl ⟨rfl,rfl,fun h=>by cases h⟩⟩⟩
   rcases NC with h|⟨b,q,h⟩
   ·rw[h];exact .iz _ _ 0 rfl (o6 none)
   ·rw[h];exact .slice (.tok 0) 1 [] b q 0 (Nat.le_refl _) (by simp) (by simp) (by simp) (o6 _)
  ·exact .junk _
theorem IL {α:Type} [Inhabited α] (enc:α→Value) (d:Array α) (c:Array Value) (j:Nat):(Sort.putCells enc 0 d c)[j]? = if j<d.size then(c[j]?).map fun _=>enc d[j]! else c[j]? :=by
 simp only[Sort.putCells,Array.getElem?_mapIdx]
 cases h:c[j]? with
 |none=>simp
 |some x=>by_cases hj:j<d.size<;>simp[hj]
theorem FT {w:World} {b n cap:Nat} {vs:Array Value} {T:TypeId} (dS:w.heap[b]? = some (.cells vs T (0,0))) (dK:vs.size=cap) (l:List aF) (hl:l.length≤cap) (os:Array Obj) :
 (∀ q,q≠b→q<w.heap.size→(Sort.grow (Sort.putRow Go.Proofs.encStr (Sort.ahead w n) b 0 l.toArray) os).heap[q]? = w.heap[q]?)∧
 (Sort.grow (Sort.putRow Go.Proofs.encStr (Sort.ahead w n) b 0 l.toArray) os).heap[b]? = some (.cells (Sort.putCells Go.Proofs.encStr 0 l.toArray vs) T (0,0))∧w.heap.size≤(Sort.grow (Sort.putRow Go.Proofs.encStr (Sort.ahead w n) b 0 l.toArray) os).heap.size∧
 (Sort.putCells Go.Proofs.encStr 0 l.toArray vs).size=cap∧∀ j (hj:j<l.length),(Sort.putCells Go.Proofs.encStr 0 l.toArray vs)[j]? = some (.string ⟨⟨l[j]⟩⟩):=by
 have hb:b<w.heap.size:=(Array.getElem?_eq_some_iff.1 dS).1
 refine⟨fun q hq hD=>?_, ?_, ?_, ?_,fun j hj=>?_⟩
 ·simp only [Sort.grow,Sort.putRow,Sort.mapBlock,Sort.ahead]
  rw[Array.getElem?_append_left (by simpa using hD),Array.getElem?_modify]
  simp[Ne.symm hq]
 ·simp only [Sort.grow,Sort.putRow,Sort.mapBlock,Sort.ahead]
  rw[Array.getElem?_append_left (by simpa using hb),Array.getElem?_modify]
  simp[dS,Sort.onCells]
 ·simp[Sort.grow,Sort.putRow,Sort.mapBlock,Sort.ahead]
 ·simp[Sort.putCells,dK]
 ·rw [IL]
  have h1:j<l.toArray.size:=by simpa using hj
  have h2:vs[j]? = some vs[j]:=Array.getElem?_eq_getElem (by omega)
  rw[if_pos h1,h2]
  simp[hj]
def lL (l:List aF):List aF:=l.mergeSort fun x y=>decide (x≤y)
theorem IM {act:Act} {b:Nat} {v:Value} {u:Nat} (h:u≠b):(act.put (some b) v).tmps.getD u Go.undef=act.tmps.getD u Go.undef:=by
 simp only[Act.put,Array.getD_eq_getD_getElem?]
 rw[Array.getElem?_setIfInBounds_ne (fun e=>h e.symm)]
theorem FU {act:Act} {b:Nat} {v:Value} (h:b<act.tmps.size):(act.put (some b) v).tmps.getD b Go.undef=v:=by
 simp only[Act.put,Array.getD_eq_getD_getElem?]
 simp[h]
theorem Sem.sort (hB:B.s = ⟨[],[]⟩) {a k b t:Nat} {l:List aF} {is:List AI} {Q:Exit→Tm→St→Prop} {tm:Tm} {s:St} (hak:a≠k) (hbk:b≠k) (VW:a≠b)
 (hk:tm.get k = .slice (.tok t) 1 (l.map encStr)) (ht:s.av[t]? = some (some l.length)) (hl:l.length<4611686018427387904)
 (h:iI Tryz.prog is (Q .normal) [(k, .slice (.tok 0) 1 ((lL l).map encStr))] ⟨[],[some l.length]⟩) :
 Sem Tryz.prog B nt (.run (.op (some a) none (.mv (.s k)):: .call (some b) none jg [.s a]::is)) Q tm s:=by
 refine Sem.abx fun act w hh=>?_
 have yZ:(tm.put (some a) (tm.get k)).get k = .slice (.tok t) 1 (l.map encStr):=by rw[Tm.kX,if_neg (by simpa using hak)];exact hk
 have IN:(tm.put (some a) (tm.get k)).get a = .slice (.tok t) 1 (l.map encStr):=by rw[Tm.kX,if_pos rfl];exact hk
 have DY:(lL l).length=l.length:=List.length_mergeSort l
 have hn:(act.put (some b) (.tuple #[])).tmps.size=nt:=by obtain⟨_,_,_,_,h1,_⟩:=hh;simpa[Act.put]using h1
 have hd:(act.put (some b) (.tuple #[])).defers = []:=by obtain⟨_,_,_,_,_,h1⟩:=hh;simpa[Act.put]using h1
 have dK:(act.tmps).size=nt:=by obtain⟨_,_,_,_,h1,_⟩:=hh;exact h1
 rcases FR hB hh ht IN with ⟨rfl,hv⟩|⟨b',cap,vs,T,hv,s5,dS,sA,vI,lH⟩
 ·rw [show lL [] = [] by simp [lL]]at h
  have call : ∀ p,act.tmps.getD a Go.undef = .slice p 0 0→Calls Tryz.prog jg #[act.tmps.getD a Go.undef] w fun e w'=>∃ v,e = .returned v∧∃ bl s',Holds B nt bl s' (act.put (some b) v) w'∧iI Tryz.prog is (Q .normal) bl s':=by
   intro p hp
   rw[hp]
   refine(Tryz.slices_Sort_string_none p 0 w).mono ?_
   rintro e w' ⟨rfl,rfl⟩
   refine⟨_,rfl,_,_,KM hB hh (k:=k) ?_ hn hd,h⟩
   rw[IM (Ne.symm hbk)]
   exact hv k yZ
  rcases hv a IN with h1|⟨b',q,h1⟩
  ·exact call _ h1
  ·exact call _ h1
 ·rw [hv a IN]
  have hD:b'<w.heap.size:=(Array.getElem?_eq_some_iff.1 dS).1
  refine(Tryz.slices_Sort_string b' 0 cap l w (fun j hj=>?_) hD hl).mono ?_
  ·have Qs:j<l.length:=by simpa using hj
   refine⟨?_,by simp[World.frozen?,dS]⟩
   rw[Nat.zero_add,iP dS,lH j Qs]
   simp[Qs]
  ·rintro e w' ⟨rfl,n,os,rfl⟩
   obtain⟨p1,p2,p3,p4,p5⟩:=FT (n:=n) dS sA (lL l) (by omega) os
   have hH:=IK hB hh (tx:=act.put (some b) (.tuple #[])) (l:=lL l) (k:=k) p4 vI (fun q hq=>p1 q (by omega) (by obtain⟨M,e,_⟩:=hh;exact Nat.lt_of_lt_of_le hq e.size)) p2 p3 rfl rfl rfl (by omega) p5 (by rw[IM (Ne.symm hbk),hv k yZ,DY]) hn hd
   rw[DY]at hH
   exact⟨_,rfl,_,_,hH,h⟩
theorem J7 (l:List aF):(Lib.compact l).length≤l.length:=by
 unfold Lib.compact Lib.compactUpTo
 rw[List.length_map]
 exact Nat.le_trans (List.length_filter_le _ _) (by simp)
theorem Sem.compact (hB:B.s = ⟨[],[]⟩) {a k b t:Nat} {l:List aF} {is:List AI} {Q:Exit→Tm→St→Prop} {tm:Tm} {s:St} (hbt:b<nt)
 (hk:tm.get k = .slice (.tok t) 1 (l.map encStr)) (ht:s.av[t]? = some (some l.length)) (hl:l.length<4611686018427387904)
 (h:iI Tryz.prog is (Q .normal) [(b, .slice (.tok 0) 1 ((Lib.compact l).map encStr))] ⟨[],[some (Lib.compact l).length]⟩) :
 Sem Tryz.prog B nt (.run (.op (some a) none (.mv (.s k)):: .call (some b) none jA [.s a]::is)) Q tm s:=by
 refine Sem.abx fun act w hh=>?_
 have IN:(tm.put (some a) (tm.get k)).get a = .slice (.tok t) 1 (l.map encStr):=by rw[Tm.kX,if_pos rfl];exact hk
 have dK:(act.tmps).size=nt:=by obtain⟨_,_,_,_,h1,_⟩:=hh;exact h1
 have hn : ∀ v,(act.put (some b) v).tmps.size=nt:=fun v=>by simpa[Act.put]using dK
 have hd : ∀ v,(act.put (some b) v).defers = []:=by obtain⟨_,_,_,_,_,h1⟩:=hh;intro v;simpa[Act.put]using h1
 rcases FR hB hh ht IN with ⟨rfl,hv⟩|⟨b',cap,vs,T,hv,s5,dS,sA,vI,lH⟩
 ·rw [show Lib.compact ([] : List aF) = []from rfl]at h
  have call : ∀ p,act.tmps.getD a Go.undef = .slice p 0 0→(p=none∨∃ b q,p=some ⟨b,q,none⟩)→Calls Tryz.prog jA #[act.tmps.getD a Go.undef] w fun e w'=>∃ v,e = .returned v∧∃ bl s',Holds B nt bl s' (act.put (some b) v) w'∧iI Tryz.prog is (Q .normal) bl s':=by
   intro p hp hq
   rw[hp]
   refine(Tryz.slices_Compact_string_empty p 0 w).mono ?_
   rintro e w' ⟨rfl,rfl⟩
   refine⟨_,rfl,_,_,KM hB hh (k:=b) ?_ (hn _) (hd _),h⟩
   rw[FU (by omega)]
   rcases hq with rfl|⟨x,y,rfl⟩
   ·exact .inl rfl
   ·exact .inr ⟨x,y,rfl⟩
  rcases hv a IN with h1|⟨b',q,h1⟩
  ·exact call _ h1 (.inl rfl)
  ·exact call _ h1 (.inr ⟨b',q,rfl⟩)
 ·rw [hv a IN]
  have oc:(Lib.compact l).length≤l.length:=J7 l
  refine(Tryz.slices_Compact_string b' 0 cap l w (fun j hj=>?_) (by omega) s5).mono ?_
  ·have Qs:j<l.length:=by simpa using hj
   refine⟨?_,by simp[World.frozen?,dS]⟩
   rw[Nat.zero_add,iP dS,lH j Qs]
   simp[Qs]
  ·rintro e w' ⟨rfl,q,rfl⟩
   obtain⟨p1,p2,p3,p4,p5⟩:=FT (n:=q) dS sA (Lib.compact l++List.replicate (l.length - (Lib.compact l).length) []) (by simp;omega) #[]
   rw[Sort.grow_empty]at p1 p2 p3
   have hH:=IK hB hh (tx:=act.put (some b) (.slice (some ⟨b',0,none⟩) (Lib.compact l).length cap)) (l:=Lib.compact l) (k:=b) p4 vI (fun q hq=>p1 q (by omega) (by obtain⟨M,e,_⟩:=hh;exact Nat.lt_of_lt_of_le hq e.size)) p2 p3 rfl rfl rfl (by omega)
    (fun j hj=>by
     have:=p5 j (by simp;omega)
     rw[List.getElem_append_left hj]at this
     exact this) (FU (by omega)) (hn _) (hd _)
   exact⟨_,rfl,_,_,hH,h⟩
end
end Go.Abs
namespace Go.Abs
theorem DZ {a b:UInt8} : a<b↔a.toNat<b.toNat:=UInt8.lt_iff_toNat_lt
theorem xH : ∀ a:aF,bytesLess a a=false
 | []=>rfl
 |x::a=>by
  show Go.Op.bytesLess (x::a) (x::a)=false
  have h:=xH a
  have h:Go.Op.bytesLess a a=false:=h
  simp[Go.Op.bytesLess,h]
theorem xI : ∀ a b:aF,bytesLess a b=true∨a=b∨bytesLess b a=true
 | [],[]=> .inr (.inl rfl)
 | [],y::b=> .inl rfl
 |x::a,[]=> .inr (.inr rfl)
 | x::a,y::b=>by
  show Go.Op.bytesLess (x::a) (y::b)=true∨_∨Go.Op.bytesLess (y::b) (x::a)=true
  have h:Go.Op.bytesLess a b=true∨a=b∨Go.Op.bytesLess b a=true:=xI a b
  simp only[Go.Op.bytesLess,Bool.or_eq_true,Bool.and_eq_true,decide_eq_true_eq,beq_iff_eq,List.cons.injEq]
  by_cases e:x=y
  ·subst e
   rcases h with h|h|h
   ·exact .inl (.inr ⟨rfl,h⟩)
   ·exact .inr (.inl ⟨rfl,h⟩)
   ·exact .inr (.inr (.inr ⟨rfl,h⟩))
  ·have:x.toNat≠y.toNat:=fun h=>e (UInt8.toNat_inj.1 h)
   rcases Nat.lt_or_gt_of_ne this with h|h
   ·exact .inl (.inl (DZ.2 h))
   ·exact .inr (.inr (.inl (DZ.2 h)))
theorem D0 : ∀ a b c:aF,bytesLess a b=true→bytesLess b c=true→bytesLess a c=true
 |a,b,[],h1,h2=>by cases b<;>cases h2
 |a,[],z::c,h1,h2=>by cases a<;>cases h1
 | [],y::b,z::c,h1,h2=>rfl
 | x::a,y::b,z::c,h1,h2=>by
  have h1:Go.Op.bytesLess (x::a) (y::b)=true:=h1
  have h2:Go.Op.bytesLess (y::b) (z::c)=true:=h2
  show Go.Op.bytesLess (x::a) (z::c)=true
  simp only[Go.Op.bytesLess,Bool.or_eq_true,Bool.and_eq_true,decide_eq_true_eq,beq_iff_eq]at h1 h2 ⊢
  rcases h1 with e1|⟨i1,e1⟩
  ·rcases h2 with e2 | ⟨i2,e2⟩
   ·exact .inl (DZ.2 (Nat.lt_trans (DZ.1 e1) (DZ.1 e2)))
   ·exact .inl (i2 ▸ e1)
  ·rcases h2 with e2 | ⟨i2,e2⟩
   ·exact .inl (i1 ▸ e2)
   ·exact .inr ⟨i1.trans i2,D0 a b c e1 e2⟩
def AR (l:List aF):Prop:=l.Pairwise fun a b=>bytesLess a b=true
theorem wK : ∀ {a b:List aF},AR a→AR b→(∀ x,x∈a↔x∈b)→a=b
 | [],[],_,_,_=>rfl
 | [],y::b,_,_,h=>absurd ((h y).2 List.mem_cons_self) (by simp)
 |x::a,[],_,_,h=>absurd ((h x).1 List.mem_cons_self) (by simp)
 | x::a,y::b,h1,h2,h=>by
  obtain⟨g1,g2⟩:=List.pairwise_cons.1 h1
  obtain⟨g3,g4⟩:=List.pairwise_cons.1 h2
  have e:x=y:=by
   rcases List.mem_cons.1 ((h x).1 List.mem_cons_self)with e|m
   ·exact e
   ·rcases List.mem_cons.1 ((h y).2 List.mem_cons_self)with e | m'
    ·exact e.symm
    ·have:=D0 _ _ _ (g3 x m) (g1 y m');rw[xH]at this;cases this
  subst e
  rw[wK g2 g4 fun z=>?_]
  constructor
  ·intro m
   rcases List.mem_cons.1 ((h z).1 (List.mem_cons_of_mem _ m))with e|m'
   ·subst e;have:=g1 z m;rw[xH]at this;cases this
   ·exact m'
  ·intro m
   rcases List.mem_cons.1 ((h z).2 (List.mem_cons_of_mem _ m))with e|m'
   ·subst e;have:=g3 z m;rw[xH]at this;cases this
   ·exact m'
theorem ug (out:List aF) : ∀ (l:List aF) (c:aF) (a:Bool),
 let q:=mS out l c a
 (q.2=false↔a=false∧∀ x∈l,x∈out)∧(q.2=true→((a=true∧q.1=c)∨(q.1∈l∧q.1∉out))∧(a=true→bytesLess c q.1=false)∧∀ x∈l,x∉out→bytesLess x q.1=false)
 | [],c,a=>by
  simp only[mS]
  refine⟨by simp,fun h=>⟨.inl ⟨h,by trivial⟩,fun _=>xH c,fun x m=>(by cases m)⟩⟩
 | s::l,c,a=>by
  simp only[mS]
  by_cases h1:fe out s=true
  ·have m:=(iO _ _).1 h1
   simp only[h1,Bool.not_true,Bool.false_and,Bool.false_eq_true,if_false]
   obtain⟨k1,k2⟩:=ug out l c a
   refine⟨k1.trans ⟨fun h=>⟨h.1,fun x hx=>?_⟩,fun h=>⟨h.1,fun x hx=>h.2 x (List.mem_cons_of_mem _ hx)⟩⟩,fun h=>?_⟩
   ·rcases List.mem_cons.1 hx with rfl | hx
    ·exact m
    ·exact h.2 x hx
   ·obtain⟨g1,g2,g3⟩:=k2 h
    refine⟨g1.imp_right fun h=>⟨List.mem_cons_of_mem _ h.1,h.2⟩,g2,fun x hx hn=>?_⟩
    rcases List.mem_cons.1 hx with rfl|hx
    ·exact absurd m hn
    ·exact g3 x hx hn
  ·have m:s∉out:=fun m=>h1 ((iO _ _).2 m)
   have rm:fe out s=false:=by simpa using h1
   by_cases h2:(!a ||bytesLess s c)=true
   ·simp only [rm,h2,Bool.not_false,Bool.and_self,if_true]
    obtain⟨k1,k2⟩:=ug out l s true
    refine⟨⟨fun h=>absurd (k1.1 h).1 (by simp),fun h=>absurd (h.2 s List.mem_cons_self) m⟩,fun h=>?_⟩
    obtain⟨g1,g2,g3⟩:=k2 h
    have g4:=g2 rfl
    refine⟨.inr ?_,fun ha=>?_,fun x hx hn=>?_⟩
    ·rcases g1 with ⟨_,e⟩ | g1
     ·rw[e];exact⟨List.mem_cons_self,m⟩
     ·exact⟨List.mem_cons_of_mem _ g1.1,g1.2⟩
    ·have h3:bytesLess s c=true:=by simpa [ha]using h2
     cases hh:bytesLess c (mS out l s true).1
     ·rfl
     ·have:=D0 _ _ _ h3 hh;rw[g4]at this;cases this
    ·rcases List.mem_cons.1 hx with rfl | hx
     ·exact g4
     ·exact g3 x hx hn
   ·have tG:(!a || bytesLess s c)=false:=by simpa using h2
    have ha:a=true:=by cases a<;>simp_all
    have h3:bytesLess s c=false:=by cases a<;>simp_all
    simp only[rm,tG,Bool.not_false,Bool.and_false,Bool.false_eq_true,if_false]
    obtain⟨k1,k2⟩:=ug out l c a
    refine⟨⟨fun h=>absurd (k1.1 h).1 (by simp[ha]),fun h=>absurd h.1 (by simp[ha])⟩,fun h=>?_⟩
    obtain⟨g1,g2,g3⟩:=k2 h
    refine⟨g1.imp_right fun h=>⟨List.mem_cons_of_mem _ h.1,h.2⟩,g2,fun x hx hn=>?_⟩
    rcases List.mem_cons.1 hx with rfl|hx
    ·cases hh:bytesLess x (mS out l c a).1
     ·rfl
     ·have g4:=g2 ha
      rcases xI x c with e|e|e
      ·rw[h3]at e;cases e
      ·subst e;rw[g4]at hh;cases hh
      ·have:=D0 _ _ _ e hh;rw[g4]at this;cases this
    ·exact g3 x hx hn
theorem wL (l:List aF) : ∀ (n:Nat) (out:List aF),AR out→(∀ x∈out,x∈l)→(∀ x∈out,∀ y∈l,y∉out→bytesLess x y=true)→
 AR (o3 l n out)∧(∀ x∈o3 l n out,x∈l)∧(∀ x∈out,x∈o3 l n out)∧((∀ x∈l,x∈o3 l n out)∨(o3 l n out).length=out.length+n)
 | 0,out,h1,h2,h3=>⟨h1,h2,fun x m=>m, .inr rfl⟩
 | n+1,out,h1,h2,h3=>by
  simp only[o3,Qq]
  obtain⟨k1,k2⟩:=ug out l [] false
  cases hq:(mS out l [] false).2
  ·simp only [Bool.false_eq_true,if_false]
   obtain⟨g1,g2,g3,g4⟩:=wL l n out h1 h2 h3
   exact⟨g1,g2,g3, .inl fun x m=>g3 x ((k1.1 hq).2 x m)⟩
  ·simp only [if_true]
   obtain⟨g1,_,g3⟩:=k2 hq
   have g1:(mS out l [] false).1∈l∧(mS out l [] false).1∉out:=by
    rcases g1 with ⟨h,_⟩|g1
    ·cases h
    ·exact g1
   generalize (mS out l [] false).1=c at g1 g3
   obtain⟨r1,r2,r3,r4⟩:=wL l n (out++ [c])
    (by
     refine List.pairwise_append.2 ⟨h1,by simp,fun x hx y hy=>?_⟩
     have:y=c:=by simpa using hy
     subst this
     exact h3 x hx y g1.1 g1.2)
    (fun x hx=>by
     rcases List.mem_append.1 hx with hx|hx
     ·exact h2 x hx
     ·have:x=c:=by simpa using hx
      subst this;exact g1.1)
    (fun x hx y hy hn=>by
     have hyo:y∉out:=fun m=>hn (List.mem_append_left _ m)
     have hyc:y≠c:=fun e=>hn (List.mem_append_right _ (by simp[e]))
     rcases List.mem_append.1 hx with hx|hx
     ·exact h3 x hx y hy hyo
     ·have:x=c:=by simpa using hx
      subst this
      rcases xI x y with h|h|h
      ·exact h
      ·exact absurd h.symm hyc
      ·rw[g3 y hy hyo]at h;cases h)
   refine⟨r1,r2,fun x m=>r3 x (List.mem_append_left _ m),r4.imp_right fun h=>?_⟩
   rw[h];simp;omega
theorem vX : ∀ (a l:List aF),a.Nodup→(∀ x∈a,x∈l)→a.length≤l.length
 | [],l,_,_=>Nat.zero_le _
 |x::a,l,h,hm=>by
  obtain⟨h1,h2⟩:=List.nodup_cons.1 h
  have m:=hm x List.mem_cons_self
  have:=vX a (l.erase x) h2 fun y hy=>(List.mem_erase_of_ne (fun e=>h1 (by rw[← e];exact hy))).2 (hm y (List.mem_cons_of_mem _ hy))
  rw[List.length_erase_of_mem m]at this
  have:0<l.length:=List.length_pos_of_mem m
  simp only[List.length_cons];omega
theorem uh {l:List aF} (h:AR l):l.Nodup:=h.imp fun {a b} h e=>by subst e;rw[xH]at h;cases h
theorem lM (l:List aF):AR (jY l)∧∀ x,x∈jY l↔x∈l:=by
 obtain⟨h1,h2,h3,h4⟩:=wL l l.length [] List.Pairwise.nil (fun x m=>(by cases m)) (fun x m=>(by cases m))
 refine⟨h1,fun x=>⟨h2 x,fun m=>?_⟩⟩
 rcases h4 with h4|h4
 ·exact h4 x m
 ·refine Classical.byContradiction fun hn=> ?_
  have:=vX (x::o3 l l.length []) l (List.nodup_cons.2 ⟨hn,uh h1⟩) fun y hy=>by
   rcases List.mem_cons.1 hy with rfl|hy
   ·exact m
   ·exact h2 y hy
  simp only[List.length_cons,h4,List.length_nil]at this
  omega
theorem J8 (zs:List aF) (hs:zs.Pairwise fun a b=>bytesLess b a=false) : ∀ m,m≤zs.length→
 AR (Lib.compactUpTo zs.toArray m)∧(∀ x,x∈Lib.compactUpTo zs.toArray m↔x∈zs.take m):=by
 intro m
 induction m with
 |zero=>intro _;exact⟨by simp[Lib.compactUpTo,AR],fun x=>by simp[Lib.compactUpTo]⟩
 | succ m ih=>
  intro hm
  obtain⟨h1,h2⟩:=ih (by omega)
  have hz:zs[m]? = some zs[m]:=List.getElem?_eq_getElem (by omega)
  have e1:zs.toArray[m]! = zs[m]:=by simp[hm,Nat.lt_of_succ_le hm]
  have et:zs.take (m+1)=zs.take m++ [zs[m]]:=by rw[List.take_add_one,hz];rfl
  rw[Lib.compactUpTo_succ,e1,et]
  by_cases hk:Lib.keeps zs.toArray m=true
  ·rw [if_pos hk]
   refine⟨List.pairwise_append.2 ⟨h1,by simp,fun x hx y hy=>?_⟩,fun x=>by rw[List.mem_append,List.mem_append,h2]⟩
   have hy:y=zs[m]:=by simpa using hy
   subst hy
   have hx:=(h2 x).1 hx
   simp only[Lib.keeps,decide_eq_true_eq]at hk
   rcases hk with rfl|hk
   ·simp at hx
   ·have mR:m - 1<zs.length:=by omega
    have e2:zs.toArray[m - 1]! = zs[m - 1]:=by simp[mR]
    rw[e1,e2]at hk
    have h0:0<m:=by
     cases m with
     |zero=>simp at hx
     |succ m=>omega
    have hle : ∀ i j (hi:i<zs.length) (hj:j<zs.length),i<j→bytesLess zs[j] zs[i] = false:=fun i j hi hj UB=>List.pairwise_iff_getElem.1 hs i j hi hj UB
    have g1:bytesLess zs[m] zs[m - 1] = false:=hle (m - 1) m mR (by omega) (by omega)
    have g2:bytesLess zs[m - 1] zs[m] = true:=by
     rcases xI zs[m - 1] zs[m]with h|h|h
     ·exact h
     ·exact absurd h.symm hk
     ·rw[g1]at h;cases h
    obtain⟨i,hi,rfl⟩:=List.mem_iff_getElem.1 hx
    rw[List.length_take]at hi
    rw[List.getElem_take]
    by_cases nh:i=m - 1
    ·subst nh;exact g2
    ·have g3:=hle i (m - 1) (by omega) mR (by omega)
     rcases xI zs[i] zs[m - 1]with h|h|h
     ·exact D0 _ _ _ h g2
     ·rw[h];exact g2
     ·rw[g3]at h;cases h
  ·rw [if_neg hk]
   simp only[List.append_nil]
   refine⟨h1,fun x=>?_⟩
   rw[h2]
   simp only[Lib.keeps,decide_eq_true_eq,not_or,ne_eq,Decidable.not_not]at hk
   obtain⟨k1,k2⟩:=hk
   have mR:m - 1<zs.length:=by omega
   have e2:zs.toArray[m - 1]! = zs[m - 1]:=by simp[mR]
   rw[e1,e2]at k2
   simp only[List.mem_append,List.mem_singleton]
   constructor
   ·exact .inl
   ·rintro(h | rfl)
    ·exact h
    ·rw [k2]
     exact List.mem_iff_getElem.2 ⟨m - 1,by rw[List.length_take];omega,by rw[List.getElem_take]⟩
theorem FV (l:List aF):(lL l).Pairwise fun a b=>bytesLess b a=false:=by
 have h:=List.pairwise_mergeSort (le:=fun x y:aF=>decide (x≤y)) (fun a b c h1 h2=>?_) (fun a b=>?_) l
 ·refine h.imp fun {a b} h=> ?_
  rw[decide_eq_true_eq]at h
  show Go.Op.bytesLess b a=false
  rw[Go.Proofs.bytesLess_eq]
  simpa using h
 ·rw [decide_eq_true_eq]at h1 h2 ⊢
  exact List.le_trans h1 h2
 ·have:=List.le_total a b
  simpa using this
theorem AS (l:List aF):Lib.compact (lL l)=jY l:=by
 obtain⟨h1,h2⟩:=J8 (lL l) (FV l) (lL l).length (Nat.le_refl _)
 obtain⟨h3,h4⟩:=lM l
 refine wK h1 h3 fun x=>?_
 rw[h4]
 refine(h2 x).trans ?_
 rw[List.take_length]
 exact(List.mergeSort_perm _ _).mem_iff
set_option maxRecDepth 8000
open Go.Proofs
def lB:List Sm→List aF
 | []=> []
 |v::l=>if v.kind==4 then v.proc::lB l else lB l
theorem Cd : ∀ l:List Sm,(lB l).length≤l.length
 | []=>Nat.le_refl _
 |v::l=>by
  simp only[lB]
  have:=Cd l
  split<;>simp<;>omega
def Pc.calls (f:Pc):List aF:=jY (lB (Sm.cT f.body))
theorem AT {name:aF} : ∀ {l:List Pc} {k:Nat} {f:Pc},iF name l=some f→∃ j,l[j]? = some f∧kG (fun f:Pc=>f.name==name) (k:Int) l=((k+j:Nat):Int)
 | g::l,k,f,h=>by
  simp only[iF]at h
  cases e:(g.name==name)
  ·rw [e]at h
   simp only[Bool.false_eq_true,if_false]at h
   obtain⟨j,h1,h2⟩:=AT (k:=k+1) h
   refine⟨j+1,by simpa using h1, ?_⟩
   simp only[kG,e,Bool.false_eq_true,if_false]
   rw[show((k:Int)+1)=((k+1:Nat):Int)from rfl,h2]
   congr 1;omega
  ·rw [e]at h
   simp only[if_true,Option.some.injEq]at h
   exact⟨0,by simpa using h,by simp[kG,e]⟩
theorem XV {p:Pg} (h:p.iU) {name:aF} {f:Pc} (hf:p.find name=some f) (s:St):aG Tryz.prog tq [.dt (fl p) 0, .str name] s (.slice .shared 1 (f.calls.map encStr)) s:=by
 refine aG.pure ?_ (by simp[D.bI,D.ok,tv]) (by simp only[D.ok,Tag.ok,eQ];rfl) s
 obtain⟨rj,qX,qW⟩:=h.procs
 obtain⟨j,hj,qy⟩:=AT (k:=0) hf
 have qy:p.at name=((j:Nat):Int):=by unfold Pg.at;simpa using qy
 have xC:=fun s=>DM (p:=p) (by omega) name s
 rw[qy]at xC
 obtain⟨it,o9,xD⟩:=Tn hj (by omega)
 have abr:it.length≤900000:=by
  have e:=congrArg List.length o9
  obtain⟨a,b,e',_,_,e3,e4⟩:=(nj p).2 j f hj
  have e5:=oJ p
  have e6:=congrArg List.length e3
  rw[e4]at e5
  simp only[List.length_map,List.length_append]at e e5 e6
  omega
 unfold S0
 obtain⟨fn,zo,Cc⟩:=DE
 refine aG.intro ⟨fn,zo,Cc⟩ (Nat.le_of_ble_eq_true rfl) fun B hB=>?_
 generalize hQ:ph (⟨[],[]⟩:St).ah.length (⟨[],[]⟩:St).av.length _ _ (⟨[],[]⟩:St)=Q
 have⟨hD,hY,hZ,gA⟩:=bS
 refine Sem.mH ?_
 repeat' (first
 |simp only[go_sem,hD,hY,hZ,gA]
 |(with_reducible refine aE hQ ?_;exact bg))
 refine Sem.mH ?_
 repeat' (first
 |simp only[go_sem,hD,hY,hZ,gA]
 |(with_reducible refine aE hQ ?_;exact bg))
 refine Sem.mH ?_
 repeat' (first
 |simp only[go_sem,hD,hY,hZ,gA]
 |(with_reducible refine CU (xC _) ?_)
 |(with_reducible refine CU (xD _) ?_)
 |(with_reducible refine aE hQ ?_;exact bg))
 refine bq.wx 5 1 rfl ?_
 simp only[go_sem,hD,hY,hZ,gA]
 obtain⟨R,hR⟩ : ∃ R,R=lB (Sm.cT f.body):=⟨_,rfl⟩
 have hRl:R.length≤900000:=by rw[hR, ← o9];have:=Cd (it.map Im.s);rw[List.length_map]at this;omega
 refine fi 0 1 (bq.ind (ι:=List Im×Nat×List aF×Nat) (fun i=>it.drop i.2.1=i.1∧i.2.2.1++lB (i.1.map Im.s)=R∧i.2.2.2=i.2.2.1.length) (fun i=>i.1.length)
  (fun i=> [(5, .slice (.tok 0) 1 (i.2.2.1.map encStr)),(12, .slice .shared 17 (it.map dq)),(13, .int .i64 (it.length:Int)),(14, .int .i64 (i.2.1:Int))]) (fun i=>⟨[],[some i.2.2.2]⟩) ?_ (it,0,[],0) ⟨rfl,by rw[hR,o9];rfl,rfl⟩)
 rintro⟨rest,k,out,n⟩ ⟨h1,h2,h3⟩ IH
 dsimp only at h1 h2 h3
 subst h3
 have ju:out.length≤900000:=by have:=congrArg List.length h2;rw[List.length_append]at this;omega
 cases rest with
 | cons a rest=>
  obtain⟨hY,g2,hD,g4⟩:=drop_cons h1
  have cf:k<4611686018427387904:=by omega
  have hZ:(out.length+1)*17≤bH:=by unfold bH;omega
  simp only[List.map_cons,lB]at h2
  rcases Bool.eq_false_or_eq_true (a.s.kind==4)with c1|c1
  ·simp only [c1,if_true]at h2
   repeat' (first
 |simp only[go_sem,hD,hY,hZ,gA,c1]
 | (with_reducible refine aE hQ ?_;exact bg))
   refine fj 0 1 ?_ ?_ (IH (rest,k+1,out++ [a.s.proc],out.length+1) ⟨g2,by rw[← h2];simp,by simp⟩ (Nat.lt_succ_self _))
   ·(simp only[go_sem,hD,hY,hZ,gA,aJ cf,List.map_append,List.map_cons,List.map_nil,encStr];try exact cv)
   ·(simp only[go_sem,hD,hY,hZ,gA,aJ cf,List.map_append,List.map_cons,List.map_nil,encStr];try exact cv)
  ·simp only [c1,Bool.false_eq_true,if_false]at h2
   repeat' (first
 |simp only[go_sem,hD,hY,hZ,gA,c1]
 | (with_reducible refine aE hQ ?_;exact bg))
   refine fj 0 1 ?_ ?_ (IH (rest,k+1,out,_) ⟨g2,h2,rfl⟩ (Nat.lt_succ_self _))
   ·(simp only[go_sem,hD,hY,hZ,gA,aJ cf];try exact cv)
   ·(simp only[go_sem,hD,hY,hZ,gA,aJ cf];try exact cv)
 |nil=>
  have hD:=drop_nil h1
  simp only[List.map_nil,lB,List.append_nil]at h2
  subst h2
  have DY:(lL out).length=out.length:=List.length_mergeSort out
  repeat' (first
 |simp only[go_sem,hD,hY,hZ,gA]
 |(with_reducible refine aE hQ ?_;exact bg))
  refine Sem.seq (Sem.sort (k:=5) (t:=0) (l:=out) hB (by decide) (by decide) (by decide) rfl rfl (by omega) ?_)
  show Sem _ _ _ _ _ _ _
  refine Sem.seq (Sem.compact (k:=5) (t:=0) (l:=lL out) hB (by decide) rfl (by rw[DY];rfl) (by rw[DY];omega) ?_)
  rw[AS]
  have alA:f.calls=jY out:=by unfold Pc.calls;rw[hR]
  rw[alA]at hQ
  refine il (ac:= .ret) (Q:=Q) (tm:= [(32, .slice (.tok 0) 1 ((jY out).map encStr)),(4, .slice (.tok 0) 1 ((jY out).map encStr))]) (s:=⟨[],[some (jY out).length]⟩) ?_
  repeat' (first
 |simp only[go_sem,hD,hY,hZ,gA]
 |(with_reducible refine aE hQ ?_;exact bg))
theorem FW {name:aF} : ∀ {l:List Pc},name∈l.map (·.name)→∃ f,iF name l=some f
 | f::l,h=>by
  simp only[iF]
  cases e:(f.name==name)
  ·simp only [Bool.false_eq_true,if_false]
   refine FW ?_
   rcases List.mem_cons.1 h with h|h
   ·rw[h]at e;simp at e
   ·exact h
  ·exact⟨f,rfl⟩
theorem FX {p:Pg} {f:Pc} {procs:List aF} : ∀ {l:List Sm},AN p f procs l=none→∀ v∈l,v.known p f procs=true
 | v::l,h,w,m=>by
  simp only[AN]at h
  split at h
  ·rename_i e
   rcases List.mem_cons.1 m with rfl|m
   ·exact e
   ·exact FX h w m
  ·cases h
theorem FY {p:Pg} {procs:List aF} : ∀ {l:List Pc},((uY p procs l).1==0)=true→∀ f∈l,fv (p.globals++f.own)=false∧∀ v∈Sm.cT f.body,v.known p f procs=true
 | g::l,h,f,m=>by
  simp only[uY]at h
  split at h
  ·cases h
  ·rename_i e
   split at h
   ·cases h
   ·rename_i e2
    rcases List.mem_cons.1 m with rfl|m
    ·exact⟨by simpa using e,FX e2⟩
    ·exact FY h f m
theorem CQ {p:Pg} (h:(p.scope.1==0)=true):fv p.globals=false∧fv p.pn=false∧p.sR=false∧∀ f∈p.procs,fv (p.globals++f.own)=false∧∀ v∈Sm.cT f.body,v.known p f p.pn=true:=by
 unfold Pg.scope at h
 split at h
 ·split at h
  ·cases h
  ·rename_i e
   simp only[Bool.or_eq_true,not_or,Bool.not_eq_true]at e
   exact⟨e.1,e.2.1,e.2.2,FY h⟩
 ·cases h
theorem wM {x:aF} : ∀ {l:List Sm},x∈lB l↔∃ v∈l,v.kind=4∧v.proc=x
 | []=>by simp[lB]
 | v::l=>by
  simp only[lB]
  cases e:(v.kind==4)
  ·have:v.kind≠4:=by simpa using e
   simp[this,wM (l:=l)]
  ·have:v.kind=4:=by simpa using e
   simp only[if_true,List.mem_cons,wM (l:=l),exists_eq_or_imp,this,true_and]
   constructor
   ·rintro(h | h)
    ·exact .inl h.symm
    ·exact .inr h
   ·rintro(h | h)
    ·exact .inl h.symm
    ·exact .inr h
theorem Qt {f:Pc} {x:aF} : x∈f.calls↔∃ v∈Sm.cT f.body,v.kind=4∧v.proc=x:=by
 unfold Pc.calls;rw[(lM _).2,wM]
theorem Ce {p:Pg} (h:(p.scope.1==0)=true) {f:Pc} (hf:f∈p.procs) {x:aF} (m:x∈f.calls) : ∃ g,p.find x=some g:=by
 obtain⟨v,hv,h4,rfl⟩:=Qt.1 m
 have hk:=((CQ h).2.2.2 f hf).2 v hv
 simp only[Sm.known,h4,Bool.and_eq_true,Bool.or_eq_true]at hk
 rcases hk.2 with h|⟨_,h⟩
 ·simp at h
 ·exact FW ((iO _ _).1 h)
def D1 (p:Pg) (x:aF):List aF:=match p.find x with|some f=>f.calls|none=> []
def CS (out:List aF):List aF→List aF
 | []=>out
 |x::l=>CS (Bp out x) l
def vY (p:Pg):Nat→Nat→List aF→List aF
 | 0,_,out=>out
 |n+1,i,out=>match out[i]? with
  |some x=>vY p n (i+1) (CS out (D1 p x))
  |none=>out
def Pg.work (p:Pg) (name:aF):List aF:=vY p (p.procs.length+1) 0 [name]
def Good (p:Pg) (out:List aF):Prop:=out.Nodup∧∀ x∈out,∃ f,p.find x=some f
theorem Good.len {p:Pg} {out:List aF} (h:Good p out):out.length≤p.procs.length:=by
 have:=vX out p.pn h.1 fun x m=>by
  obtain⟨f,hf⟩:=h.2 x m
  obtain⟨h1,h2⟩:=rN hf
  rw[← h2];exact List.mem_map_of_mem h1
 simpa[Pg.pn]using this
theorem Good.spk {p:Pg} {out:List aF} (h:Good p out) {x:aF} (hx : ∃ f,p.find x=some f):Good p (Bp out x):=by
 unfold Bp
 split
 ·exact h
 ·rename_i e
  have:x∉out:=fun m=>e ((iO _ _).2 m)
  refine⟨List.nodup_append.2 ⟨h.1,by simp,fun a ha b hb e'=>?_⟩,fun y hy=>?_⟩
  ·have hbx:b=x:=by simpa using hb
   rw[e',hbx]at ha;exact this ha
  ·rcases List.mem_append.1 hy with hy | hy
   ·exact h.2 y hy
   ·have:y=x:=by simpa using hy
    subst this;exact hx
theorem Good.add {p:Pg} : ∀ {l out:List aF},Good p out→(∀ x∈l,∃ f,p.find x=some f)→Good p (CS out l)
 | [],out,h,_=>h
 |x::l,out,h,hx=>Good.add (l:=l) (out:=Bp out x) (Good.spk h (hx x List.mem_cons_self)) fun y m=>hx y (List.mem_cons_of_mem _ m)
def tgB:Bool→Tag
 |true=> .tok 0
 |false=> .full
def tkB:Bool→Nat→List (Option Nat)
 |true,n=> [some n]
 |false,_=> []
def yy:AI→AI
 | .op d g (.du z k n ps)=> .op d g (.uu z k n ps)
 |a=>a
section
variable {P:Program}
theorem J9 {nt:Nat} {ops:Array Oper} {i:Nat} {o:Oper} {ai:AI} (hi:ops[i]? = some o) (hc:cI P nt ops o=some ai)
 {M:Map} {s:St} {w:World} {tm:Tm} {act:Act} (r:Rel M s w) (kh:Laid M s w) (ht:lE M s tm act.tmps) {K':Tm→St→Prop} (h:iI P [yy ai] K' tm s)
 {K:Act→World→Prop} {Q:Exit→Act→World→Prop}
 (hK : ∀ d v s1 w1 M1,K' (tm.put ai.dst d) s1→Ext M s w M1 s1 w1→Rel M1 s1 w1→RD M1 s1 d v→K (act.put o.dst v) w1):wpOp P ops Q i K act w:=by
 by_cases hb : ∃ d g z k n ps,ai = .op d g (.du z k n ps)
 ·obtain⟨d0,g0,z,k,n,ps,rfl⟩:=hb
  obtain⟨g,hg,_,hb⟩:=Ah hc
  rw[sE hb]at hK
  simp only[wpOp,hi]
  have skip:K' (tm.put o.dst (.tuple [])) s→K (act.put o.dst Go.undef) w:=fun hk=>hK _ _ _ _ _ hk (Ext.refl M s w) r .undef
  have hd:=sE hb
  simp only[AI.dst]at hd
  subst hd
  have nJ:Dd P o=some (.du z k n ps)∧g0=g:=by
   unfold rS at hb
   split at hb
   ·split at hb
    ·obtain⟨xs,_,h⟩:=map_some hb;cases h
    ·cases hb
   ·obtain⟨xs,_,h⟩:=map_some hb;cases h
   ·split at hb
    ·cases hb
    ·split at hb
     ·rename_i nJ
      simp only[Option.some.injEq,AI.op.injEq,true_and]at hb
      obtain⟨h1,h2⟩:=hb
      split at h2
      ·cases h2
      ·cases h2;exact⟨nJ,h1.symm⟩
     ·rename_i ao eK nJ
      simp only[Option.some.injEq,AI.op.injEq,true_and]at hb
      obtain⟨h1,h2⟩:=hb
      subst h2
      exact⟨nJ,h1.symm⟩
     ·cases hb
  obtain⟨nJ,rfl⟩:=nJ
  simp only[yy,iI]at h
  rcases jU hg ht h with ⟨hw,hA⟩|⟨hw,hB⟩
  ·simp only [hw,if_true]
   left
   split at hA
   ·rename_i d s' qe
    obtain⟨v,w',M',dC,r',hv,e'⟩:=x7 nJ r ht qe
    unfold Oper.wp
    rcases dC with dC|⟨dC,rfl⟩
    ·rw [dC,Oper.upon_value]
     exact hK _ _ _ _ _ hA e' r' hv
    ·rw [dC,Oper.upon_skip]
     exact hK _ _ _ _ _ hA e' r' hv
   ·exact hA.elim
  ·simp only [hw]
   exact skip hB
 ·have hs:yy ai=ai:=by
   unfold yy
   split
   ·rename_i d g z k n ps;exact absurd ⟨d,g,z,k,n,ps,rfl⟩ hb
   ·rfl
  rw[hs]at h
  exact wu hi hc r kh ht h hK
theorem XW {a:AI} {r:List AI} {K:Tm→St→Prop} {tm:Tm} {s:St} (h:iI P (a::r) K tm s):iI P [a] (iI P r K) tm s:=by
 cases a<;>exact h
theorem FZ {B:fM} {nt:Nat} {ops:Array Oper} {Q:Exit→Tm→St→Prop} : ∀ (l:List Nat) (ol:List Oper) (is:List AI),l.map (ops[·]?)=ol.map some→qo P nt ops ol=some is→
 ∀ (tm:Tm) (s:St) (act:Act) (w:World),iI P (is.map yy) (Q .normal) tm s→Holds B nt tm s act w→wpOps P ops (pe B nt Q) l act w
 | [],[],is,_,hc,tm,s,act,w,h,hh=>by cases hc;exact⟨tm,s,h,hh⟩
 | [],_::_,_,hl,_,_,_,_,_,_,_=>by simp at hl
 |_::_,[],_,hl,_,_,_,_,_,_,_=>by simp at hl
 | i::l,o::ol,is,hl,hc,tm,s,act,w,h,hh=>by
  simp only[List.map_cons,List.cons.injEq]at hl
  obtain⟨hi,hl⟩:=hl
  unfold qo at hc
  split at hc
  ·rename_i ai ON h1 h2
   cases hc
   obtain⟨M,e,r,ht,hn,hd⟩:=hh
   have pY:=xf h1
   have hdd:=sF h1
   rw[List.map_cons]at h
   have key:=J9 (K:=fun act w=>wpOps P ops (pe B nt Q) l act w) (Q:=pe B nt Q) hi h1 r (B.laid.ext e) ht (XW h) (fun d v s1 w1 M1 hk e1 r1 hv=>
    FZ (Q:=Q) l ol ON hl h2 _ _ _ _ hk (hdd ▸ Holds.put e ht hn hd pY e1 r1 hv))
   simpa only[wpOps,wpOp,hi]using key
  ·cases hc
theorem Sem.swap {B:fM} {nt:Nat} {is:List AI} {Q:Exit→Tm→St→Prop} {tm:Tm} {s:St} (h:jQ P B nt (.run (is.map yy)) Q tm s):Sem P B nt (.run is) Q tm s:=by
 intro c hc act w hh
 obtain⟨id,ops,rfl,hi⟩:=lb hc
 refine wp_region ?_
 exact FZ _ _ is (Ae ops) hi tm s act w (nR h) hh
end
end Go.Abs
namespace Go.Abs
set_option maxRecDepth 8000
open Go.Proofs
theorem ND {l:List aF} (h:l.Nodup):lL l=jY l:=by
 refine wK ?_ (lM l).1 fun x=>?_
 ·have h1:=FV l
  have h2:(lL l).Nodup:=(List.mergeSort_perm l _).nodup_iff.2 h
  refine(List.pairwise_and_iff.2 ⟨h1,h2⟩).imp fun {a b} VW=>?_
  rcases xI a b with e|e|e
  ·exact e
  ·exact absurd e VW.2
  ·rw[VW.1]at e;cases e
 ·rw[(lM l).2];exact(List.mergeSort_perm l _).mem_iff
theorem AU {p:Pg} (nn:(p.scope.1==0)=true) : ∀ (n i:Nat) (out:List aF),Good p out→Good p (vY p n i out)
 | 0,i,out,h=>h
 | n+1,i,out,h=>by
  simp only[vY]
  split
  ·rename_i x hx
   obtain⟨g,hg⟩:=h.2 x (List.mem_of_getElem? hx)
   refine AU nn n _ _ (h.add fun y m=>?_)
   unfold D1 at m
   rw[hg]at m
   exact Ce nn (rN hg).1 m
  ·exact h
theorem CT {p:Pg} {name:aF} {f:Pc} (hf:p.find name=some f):Good p [name]:=
 ⟨by simp,fun x m=>by
  have:x=name:=by simpa using m
  subst this;exact⟨f,hf⟩⟩
theorem XX {p:Pg} (h:p.iU) (nn:(p.scope.1==0)=true) {name:aF} {f:Pc} (hf:p.find name=some f) (s:St):aG Tryz.prog wF [.dt (fl p) 0, .str name] s (.slice .shared 1 ((jY (p.work name)).map encStr)) s:=by
 refine aG.pure ?_ (by simp[D.bI,D.ok,tv]) (by simp only[D.ok,Tag.ok,eQ];rfl) s
 obtain⟨rj,qX,qW⟩:=h.procs
 obtain⟨R,hR⟩ : ∃ R,p.work name=R:=⟨_,rfl⟩
 have hgR:Good p R:=hR ▸ AU nn _ _ _ (CT hf)
 rw[hR, ← ND hgR.1]
 unfold Pg.work at hR
 have hg0:Good p [name]:=CT hf
 have hRl:=hgR.len
 unfold S0
 obtain⟨fn,zo,Cc⟩:=Gt
 refine aG.intro ⟨fn,zo,Cc⟩ (Nat.le_of_ble_eq_true rfl) fun B hB=>?_
 generalize hQ:ph (⟨[],[]⟩:St).ah.length (⟨[],[]⟩:St).av.length _ _ (⟨[],[]⟩:St)=Q
 have⟨hD,hY,hZ,gA⟩:=bS
 refine Sem.mH ?_
 repeat' (first
 |simp only[go_sem,hD,hY,hZ,gA]
 |(with_reducible first|refine bm fun hc=>?_|refine bn fun hc=>?_|refine bo (fun hc=>?_) fun hc=>?_)<;>(try simp only[hc,bs,↓reduceIte]at h)<;>try simp only[hc]
 |(with_reducible refine aE hQ ?_;exact fV)
 |(cases h;done))
 refine Sem.seq (Sem.swap ?_)
 simp only[List.map_cons,List.map_nil,yy]
 repeat' (first
 |simp only[go_sem,hD,hY,hZ,gA]
 |(with_reducible first|refine bm fun hc=>?_|refine bn fun hc=>?_|refine bo (fun hc=>?_) fun hc=>?_)<;>(try simp only[hc,bs,↓reduceIte]at h)<;>try simp only[hc]
 |(with_reducible refine aE hQ ?_;exact fV)
 |(cases h;done))
 refine Sem.mH ?_
 repeat' (first
 |simp only[go_sem,hD,hY,hZ,gA]
 |(with_reducible first|refine bm fun hc=>?_|refine bn fun hc=>?_|refine bo (fun hc=>?_) fun hc=>?_)<;>(try simp only[hc,bs,↓reduceIte]at h)<;>try simp only[hc]
 |(with_reducible refine aE hQ ?_;exact fV)
 |(cases h;done))
 refine fi 0 1 (bq.ind (ι:=Nat×Nat×List aF×Nat) (fun i=>vY p i.1 i.2.1 i.2.2.1=R∧Good p i.2.2.1∧i.1+i.2.1=p.procs.length+1∧i.2.2.2=i.2.2.1.length) (fun i=>i.1)
  (fun i=> [(0, .dt (fl p) 0),(5, .slice (.tok 0) 1 (i.2.2.1.map encStr)),(6, .int .i64 (i.2.1:Int))]) (fun i=>⟨[],[some i.2.2.2]⟩) ?_ (p.procs.length+1,0,[name],1) ⟨hR,hg0,rfl,rfl⟩)
 rintro⟨n,i,out,no⟩ ⟨h1,h2,h3,h4⟩ IH
 dsimp only at h1 h2 h3 h4
 subst h4
 have ju:=h2.len
 cases hx:out[i]? with
 | none=>
  have hD:decide ((i:Int)<(out.length:Int))=false:=by have:=List.getElem?_eq_none_iff.1 hx;simp;omega
  have:R=out:=by
   cases n with
   |zero=>simpa[vY]using h1.symm
   |succ n=>simp only[vY,hx]at h1;exact h1.symm
  subst this
  repeat' (first
 |simp only[go_sem,hD,hY,hZ,gA]
 |(with_reducible first|refine bm fun hc=>?_|refine bn fun hc=>?_|refine bo (fun hc=>?_) fun hc=>?_)<;>(try simp only[hc,bs,↓reduceIte]at h)<;>try simp only[hc]
 |(with_reducible refine aE hQ ?_;exact fV)
 |(cases h;done))
  refine Sem.seq (Sem.sort (k:=5) (t:=0) (l:=R) hB (by decide) (by decide) (by decide) rfl rfl (by omega) ?_)
  refine il (ac:=aa3) (Q:=Q) (tm:= [(5, .slice (.tok 0) 1 ((lL R).map encStr))]) (s:=⟨[],[some R.length]⟩) ?_
  repeat' (first
 |simp only[go_sem,hD,hY,hZ,gA]
 |(with_reducible first|refine bm fun hc=>?_|refine bn fun hc=>?_|refine bo (fun hc=>?_) fun hc=>?_)<;>(try simp only[hc,bs,↓reduceIte]at h)<;>try simp only[hc]
 |(with_reducible refine aE hQ ?_;exact fV)
 |(cases h;done))
 |some x=>
  have qf:=(List.getElem?_eq_some_iff.1 hx).1
  have hD:decide ((i:Int)<(out.length:Int))=true:=by simp;omega
  have nh:i<4611686018427387904:=by omega
  cases n with
  |zero=>omega
  |succ n=>
  simp only[vY,hx]at h1
  obtain⟨g,IP⟩:=h2.2 x (List.mem_of_getElem? hx)
  have Qu:=(rN IP).1
  have V5:=fun s=>XV h IP s
  have hcn:D1 p x=g.calls:=by unfold D1;rw[IP]
  rw[hcn]at h1
  have hth : ∀ y∈g.calls,∃ f,p.find y=some f:=fun y m=>Ce nn Qu m
  have atO:g.calls.length≤p.procs.length:=Good.len ⟨uh (lM _).1,hth⟩
  obtain⟨W,hW⟩ : ∃ W,CS out g.calls=W:=⟨_,rfl⟩
  rw[hW]at h1
  repeat' (first
 |simp only[go_sem,hD,hY,hZ,gA,hx]
 |(with_reducible refine CU (V5 _) ?_)
 |(with_reducible first|refine bm fun hc=>?_|refine bn fun hc=>?_|refine bo (fun hc=>?_) fun hc=>?_)<;>(try simp only[hc,bs,↓reduceIte]at h)<;>try simp only[hc]
 |(with_reducible refine aE hQ ?_;(try cases h);simp only[aR,aS,bC,bD,go_sem,hD,hY,hZ,gA,hx];try exact cb)
 | (cases h;done))
  refine fi 0 1 (bq.ind (ι:=List aF×Nat×List aF×Nat) (fun j=>g.calls.drop j.2.1=j.1∧CS j.2.2.1 j.1=W∧Good p j.2.2.1∧j.2.2.2=j.2.2.1.length) (fun j=>j.1.length)
   (fun j=> [(0, .dt (fl p) 0),(5, .slice (.tok 0) 1 (j.2.2.1.map encStr)),(6, .int .i64 (i:Int)),(22, .slice .shared 1 (g.calls.map encStr)),(23, .int .i64 (g.calls.length:Int)),(24, .int .i64 (j.2.1:Int))]) (fun j=>⟨[],[some j.2.2.2]⟩) ?_ (g.calls,0,out,out.length) ⟨rfl,hW,h2,rfl⟩)
  clear hW
  rintro⟨rest,k,ct,n'⟩ ⟨j1,j2,j3,j4⟩ V1
  dsimp only at j1 j2 j3 j4
  subst j4
  have atP:=j3.len
  cases rest with
  |nil=>
   have abB:=drop_nil j1
   simp only[CS]at j2
   subst j2
   repeat' (first
 |simp only[go_sem,hD,hY,hZ,gA,abB]
 |(with_reducible first|refine bm fun hc=>?_|refine bn fun hc=>?_|refine bo (fun hc=>?_) fun hc=>?_)<;>(try simp only[hc,bs,↓reduceIte]at h)<;>try simp only[hc]
 |(with_reducible refine aE hQ ?_;(try cases h);simp only[aR,aS,bC,bD,go_sem,hD,hY,hZ,gA,abB];try exact cb)
 | (cases h;done))
   refine fj 0 1 ?_ ?_ (IH (n,i+1,ct,ct.length) ⟨h1,j3,by dsimp only;omega,rfl⟩ (Nat.lt_succ_self _))
   ·(simp only[go_sem,hD,hY,hZ,gA,aJ nh];try exact cv)
   ·(simp only[go_sem,hD,hY,hZ,gA,aJ nh];try exact cv)
  | cons y rest=>
   obtain⟨oM,KH,xE,jg4⟩:=drop_cons j1
   have xF:k<4611686018427387904:=by omega
   have hZ:(ct.length+1)*17≤bH:=by unfold bH;omega
   have F0:=fun g s=>ji (l:=ct) (by omega) y g s
   have hy:=hth y (List.mem_of_getElem? oM)
   have B5:=j3.spk hy
   simp only[CS]at j2
   rcases Bool.eq_false_or_eq_true (fe ct y)with c1|c1
   ·simp only [Bp,c1,if_true]at j2
    repeat' (first
 |simp only[go_sem,hD,hY,hZ,gA,xE,oM,c1]
 |(with_reducible refine CU (F0 _ _) ?_)
 |(with_reducible first|refine bm fun hc=>?_|refine bn fun hc=>?_|refine bo (fun hc=>?_) fun hc=>?_)<;>(try simp only[hc,bs,↓reduceIte]at h)<;>try simp only[hc]
 |(with_reducible refine aE hQ ?_;(try cases h);simp only[aR,aS,bC,bD,go_sem,hD,hY,hZ,gA,xE,oM,c1];try exact cb)
 | (cases h;done))
    refine fj 0 1 ?_ ?_ (V1 (rest,k+1,ct,ct.length) ⟨KH,j2,j3,rfl⟩ (Nat.lt_succ_self _))
    ·(simp only[go_sem,hD,hY,hZ,gA,aJ xF];try exact cv)
    ·(simp only[go_sem,hD,hY,hZ,gA,aJ xF];try exact cv)
   ·simp only [Bp,c1,Bool.false_eq_true,if_false]at j2 B5
    repeat' (first
 |simp only[go_sem,hD,hY,hZ,gA,xE,oM,c1]
 |(with_reducible refine CU (F0 _ _) ?_)
 |(with_reducible first|refine bm fun hc=>?_|refine bn fun hc=>?_|refine bo (fun hc=>?_) fun hc=>?_)<;>(try simp only[hc,bs,↓reduceIte]at h)<;>try simp only[hc]
 |(with_reducible refine aE hQ ?_;(try cases h);simp only[aR,aS,bC,bD,go_sem,hD,hY,hZ,gA,xE,oM,c1];try exact cb)
 | (cases h;done))
    refine fj 0 1 ?_ ?_ (V1 (rest,k+1,ct++ [y],ct.length+1) ⟨KH,j2,B5,by simp⟩ (Nat.lt_succ_self _))
    ·(simp only[go_sem,hD,hY,hZ,gA,aJ xF,List.map_append,List.map_cons,List.map_nil,encStr];try exact cv)
    ·(simp only[go_sem,hD,hY,hZ,gA,aJ xF,List.map_append,List.map_cons,List.map_nil,encStr];try exact cv)
theorem IQ (name:aF) : ∀ l:List Pc,l.any (fun f=>f.name==name)=(iF name l).isSome
 | []=>rfl
 |f::l=>by
  simp only[List.any_cons,iF]
  cases e:(f.name==name)
  ·simp[IQ name l]
  ·simp
theorem TI (name:aF) (f:Pc):aG Tryz.prog oi ([.agg (cj f)]++ [.ptr 0 0]) ⟨[[.str name]],[]⟩ (.bool (f.name==name)) ⟨[[.str name]],[]⟩:=by
 show aG Tryz.prog oi [.agg (cj f), .ptr 0 0] _ _ _
 refine aG.go BK rfl fun B Q hB hQ=>?_
 have⟨hD,hY,hZ,gA⟩:=bS
 repeat' (first
 |simp only[go_sem,hD,hY,hZ,gA]
 |(with_reducible refine aE hQ ?_;exact bg))
def Pg.yz (p:Pg) (name:aF):Option Pc:=if p.scope.1==0 then p.find name else none
theorem TJ {p:Pg} (h:p.iU) (name:aF) (s:St):aG Tryz.prog tn [.agg (cG p), .str name] s (.bool (p.yz name).isSome) s:=by
 refine aG.pure ?_ (by simp[D.bI,D.ok,kp]) rfl s
 obtain⟨rj,qX,qW⟩:=h.procs
 have o5:=fun s=>uZ h s
 have hi:=fun {s:St} {o:Nat} (ho:s.ah[o]? = some [.str name])=>Az (zz (l:=p.procs) (f:=oi) (row:= [.str name]) (b:=fun f:Pc=>f.name==name) (by omega) rfl (by with_unfolding_all rfl) (fun x _=>TI name x)) rfl (vG _) rfl ho
 have gI:=fun {s:St} {o:Nat} (ho:s.ah[o]? = some [.str name])=>(show aG Tryz.prog gC [.slice .shared 5 (p.procs.map cj), .fS 191 [.ptr o 0]] s (.bool (p.procs.any fun f:Pc=>f.name==name)) s from hi ho)
 simp only[IQ]at gI
 unfold Pg.yz Pg.find
 unfold S0
 rcases Bool.eq_false_or_eq_true (p.scope.1==0)with b1|b1
 ·simp only [b1,if_true]
  refine aG.go vO rfl fun B Q hB hQ=>?_
  have⟨hD,hY,hZ,gA⟩:=bS
  repeat' (first
 |simp only[go_sem,hD,hY,hZ,gA,b1]
 |(with_reducible refine CU (o5 _) ?_)
 |(with_reducible refine CU (gI (by with_unfolding_all rfl)) ?_)
 |(with_reducible refine aE hQ ?_;exact bg))
 ·simp only [b1,Bool.false_eq_true,if_false,Option.isSome_none]
  refine aG.go vO rfl fun B Q hB hQ=>?_
  have⟨hD,hY,hZ,gA⟩:=bS
  repeat' (first
 |simp only[go_sem,hD,hY,hZ,gA,b1]
 |(with_reducible refine CU (o5 _) ?_)
 |(with_reducible refine CU (gI (by with_unfolding_all rfl)) ?_)
 |(with_reducible refine aE hQ ?_;exact bg))
def Pg.asD (p:Pg) (name:aF):List aF:=match p.yz name with|some f=>f.calls|none=> []
def Pg.alB (p:Pg) (name:aF):List aF:=match p.yz name with|some _=>jY (p.work name)|none=> []
theorem F1 {p:Pg} {name:aF} {f:Pc} (h:p.yz name=some f):(p.scope.1==0)=true∧p.find name=some f:=by
 unfold Pg.yz at h
 split at h
 ·exact⟨by assumption,h⟩
 ·cases h
def si (p:Pg) (out:List aF):List aF→List aF
 | []=>out
 |v::l=>si p (if fe p.globals v then out++ [v]else out) l
def sj (p:Pg) (out:List aF):List Sm→List aF
 | []=>out
 |v::l=>sj p (si p out v.said) l
def sS (p:Pg) (n:aF):List Sm:=match p.find n with|some f=>Sm.cT f.body|none=> []
def ui (p:Pg) (out:List aF):List aF→List aF
 | []=>out
 |n::l=>ui p (sj p out (sS p n)) l
theorem yA (p:Pg) : ∀ (l out:List aF),out.length≤(si p out l).length∧(si p out l).length≤out.length+l.length
 | [],out=>⟨Nat.le_refl _,Nat.le_refl _⟩
 |v::l,out=>by
  simp only[si]
  have h:=yA p l (if fe p.globals v then out++ [v]else out)
  have h2:out.length≤(if fe p.globals v then out++ [v]else out).length∧(if fe p.globals v then out++ [v]else out).length≤out.length+1:=by split<;>simp
  simp only[List.length_cons]
  omega
def oj:List Sm→Nat
 | []=>0
 |v::l=>v.said.length+oj l
theorem AV : ∀ a b:List Sm,oj (a++b)=oj a+oj b
 | [],b=>by simp[oj]
 |v::a,b=>by simp only[List.cons_append,oj,AV a b];omega
theorem XY (v:Sm):v.said.length≤1+v.x.size+2*Ar.a8 v.args:=by
 have : ∀ (l:List Ar) (out:List aF),(Ar.said out l).length≤out.length+2*Ar.a8 l:=by
  intro l
  induction l with
  |nil=>intro out;simp[Ar.said]
  |cons a l ih=>
   intro out
   simp only[Ar.said,Ar.a8]
   refine Nat.le_trans (ih _) ?_
   have:=kP a.x
   have:1≤a.x.size:=by obtain⟨_,_,_,_⟩:=a.x;simp[Ex.size]
   simp only[List.length_append]
   split<;>simp<;>omega
 have h1:=this v.args (v.sh++v.x.names)
 have h2:=kP v.x
 have h4:v.sh.length≤1:=by unfold Sm.sh;split<;>simp
 simp only[List.length_append]at h1
 unfold Sm.said
 omega
mutual
theorem Qv : ∀ s:Sm,oj s.pre≤2*s.size
 |⟨id,kind,labels,name,proc,x,has,args,aY,aW⟩=>by
  simp only[Sm.pre,oj,AV,Sm.size]
  have h1:=XY ⟨id,kind,labels,name,proc,x,has,args,aY,aW⟩
  have h2:=uj aY
  have h3:=uj aW
  dsimp only at h1
  omega
theorem uj : ∀ l:List Sm,oj (Sm.cT l)≤2*Sm.a8 l
 | []=>by simp[Sm.cT,oj,Sm.a8]
 |s::l=>by
  simp only[Sm.cT,AV,Sm.a8]
  have:=Qv s;have:=uj l;omega
end
theorem yB (p:Pg) : ∀ (l:List Sm) (out:List aF),out.length≤(sj p out l).length∧(sj p out l).length≤out.length+oj l
 | [],out=>⟨Nat.le_refl _,Nat.le_refl _⟩
 |v::l,out=>by
  simp only[sj,oj]
  have h:=yB p l (si p out v.said)
  have h2:=yA p v.said out
  omega
theorem yC {p:Pg} (h:p.iU) : ∀ (l out:List aF),out.length≤(ui p out l).length∧(ui p out l).length≤out.length+l.length*1800000
 | [],out=>⟨Nat.le_refl _,by simp[ui]⟩
 | n::l,out=>by
  simp only[ui]
  have h1:=yC h l (sj p out (sS p n))
  have h2:=yB p (sS p n) out
  have h3:oj (sS p n)≤1800000:=by
   unfold sS
   split
   ·rename_i f hf
    have:=uj f.body
    have h4:=Pc.dr (rN hf).1
    have h5:=h.procs.2.1
    simp only[Pc.size]at h4
    omega
   ·simp[oj]
  simp only[List.length_cons]
  omega
theorem Qw {p:Pg} (h:p.may=true):p.procs.length≤16:=by
 unfold Pg.may at h
 split at h
 ·cases h
 ·rename_i c
  simp only[Bool.or_eq_true,decide_eq_true_eq,not_or,Int.not_lt,gt_iff_lt]at c
  have:=c.1.2
  omega
def Pg.rO (p:Pg) (name:aF):List aF:=ui p [] (jY (p.work name))
def Pg.pL (p:Pg) (name:aF):List aF:=match p.yz name with|some _=>jY (p.rO name)|none=> []
theorem IS {p:Pg} (nn:(p.scope.1==0)=true) {name:aF} {f:Pc} (hf:p.find name=some f):Good p (jY (p.work name)):=by
 have h:=AU nn (p.procs.length+1) 0 [name] (CT hf)
 refine⟨uh (lM _).1,fun x m=>h.2 x ?_⟩
 exact((lM _).2 x).1 m
theorem Qx {p:Pg} (h:p.iU) (name:aF) (s:St):aG Tryz.prog qM [.agg (cG p), .str name] s (.slice .shared 1 ((p.pL name).map encStr)) s:=by
 refine aG.pure ?_ (by simp[D.bI,D.ok,kp]) (by simp only[D.ok,Tag.ok,eQ];rfl) s
 have hk:=fun s=>TJ h name s
 have da:=fun s=>Bm (p:=p) (by have:=h.procs;omega) s
 unfold Pg.pL
 unfold S0
 cases TK:p.yz name with
 |none=>
  simp only[TK,Option.isSome_none]at hk
  simp only[List.map_nil]
  refine aG.go tO rfl fun B Q hB hQ=>?_
  have⟨hD,hY,hZ,gA⟩:=bS
  repeat' (first
 |simp only[go_sem,hD,hY,hZ,gA]
 |(with_reducible refine CU (hk _) ?_)
 |(with_reducible refine aE hQ ?_;exact bg))
 |some f=>
 obtain⟨nn,hf⟩:=F1 TK
 simp only[TK,Option.isSome_some]at hk
 dsimp only
 obtain⟨rj,qX,qW⟩:=h.procs
 have hN:=IS nn hf
 obtain⟨N,hNe⟩ : ∃ N,jY (p.work name)=N:=⟨_,rfl⟩
 rw[hNe]at hN
 have hNl:=hN.len
 obtain⟨R,hR⟩ : ∃ R,p.rO name=R:=⟨_,rfl⟩
 rw[hR]
 unfold Pg.rO at hR
 rw[hNe]at hR
 have hRl:R.length≤28800000:=by
  have:=(yC h N []).2
  rw[hR]at this
  have h4:=Qw (AP nn)
  have h3:N.length*1800000≤16*1800000:=Nat.mul_le_mul_right _ (by omega)
  simp only[List.length_nil]at this
  omega
 have V5:=fun s=>XX h nn hf s
 simp only[hNe]at V5
 obtain⟨fn,zo,Cc⟩:=tO
 refine aG.intro ⟨fn,zo,Cc⟩ (Nat.le_of_ble_eq_true rfl) fun B hB=>?_
 generalize hQ:ph (⟨[],[]⟩:St).ah.length (⟨[],[]⟩:St).av.length _ _ (⟨[],[]⟩:St)=Q
 have⟨hD,hY,hZ,gA⟩:=bS
 refine Sem.mH ?_
 repeat' (first
 |simp only[go_sem,hD,hY,hZ,gA]
 |(with_reducible refine aE hQ ?_;exact bg))
 refine Sem.mH ?_
 repeat' (first
 |simp only[go_sem,hD,hY,hZ,gA]
 |(with_reducible refine CU (hk _) ?_)
 |(with_reducible refine aE hQ ?_;exact bg))
 refine Sem.mH ?_
 repeat' (first
 |simp only[go_sem,hD,hY,hZ,gA]
 |(with_reducible refine CU (da _) ?_)
 |(with_reducible refine aE hQ ?_;exact bg))
 refine Sem.mH ?_
 repeat' (first
 |simp only[go_sem,hD,hY,hZ,gA]
 |(with_reducible refine aE hQ ?_;exact bg))
 refine Sem.mH ?_
 repeat' (first
 |simp only[go_sem,hD,hY,hZ,gA]
 |(with_reducible refine CU (V5 _) ?_)
 |(with_reducible refine aE hQ ?_;exact bg))
 refine bq.wx 6 1 rfl ?_
 simp only[go_sem,hD,hY,hZ,gA]
 refine fi 1 1 (bq.ind (ι:=List aF×Nat×List aF×Nat) (fun i=>N.drop i.2.1=i.1∧ui p i.2.2.1 i.1=R∧i.2.2.1.length≤R.length∧i.2.2.2=i.2.2.1.length) (fun i=>i.1.length)
  (fun i=> [(2, .ptr 0 0),(5, .dt (fl p) 0),(6, .slice (.tok 0) 1 (i.2.2.1.map encStr)),(21, .slice .shared 1 (N.map encStr)),(22, .int .i64 (N.length:Int)),(23, .int .i64 (i.2.1:Int))]) (fun i=>⟨[cG p],[some i.2.2.2]⟩) ?_ (N,0,[],0) ⟨rfl,hR,Nat.zero_le _,rfl⟩)
 rintro⟨rest,k,out,no⟩ ⟨h1,h2,h3,h4⟩ IH
 dsimp only at h1 h2 h3 h4
 subst h4
 cases rest with
 |nil=>
  have hD:=drop_nil h1
  simp only[ui]at h2
  subst h2
  have DY:(lL out).length=out.length:=List.length_mergeSort out
  repeat' (first
 |simp only[go_sem,hD,hY,hZ,gA]
 |(with_reducible refine aE hQ ?_;exact bg))
  refine Sem.seq (Sem.sort (k:=6) (t:=0) (l:=out) hB (by decide) (by decide) (by decide) rfl rfl (by omega) ?_)
  refine Sem.seq (Sem.compact (k:=6) (t:=0) (l:=lL out) hB (by decide) rfl (by rw[DY];rfl) (by rw[DY];omega) ?_)
  rw[AS]
  refine il (ac:= .ret) (Q:=Q) (tm:= [(59, .slice (.tok 0) 1 ((jY out).map encStr)),(4, .slice (.tok 0) 1 ((jY out).map encStr))]) (s:=⟨[],[some (jY out).length]⟩) ?_
  repeat' (first
 |simp only[go_sem,hD,hY,hZ,gA]
 |(with_reducible refine aE hQ ?_;exact bg))
 | cons x rest=>
  obtain⟨hY,g2,hD,g4⟩:=drop_cons h1
  have cf:k<4611686018427387904:=by omega
  obtain⟨g,IP⟩:=hN.2 x (List.mem_of_getElem? hY)
  have Qu:=(rN IP).1
  have hbd:sS p x=Sm.cT g.body:=by unfold sS;rw[IP]
  simp only[ui,hbd]at h2
  obtain⟨j,hj,qy⟩:=AT (k:=0) IP
  have qy:p.at x=((j:Nat):Int):=by unfold Pg.at;simpa using qy
  have xC:=fun s=>DM (p:=p) (by omega) x s
  simp only[qy]at xC
  obtain⟨it,o9,xD⟩:=Tn hj (by omega)
  have abr:it.length≤900000:=by
   have e:=congrArg List.length o9
   obtain⟨a,b,e',_,_,e3,e4⟩:=(nj p).2 j g hj
   have e5:=oJ p
   have e6:=congrArg List.length e3
   rw[e4]at e5
   simp only[List.length_map,List.length_append]at e e5 e6
   omega
  rw[← o9]at h2
  repeat' (first
 |simp only[go_sem,hD,hY,hZ,gA,hY]
 |(with_reducible refine CU (xC _) ?_)
 |(with_reducible refine CU (xD _) ?_)
 | (with_reducible refine aE hQ ?_;exact bg))
  obtain⟨W,hW⟩ : ∃ W,sj p out (it.map Im.s)=W:=⟨_,rfl⟩
  rw[hW]at h2
  have hWR:W.length≤R.length:=by have:=(yC h rest W).1;rw[h2]at this;exact this
  have Qn:out.length≤W.length:=by have:=(yB p (it.map Im.s) out).1;rw[hW]at this;exact this
  refine fi 1 1 (bq.ind (ι:=List Im×Nat×List aF×Nat) (fun i=>it.drop i.2.1=i.1∧sj p i.2.2.1 (i.1.map Im.s)=W∧i.2.2.1.length≤W.length∧i.2.2.2=i.2.2.1.length) (fun i=>i.1.length)
   (fun i=> [(2, .ptr 0 0),(5, .dt (fl p) 0),(6, .slice (.tok 0) 1 (i.2.2.1.map encStr)),(21, .slice .shared 1 (N.map encStr)),(22, .int .i64 (N.length:Int)),(23, .int .i64 (k:Int)),(31, .slice .shared 17 (it.map dq)),(32, .int .i64 (it.length:Int)),(33, .int .i64 (i.2.1:Int))]) (fun i=>⟨[cG p],[some i.2.2.2]⟩) ?_ (it,0,out,out.length) ⟨rfl,hW,Qn,rfl⟩)
  rintro⟨vZ,k2,CW,no⟩ ⟨j1,j2,j3,j4⟩ DP
  dsimp only at j1 j2 j3 j4
  subst j4
  cases vZ with
  |nil=>
   have TL:=drop_nil j1
   simp only[List.map_nil,sj]at j2
   subst j2
   repeat' (first
 |simp only[go_sem,hD,hY,hZ,gA,TL]
 | (with_reducible refine aE hQ ?_;exact bg))
   refine fj 1 1 ?_ ?_ (IH (rest,k+1,CW,CW.length) ⟨g2,h2,hWR,rfl⟩ (Nat.lt_succ_self _))
   ·(simp only[go_sem,hD,hY,hZ,gA,aJ cf];try exact cv)
   ·(simp only[go_sem,hD,hY,hZ,gA,aJ cf];try exact cv)
  |cons y vZ=>
   obtain⟨oM,KH,xE,jg4⟩:=drop_cons j1
   have xF:k2<4611686018427387904:=by omega
   have hym:y.s∈Sm.cT g.body:=by rw[← o9];exact List.mem_map_of_mem (List.mem_of_getElem? oM)
   have rl:=h.said Qu _ hym
   have VX:=fun s=>AE rl s
   have DY:=IB _ rl
   simp only[List.map_cons,sj]at j2
   repeat' (first
 |simp only[go_sem,hD,hY,hZ,gA,xE,oM]
 |(with_reducible refine CU (VX _) ?_)
 | (with_reducible refine aE hQ ?_;exact bg))
   obtain⟨V,hV⟩ : ∃ V,si p CW y.s.said=V:=⟨_,rfl⟩
   rw[hV]at j2
   have hVW:V.length≤W.length:=by have:=(yB p (vZ.map Im.s) V).1;rw[j2]at this;exact this
   have hoV:CW.length≤V.length:=by have:=(yA p y.s.said CW).1;rw[hV]at this;exact this
   refine fi 1 1 (bq.ind (ι:=List aF×Nat×List aF×Nat) (fun i=>y.s.said.drop i.2.1=i.1∧si p i.2.2.1 i.1=V∧i.2.2.1.length≤V.length∧i.2.2.2=i.2.2.1.length) (fun i=>i.1.length)
    (fun i=> [(2, .ptr 0 0),(5, .dt (fl p) 0),(6, .slice (.tok 0) 1 (i.2.2.1.map encStr)),(21, .slice .shared 1 (N.map encStr)),(22, .int .i64 (N.length:Int)),(23, .int .i64 (k:Int)),(31, .slice .shared 17 (it.map dq)),(32, .int .i64 (it.length:Int)),(33, .int .i64 (k2:Int)),(39, .slice .shared 1 (y.s.said.map encStr)),(40, .int .i64 (y.s.said.length:Int)),(41, .int .i64 (i.2.1:Int))]) (fun i=>⟨[cG p],[some i.2.2.2]⟩) ?_ (y.s.said,0,CW,CW.length) ⟨rfl,hV,hoV,rfl⟩)
   rintro⟨D2,k3,yD,no⟩ ⟨l1,l2,l3,l4⟩ IH3
   dsimp only at l1 l2 l3 l4
   subst l4
   cases D2 with
   |nil=>
    have alC:=drop_nil l1
    simp only[si]at l2
    subst l2
    repeat' (first
 |simp only[go_sem,hD,hY,hZ,gA,alC]
 | (with_reducible refine aE hQ ?_;exact bg))
    refine fj 1 1 ?_ ?_ (DP (vZ,k2+1,yD,yD.length) ⟨KH,j2,hVW,rfl⟩ (Nat.lt_succ_self _))
    ·(simp only[go_sem,hD,hY,hZ,gA,aJ xF];try exact cv)
    ·(simp only[go_sem,hD,hY,hZ,gA,aJ xF];try exact cv)
   | cons z D2=>
    obtain⟨abD,lg2,llt,lg4⟩:=drop_cons l1
    have F2:k3<4611686018427387904:=by omega
    have F0:=fun g s=>ji (l:=p.globals) (by omega) z g s
    simp only[si]at l2
    rcases Bool.eq_false_or_eq_true (fe p.globals z)with c1|c1
    ·simp only [c1,if_true]at l2
     have hZ:(yD.length+1)*17≤bH:=by unfold bH;omega
     have hoo:(yD++ [z]).length≤V.length:=by have:=(yA p D2 (yD++ [z])).1;rw[l2]at this;exact this
     repeat' (first
 |simp only[go_sem,hD,hY,hZ,gA,llt,abD,c1]
 |(with_reducible refine CU (F0 _ _) ?_)
 | (with_reducible refine aE hQ ?_;exact bg))
     refine fj 1 1 ?_ ?_ (IH3 (D2,k3+1,yD++ [z],yD.length+1) ⟨lg2,l2,hoo,by simp⟩ (Nat.lt_succ_self _))
     ·(simp only[go_sem,hD,hY,hZ,gA,aJ F2,List.map_append,List.map_cons,List.map_nil,encStr];try exact cv)
     ·(simp only[go_sem,hD,hY,hZ,gA,aJ F2,List.map_append,List.map_cons,List.map_nil,encStr];try exact cv)
    ·simp only [c1,Bool.false_eq_true,if_false]at l2
     repeat' (first
 |simp only[go_sem,hD,hY,hZ,gA,llt,abD,c1]
 |(with_reducible refine CU (F0 _ _) ?_)
 |(with_reducible refine aE hQ ?_;exact bg))
     refine fj 1 1 ?_ ?_ (IH3 (D2,k3+1,yD,yD.length) ⟨lg2,l2,l3,rfl⟩ (Nat.lt_succ_self _))
     ·(simp only[go_sem,hD,hY,hZ,gA,aJ F2];try exact cv)
     ·(simp only[go_sem,hD,hY,hZ,gA,aJ F2];try exact cv)
mutual
def Sm.its (deep dh:Int) (aW:Bool):Sm→List It
 |⟨id,kind,labels,name,proc,x,has,args,aY,e⟩=>⟨⟨id,kind,labels,name,proc,x,has,args,aY,e⟩,deep,dh,aW⟩::(Sm.TN (deep+1) id false aY++Sm.TN (deep+1) id true e)
def Sm.TN (deep dh:Int) (aW:Bool):List Sm→List It
 | []=> []
 |s::l=>s.its deep dh aW++Sm.TN deep dh aW l
end
def fX (l:List Sm) (none:Int):Int:=match l with| []=>none|t::_=>t.id
mutual
def Sm.u6 (proc up next loop:Int):Sm→List Im
 |⟨id,kind,labels,name,pc,x,has,args,aY,aW⟩=>⟨⟨id,kind,labels,name,pc,x,has,args,aY,aW⟩,proc,up,next,loop⟩::
  (Sm.jz proc id (if kind==6 then id else next) (if kind==6 then id else loop) aY++Sm.jz proc id (if kind==6 then id else next) (if kind==6 then id else loop) aW)
def Sm.jz (proc up next loop:Int):List Sm→List Im
 | []=> []
 |s::l=>s.u6 proc up (fX l next) loop++Sm.jz proc up next loop l
end
def n9 (n:Nat) (l:List Sm):Prop:=∀ (i:Nat) (v:Sm),l[i]? = some v→v.id=((n+i+1:Nat):Int)
theorem n9.head {n:Nat} {v:Sm} {l:List Sm} (h:n9 n (v::l)):v.id=((n+1:Nat):Int):=h 0 v rfl
theorem n9.tail {n:Nat} {v:Sm} {l:List Sm} (h:n9 n (v::l)):n9 (n+1) l:=fun i w hw=>by
 rw[h (i+1) w (by simpa using hw)];congr 1;omega
theorem n9.left {n:Nat} {a b:List Sm} (h:n9 n (a++b)):n9 n a:=fun i w hw=>h i w (by rw[List.getElem?_append_left (List.getElem?_eq_some_iff.1 hw).1];exact hw)
theorem n9.right {n:Nat} {a b:List Sm} (h:n9 n (a++b)):n9 (n+a.length) b:=fun i w hw=>by
 rw[h (a.length+i) w (by rw[List.getElem?_append_right (by omega)];simpa using hw)];congr 1;omega
theorem TO (s:Sm):s.pre=s::(Sm.cT s.aY++Sm.cT s.aW):=Sm.pH s
mutual
theorem KN : ∀ s:Sm,s.jf=s.pre.length
 |⟨id,kind,labels,name,proc,x,has,args,aY,aW⟩=>by
  simp only[Sm.jf,Sm.pre,List.length_cons,List.length_append,yE aY,yE aW];omega
theorem yE : ∀ l:List Sm,Sm.iM l=(Sm.cT l).length
 | []=>rfl
 |s::l=>by simp only[Sm.iM,Sm.cT,List.length_append,KN s,yE l]
end
mutual
theorem V6 (proc up next loop:Int) : ∀ s:Sm,(s.u6 proc up next loop).map Im.s=s.pre
 |⟨id,kind,labels,name,pc,x,has,args,aY,aW⟩=>by
  simp only[Sm.u6,Sm.pre,List.map_cons,List.map_append,qZ _ _ _ _ aY,qZ _ _ _ _ aW]
theorem qZ (proc up next loop:Int) : ∀ l:List Sm,(Sm.jz proc up next loop l).map Im.s=Sm.cT l
 | []=>rfl
 |s::l=>by simp only[Sm.jz,Sm.cT,List.map_append,V6 _ _ _ _ s,qZ _ _ _ _ l]
end
theorem XZ (proc up next loop:Int) (s:Sm):(s.u6 proc up next loop).length=s.pre.length:=by rw[← V6 proc up next loop s,List.length_map]
theorem CX (proc up next loop:Int) (l:List Sm):(Sm.jz proc up next loop l).length=(Sm.cT l).length:=by rw[← qZ proc up next loop l,List.length_map]
mutual
theorem X0 (proc up next loop:Int) (out:List Im) : ∀ s:Sm,n9 out.length s.pre→Im.one proc up next loop out s=out++s.u6 proc up next loop
 | ⟨id,kind,labels,name,pc,x,has,args,aY,aW⟩,h=>by
  simp only[Sm.pre]at h
  have h0:id=((out.length+1:Nat):Int):=h.head
  have h1:=h.tail.left
  have h2:=h.tail.right
  have e0:((out.length:Int)+1)=id:=by rw[h0];rfl
  simp only[Im.one,Sm.u6,e0]
  rw[u7 proc id _ _ (out++ [_]) aY (by rw[List.length_append];exact h1)]
  rw[u7 proc id _ _ _ aW (by
   rw[List.length_append,List.length_append,CX];exact h2)]
  simp
theorem u7 (proc up next loop:Int) (out:List Im) : ∀ l:List Sm,n9 out.length (Sm.cT l)→Im.rows proc up next loop out l=out++Sm.jz proc up next loop l
 | [],h=>by simp[Im.rows,Sm.jz]
 | s::l,h=>by
  simp only[Sm.cT]at h
  have e:(if l.length=0 then next else(out.length:Int)+1+(s.jf:Int))=fX l next:=by
   cases l with
   |nil=>rfl
   |cons t l=>
    have h2:=h.right
    simp only[Sm.cT]at h2
    rw[TO t]at h2
    simp only[List.length_cons,fX]
    rw[if_neg (by omega),h2.head,KN]
    omega
  simp only[Im.rows,Sm.jz,e]
  rw[X0 proc up _ loop out s h.left,u7 proc up next loop _ l (by rw[List.length_append,XZ];exact h.right)]
  simp
end
def px (n:Nat):List Pc→List Im
 | []=> []
 |f::l=>Sm.jz n 0 (-1) 0 f.body++px (n+1) l
theorem Qz : ∀ (l:List Pc) (n:Nat) (h:Sh),n9 h.L.length ((l.map fun f=>Sm.cT f.body).flatten)→(Sh.go n h l).L=h.L++px n l
 | [],n,h,_=>by simp[Sh.go,px]
 | f::l,n,h,hi=>by
  simp only[List.map_cons,List.flatten_cons]at hi
  simp only[Sh.go,px]
  have e:=u7 (n:Int) 0 (-1) 0 h.L f.body hi.left
  rw[Qz l (n+1) _ (by
   show n9 (Im.rows (n:Int) 0 (-1) 0 h.L f.body).length _
   rw[e,List.length_append,CX];exact hi.right)]
  show Im.rows (n:Int) 0 (-1) 0 h.L f.body++_=_
  rw[e];simp
theorem KO {p:Pg} (h:p.may=true):n9 0 p.pre:=fun i v hv=>by rw[IF h hv];congr 1;omega
theorem QA {p:Pg} (h:p.may=true):p.aX.L=px 0 p.procs:=by
 have:=Qz p.procs 0 ⟨[],[],[]⟩ (KO h)
 simpa[Pg.aX]using this
def QB (l:List It):Nat→Int→Int
 | 0,_=>0
 |n+1,dh=>if dh==0 then 0 else match l[n]? with
  |none=>0
  |some x=>if x.s.id != dh then QB l n dh else if x.s.kind==6 then dh else QB l n x.dh
def Up (L:List It) (k:Nat) (its:List It) (u6:List Im):Prop:=∀ (i:Nat) (a:It) (b:Im),its[i]? = some a→u6[i]? = some b→a.s=b.s∧a.dh=b.up∧QB L (k+i) a.dh=b.loop
def iG (seen:List aF):List aF→List aF×Bool
 | []=>(seen,true)
 |n::l=>if fe seen n then(seen,false)else iG (seen++ [n]) l
theorem AW : ∀ (l seen:List aF),iG seen l=(if pI seen l then((iG seen l).1,false)else(seen++l,true))
 | [],seen=>by simp[iG,pI]
 | n::l,seen=>by
  simp only[iG,pI]
  split
  ·rfl
  ·rw [AW l (seen++ [n])]
   split
   ·rfl
   ·simp
theorem KP : ∀ (a b seen:List aF),pI seen (a++b)=(pI seen a ||pI (seen++a) b)
 | [],b,seen=>by simp[pI]
 |x::a,b,seen=>by
  simp only[List.cons_append,pI]
  split
  ·rfl
  ·rw[KP a b (seen++ [x])];simp
theorem F3 : ∀ (l seen:List aF),seen.length≤(iG seen l).1.length∧(iG seen l).1.length≤seen.length+l.length
 | [],seen=>by simp[iG]
 |n::l,seen=>by
  simp only[iG]
  split
  ·simp
  ·have:=F3 l (seen++ [n]);simp at this ⊢;omega
def pT (yF:List aF) (v:Sm) (loop:Int):Bool:=if v.kind==7 ||v.kind==8 then loop != 0 else if v.kind==10 then fe yF v.name else true
def sk (yF fin seen:List aF):List (Sm×Int)→Option Int
 | []=>if(iG seen fin).2 then none else some 0
 |(v,lp)::l=>if(iG seen v.labels).2 then(if pT yF v lp then sk yF fin (iG seen v.labels).1 l else some v.id)else some v.id
def gW:List Sm→List aF
 | []=> []
 |v::l=>v.labels++gW l
def Pc.labels (f:Pc):List aF:=gW (Sm.cT f.body)++f.fin
def Im.pair (m:Im):Sm×Int:=(m.s,m.loop)
def Pc.v7 (f:Pc):List (Sm×Int):=(Sm.jz 0 0 (-1) 0 f.body).map Im.pair
def sm:List Pc→Option Int
 | []=>none
 |f::l=>match sk f.labels f.fin [] f.v7 with
  |some id=>some id
  |none=>sm l
def xJ (c:Int):Option Int→Int×Int
 |some id=>(c,id)
 |none=>(0,0)
def Pg.jump (p:Pg):Int×Int:=if p.scope.1==0 then xJ 7 (sm p.procs)else(1,0)
mutual
theorem TP (proc up next uk QC next' loop:Int) : ∀ s:Sm,(s.u6 proc up next loop).map Im.pair=(s.u6 uk QC next' loop).map Im.pair
 |⟨id,kind,labels,name,pc,x,has,args,aY,aW⟩=>by
  simp only[Sm.u6,List.map_cons,List.map_append,Im.pair]
  rw[v8 proc id _ uk id (if kind==6 then id else next') _ aY,v8 proc id _ uk id (if kind==6 then id else next') _ aW]
theorem v8 (proc up next uk QC next' loop:Int) : ∀ l:List Sm,(Sm.jz proc up next loop l).map Im.pair=(Sm.jz uk QC next' loop l).map Im.pair
 | []=>rfl
 |s::l=>by
  simp only[Sm.jz,List.map_append]
  rw[TP proc up _ uk QC (fX l next') loop s,v8 proc up next uk QC next' loop l]
end
theorem IT (n:Int) (f:Pc):(Sm.jz n 0 (-1) 0 f.body).map Im.pair=f.v7:=v8 _ _ _ _ _ _ _ _
theorem X1 (f:Pc):f.v7.map Prod.fst=Sm.cT f.body:=by
 unfold Pc.v7
 rw[List.map_map, ← qZ 0 0 (-1) 0 f.body]
 rfl
def KQ (l:List It):Nat→Int→Int
 | 0,_=>0
 |n+1,id=>match l[n]? with
  |none=>0
  |some x=>if x.s.id != id then KQ l n id else if QB l n x.dh != 0 then QB l n x.dh else KQ l n id
theorem KR : ∀ (l:List Pc) (n:Nat) (h:Sh),h.lo.length=n→h.hi.length=n→n9 h.L.length ((l.map fun f=>Sm.cT f.body).flatten)→
 ∃ lo hi,Sh.go n h l = ⟨h.L++px n l,h.lo++lo,h.hi++hi⟩∧lo.length=l.length∧hi.length=l.length∧
  ∀ (i:Nat) (f:Pc),l[i]? = some f→∃ a e:List Im,lo[i]? = some (((h.L++a).length:Int)+1)∧hi[i]? = some (((h.L++a++Sm.jz ((n+i:Nat):Int) 0 (-1) 0 f.body).length:Int)+1)∧px n l=a++Sm.jz ((n+i:Nat):Int) 0 (-1) 0 f.body++e
 | [],n,h,hl,hh,_=>⟨[],[],by simp[Sh.go,px],rfl,rfl,fun i f h=>by simp at h⟩
 | f::l,n,h,hl,hh,hi=>by
  simp only[List.map_cons,List.flatten_cons]at hi
  simp only[Sh.go,px]
  have e1:=u7 (n:Int) 0 (-1) 0 h.L f.body hi.left
  obtain⟨lo,gI,h2,h3,h4,h5⟩:=KR l (n+1) ⟨Im.rows (n:Int) 0 (-1) 0 h.L f.body,h.lo++ [(h.L.length:Int)+1],h.hi++ [((Im.rows (n:Int) 0 (-1) 0 h.L f.body).length:Int)+1]⟩ (by simp[hl]) (by simp[hh]) (by
   show n9 (Im.rows (n:Int) 0 (-1) 0 h.L f.body).length _
   rw[e1,List.length_append,CX];exact hi.right)
  refine⟨((h.L.length:Int)+1)::lo,(((Im.rows (n:Int) 0 (-1) 0 h.L f.body).length:Int)+1)::gI, ?_,by simp[h3],by simp[h4],fun i g gI=>?_⟩
  ·rw[h2,e1];simp
  ·cases i with
   |zero=>
    simp only[List.getElem?_cons_zero,Option.some.injEq]at gI
    subst gI
    exact⟨[],px (n+1) l,by simp,by rw[e1];simp,by simp⟩
   |succ i=>
    simp only[List.getElem?_cons_succ]at gI
    obtain⟨a,e,g1,g2,g3⟩:=h5 i g gI
    have en:n+1+i=n+(i+1):=by omega
    rw[en]at g2 g3
    refine⟨Sm.jz n 0 (-1) 0 f.body++a,e, ?_, ?_,by rw[g3];simp⟩
    ·rw[List.getElem?_cons_succ,g1,e1];simp
    ·rw[List.getElem?_cons_succ,g2,e1];simp
theorem abF {p:Pg} (hb:p.may=true) {i:Nat} {f:Pc} (hf:p.procs[i]? = some f) (hs:Pc.a8 p.procs<1000000000) (s:St) :
 aG Tryz.prog gB [.dt (fl p) 0, .int .i64 (i:Int)] s (.slice .shared 17 ((Sm.jz (i:Int) 0 (-1) 0 f.body).map dq)) s:=by
 obtain⟨lo,hi,h1,h2,h3,h4⟩:=KR p.procs 0 ⟨[],[],[]⟩ rfl rfl (KO hb)
 obtain⟨a,e,g1,g2,g3⟩:=h4 i f hf
 simp only[Nat.zero_add,List.nil_append]at g1 g2 g3 h1
 refine abe hs (a:=a) (e:=e) ?_ ?_ ?_ s
 ·show(Sh.go 0 ⟨[],[],[]⟩ p.procs).lo[i]? = _
  rw[h1];exact g1
 ·show(Sh.go 0 ⟨[],[],[]⟩ p.procs).hi[i]? = _
  rw[h1];exact g2
 ·show(Sh.go 0 ⟨[],[],[]⟩ p.procs).L=_
  rw[h1];exact g3
theorem aG.alD {P:Program} {f:FuncId} {pre post:List D} {rows oa:List (List D)} {z z' k k':Nat} {b:Bool} (h:aG P f (pre++ .slice (.tok 0) z rows::post) ⟨[],[some k]⟩ (.tuple [.slice (.tok 0) z' oa, .bool b]) ⟨[],[some k']⟩)
 (hp:D.bI 0 0 pre=true) (ha:D.bI 0 0 post=true) (hw:D.gR 0 0 rows=true) (Zs:D.gR 0 0 oa=true)
 {s:St} {t:Nat} (ht:s.av[t]? = some (some k)):aG P f (pre++ .slice (.tok t) z rows::post) s (.tuple [.slice (.tok t) z' oa, .bool b]) ⟨s.ah,s.av.set t (some k')⟩:=by
 refine bG.frame [] [t] h (by simp) (by simp) (by simp) (by simpa using (List.getElem?_eq_some_iff.1 ht).1) rfl (fun i o' ds e1 e2=>by simp at e1) rfl (fun i t' e1=>?_)
  ?_ ?_ ?_
 ·cases i with
  |zero=>simp at e1;subst e1;simp[ht]
  |succ i=>simp at e1
 ·have h1:=fp [] [t] _ hp
  have h2:=fp [] [t] _ ha
  rw[fG]at h1 h2
  simp[fG,D.cL,Tag.cL,h1,h2,iS _ _ _ hw]
 ·have h1:=ib (n':=0) (m':=1) (Nat.le_refl 0) (Nat.zero_le 1) _ hp
  have h2:=ib (n':=0) (m':=1) (Nat.le_refl 0) (Nat.zero_le 1) _ ha
  rw[xg]at h1 h2 ⊢
  simp only[List.length_nil,List.length_cons,List.all_append,h1,Bool.true_and,List.all_cons,h2,Bool.and_true,D.ok,Tag.ok,lR (Nat.zero_le 0) (Nat.zero_le 1) _ hw]
  rfl
 ·rintro _ _ ⟨rfl,rfl⟩
  refine⟨by simp[D.back,D.cL,D.eD,Tag.cL,ki,iS _ _ _ Zs], ?_⟩
  simp[St.back,kn]
theorem abG {seen l:List aF} (hl:seen.length+l.length<1000000000):aG Tryz.prog pG [.slice (.tok 0) 1 (seen.map encStr), .slice .shared 1 (l.map encStr)] ⟨[],[some seen.length]⟩
 (.tuple [.slice (.tok 0) 1 ((iG seen l).1.map encStr), .bool (iG seen l).2]) ⟨[],[some (iG seen l).1.length]⟩:=by
 generalize hR:iG seen l=R
 refine aG.go Gx rfl fun B Q hB hQ=>?_
 have⟨hD,hY,hZ,gA⟩:=bS
 repeat' (first
 |simp only[go_sem,hD,hY,hZ,gA]
 |(with_reducible refine aE hQ ?_;exact bg))
 refine fi 0 1 (bq.ind (ι:=List aF×Nat×List aF×Nat) (fun i=>l.drop i.2.1=i.1∧iG i.2.2.1 i.1=R∧i.2.2.2=i.2.2.1.length∧i.2.2.1.length+i.1.length<1000000000) (fun i=>i.1.length)
  (fun i=> [(0, .slice (.tok 0) 1 (i.2.2.1.map encStr)),(8, .slice .shared 1 (l.map encStr)),(9, .int .i64 (l.length:Int)),(10, .int .i64 (i.2.1:Int))]) (fun i=>⟨[],[some i.2.2.2]⟩) ?_ (l,0,seen,seen.length) ⟨rfl,hR,rfl,hl⟩)
 clear hR
 rintro⟨rest,k,out,n⟩ ⟨h1,h2,h3,h4⟩ IH
 dsimp only at h1 h2 h3 h4
 subst h3
 cases rest with
 |nil=>
  have hD:=drop_nil h1
  simp only[iG]at h2
  subst h2
  repeat' (first
 |simp only[go_sem,hD,hY,hZ,gA]
 |(with_reducible refine aE hQ ?_;exact bg))
 | cons x rest=>
  obtain⟨hY,g2,hD,g4⟩:=drop_cons h1
  have cf:k<4611686018427387904:=by omega
  simp only[List.length_cons]at h4
  have hZ:(out.length+1)*17≤bH:=by unfold bH;omega
  have F0:=fun g s=>ji (l:=out) (by omega) x g s
  simp only[iG]at h2
  rcases Bool.eq_false_or_eq_true (fe out x)with c1|c1
  ·simp only [c1,if_true]at h2
   subst h2
   repeat' (first
 |simp only[go_sem,hD,hY,hZ,gA,c1]
 |(with_reducible refine CU (F0 _ _) ?_)
 | (with_reducible refine aE hQ ?_;exact bg))
  ·simp only [c1,Bool.false_eq_true,if_false]at h2
   repeat' (first
 |simp only[go_sem,hD,hY,hZ,gA,c1]
 |(with_reducible refine CU (F0 _ _) ?_)
 | (with_reducible refine aE hQ ?_;exact bg))
   refine fj 0 1 ?_ ?_ (IH (rest,k+1,out++ [x],out.length+1) ⟨g2,h2,by simp,by simp;omega⟩ (Nat.lt_succ_self _))
   ·(simp only[go_sem,hD,hY,hZ,gA,aJ cf,List.map_append,List.map_cons,List.map_nil,encStr];try exact cv)
   ·(simp only[go_sem,hD,hY,hZ,gA,aJ cf,List.map_append,List.map_cons,List.map_nil,encStr];try exact cv)
theorem QD {seen l:List aF} (hl:seen.length+l.length<1000000000) {s:St} {t:Nat} (ht:s.av[t]? = some (some seen.length)):aG Tryz.prog pG [.slice (.tok t) 1 (seen.map encStr), .slice .shared 1 (l.map encStr)] s
 (.tuple [.slice (.tok t) 1 ((iG seen l).1.map encStr), .bool (iG seen l).2]) ⟨s.ah,s.av.set t (some (iG seen l).1.length)⟩:=
 (abG hl).alD (pre:= []) (post:= [_]) rfl (by simp[D.bI,D.ok,Tag.ok,eQ]) (eQ _) (eQ _) ht
theorem TQ (x:Im):(dq x)[2]? = some (.slice .shared 1 (x.s.labels.map encStr)):=nd rfl
theorem QE (x:Im):(dq x)[3]? = some (.str x.s.name):=nd rfl
attribute [go_sem] TQ QE
def kI (fin:List aF) (label:aF):List Sm→Int×Bool
 | []=>if fe fin label then(-1,true)else(0,false)
 |v::l=>if fe v.labels label then(v.id,true)else kI fin label l
theorem AX (fin:List aF) (label:aF) : ∀ l:List Sm,(kI fin label l).2=fe (gW l++fin) label
 | []=>by simp only[kI,gW,List.nil_append];split<;>simp_all
 | v::l=>by
  simp only[kI,gW,List.append_assoc]
  have h:=AX fin label l
  rw[Bool.eq_iff_iff,iO]at h
  split
  ·rename_i c
   exact((iO _ _).2 (List.mem_append.2 (.inl ((iO _ _).1 c)))).symm
  ·rename_i c
   have:label∉v.labels:=fun m=>c ((iO _ _).2 m)
   rw[Bool.eq_iff_iff,h,iO]
   exact⟨fun m=>List.mem_append.2 (.inr m),fun m=>(List.mem_append.1 m).resolve_left this⟩
theorem IU {p:Pg} {v:Sm} (ho:p.iU) {f:Pc} (hf:f∈p.procs) (hv:v∈Sm.cT f.body):v.labels.length≤900000:=by
 have key : ∀ n:Nat,(∀ s:Sm,s.pre.length≤n→∀ v∈s.pre,v.labels.length≤s.size)∧(∀ l:List Sm,(Sm.cT l).length≤n→∀ v∈Sm.cT l,v.labels.length≤Sm.a8 l):=by
  intro n
  induction n with
  |zero=>
   refine⟨fun s h=>by rw[Sm.pH]at h;simp at h,fun l h v m=>?_⟩
   have:=List.eq_nil_of_length_eq_zero (Nat.le_zero.1 h)
   rw[this]at m;cases m
  | succ n ih=>
   have h1 : ∀ s:Sm,s.pre.length≤n+1→∀ v∈s.pre,v.labels.length≤s.size:=by
    intro s h v m
    rw[Sm.pH]at h m
    simp only[List.length_cons,List.length_append]at h
    obtain⟨id,kind,labels,name,proc,x,has,args,aY,aW⟩:=s
    simp only[Sm.size]
    rcases List.mem_cons.1 m with rfl|m
    ·dsimp only;omega
    ·rcases List.mem_append.1 m with m | m
     ·have:=ih.2 aY (by dsimp only at h;omega) v m;omega
     ·have:=ih.2 aW (by dsimp only at h;omega) v m;omega
   refine⟨h1,fun l=>?_⟩
   induction l with
   |nil=>intro _ v m;cases m
   |cons s l QF=>
    intro h v m
    simp only[Sm.cT,List.length_append]at h
    simp only[Sm.cT]at m
    simp only[Sm.a8]
    rcases List.mem_append.1 m with m|m
    ·have:=h1 s (by omega) v m;omega
    ·have:=QF (by omega) v m;omega
 have h1:=(key (Sm.cT f.body).length).2 f.body (Nat.le_refl _) v hv
 have h2:=Pc.dr hf
 have h3:=ho.procs.2.1
 simp only[Pc.size]at h2
 omega
theorem F4 {p:Pg} (ho:p.iU) {f:Pc} (hf:f∈p.procs):f.fin.length≤900000:=by
 have h2:=Pc.dr hf
 have h3:=ho.procs.2.1
 simp only[Pc.size]at h2
 omega
theorem D3 {p:Pg} (ho:p.iU) {f:Pc} (hf:f∈p.procs):(Sm.cT f.body).length≤900000:=by
 rw[← yE]
 have:=ni f.body
 have h2:=Pc.dr hf
 have h3:=ho.procs.2.1
 simp only[Pc.size]at h2
 omega
theorem abH {p:Pg} (ho:p.iU) (hb:p.may=true) {i:Nat} {f:Pc} (hf:p.procs[i]? = some f) (label:aF) (s:St) :
 aG Tryz.prog og [.dt (fl p) 0, .int .i64 (i:Int), .str label] s (.tuple [.int .i64 (kI f.fin label (Sm.cT f.body)).1, .bool (kI f.fin label (Sm.cT f.body)).2]) s:=by
 refine aG.pure ?_ (by simp[D.bI,D.ok,tv]) rfl s
 obtain⟨rj,qX,qW⟩:=ho.procs
 have zn:=List.mem_of_getElem? hf
 have xD:=fun s=>abF hb hf (by omega) s
 have pw:=qZ (i:Int) 0 (-1) 0 f.body
 have IV:=D3 ho zn
 have u9:=F4 ho zn
 have Cc:=fun s=>qV (l:=f.fin) (by omega) label s
 have qf:i<p.procs.length:=(List.getElem?_eq_some_iff.1 hf).1
 generalize hI:Sm.jz (i:Int) 0 (-1) 0 f.body=I at *
 have hIl:I.length≤900000:=by rw[← pw,List.length_map]at IV;exact IV
 obtain⟨R,hR⟩ : ∃ R,kI f.fin label (Sm.cT f.body)=R:=⟨_,rfl⟩
 rw[hR]
 rw[← pw]at hR
 unfold S0
 refine aG.go BJ rfl fun B Q hB hQ=>?_
 have⟨hD,hY,hZ,gA⟩:=bS
 repeat' (first
 |simp only[go_sem,hD,hY,hZ,gA]
 |(with_reducible refine CU (xD _) ?_)
 |(with_reducible refine aE hQ ?_;exact bg))
 refine fi 0 0 (bq.ind (ι:=List Im×Nat) (fun j=>I.drop j.2=j.1∧kI f.fin label (j.1.map Im.s)=R) (fun j=>j.1.length)
  (fun j=> [(0, .dt (fl p) 0),(1, .int .i64 (i:Int)),(2, .str label),(12, .slice .shared 17 (I.map dq)),(13, .int .i64 (I.length:Int)),(14, .int .i64 (j.2:Int))]) (fun j=>⟨[],[]⟩) ?_ (I,0) ⟨rfl,hR⟩)
 clear hR
 rintro⟨rest,k⟩ ⟨h1,h2⟩ IH
 dsimp only at h1 h2
 cases rest with
 | nil=>
  have hD:=drop_nil h1
  simp only[List.map_nil,kI]at h2
  rcases Bool.eq_false_or_eq_true (fe f.fin label)with c1|c1
  ·simp only [c1,if_true]at h2
   subst h2
   repeat' (first
 |simp only[go_sem,hD,hY,hZ,gA,nD,hf,c1]
 |(with_reducible refine CU (Cc _) ?_)
 | (with_reducible refine aE hQ ?_;exact bg))
  ·simp only [c1,Bool.false_eq_true,if_false]at h2
   subst h2
   repeat' (first
 |simp only[go_sem,hD,hY,hZ,gA,nD,hf,c1]
 |(with_reducible refine CU (Cc _) ?_)
 |(with_reducible refine aE hQ ?_;exact bg))
 | cons a rest=>
  obtain⟨hY,g2,hD,g4⟩:=drop_cons h1
  have cf:k<4611686018427387904:=by omega
  have DW:a.s∈Sm.cT f.body:=by rw[← pw];exact List.mem_map_of_mem (List.mem_of_getElem? hY)
  have oc:=fun s=>qV (l:=a.s.labels) (by have:=IU ho zn DW;omega) label s
  simp only[List.map_cons,kI]at h2
  rcases Bool.eq_false_or_eq_true (fe a.s.labels label)with c1|c1
  ·simp only [c1,if_true]at h2
   subst h2
   repeat' (first
 |simp only[go_sem,hD,hY,hZ,gA,c1]
 |(with_reducible refine CU (oc _) ?_)
 | (with_reducible refine aE hQ ?_;exact bg))
  ·simp only [c1,Bool.false_eq_true,if_false]at h2
   repeat' (first
 |simp only[go_sem,hD,hY,hZ,gA,c1]
 |(with_reducible refine CU (oc _) ?_)
 | (with_reducible refine aE hQ ?_;exact bg))
   refine fj 0 0 ?_ ?_ (IH (rest,k+1) ⟨g2,h2⟩ (Nat.lt_succ_self _))
   ·(simp only[go_sem,hD,hY,hZ,gA,aJ cf];try exact cv)
   ·(simp only[go_sem,hD,hY,hZ,gA,aJ cf];try exact cv)
theorem X2 {p:Pg} (ho:p.iU) (hb:p.may=true) {i:Nat} {f:Pc} (hf:p.procs[i]? = some f) (m:Im) (hm:m.proc=(i:Int)) (s:St) :
 aG Tryz.prog uO [.dt (fl p) 0, .agg (dq m)] s (.bool (pT f.labels m.s m.loop)) s:=by
 refine aG.pure ?_ (by simp[D.bI,D.ok,tv,Nu]) rfl s
 have qy:=fun s=>abH ho hb hf m.s.name s
 have abI:=AX f.fin m.s.name (Sm.cT f.body)
 rw[← hm]at qy
 obtain⟨A,hA⟩ : ∃ A,kI f.fin m.s.name (Sm.cT f.body)=A:=⟨_,rfl⟩
 rw[hA]at qy abI
 obtain⟨R,hR⟩ : ∃ R,pT f.labels m.s m.loop=R:=⟨_,rfl⟩
 rw[hR]
 unfold pT Pc.labels at hR
 unfold S0
 rcases Bool.eq_false_or_eq_true (m.s.kind==7)with c1|c1
 ·simp only [c1,Bool.true_or,if_true]at hR
  subst hR
  refine aG.go oX rfl fun B Q hB hQ=>?_
  have⟨hD,hY,hZ,gA⟩:=bS
  repeat' (first
 |simp only[go_sem,hD,hY,hZ,gA,c1]
 |(with_reducible refine aE hQ ?_;exact bg))
 rcases Bool.eq_false_or_eq_true (m.s.kind==8)with c2|c2
 ·simp only [c1,c2,Bool.or_true,if_true]at hR
  subst hR
  refine aG.go oX rfl fun B Q hB hQ=>?_
  have⟨hD,hY,hZ,gA⟩:=bS
  repeat' (first
 |simp only[go_sem,hD,hY,hZ,gA,c1,c2]
 |(with_reducible refine aE hQ ?_;exact bg))
 rcases Bool.eq_false_or_eq_true (m.s.kind==10)with c3|c3
 ·simp only [c1,c2,c3,Bool.or_self,Bool.false_eq_true,if_false,if_true, ← abI]at hR
  subst hR
  refine aG.go oX rfl fun B Q hB hQ=>?_
  have⟨hD,hY,hZ,gA⟩:=bS
  repeat' (first
 |simp only[go_sem,hD,hY,hZ,gA,c1,c2,c3]
 |(with_reducible refine CU (qy _) ?_)
 |(with_reducible refine aE hQ ?_;exact bg))
 ·simp only [c1,c2,c3,Bool.or_self,Bool.false_eq_true,if_false]at hR
  subst hR
  refine aG.go oX rfl fun B Q hB hQ=>?_
  have⟨hD,hY,hZ,gA⟩:=bS
  repeat' (first
 |simp only[go_sem,hD,hY,hZ,gA,c1,c2,c3]
 |(with_reducible refine aE hQ ?_;exact bg))
end Go.Abs
namespace Go.Abs
def D4 (x:Int):Int:=IntKind.wrap .i64 x
def tz (b:Bool):Int:=if b then 1 else 0
def NF (op a:Int):Int×Bool:=if op==3 then(D4 (0 - a),true)else if op==4 then(tz (a==0),true)else(0,false)
def NG (op a b:Int):Int×Bool:=
 if b==0 then(0,false)
 else if b == -1 then if op==7 then(0,true)else if a == -9223372036854775808 then(a,true)else(D4 (0 - a),true)
 else if op==7 then(a.tmod b,true)else(D4 (a.tdiv b),true)
def NH (op a b:Int):Int×Bool:=
 if op==10 then(tz (decide (a<b)),true)else if op==11 then(tz (decide (a≤b)),true)else if op==12 then(tz (decide (a > b)),true)
 else if op==13 then(tz (decide (a≥b)),true)else if op==14 then(tz (a==b),true)else if op==15 then(tz (!(a==b)),true)else(0,false)
def NK (op a b:Int):Int×Bool:=
 if op==8 then(D4 (a+b),true)else if op==9 then(D4 (a - b),true)else if op==5 then(D4 (a*b),true)
 else if op==6 ||op==7 then NG op a b
 else if op==16 then(tz (!(a==0) && !(b==0)),true)else if op==17 then(tz (!(a==0) || !(b==0)),true)
 else NH op a b
def NL (name:aF) (names:List aF) (cB:List Int):Int:=if iN name 0 names≥0 then cB.getD (iN name 0 names).toNat 0 else 0
def GZ (op:Int):List (Int×Bool)→Int×Bool
 | []=>(0,false)
 | [a]=>if a.2 then NF op a.1 else(0,false)
 |a::b::_=>if !a.2 then(0,false)else if op==16 && a.1==0 then(0,true)else if op==17 && !(a.1==0)then(1,true)else if !b.2 then(0,false)else NK op a.1 b.1
mutual
def Ex.val (names:List aF) (cB:List Int):Ex→Int×Bool
 |⟨op,n,name,kids⟩=>if op==1 then(n,true)else if op==2 then(NL name names cB,true)else GZ op (Ex.NM names cB kids)
def Ex.NM (names:List aF) (cB:List Int):List Ex→List (Int×Bool)
 | []=> []
 |x::l=>x.val names cB::Ex.NM names cB l
end
def Ex.bJ (x:Ex) (names:List aF) (cB:List Int):Int×Bool:=if x.may then x.val names cB else(0,false)
structure Fr where
 proc:Int
 names:List aF
 vars:List Nat
 call:Int
structure Mc where
 st:List Fr
 mem:List Int
 fin:Int
 steps:Int
 reads:Int
 out:List Int
 trace:List (Int×List Int)
def Mc.event (W:List Int) (m:Mc) (id:Int) (cB:List Int):Mc:=if W.contains id then {m with trace:=m.trace++ [(id,cB)]}else m
def Mc.top (m:Mc):Fr:=m.st.headD ⟨0,[],[],0⟩
def Mc.cB (m:Mc):List Int:=m.top.vars.map fun c=>m.mem.getD c 0
def Mc.cell (m:Mc) (name:aF):Nat:=m.top.vars.getD (iN name 0 m.top.names).toNat 0
def Mc.set (m:Mc) (name:aF) (v:Int):Mc:= {m with mem:=m.mem.set (m.cell name) v}
def Mc.bJ (m:Mc) (x:Ex):(Int×Bool)×Mc:=
 let r:=x.bJ m.top.names m.cB
 (r,if r.2 then m else {m with fin:=4})
def Mc.open (p:Pg) (m:Mc) (i:Int) (params:List Nat) (call:Int):Int×Mc:=
 match p.procs[i.toNat]? with
 |none=>(-1,m)
 |some f=>(fX f.body (-1),{m with st:=⟨i,p.globals++f.own,List.range p.globals.length++params++(List.range f.vars.length).map (m.mem.length + ·),call⟩::m.st,mem:=m.mem++List.replicate f.vars.length 0})
def fR (L:List Im) (id:Int):Im:=L.getD (id - 1).toNat ⟨H0,0,0,0,0⟩
def Mc.close (L:List Im) (m:Mc) (wN:Int):Int×Mc:=
 let call:=m.top.call
 let m:= {m with st:=m.st.tail}
 if call==0 then(-1,{m with fin:=1})
 else
  let it:=fR L call
  (it.next,if it.s.name == []then m else m.set it.s.name wN)
def Mc.iV (W:List Int) (m:Mc) (s:Sm):Int×Mc:=
 if s.has then
  let r:=m.bJ s.x
  (r.1.1,if r.1.2 then r.2.event W s.id [r.1.1]else r.2)
 else(0,m.event W s.id [])
def Mc.args:List Ar→Mc→List Nat→Option (List Nat)×Mc
 | [],m,out=>(some out,m)
 | a::l,m,out=>
  if a.ref then Mc.args l m (out++ [m.cell a.name])
  else
   let r:=m.bJ a.x
   if r.1.2 then Mc.args l {r.2 with mem:=r.2.mem++ [r.1.1]} (out++ [r.2.mem.length])else(none,r.2)
def Mc.call (p:Pg) (W:List Int) (m:Mc) (s:Sm):Int×Mc:=
 match Mc.args s.args m []with
 |(none,m)=>(-1,m)
 |(some l,m)=>if m.st.length > 100 then(-1,{m with fin:=5})else(m.event W s.id []).open p (p.at s.proc) l s.id
def firstM (l:List Sm) (other:Int):Int:=fX l other
def Mc.do (p:Pg) (L:List Im) (tape W:List Int) (m:Mc) (it:Im):Int×Mc:=
 let s:=it.s
 if s.kind==7 then((fR L it.loop).next,m.event W s.id [])
 else if s.kind==8 then(it.loop,m.event W s.id [])
 else if s.kind==10 then((match p.procs[it.proc.toNat]? with|some f=>(kI f.fin s.name (Sm.cT f.body)).1|none=>0),m.event W s.id [])
 else if s.kind==2 then
  match tape[m.reads.toNat]? with
  |none=>(-1,{m with fin:=3})
  |some n=>(it.next,(({m with reads:=m.reads+1} : Mc).set s.name n).event W s.id [n])
 else
  let r:=m.bJ s.x
  if r.1.2 then
   let m:=r.2.event W s.id [r.1.1]
   let n:=r.1.1
   if s.kind==1 then(it.next,m.set s.name n)
   else if s.kind==3 then(it.next,{m with out:=m.out++ [n]})
   else if s.kind==5 then(if n==0 then firstM s.aW it.next else firstM s.aY it.next,m)
   else if s.kind==6 then(if n==0 then it.next else firstM s.aY s.id,m)
   else(it.next,m)
  else(-1,r.2)
def Mc.back (L:List Im) (m:Mc) (wN:Int):Option Int×Mc:=
 let r:=m.close L wN
 (if r.2.fin==0 then some r.1 else none,r.2)
def Mc.next (p:Pg) (L:List Im) (tape W:List Int) (fuel:Int) (at_:Int) (m:Mc):Option Int×Mc:=
 if at_ == -1 then m.back L 0
 else if m.steps==fuel then(none,{m with fin:=2})
 else
  let m:= {m with steps:=m.steps+1}
  let it:=fR L at_
  if it.s.kind==4 then
   let r:=m.call p W it.s
   (if r.2.fin==0 then some r.1 else none,r.2)
  else if it.s.kind==9 then
   let r:=m.iV W it.s
   if r.2.fin==0 then r.2.back L r.1 else(none,r.2)
  else
   let r:=m.do p L tape W it
   (if r.2.fin==0 then some r.1 else none,r.2)
def Mc.go (p:Pg) (L:List Im) (tape W:List Int) (fuel:Int):Nat→Int→Mc→Option Mc
 | 0,_,_=>none
 |N+1,at_,m=>
  match m.next p L tape W fuel at_ with
  |(none,m)=>some m
  |(some a,m)=>Mc.go p L tape W fuel N a m
def oN (p:Pg):Mc:=⟨[],List.replicate p.globals.length 0,0,0,0,[],[]⟩
def runM (p:Pg) (tape W:List Int) (fuel:Int):Option Mc:=
 let r:=(oN p).open p (p.at lK) [] 0
 Mc.go p p.aX.L tape W fuel (2*fuel.toNat+3) r.1 r.2
theorem fw (W:List Int) (m:Mc) (id:Int) (cB:List Int):(m.event W id cB).st=m.st∧(m.event W id cB).mem=m.mem∧(m.event W id cB).fin=m.fin∧(m.event W id cB).steps=m.steps∧(m.event W id cB).reads=m.reads∧(m.event W id cB).out=m.out:=by
 unfold Mc.event;split<;>exact⟨rfl,rfl,rfl,rfl,rfl,rfl⟩
theorem jk (m:Mc) (x:Ex):(m.bJ x).2.st=m.st∧(m.bJ x).2.mem=m.mem∧(m.bJ x).2.steps=m.steps∧(m.bJ x).2.reads=m.reads∧(m.bJ x).2.out=m.out∧(m.bJ x).2.trace=m.trace:=by
 unfold Mc.bJ;dsimp only;split<;>exact⟨rfl,rfl,rfl,rfl,rfl,rfl⟩
theorem xK : ∀ (l:List Ar) (m:Mc) (out:List Nat),(Mc.args l m out).2.st=m.st∧(Mc.args l m out).2.steps=m.steps
 | [],m,out=>⟨rfl,rfl⟩
 | a::l,m,out=>by
  simp only[Mc.args]
  split
  ·exact xK l m _
  ·have h:=jk m a.x
   split
   ·have:=xK l {(m.bJ a.x).2 with mem:=(m.bJ a.x).2.mem++ [(m.bJ a.x).1.1]} (out++ [(m.bJ a.x).2.mem.length])
    exact⟨this.1.trans h.1,this.2.trans h.2.2.1⟩
   ·exact⟨h.1,h.2.2.1⟩
theorem Bu (p:Pg) (m:Mc) (i:Int) (l:List Nat) (c:Int):(m.open p i l c).2.st.length≤m.st.length+1∧(m.open p i l c).2.steps=m.steps:=by
 unfold Mc.open;split
 ·exact⟨Nat.le_succ _,rfl⟩
 ·exact⟨Nat.le_refl _,rfl⟩
theorem X3 (p:Pg) (W:List Int) (m:Mc) (s:Sm):(m.call p W s).2.st.length≤m.st.length+1∧(m.call p W s).2.steps=m.steps:=by
 have h:=xK s.args m []
 unfold Mc.call
 generalize Mc.args s.args m [] = r at *
 obtain⟨o,m1⟩:=r
 dsimp only at h
 cases o with
 |none=>dsimp only;rw[h.1,h.2];exact⟨Nat.le_succ _,rfl⟩
 | some l=>
  dsimp only
  split
  ·dsimp only;rw[h.1,h.2];exact⟨Nat.le_succ _,rfl⟩
  ·have h2:=Bu p (m1.event W s.id []) (p.at s.proc) l s.id
   rw[(fw ..).1,(fw ..).2.2.2.1,h.1,h.2]at h2
   exact h2
theorem IW (W:List Int) (m:Mc) (s:Sm):(m.iV W s).2.st=m.st∧(m.iV W s).2.steps=m.steps:=by
 have h:=jk m s.x
 unfold Mc.iV
 dsimp only
 split
 ·split
  ·exact⟨(fw ..).1.trans h.1,(fw ..).2.2.2.1.trans h.2.2.1⟩
  ·exact⟨h.1,h.2.2.1⟩
 ·exact⟨(fw ..).1,(fw ..).2.2.2.1⟩
theorem V7 (p:Pg) (L:List Im) (tape W:List Int) (m:Mc) (it:Im):(m.do p L tape W it).2.st=m.st∧(m.do p L tape W it).2.steps=m.steps:=by
 have h:=jk m it.s.x
 have e:=fun(m:Mc) id cB=>(⟨(fw W m id cB).1,(fw W m id cB).2.2.2.1⟩:(m.event W id cB).st=m.st∧(m.event W id cB).steps=m.steps)
 unfold Mc.do
 dsimp only
 repeat' split
 all_goals first
  |exact e ..
  |exact⟨rfl,rfl⟩
  |exact⟨(e ..).1.trans h.1,(e ..).2.trans h.2.2.1⟩
  |exact⟨h.1,h.2.2.1⟩
theorem TR (L:List Im) (m:Mc) (g:Int):(m.close L g).2.st=m.st.tail∧(m.close L g).2.steps=m.steps∧(m.st = []→(m.close L g).2.fin=1):=by
 unfold Mc.close
 dsimp only
 split
 ·exact⟨rfl,rfl,fun _=>rfl⟩
 ·rename_i hc
  refine⟨by split<;>rfl,by split<;>rfl,fun e=>absurd ?_ hc⟩
  simp[Mc.top,e]
theorem back_eq {L:List Im} {m:Mc} {g:Int} {a:Int} {m':Mc} (h:m.back L g=(some a,m')):m'.st.length<m.st.length∧m'.steps=m.steps:=by
 obtain⟨h1,h2,h3⟩:=TR L m g
 unfold Mc.back at h
 dsimp only at h
 split at h
 ·rename_i hf
  simp only[Prod.mk.injEq]at h
  rw[← h.2]
  refine⟨?_,h2⟩
  rw[h1,List.length_tail]
  cases e:m.st with
  |nil=>rw[h3 e]at hf;cases hf
  |cons x l=>simp
 ·simp at h
theorem X4 {p:Pg} {L:List Im} {tape W:List Int} {fuel a a':Int} {m m':Mc} (hs:m.steps≤fuel) (h:m.next p L tape W fuel a=(some a',m')) :
 m'.steps≤fuel∧2*(fuel - m'.steps)+m'.st.length<2*(fuel - m.steps)+m.st.length:=by
 unfold Mc.next at h
 split at h
 ·have:=back_eq h;omega
 split at h
 ·simp at h
 rename_i eK
 have hD:m.steps<fuel:=by(have:m.steps≠fuel:=by simpa using eK);omega
 dsimp only at h
 split at h
 ·have h1:=X3 p W {m with steps:=m.steps+1} (fR L a).s
  simp only[Prod.mk.injEq]at h
  rw[← h.2]
  dsimp only at h1
  omega
 split at h
 ·have h1:=IW W {m with steps:=m.steps+1} (fR L a).s
  dsimp only at h1
  split at h
  ·have h2:=back_eq h
   rw[h1.1,h1.2]at h2
   omega
  ·simp at h
 ·have h1:=V7 p L tape W {m with steps:=m.steps+1} (fR L a)
  simp only[Prod.mk.injEq]at h
  rw[← h.2,h1.1,h1.2]
  dsimp only
  omega
theorem KS (p:Pg) (L:List Im) (tape W:List Int) (fuel:Int) : ∀ (N:Nat) (a:Int) (m:Mc),m.steps≤fuel→2*(fuel - m.steps)+m.st.length<N→∃ m',Mc.go p L tape W fuel N a m=some m'
 | 0,_,_,_,h=>by omega
 | N+1,a,m,hs,h=>by
  simp only[Mc.go]
  cases e:m.next p L tape W fuel a with
  | mk o m1=>
   cases o with
   |none=>exact⟨m1,rfl⟩
   |some a1=>
    have:=X4 hs e
    exact KS p L tape W fuel N a1 m1 this.1 (by omega)
theorem QG (p:Pg) (tape W:List Int) {fuel:Int} (h:0≤fuel) : ∃ m,runM p tape W fuel=some m:=by
 unfold runM
 have h1:=Bu p (oN p) (p.at lK) [] 0
 have e1:(oN p).st.length=0:=rfl
 have e2:(oN p).steps=0:=rfl
 rw[e1,e2]at h1
 exact KS p _ tape W fuel _ _ _ (by rw[h1.2];exact h) (by rw[h1.2];omega)
structure Grow (m m':Mc):Prop where
 trace : ∃ t,m'.trace=m.trace++t
 out : ∃ t,m'.out=m.out++t
 reads:m.reads≤m'.reads
 steps:m.steps≤m'.steps
def AY (L:List Im) (a:Int):Prop:=a = -1∨(1≤a∧a≤(L.length:Int))
theorem yG {L:List Im} {a:Int} (h:AY L a) (hn:a≠ -1):fR L a∈L:=by
 rcases h with h|⟨h1,h2⟩
 ·exact absurd h hn
 ·unfold fR
  rw[List.getD_eq_getElem?_getD,List.getElem?_eq_getElem (show(a - 1).toNat<L.length by omega)]
  exact List.getElem_mem _
structure LOk (p:Pg) (L:List Im):Prop where
 id : ∀ x∈L,1≤x.s.id∧x.s.id≤(L.length:Int)
 next : ∀ x∈L,AY L x.next
 loop : ∀ x∈L,x.s.kind=7∨x.s.kind=8→1≤x.loop∧x.loop≤(L.length:Int)
 NN : ∀ x∈L,x.s.kind=10→∃ f,p.procs[x.proc.toNat]? = some f∧AY L (kI f.fin x.s.name (Sm.cT f.body)).1
 aY : ∀ x∈L,AY L (fX x.s.aY (-1))
 aW : ∀ x∈L,AY L (fX x.s.aW (-1))
 oY : ∀ f∈p.procs,AY L (fX f.body (-1))
def abJ (L:List Im) (m:Mc):Prop:=∀ fr∈m.st,fr.call=0∨(1≤fr.call∧fr.call≤(L.length:Int))
def Told (L:List Im) (r:Option Int×Mc):Prop:=
 match r.1 with
 |some a=>AY L a∧abJ L r.2∧r.2.fin=0∧(r.2.trace.length:Int)=r.2.steps
 |none=>((r.2.fin=1∨r.2.fin=2)∧(r.2.trace.length:Int)=r.2.steps)∨((r.2.fin=3∨r.2.fin=4∨r.2.fin=5)∧(r.2.trace.length:Int)+1=r.2.steps)
theorem QH (m:Mc) (x:Ex) (h:m.fin=0):((m.bJ x).1.2=true→(m.bJ x).2.fin=0)∧((m.bJ x).1.2=false→(m.bJ x).2.fin=4):=by
 unfold Mc.bJ
 dsimp only
 constructor
 ·intro e;rw[if_pos e];exact h
 ·intro e;rw[e];rfl
theorem CY : ∀ (l:List Ar) (m:Mc) (out:List Nat),m.fin=0→(Mc.args l m out).2.trace=m.trace∧(match (Mc.args l m out).1 with|some _=>(Mc.args l m out).2.fin=0|none=>(Mc.args l m out).2.fin=4)
 | [],m,out,h=>⟨rfl,h⟩
 | a::l,m,out,h=>by
  have hw:=QH m a.x h
  have he:=jk m a.x
  simp only[Mc.args]
  by_cases c:a.ref=true
  ·rw[if_pos c];exact CY l m _ h
  ·rw [if_neg c]
   by_cases c2:(m.bJ a.x).1.2=true
   ·rw [if_pos c2]
    obtain⟨h1,h2⟩:=CY l {(m.bJ a.x).2 with mem:=(m.bJ a.x).2.mem++ [(m.bJ a.x).1.1]} (out++ [(m.bJ a.x).2.mem.length]) (hw.1 c2)
    exact⟨h1.trans he.2.2.2.2.2,h2⟩
   ·rw [if_neg c2]
    exact⟨he.2.2.2.2.2,hw.2 (by simpa using c2)⟩
def atQ (L:List Im) (r:Int×Mc):Prop:=
 (r.2.fin=0∧AY L r.1∧abJ L r.2∧(r.2.trace.length:Int)=r.2.steps)∨((r.2.fin=3∨r.2.fin=4∨r.2.fin=5)∧(r.2.trace.length:Int)+1=r.2.steps)
def alG (m:Mc):Prop:=((m.fin=1∨m.fin=2)∧(m.trace.length:Int)=m.steps)∨((m.fin=3∨m.fin=4∨m.fin=5)∧(m.trace.length:Int)+1=m.steps)
def Cf (a b t:aF):aF:=if t==a then b else if t==b then a else t
mutual
def Ex.swap (a b:aF):Ex→Ex
 |⟨op,n,name,kids⟩=>⟨op,n,Cf a b name,Ex.yH a b kids⟩
def Ex.yH (a b:aF):List Ex→List Ex
 | []=> []
 |x::l=>x.swap a b::Ex.yH a b l
end
def Ar.swap (a b:aF) (x:Ar):Ar:=⟨x.ref,Cf a b x.name,x.x.swap a b⟩
mutual
def Sm.swap (a b:aF):Sm→Sm
 |⟨id,kind,labels,name,proc,x,has,args,aY,aW⟩=>⟨id,kind,labels.map (Cf a b),Cf a b name,Cf a b proc,x.swap a b,has,args.map (Ar.swap a b),Sm.yH a b aY,Sm.yH a b aW⟩
def Sm.yH (a b:aF):List Sm→List Sm
 | []=> []
 |s::l=>s.swap a b::Sm.yH a b l
end
def Pm.swap (a b:aF) (x:Pm):Pm:=⟨Cf a b x.name,x.ref⟩
def Pc.swap (a b:aF) (f:Pc):Pc:=⟨Cf a b f.name,f.params.map (Pm.swap a b),f.vars.map (Cf a b),Sm.yH a b f.body,f.fin.map (Cf a b)⟩
def Pg.swap (a b:aF) (p:Pg):Pg:=⟨p.globals.map (Cf a b),p.procs.map (Pc.swap a b)⟩
def It.swap (a b:aF) (i:It):It:=⟨i.s.swap a b,i.deep,i.dh,i.aW⟩
def V8:List Sm→List aF
 | []=> []
 |v::l=>v.said++V8 l
def afB (p:Pg):List aF→List aF
 | []=> []
 |n::l=>V8 (sS p n)++afB p l
set_option maxRecDepth 8000
open Go.Proofs
def o4 (nm:aF) (T:List aF) (seen:List aF):List Ar→Bool
 | []=>true
 |a::l=>if a.ref then(if fe seen a.name ||(a.name==nm ||fe T a.name)then false else o4 nm T (seen++ [a.name]) l)else o4 nm T seen l
def apM (T:List aF) (seen:List aF):List Ar→Bool
 | []=>true
 |a::l=>if a.ref then(if fe seen a.name ||fe T a.name then false else apM T (seen++ [a.name]) l)else apM T seen l
def Sm.alH (v:Sm):List aF:=if v.name != []then [v.name]else []
theorem TS {v:Sm} (Aj:v.args.length<1000000000) {T:List aF} (hT:T.length<4611686018427387904) (s:St) :
 aG Tryz.prog rG [.agg (bk v), .slice .shared 1 (T.map encStr)] s (.bool (o4 v.name T [] v.args)) s:=by
 refine aG.pure ?_ (by simp[D.bI,D.ok,qD,Tag.ok,eQ]) rfl s
 generalize hR:o4 v.name T [] v.args=R
 have V9:=fun x s=>qV hT x s
 unfold S0
 refine aG.go CJ rfl fun B Q hB hQ=>?_
 have⟨hD,hY,hZ,gA⟩:=bS
 repeat' (first
 |simp only[go_sem,hD,hY,hZ,gA]
 |(with_reducible refine aE hQ ?_;exact bg))
 refine bq.wx 5 1 rfl ?_
 simp only[go_sem,hD,hY,hZ,gA]
 refine fi 1 1 (bq.ind (ι:=List Ar×Nat×List aF×Nat) (fun i=>v.args.drop i.2.1=i.1∧o4 v.name T i.2.2.1 i.1=R∧i.2.2.1.length≤i.2.1∧i.2.2.2=i.2.2.1.length) (fun i=>i.1.length)
  (fun i=> [(1, .slice .shared 1 (T.map encStr)),(2, .ptr 0 0),(5, .slice (.tok 0) 1 (i.2.2.1.map encStr)),(9, .slice .shared 6 (v.args.map eg)),(10, .int .i64 (v.args.length:Int)),(11, .int .i64 (i.2.1:Int))]) (fun i=>⟨[bk v],[some i.2.2.2]⟩) ?_ (v.args,0,[],0) ⟨rfl,hR,Nat.le_refl _,rfl⟩)
 clear hR
 rintro⟨rest,k,seen,n'⟩ ⟨h1,h2,h3,h4⟩ IH
 dsimp only at h1 h2 h3 h4
 subst h4
 cases rest with
 |nil=>
  have hD:=drop_nil h1
  simp only[o4]at h2
  subst h2
  repeat' (first
 |simp only[go_sem,hD,hY,hZ,gA]
 |(with_reducible refine aE hQ ?_;exact bg))
 | cons a rest=>
  obtain⟨hY,g2,hD,g4⟩:=drop_cons h1
  have cf:k<4611686018427387904:=by omega
  have hZ:(seen.length+1)*17≤bH:=by unfold bH;omega
  have ng:=fun g s=>ji (l:=seen) (by omega) a.name g s
  simp only[o4]at h2
  rcases Bool.eq_false_or_eq_true a.ref with c1|c1
  case inr=>
   simp only[c1,Bool.false_eq_true,if_false]at h2
   repeat' (first
 |simp only[go_sem,hD,hY,hZ,gA,c1,Bool.not_false]
 | (with_reducible refine aE hQ ?_;exact bg))
   refine fj 1 1 ?_ ?_ (IH (rest,k+1,seen,_) ⟨g2,h2,by dsimp only;omega,rfl⟩ (Nat.lt_succ_self _))
   ·(simp only[go_sem,hD,hY,hZ,gA,aJ cf];try exact cv)
   ·(simp only[go_sem,hD,hY,hZ,gA,aJ cf];try exact cv)
  simp only[c1,if_true]at h2
  rcases Bool.eq_false_or_eq_true (fe seen a.name)with c2|c2
  ·simp only [c2,Bool.true_or,if_true]at h2
   subst h2
   repeat' (first
 |simp only[go_sem,hD,hY,hZ,gA,c1,c2,Bool.not_true]
 |(with_reducible refine CU (ng _ _) ?_)
 |(with_reducible refine CU (V9 _ _) ?_)
 | (with_reducible refine aE hQ ?_;exact bg))
  rcases Bool.eq_false_or_eq_true (a.name==v.name)with c3|c3
  ·simp only [c2,c3,Bool.false_or,Bool.true_or,if_true]at h2
   subst h2
   repeat' (first
 |simp only[go_sem,hD,hY,hZ,gA,c1,c2,c3,Bool.not_true]
 |(with_reducible refine CU (ng _ _) ?_)
 |(with_reducible refine CU (V9 _ _) ?_)
 | (with_reducible refine aE hQ ?_;exact bg))
  rcases Bool.eq_false_or_eq_true (fe T a.name)with c4|c4
  ·simp only [c2,c3,c4,Bool.false_or,if_true]at h2
   subst h2
   repeat' (first
 |simp only[go_sem,hD,hY,hZ,gA,c1,c2,c3,c4,Bool.not_true]
 |(with_reducible refine CU (ng _ _) ?_)
 |(with_reducible refine CU (V9 _ _) ?_)
 | (with_reducible refine aE hQ ?_;exact bg))
  ·simp only [c2,c3,c4,Bool.false_or,Bool.false_eq_true,if_false]at h2
   repeat' (first
 |simp only[go_sem,hD,hY,hZ,gA,c1,c2,c3,c4,Bool.not_true]
 |(with_reducible refine CU (ng _ _) ?_)
 |(with_reducible refine CU (V9 _ _) ?_)
 | (with_reducible refine aE hQ ?_;exact bg))
   refine fj 1 1 ?_ ?_ (IH (rest,k+1,seen++ [a.name],seen.length+1) ⟨g2,h2,by simp;omega,by simp⟩ (Nat.lt_succ_self _))
   ·(simp only[go_sem,hD,hY,hZ,gA,aJ cf,List.map_append,List.map_cons,List.map_nil,encStr];try exact cv)
   ·(simp only[go_sem,hD,hY,hZ,gA,aJ cf,List.map_append,List.map_cons,List.map_nil,encStr];try exact cv)
def mT (p:Pg):List Pc→List D
 | []=> []
 |f::l=> .str f.name:: .slice .shared 1 ((p.pL f.name).map encStr)::mT p l
theorem QI (p:Pg) : ∀ l,D.bI 0 0 (mT p l)=true
 | []=>rfl
 |f::l=>by simp only[mT,D.bI,D.ok,Tag.ok,eQ,QI p l];rfl
theorem X5 (n m:Nat) (p:Pg) (l:List Pc):D.gf n m (mT p l)=mT p l:=gK n m _ (QI p l)
attribute [go_sem] X5
theorem IX (p:Pg) : ∀ l m,mT p (l++m)=mT p l++mT p m
 | [],m=>rfl
 |f::l,m=>by simp only[List.cons_append,mT,IX p l m]
theorem IY {p:Pg} {nm:aF} {d:D} : ∀ {l:List Pc},nm∉l.map (·.name)→we nm d (mT p l)=some (mT p l++ [.str nm,d])
 | [],_=>rfl
 |f::l,h=>by
  simp only[List.map_cons,List.mem_cons,not_or]at h
  have:(f.name==nm)=false:=by simpa using fun e=>h.1 e.symm
  simp only[mT,we,this,Bool.false_eq_true,if_false,IY h.2,List.cons_append]
theorem IZ {p:Pg} {nm:aF} {z:D} : ∀ {l:List Pc} {f:Pc},iF nm l=some f→xQ nm z (mT p l)=some (.slice .shared 1 ((p.pL nm).map encStr))
 | g::l,f,h=>by
  simp only[iF]at h
  simp only[mT,xQ]
  split at h
  ·rename_i e
   rw[if_pos e,eq_of_beq e]
  ·rename_i e
   rw[if_neg e]
   exact IZ h
theorem X6 (l:List aF) : ∀ (s:List aF),pI s l=false→∀ a x b,l=a++x::b→x∉s++a:=by
 induction l with
 |nil=>intro s _ a x b e;cases a<;>cases e
 | cons y l ih=>
  intro s h a x b e
  simp only[pI]at h
  split at h
  ·cases h
  ·rename_i hy
   cases a with
   |nil=>cases e;simpa[← iO]using hy
   |cons z a=>
    cases e
    have:=ih (s++ [y]) h a x b rfl
    simpa using this
end Go.Abs
namespace Go.Abs
set_option maxRecDepth 8000
open Go.Proofs
theorem I0 {p:Pg} (h:(p.arity.1==0)=true):(p.scope.1==0)=true∧∀ v∈p.pre,(v.kind==4)=true→v.pS p=true:=by
 unfold Pg.arity at h
 split at h
 ·rename_i e
  refine⟨e,fun v hv hk=>?_⟩
  have : ∀ l:List Sm,((pJ 6 (II p l)).1==0)=true→∀ v∈l,(v.kind==4)=true→v.pS p=true:=by
   intro l
   induction l with
   |nil=>intro _ v m;cases m
   | cons a l ih=>
    intro h v m hk
    simp only[II]at h
    split at h
    ·cases h
    ·rename_i c
     rcases List.mem_cons.1 m with rfl|m
     ·simpa[hk]using c
     ·exact ih h v m hk
  exact this _ h v hv hk
 ·cases h
theorem F5 {p:Pg} {v:Sm} (h:v.pS p=true) : ∃ f,p.find v.proc=some f:=by
 unfold Sm.pS at h
 cases e:p.find v.proc with
 |some f=>exact⟨f,rfl⟩
 |none=>rw[e]at h;simp at h
theorem I1 : ∀ {l:List It} {n:Nat} {i:It},It.fD n l=true→i∈l→i.s.one=true
 | j::l,n,i,h,m=>by
  simp only[It.fD]at h
  split at h
  ·cases h
  ·rename_i c
   simp only[Bool.or_eq_true,not_or,Bool.not_eq_true',Bool.not_eq_false]at c
   rcases List.mem_cons.1 m with rfl|m
   ·exact c.2
   ·exact I1 h m
theorem X7 {p:Pg} (h:p.may=true) : ∀ v∈p.pre,v.one=true:=fun v m=>by
 rw[← (IE h).2,List.mem_map]at m
 obtain⟨i,hi,rfl⟩:=m
 exact I1 (EX h).2 hi
def Sm.xL (p:Pg) (v:Sm):Bool:=o4 v.name (p.pL v.proc) [] v.args
def I2 (p:Pg):List Sm→Option Sm
 | []=>none
 |v::l=>if v.kind==4 && !(v.xL p)then some v else I2 p l
def Pg.alias (p:Pg):Int×Int:=if p.arity.1==0 then pJ 8 (I2 p p.pre)else(1,0)
theorem I3 {p:Pg} (h:p.iU) (nm:aF):(p.pL nm).length<4611686018427387904:=by
 unfold Pg.pL
 cases hs:p.yz nm with
 |none=>dsimp only;decide
 |some f=>
  obtain⟨nn,hf⟩:=F1 hs
  have h1:=(IS nn hf).len
  have h2:=h.procs
  have h3:=(yC h (jY (p.work nm)) []).2
  have h4:(jY (p.work nm)).length*1800000≤900000*1800000:=Nat.mul_le_mul_right _ (by omega)
  have h5:(jY (p.rO nm)).length≤(p.rO nm).length:=vX _ _ (uh (lM _).1) fun x m=>((lM _).2 x).1 m
  dsimp only
  unfold Pg.rO at *
  simp only[List.length_nil]at h3
  omega
theorem NO {v:Sm} (hv:v.mQ):v.args.length<1000000000:=by have:=Ar.eR v.args;have:=hv.2.2;omega
theorem QJ {p:Pg} (h:p.iU) (s:St):aG Tryz.prog tf [.agg (cG p)] s (.agg [.int .i64 p.alias.1, .int .i64 p.alias.2]) s:=by
 refine aG.pure ?_ (by simp[D.bI,D.ok,kp]) rfl s
 obtain⟨rj,qX,qW⟩:=h.procs
 have o5:=fun s=>IJ h s
 have da:=fun s=>Bm (p:=p) (by omega) s
 have hL:=(nj p).1
 have FP:=oJ p
 generalize hR:p.alias=R
 simp only[Pg.alias]at hR
 unfold S0
 have b0:(p.arity.1 != 0) = !(p.arity.1==0):=rfl
 rcases Bool.eq_false_or_eq_true (p.arity.1==0)with b1|b1
 case inr=>
  rw[b1]at b0
  simp only[b1,Bool.false_eq_true,if_false]at hR
  subst hR
  refine aG.go vN rfl fun B Q hB hQ=>?_
  have⟨hD,hY,hZ,gA⟩:=bS
  repeat' (first
 |simp only[go_sem,hD,hY,hZ,gA,b0,Bool.not_false]
 |(with_reducible refine CU (o5 _) ?_)
 |(with_reducible refine aE hQ ?_;exact bg))
 rw[b1]at b0
 obtain⟨nn,iX⟩:=I0 b1
 have htw:=(CQ nn).2.1
 simp only[b1,if_true, ← hL]at hR
 refine aG.go vN rfl fun B Q hB hQ=>?_
 have⟨hD,hY,hZ,gA⟩:=bS
 repeat' (first
 |simp only[go_sem,hD,hY,hZ,gA,b0,Bool.not_true]
 |(with_reducible refine CU (o5 _) ?_)
 |(with_reducible refine aE hQ ?_;exact bg))
 refine fj 3 0 ?_ ?_ (bq.ind (ι:=List Pc×Nat×List Pc) (fun i=>p.procs.drop i.2.1=i.1∧p.procs=i.2.2++i.1) (fun i=>i.1.length)
  (fun i=> [(1, .ptr 0 0),(2, .ptr 1 0),(3, .fI 2),(15, .slice .shared 5 (p.procs.map cj)),(16, .int .i64 (p.procs.length:Int)),(17, .int .i64 (i.2.1:Int))]) (fun i=>⟨[cG p,[.int .i64 0, .int .i64 0],mT p i.2.2],[]⟩) ?_ (p.procs,0,[]) ⟨rfl,rfl⟩)
 ·(simp only[go_sem,hD,hY,hZ,gA,mT];try exact cv)
 ·(simp only[go_sem,hD,hY,hZ,gA,mT];try exact cv)
 rintro⟨rest,k,done⟩ ⟨h1,h2⟩ IH
 dsimp only at h1 h2
 cases rest with
 | cons a rest=>
  obtain⟨hY,g2,hD,g4⟩:=drop_cons h1
  have cf:k<4611686018427387904:=by omega
  have xa:=fun s=>Qx h a.name s
  have hnm:a.name∉done.map (·.name):=by
   have:=X6 _ [] htw (done.map (·.name)) a.name (rest.map (·.name)) (by simp[Pg.pn,h2])
   simpa using this
  have hmp:we a.name (.slice .shared 1 ((p.pL a.name).map encStr)) (mT p done)=some (mT p (done++ [a])):=by
   rw[IY hnm,IX];rfl
  repeat' (first
 |simp only[go_sem,hD,hY,hZ,gA,hmp]
 |(with_reducible refine CU (xa _) ?_)
 |(with_reducible refine aE hQ ?_;exact bg))
  refine fj 3 0 ?_ ?_ (IH (rest,k+1,done++ [a]) ⟨g2,by rw[h2];simp⟩ (Nat.lt_succ_self _))
  ·(simp only[go_sem,hD,hY,hZ,gA,aJ cf];try exact cv)
  ·(simp only[go_sem,hD,hY,hZ,gA,aJ cf];try exact cv)
 |nil=>
  have hD:=drop_nil h1
  rw[List.append_nil]at h2
  subst h2
  repeat' (first
 |simp only[go_sem,hD,hY,hZ,gA,nD]
 |(with_reducible refine CU (da _) ?_)
 | (with_reducible refine aE hQ ?_;exact bg))
  refine fi 3 0 (bq.ind (ι:=List Im×Nat) (fun i=>p.aX.L.drop i.2=i.1∧pJ 8 (I2 p (i.1.map Im.s))=R) (fun i=>i.1.length)
   (fun i=> [(1, .ptr 0 0),(2, .ptr 1 0),(3, .fI 2),(33, .slice .shared 17 (p.aX.L.map dq)),(34, .int .i64 (p.aX.L.length:Int)),(35, .int .i64 (i.2:Int))]) (fun i=>⟨[cG p,[.int .i64 0, .int .i64 0],mT p p.procs],[]⟩) ?_ (p.aX.L,0) ⟨rfl,hR⟩)
  clear hR
  rintro⟨rest,k⟩ ⟨h1,hR⟩ IH
  dsimp only at h1 hR
  cases rest with
  |nil=>
   have hD:=drop_nil h1
   simp only[List.map_nil,I2,pJ]at hR
   subst hR
   repeat' (first
 |simp only[go_sem,hD,hY,hZ,gA]
 | (with_reducible refine aE hQ ?_;exact bg))
  | cons a rest=>
   obtain⟨hY,g2,hD,g4⟩:=drop_cons h1
   have cf:k<4611686018427387904:=by omega
   have DW:a.s∈p.pre:=by rw[← hL];exact List.mem_map_of_mem (List.mem_of_getElem? hY)
   have yX:=fun s=>TS (NO (h.pre _ DW)) (I3 h a.s.proc) s
   simp only[List.map_cons,I2,Sm.xL]at hR
   rcases Bool.eq_false_or_eq_true (a.s.kind==4)with c1|c1
   ·obtain⟨f,hf⟩:=F5 (iX _ DW c1)
    have hmg:=fun z=>IZ (p:=p) (z:=z) hf
    rcases Bool.eq_false_or_eq_true (o4 a.s.name (p.pL a.s.proc) [] a.s.args)with c2|c2
    ·simp only [c1,c2,Bool.not_true,Bool.and_false,Bool.false_eq_true,if_false]at hR
     repeat' (first
 |simp only[go_sem,hD,hY,hZ,gA,c1,c2,hmg]
 |(with_reducible refine CU (yX _) ?_)
 | (with_reducible refine aE hQ ?_;exact bg))
     refine fj 3 0 ?_ ?_ (IH (rest,k+1) ⟨g2,hR⟩ (Nat.lt_succ_self _))
     ·(simp only[go_sem,hD,hY,hZ,gA,aJ cf];try exact cv)
     ·(simp only[go_sem,hD,hY,hZ,gA,aJ cf];try exact cv)
    ·simp only [c1,c2,Bool.not_false,Bool.and_true,if_true,pJ]at hR
     subst hR
     repeat' (first
 |simp only[go_sem,hD,hY,hZ,gA,c1,c2,hmg]
 |(with_reducible refine CU (yX _) ?_)
 | (with_reducible refine aE hQ ?_;exact bg))
   ·simp only [c1,Bool.false_and,Bool.false_eq_true,if_false]at hR
    repeat' (first
 |simp only[go_sem,hD,hY,hZ,gA,c1]
 |(with_reducible refine CU (yX _) ?_)
 | (with_reducible refine aE hQ ?_;exact bg))
    refine fj 3 0 ?_ ?_ (IH (rest,k+1) ⟨g2,hR⟩ (Nat.lt_succ_self _))
    ·(simp only[go_sem,hD,hY,hZ,gA,aJ cf];try exact cv)
    ·(simp only[go_sem,hD,hY,hZ,gA,aJ cf];try exact cv)
def Sm.abM (p:Pg) (v:Sm):Bool:=v.pS p && apM (p.pL v.proc) v.alH v.args
def apF (p:Pg):List Sm→Option Sm
 | []=>none
 |v::l=>if v.kind==4 && !(v.abM p)then some v else apF p l
def rd0 (l:List pC):Rd:=⟨l,0,0,0,0⟩
def asO (m:Nat) (text:aF):Option (Pg×Int×Int):=
 if(xx text).2.1 != 0 then some (Zz,(xx text).2)
 else(Rd.program m (rd0 (xx text).1)).bind fun p=>if p.2.code != 0 then some (Zz,p.2.code,p.2.H8)else(p.1.Xx).bind fun q=>some (q,0,0)
def atz (m:Nat) (text:aF):Option (Ex×Int×Int):=
 if(xx text).2.1 != 0 then some (qC,(xx text).2)
 else(Rd.whole m (rd0 (xx text).1)).bind fun x=>x.2.PW.bind fun b=>
  if b then(x.2.bad 3).bind fun r=>if !r.good then some (qC,r.code,r.H8)else some (x.1,0,0)
  else if !x.2.good then some (qC,x.2.code,x.2.H8)else some (x.1,0,0)
def abN (n k:Int):Int:=if Int.tmod n k<0 then Int.tmod n k+k else Int.tmod n k
def afC (t:aF):Nat→aF
 | 0=> []
 |n+1=>afC t n++t
def two (i:Nat):aF:= [UInt8.ofNat (48+i / 10),UInt8.ofNat (48+i % 10)]
def abO (ahead:aF):Nat→aF
 | 0=> []
 |n+1=>(if n=0 then abO ahead n else abO ahead n++ [44])++(ahead++ [97]++two n)
def abP:Nat→aF
 | 0=> []
 |n+1=>abP n++([112,114,111,99,32,112]++two n++ [40,41,123,125])
def I4 (k:Int):List It→List Int
 | []=> []
 |i::l=>if k==0 ||i.s.kind==k then i.s.id::I4 k l else I4 k l
def atA (l:List Int) (n:Int):Int:=match l[(abN n l.length).toNat]? with|some x=>x|none=>0
def Wa (id:Int):List It→Option It
 | []=>none
 |i::l=>if i.s.id==id then some i else Wa id l
def Wb (id:Int):List Pc→Option (It×aF)
 | []=>none
 |f::l=>match Wa id f.flat with|some i=>some (i,f.name)|none=>Wb id l
def it0:It:=⟨H0,0,0,false⟩
def alI (r:Option (It×aF)):D:=match r with
 |some (i,nm)=> .tuple [.agg (jB i), .str nm, .bool true]
 |none=> .tuple [.agg (jB it0), .str [], .bool false]
def Pg.afD (p:Pg) (id:Int):Sm:=match Wb id p.procs with|some (i,_)=>i.s|none=>H0
def cQ (t:aF) (n:Int):Int:=if n > 20000 then 20001 else if(t.length:Int)≥20000 - n then 20001 else n+1+t.length
mutual
def eW:Ex→Int→Int
 |⟨_,_,name,kids⟩,n=>mU kids (cQ name n)
def mU:List Ex→Int→Int
 | [],n=>n
 |x::l,n=>if n≤20000 then mU l (eW x n)else n
end
theorem lN {t:aF} {n:Int} (h0:0≤n):cQ t n≤20001∧(n≤20000→n+1≤cQ t n)∧0≤cQ t n∧(cQ t n≤20000→n+1+t.length=cQ t n):=by
 unfold cQ;split
 ·omega
 ·split<;>omega
theorem va : ∀ (m:Nat) (x:Ex),x.size≤m→∀ n:Int,0≤n→eW x n≤20001∧(n≤20000→n+1≤eW x n)∧0≤eW x n∧(eW x n≤20000→(x.size:Int)+1≤2*(eW x n - n)∧x.texts):=by
 intro m
 induction m with
 |zero=>rintro⟨op,v,name,kids⟩ h;simp only[Ex.size]at h;omega
 | succ m ih=>
  rintro⟨op,v,name,kids⟩ h n h0
  simp only[Ex.size]at h
  obtain⟨t1,t2,t3,t4⟩:=lN (t:=name) h0
  have go : ∀ (l:List Ex),Ex.a8 l≤m→∀ c:Int,0≤c→c≤20001→mU l c≤20001∧c≤mU l c∧(mU l c≤20000→(Ex.a8 l:Int)≤2*(mU l c - c)∧Ex.uU l):=by
   intro l
   induction l with
   |nil=>intro _ c h0 h1;simp only[mU,Ex.a8];exact⟨h1,Int.le_refl _,fun _=>⟨by omega,trivial⟩⟩
   | cons y l QF=>
    intro hs c h0 h1
    simp only[Ex.a8]at hs ⊢
    simp only[mU]
    split
    ·rename_i hc
     obtain⟨a1,a2,a3,a4⟩:=ih y (by omega) c h0
     obtain⟨b1,b2,b3⟩:=QF (by omega) (eW y c) a3 a1
     have:=a2 hc
     refine⟨b1,by omega,fun hw=>?_⟩
     obtain⟨c1,c2⟩:=b3 hw
     obtain⟨d1,d2⟩:=a4 (by omega)
     exact⟨by omega,d2,c2⟩
    ·exact⟨h1,Int.le_refl _,fun hw=>by omega⟩
  obtain⟨g1,g2,g3⟩:=go kids (by omega) (cQ name n) t3 t1
  simp only[eW,Ex.size]
  refine⟨g1,fun hn=>by have:=t2 hn;omega,by omega,fun hw=>?_⟩
  obtain⟨k1,k2⟩:=g3 hw
  have:=t4 (by omega)
  exact⟨by omega,by omega,k2⟩
theorem qa (t:aF) {n:Int} (h0:0≤n) (h1:n≤20001) (s:St):aG Tryz.prog ga [.str t, .int .i64 n] s (.int .i64 (cQ t n)) s:=by
 refine aG.pure ?_ rfl rfl s
 unfold S0
 have w1:IntKind.wrap .i64 (20000 - n)=20000 - n:=ek (by omega) (by omega)
 have w2:IntKind.wrap .i64 (n+1)=n+1:=ek (by omega) (by omega)
 by_cases c:n > 20000
 ·have c1:decide (n > 20000)=true:=by simp;omega
  have e:cQ t n=20001:=by simp[cQ,c]
  rw[e]
  refine aG.go oH rfl fun B Q hB hQ=>?_
  have⟨hD,hY,hZ,gA⟩:=bS
  repeat' (first
 |simp only[go_sem,hD,hY,hZ,gA,c1,w1,w2]
 |(with_reducible refine aE hQ ?_;exact bg))
 ·have c1:decide (n > 20000)=false:=by simp;omega
  by_cases d:(t.length:Int)≥20000 - n
  ·have d1:decide ((t.length:Int)≥20000 - n)=true:=by simp;omega
   have e:cQ t n=20001:=by unfold cQ;rw[if_neg c,if_pos d]
   rw[e]
   refine aG.go oH rfl fun B Q hB hQ=>?_
   have⟨hD,hY,hZ,gA⟩:=bS
   repeat' (first
 |simp only[go_sem,hD,hY,hZ,gA,c1,d1,w1,w2]
 | (with_reducible refine aE hQ ?_;exact bg))
  ·have d1:decide ((t.length:Int)≥20000 - n)=false:=by simp;omega
   have e:cQ t n=n+1+t.length:=by unfold cQ;rw[if_neg c,if_neg d]
   have w3:IntKind.wrap .i64 (n+1+t.length)=n+1+t.length:=ek (by omega) (by omega)
   rw[e]
   refine aG.go oH rfl fun B Q hB hQ=>?_
   have⟨hD,hY,hZ,gA⟩:=bS
   repeat' (first
 |simp only[go_sem,hD,hY,hZ,gA,c1,d1,w1,w2,w3]
 |(with_reducible refine aE hQ ?_;exact bg))
theorem I5 : ∀ (m:Nat) (x:Ex),x.size≤m→∀ {n:Int},0≤n→n≤20000→∀ s:St,aG Tryz.prog jL [.agg (bW x), .int .i64 n] s (.int .i64 (eW x n)) s:=by
 intro m
 induction m with
 |zero=>rintro⟨op,v,name,kids⟩ h;simp only[Ex.size]at h;omega
 |succ m ih=>
  rintro⟨op,v,name,kids⟩ dK n h0 h1 s
  refine aG.pure ?_ (by simp[D.bI,D.ok,lr]) rfl s
  simp only[Ex.size]at dK
  have hk : ∀ y∈kids,∀ {n:Int},0≤n→n≤20000→∀ s:St,aG Tryz.prog jL [.agg (bW y), .int .i64 n] s (.int .i64 (eW y n)) s:=fun y hy=>ih y (by have:=Ex.dr hy;omega)
  have ht:=fun s=>qa name h0 (by omega) s
  obtain⟨t1,t2,t3,t4⟩:=lN (t:=name) h0
  unfold S0
  generalize h:eW ⟨op,v,name,kids⟩ n=p
  simp only[eW]at h
  refine aG.go Av rfl fun B Q hB hQ=>?_
  have⟨hD,hY,hZ,gA⟩:=bS
  repeat' (first
 |simp only[go_sem,hD,hY,hZ,gA]
 |(with_reducible refine CU (ht _) ?_)
 |(with_reducible first|refine bm fun hc=>?_|refine bn fun hc=>?_|refine bo (fun hc=>?_) fun hc=>?_)<;>(try simp only[hc,bs,↓reduceIte]at h)<;>try simp only[hc]
 | (with_reducible refine aE hQ ?_;exact fV))
  refine fi 1 0 (bq.ind (ι:=List Ex×Nat×Int) (fun i=>kids.drop i.2.1=i.1∧mU i.1 i.2.2=p∧(i.2.1:Int)≤i.2.2∧i.2.2≤20001) (fun i=>i.1.length)
   (fun i=> [(1, .int .i64 i.2.2),(2, .ptr 0 0),(5, .int .i64 (i.2.1:Int))]) (fun i=>⟨[bW ⟨op,v,name,kids⟩],[]⟩) ?_ (kids,0,cQ name n) ⟨rfl,h,t3,t1⟩)
  rintro⟨rest,k,c⟩ ⟨g1,h,g3,g4⟩ IH
  dsimp only at g1 h g3 g4
  cases rest with
  |nil=>
   have hD:=drop_nil g1
   simp only[mU]at h
   repeat' (first
 |simp only[go_sem,hD,hY,hZ,gA]
 |(with_reducible first|refine bm fun hc=>?_|refine bn fun hc=>?_|refine bo (fun hc=>?_) fun hc=>?_)<;>(try simp only[hc,bs,↓reduceIte]at h)<;>try simp only[hc]
 | (with_reducible refine aE hQ ?_;exact fV))
  | cons y rest=>
   obtain⟨hY,g2,hD,g5⟩:=drop_cons g1
   simp only[mU]at h
   by_cases hc:c≤20000
   ·have c1:decide (c≤20000)=true:=by simp;omega
    have hy:=fun s=>hk y (List.mem_of_getElem? hY) (n:=c) (by omega) hc s
    obtain⟨a1,a2,a3,a4⟩:=va _ y (Nat.le_refl _) c (by omega)
    have:=a2 hc
    have w3:IntKind.wrap .i64 ((k:Int)+1)=((k+1:Nat):Int):=by rw[ek]<;>omega
    rw[if_pos hc]at h
    repeat' (first
 |simp only[go_sem,hD,hY,hZ,gA,c1,w3]
 |(with_reducible refine CU (hy _) ?_)
 |(with_reducible first|refine bm fun hc=>?_|refine bn fun hc=>?_|refine bo (fun hc=>?_) fun hc=>?_)<;>(try simp only[hc,bs,↓reduceIte]at h)<;>try simp only[hc]
 | (with_reducible refine aE hQ ?_;(try cases h);simp only [aR,aS,bC,bD,go_sem,hD,hY,hZ,gA,c1,w3];try exact cb))
    refine fi 1 0 (IH (rest,k+1,eW y c) ⟨g2,h,by dsimp only;omega,a1⟩ (Nat.lt_succ_self _))
   ·have c1:decide (c≤20000)=false:=by simp;omega
    rw[if_neg hc]at h
    repeat' (first
 |simp only[go_sem,hD,hY,hZ,gA,c1]
 |(with_reducible first|refine bm fun hc=>?_|refine bn fun hc=>?_|refine bo (fun hc=>?_) fun hc=>?_)<;>(try simp only[hc,bs,↓reduceIte]at h)<;>try simp only[hc]
 |(with_reducible refine aE hQ ?_;(try cases h);simp only[aR,aS,bC,bD,go_sem,hD,hY,hZ,gA,c1];try exact cb))
def dI:List aF→Int→Int
 | [],n=>n
 |t::l,n=>if n≤20000 then dI l (cQ t n)else n
def iy:List Ar→Int→Int
 | [],n=>n
 |a::l,n=>if n≤20000 then iy l (cQ a.name (eW a.x n))else n
def kl:List Pm→Int→Int
 | [],n=>n
 |a::l,n=>if n≤20000 then kl l (cQ a.name n)else n
mutual
def q5:Sm→Int→Int
 |⟨_,_,labels,name,proc,x,_,args,aY,aW⟩,n=>fq aW (fq aY (iy args (cQ proc (cQ name (dI labels (eW x n))))))
def fq:List Sm→Int→Int
 | [],n=>n
 |s::l,n=>if n≤20000 then fq l (q5 s n)else n
end
theorem QK (s:Sm) (n:Int):q5 s n=fq s.aW (fq s.aY (iy s.args (cQ s.proc (cQ s.name (dI s.labels (eW s.x n)))))):=by cases s;simp only[q5]
def sT (f:Pc) (n:Int):Int:=fq f.body (kl f.params (dI f.fin (dI f.vars (cQ f.name n))))
def mV:List Pc→Int→Int
 | [],n=>n
 |f::l,n=>if n≤20000 then mV l (sT f n)else n
def Pg.Bv (p:Pg):Int:=mV p.procs (dI p.globals 0)
theorem kJ : ∀ (l:List aF) {n:Int},0≤n→n≤20001→dI l n≤20001∧n≤dI l n∧(dI l n≤20000→n+l.length≤dI l n∧∀ t∈l,t.length<4611686018427387904)
 | [],n,h0,h1=>by simp only[dI];exact⟨h1,Int.le_refl _,fun _=>⟨by simp,by simp⟩⟩
 | t::l,n,h0,h1=>by
  simp only[dI]
  split
  ·rename_i hc
   obtain⟨a1,a2,a3,a4⟩:=lN (t:=t) h0
   obtain⟨b1,b2,b3⟩:=kJ l (n:=cQ t n) a3 a1
   have:=a2 hc
   refine⟨b1,by omega,fun hw=>?_⟩
   obtain⟨c1,c2⟩:=b3 hw
   have:=a4 (by omega)
   refine⟨by simp only[List.length_cons];omega,fun s m=>?_⟩
   rcases List.mem_cons.1 m with rfl|m
   ·omega
   ·exact c2 s m
  ·exact⟨h1,Int.le_refl _,fun hw=>by omega⟩
theorem yI : ∀ (l:List Pm) {n:Int},0≤n→n≤20001→kl l n≤20001∧n≤kl l n∧(kl l n≤20000→n+l.length≤kl l n∧∀ t∈l,t.name.length<4611686018427387904)
 | [],n,h0,h1=>by simp only[kl];exact⟨h1,Int.le_refl _,fun _=>⟨by simp,by simp⟩⟩
 | t::l,n,h0,h1=>by
  simp only[kl]
  split
  ·rename_i hc
   obtain⟨a1,a2,a3,a4⟩:=lN (t:=t.name) h0
   obtain⟨b1,b2,b3⟩:=yI l (n:=cQ t.name n) a3 a1
   have:=a2 hc
   refine⟨b1,by omega,fun hw=>?_⟩
   obtain⟨c1,c2⟩:=b3 hw
   have:=a4 (by omega)
   refine⟨by simp only[List.length_cons];omega,fun s m=>?_⟩
   rcases List.mem_cons.1 m with rfl|m
   ·omega
   ·exact c2 s m
  ·exact⟨h1,Int.le_refl _,fun hw=>by omega⟩
theorem yJ : ∀ (l:List Ar) {n:Int},0≤n→n≤20001→iy l n≤20001∧n≤iy l n∧
 (iy l n≤20000→(Ar.a8 l:Int)≤2*(iy l n - n)∧∀ a∈l,a.x.size<4611686018427387904∧a.x.texts∧a.name.length<4611686018427387904)
 | [],n,h0,h1=>by simp only[iy];exact⟨h1,Int.le_refl _,fun _=>⟨by simp[Ar.a8],by simp⟩⟩
 | a::l,n,h0,h1=>by
  simp only[iy]
  split
  ·rename_i hc
   obtain⟨a1,a2,a3,a4⟩:=va _ a.x (Nat.le_refl _) n h0
   obtain⟨e1,e2,e3,e4⟩:=lN (t:=a.name) a3
   obtain⟨b1,b2,b3⟩:=yJ l (n:=cQ a.name (eW a.x n)) e3 e1
   have:=a2 hc
   have:eW a.x n≤cQ a.name (eW a.x n):=by
    by_cases h:eW a.x n≤20000
    ·have:=e2 h;omega
    ·have:cQ a.name (eW a.x n)=20001:=by unfold cQ;rw [if_pos (by omega)]
     omega
   refine⟨b1,by omega,fun hw=>?_⟩
   obtain⟨c1,c2⟩:=b3 hw
   have:=e4 (by omega)
   obtain⟨d1,d2⟩:=a4 (by omega)
   refine⟨by simp only[Ar.a8];omega,fun s m=>?_⟩
   rcases List.mem_cons.1 m with rfl|m
   ·exact⟨by omega,d2,by omega⟩
   ·exact c2 s m
  ·exact⟨h1,Int.le_refl _,fun hw=>by omega⟩
theorem kQ {t:aF} {n:Int} (h0:0≤n) (h1:n≤20001):n≤cQ t n∧cQ t n≤20001∧(cQ t n≤20000→n+1≤cQ t n∧t.length<4611686018427387904):=by
 obtain⟨e1,e2,e3,e4⟩:=lN (t:=t) h0
 by_cases h:n≤20000
 ·have:=e2 h
  exact⟨by omega,e1,fun hw=>⟨by omega,by have:=e4 hw;omega⟩⟩
 ·have:cQ t n=20001:=by unfold cQ;rw [if_pos (by omega)]
  exact⟨by omega,e1,fun hw=>by omega⟩
mutual
theorem F6 : ∀ (s:Sm) {n:Int},0≤n→n≤20000→q5 s n≤20001∧n+1≤q5 s n∧(q5 s n≤20000→(s.size:Int)+1≤2*(q5 s n - n)∧s.vQ)
 |⟨id,kind,labels,name,proc,x,has,args,aY,aW⟩,n,h0,h1=>by
  obtain⟨a1,a2,a3,a4⟩:=va _ x (Nat.le_refl _) n h0
  have a2:=a2 h1
  obtain⟨b1,b2,b3⟩:=kJ labels a3 a1
  obtain⟨c1,c2,c3⟩:=kQ (t:=name) (n:=dI labels (eW x n)) (by omega) b1
  obtain⟨d1,d2,d3⟩:=kQ (t:=proc) (n:=cQ name (dI labels (eW x n))) (by omega) c2
  obtain⟨e1,e2,e3⟩:=yJ args (n:=cQ proc (cQ name (dI labels (eW x n)))) (by omega) d2
  obtain⟨f1,f2,f3⟩:=q6 aY (n:=iy args (cQ proc (cQ name (dI labels (eW x n))))) (by omega) e1
  obtain⟨g1,g2,g3⟩:=q6 aW (n:=fq aY (iy args (cQ proc (cQ name (dI labels (eW x n)))))) (by omega) f1
  simp only[q5,Sm.size]
  refine⟨g1,by omega,fun hw=>?_⟩
  obtain⟨g4,g5⟩:=g3 hw
  obtain⟨f4,f5⟩:=f3 (by omega)
  obtain⟨e4,e5⟩:=e3 (by omega)
  obtain⟨d4,d5⟩:=d3 (by omega)
  obtain⟨c4,c5⟩:=c3 (by omega)
  obtain⟨b4,b5⟩:=b3 (by omega)
  obtain⟨a5,a6⟩:=a4 (by omega)
  have:=Ar.eR args
  refine⟨by omega, ?_⟩
  rw[CM]
  exact⟨⟨b5,by dsimp only;omega,c5,d5,by dsimp only;omega,a6,by dsimp only;omega,e5⟩,f5,g5⟩
theorem q6 : ∀ (l:List Sm) {n:Int},0≤n→n≤20001→fq l n≤20001∧n≤fq l n∧(fq l n≤20000→(Sm.a8 l:Int)≤2*(fq l n - n)∧Sm.ke l)
 | [],n,h0,h1=>by simp only[fq];exact⟨h1,Int.le_refl _,fun _=>⟨by simp[Sm.a8],by simp only[Sm.ke]⟩⟩
 | s::l,n,h0,h1=>by
  simp only[fq]
  split
  ·rename_i hc
   obtain⟨a1,a2,a3⟩:=F6 s h0 hc
   obtain⟨b1,b2,b3⟩:=q6 l (n:=q5 s n) (by omega) a1
   refine⟨b1,by omega,fun hw=>?_⟩
   obtain⟨c1,c2⟩:=b3 hw
   obtain⟨d1,d2⟩:=a3 (by omega)
   exact⟨by simp only[Sm.a8];omega,d2,c2⟩
  ·exact⟨h1,Int.le_refl _,fun hw=>by omega⟩
end
theorem F7 (f:Pc) {n:Int} (h0:0≤n) (h1:n≤20000):sT f n≤20001∧n+1≤sT f n∧(sT f n≤20000→(f.size:Int)+1≤2*(sT f n - n)∧
 (f.name.length<4611686018427387904∧(∀ t∈f.vars,t.length<4611686018427387904)∧(∀ t∈f.fin,t.length<4611686018427387904)∧∀ a∈f.params,a.name.length<4611686018427387904)∧Sm.ke f.body):=by
 obtain⟨c1,c2,c3⟩:=kQ (t:=f.name) h0 (by omega:n≤20001)
 have c4:=(lN (t:=f.name) h0).2.1 h1
 obtain⟨d1,d2,d3⟩:=kJ f.vars (n:=cQ f.name n) (by omega) c2
 obtain⟨e1,e2,e3⟩:=kJ f.fin (n:=dI f.vars (cQ f.name n)) (by omega) d1
 obtain⟨g1,g2,g3⟩:=yI f.params (n:=dI f.fin (dI f.vars (cQ f.name n))) (by omega) e1
 obtain⟨k1,k2,k3⟩:=q6 f.body (n:=kl f.params (dI f.fin (dI f.vars (cQ f.name n)))) (by omega) g1
 unfold sT Pc.size
 refine⟨k1,by omega,fun hw=>?_⟩
 obtain⟨k4,k5⟩:=k3 hw
 obtain⟨g4,g5⟩:=g3 (by omega)
 obtain⟨e4,e5⟩:=e3 (by omega)
 obtain⟨d4,d5⟩:=d3 (by omega)
 obtain⟨_,c5⟩:=c3 (by omega)
 exact⟨by omega,⟨c5,d5,e5,g5⟩,k5⟩
theorem D5 : ∀ (l:List Pc) {n:Int},0≤n→n≤20001→mV l n≤20001∧n≤mV l n∧(mV l n≤20000→(Pc.a8 l:Int)≤2*(mV l n - n)∧∀ f∈l,
 (f.name.length<4611686018427387904∧(∀ t∈f.vars,t.length<4611686018427387904)∧(∀ t∈f.fin,t.length<4611686018427387904)∧∀ a∈f.params,a.name.length<4611686018427387904)∧Sm.ke f.body)
 | [],n,h0,h1=>by simp only[mV];exact⟨h1,Int.le_refl _,fun _=>⟨by simp[Pc.a8],by simp⟩⟩
 | f::l,n,h0,h1=>by
  simp only[mV]
  split
  ·rename_i hc
   obtain⟨a1,a2,a3⟩:=F7 f h0 hc
   obtain⟨b1,b2,b3⟩:=D5 l (n:=sT f n) (by omega) a1
   refine⟨b1,by omega,fun hw=>?_⟩
   obtain⟨c1,c2⟩:=b3 hw
   obtain⟨d1,d2⟩:=a3 (by omega)
   refine⟨by simp only[Pc.a8];omega,fun s m=>?_⟩
   rcases List.mem_cons.1 m with rfl|m
   ·exact d2
   ·exact c2 s m
  ·exact⟨h1,Int.le_refl _,fun hw=>by omega⟩
theorem NP {p:Pg} (h:p.Bv≤20000):p.size≤40001∧p.GY:=by
 unfold Pg.Bv at h
 obtain⟨a1,a2,a3⟩:=kJ p.globals (n:=0) (by omega) (by omega)
 obtain⟨b1,b2,b3⟩:=D5 p.procs (n:=dI p.globals 0) (by omega) a1
 obtain⟨c1,c2⟩:=b3 h
 obtain⟨d1,d2⟩:=a3 (by omega)
 have:p.size≤40001:=by unfold Pg.size;omega
 exact⟨this,by omega,d2,fun f m=>(c2 f m).1,fun f m=>(c2 f m).2⟩
theorem wa {l:List aF} {n:Int} (h0:0≤n) (h1:n≤20001) (s:St):aG Tryz.prog jo [.slice .shared 1 (l.map encStr), .int .i64 n] s (.int .i64 (dI l n)) s:=by
 refine aG.pure ?_ (by simp[D.bI,D.ok,eQ,Tag.ok]) rfl s
 unfold S0
 generalize h:dI l n=p
 refine aG.go zu rfl fun B Q hB hQ=>?_
 have⟨hD,hY,hZ,gA⟩:=bS
 repeat' (first
 |simp only[go_sem,hD,hY,hZ,gA]
 |(with_reducible refine aE hQ ?_;exact bg))
 refine fi 0 0 (bq.ind (ι:=List aF×Nat×Int) (fun i=>l.drop i.2.1=i.1∧dI i.1 i.2.2=p∧(i.2.1:Int)≤i.2.2∧i.2.2≤20001) (fun i=>i.1.length)
  (fun i=> [(0, .slice .shared 1 (l.map encStr)),(1, .int .i64 i.2.2),(5, .int .i64 (i.2.1:Int))]) (fun i=>⟨[],[]⟩) ?_ (l,0,n) ⟨rfl,h,h0,h1⟩)
 rintro⟨rest,k,c⟩ ⟨g1,h,g3,g4⟩ IH
 dsimp only at g1 h g3 g4
 cases rest with
 |nil=>
  have hD:=drop_nil g1
  simp only[dI]at h
  subst h
  repeat' (first
 |simp only[go_sem,hD,hY,hZ,gA]
 |(with_reducible refine aE hQ ?_;exact bg))
 | cons y rest=>
  obtain⟨hY,g2,hD,g5⟩:=drop_cons g1
  simp only[dI]at h
  by_cases hc:c≤20000
  ·have c1:decide (c≤20000)=true:=by simp;omega
   have hy:=fun s=>qa y (n:=c) (by omega) g4 s
   obtain⟨a1,a2,a3,a4⟩:=lN (t:=y) (n:=c) (by omega)
   have:=a2 hc
   have w3:IntKind.wrap .i64 ((k:Int)+1)=((k+1:Nat):Int):=by rw[ek]<;>omega
   rw[if_pos hc]at h
   repeat' (first
 |simp only[go_sem,hD,hY,hZ,gA,c1,w3]
 |(with_reducible refine CU (hy _) ?_)
 | (with_reducible refine aE hQ ?_;exact bg))
   refine fi 0 0 (IH (rest,k+1,cQ y c) ⟨g2,h,by dsimp only;omega,a1⟩ (Nat.lt_succ_self _))
  ·have c1:decide (c≤20000)=false:=by simp;omega
   rw[if_neg hc]at h
   subst h
   repeat' (first
 |simp only[go_sem,hD,hY,hZ,gA,c1]
 |(with_reducible refine aE hQ ?_;exact bg))
theorem QL : ∀ (m:Nat) (l:List Sm),Sm.a8 l≤m→∀ {n:Int},0≤n→n≤20001→∀ s:St,aG Tryz.prog kv [.slice .shared 13 (l.map bk), .int .i64 n] s (.int .i64 (fq l n)) s:=by
 intro m
 induction m with
 | zero=>
  intro l h n h0 h1 s
  cases l with
  |nil=>
   have z:decide ((0:Int)<0)=false:=rfl
   refine aG.pure ?_ (by simp[D.bI,D.ok,D.gR,Tag.ok]) rfl s
   unfold S0
   simp only[fq]
   refine aG.go rn rfl fun B Q hB hQ=>?_
   have⟨hD,hY,hZ,gA⟩:=bS
   repeat' (first
 |simp only[go_sem,hD,hY,hZ,gA,z]
 |(with_reducible refine bq.kC ?_)
 |(with_reducible refine aE hQ ?_;exact bg))
  |cons s l=>simp only[Sm.a8]at h;omega
 |succ m ih=>
  intro l h n h0 h1 s
  refine aG.pure ?_ (by simp[D.bI,D.ok,qE,Tag.ok]) rfl s
  unfold S0
  generalize hp:fq l n=p
  refine aG.go rn rfl fun B Q hB hQ=>?_
  have⟨hD,hY,hZ,gA⟩:=bS
  repeat' (first
 |simp only[go_sem,hD,hY,hZ,gA]
 | (with_reducible refine aE hQ ?_;exact bg))
  refine fi 0 0 (bq.ind (ι:=List Sm×Nat×Int) (fun i=>l.drop i.2.1=i.1∧fq i.1 i.2.2=p∧(i.2.1:Int)≤i.2.2∧i.2.2≤20001) (fun i=>i.1.length)
   (fun i=> [(0, .slice .shared 13 (l.map bk)),(1, .int .i64 i.2.2),(5, .int .i64 (i.2.1:Int))]) (fun i=>⟨[],[]⟩) ?_ (l,0,n) ⟨rfl,hp,h0,h1⟩)
  rintro⟨rest,k,c⟩ ⟨g1,hp,g3,g4⟩ IH
  dsimp only at g1 hp g3 g4
  cases rest with
  |nil=>
   have hD:=drop_nil g1
   simp only[fq]at hp
   subst hp
   repeat' (first
 |simp only[go_sem,hD,hY,hZ,gA]
 | (with_reducible refine aE hQ ?_;exact bg))
  | cons y rest=>
   obtain⟨hY,g2,hD,g5⟩:=drop_cons g1
   simp only[fq]at hp
   by_cases hc:c≤20000
   ·have c1:decide (c≤20000)=true:=by simp;omega
    have gU:=List.mem_of_getElem? hY
    have dK:=Sm.dr gU
    have RC:s.ah.length≤s.ah.length∧Sm.a8 y.aY<y.size∧Sm.a8 y.aW<y.size:=by cases y;simp only[Sm.size];omega
    have w3:IntKind.wrap .i64 ((k:Int)+1)=((k+1:Nat):Int):=by rw[ek]<;>omega
    rw[if_pos hc]at hp
    obtain⟨a1,a2,a3,a4⟩:=va _ y.x (Nat.le_refl _) c (by omega)
    have a2:=a2 hc
    obtain⟨b1,b2,b3⟩:=kJ y.labels a3 a1
    obtain⟨c1',c2,c3⟩:=kQ (t:=y.name) (n:=dI y.labels (eW y.x c)) (by omega) b1
    obtain⟨d1,d2,d3⟩:=kQ (t:=y.proc) (n:=cQ y.name (dI y.labels (eW y.x c))) (by omega) c2
    have eE:=fun s=>I5 _ y.x (Nat.le_refl _) (n:=c) (by omega) hc s
    have eL:=fun s=>wa (l:=y.labels) (n:=eW y.x c) (by omega) a1 s
    have eN:=fun s=>qa y.name (n:=dI y.labels (eW y.x c)) (by omega) b1 s
    have eP:=fun s=>qa y.proc (n:=cQ y.name (dI y.labels (eW y.x c))) (by omega) c2 s
    obtain⟨r1,r2,r3⟩:=F6 y (n:=c) (by omega) hc
    rw[QK]at hp r1 r2
    generalize hC:cQ y.proc (cQ y.name (dI y.labels (eW y.x c)))=C at *
    obtain⟨s1,s2,s3⟩:=yJ y.args (n:=C) (by omega) d2
    obtain⟨t1,t2,t3⟩:=q6 y.aY (n:=iy y.args C) (by omega) s1
    have eT:=fun s=>ih y.aY (by omega) (n:=iy y.args C) (by omega) s1 s
    have eS:=fun s=>ih y.aW (by omega) (n:=fq y.aY (iy y.args C)) (by omega) t1 s
    generalize hW:iy y.args C=W at *
    repeat' (first
 |simp only[go_sem,hD,hY,hZ,gA,c1,w3]
 |(with_reducible refine CU (eE _) ?_)
 |(with_reducible refine CU (eL _) ?_)
 |(with_reducible refine CU (eN _) ?_)
 |(with_reducible refine CU (eP _) ?_)
 | (with_reducible refine aE hQ ?_;exact bg))
    refine fi 1 0 (bq.ind (ι:=List Ar×Nat×Int) (fun i=>y.args.drop i.2.1=i.1∧iy i.1 i.2.2=W∧(i.2.1:Int)≤i.2.2∧i.2.2≤20001) (fun i=>i.1.length)
     (fun i=> [(0, .slice .shared 13 (l.map bk)),(1, .int .i64 i.2.2),(5, .int .i64 (k:Int)),(6, .ptr 0 0),(7, .int .i64 (i.2.1:Int))]) (fun i=>⟨[bk y],[]⟩) ?_ (y.args,0,C) ⟨rfl,hW,by dsimp only;omega,d2⟩)
    rintro⟨ars,j,e⟩ ⟨k1,hw,k3,k4⟩ DP
    dsimp only at k1 hw k3 k4
    cases ars with
    |nil=>
     have hD:=drop_nil k1
     simp only[iy]at hw
     subst hw
     repeat' (first
 |simp only[go_sem,hD,hY,hZ,gA,w3]
 |(with_reducible refine CU (eT _) ?_)
 |(with_reducible refine CU (eS _) ?_)
 | (with_reducible refine aE hQ ?_;exact bg))
     refine fi 0 0 (IH (rest,k+1,fq y.aW (fq y.aY e)) ⟨g2,hp,by dsimp only;omega,r1⟩ (Nat.lt_succ_self _))
    | cons a ars=>
     obtain⟨hY,k2,hD,k5⟩:=drop_cons k1
     simp only[iy]at hw
     by_cases he:e≤20000
     ·have e1:decide (e≤20000)=true:=by simp;omega
      have w4:IntKind.wrap .i64 ((j:Int)+1)=((j+1:Nat):Int):=by rw[ek]<;>omega
      rw[if_pos he]at hw
      obtain⟨u1,u2,u3,u4⟩:=va _ a.x (Nat.le_refl _) e (by omega)
      have u2:=u2 he
      obtain⟨v1,v2,v3⟩:=kQ (t:=a.name) (n:=eW a.x e) u3 u1
      have eX:=fun s=>I5 _ a.x (Nat.le_refl _) (n:=e) (by omega) he s
      have eM:=fun s=>qa a.name (n:=eW a.x e) u3 u1 s
      repeat' (first
 |simp only[go_sem,hD,hY,hZ,gA,e1,w4]
 |(with_reducible refine CU (eX _) ?_)
 |(with_reducible refine CU (eM _) ?_)
 |(with_reducible refine aE hQ ?_;exact bg))
      refine fi 1 0 (DP (ars,j+1,cQ a.name (eW a.x e)) ⟨k2,hw,by dsimp only;omega,v2⟩ (Nat.lt_succ_self _))
     ·have e1:decide (e≤20000)=false:=by simp;omega
      rw[if_neg he]at hw
      subst hw
      repeat' (first
 |simp only[go_sem,hD,hY,hZ,gA,e1,w3]
 |(with_reducible refine CU (eT _) ?_)
 |(with_reducible refine CU (eS _) ?_)
 | (with_reducible refine aE hQ ?_;exact bg))
      refine fi 0 0 (IH (rest,k+1,fq y.aW (fq y.aY e)) ⟨g2,hp,by dsimp only;omega,r1⟩ (Nat.lt_succ_self _))
   ·have c1:decide (c≤20000)=false:=by simp;omega
    rw[if_neg hc]at hp
    subst hp
    repeat' (first
 |simp only[go_sem,hD,hY,hZ,gA,c1]
 |(with_reducible refine aE hQ ?_;exact bg))
theorem abS (p:Pg) (s:St):aG Tryz.prog wz [.agg (cG p)] s (.bool (decide (p.Bv≤20000))) s:=by
 refine aG.pure ?_ (by simp only[D.bI,D.ok,kp];rfl) rfl s
 unfold S0
 generalize hp:p.Bv=W
 unfold Pg.Bv at hp
 obtain⟨a1,a2,a3⟩:=kJ p.globals (n:=0) (by omega) (by omega)
 have eG:=fun s=>wa (l:=p.globals) (n:=0) (by omega) (by omega) s
 refine aG.go Gm rfl fun B Q hB hQ=>?_
 have⟨hD,hY,hZ,gA⟩:=bS
 repeat' (first
 |simp only[go_sem,hD,hY,hZ,gA]
 |(with_reducible refine CU (eG _) ?_)
 |(with_reducible refine aE hQ ?_;exact bg))
 refine fi 1 0 (bq.ind (ι:=List Pc×Nat×Int) (fun i=>p.procs.drop i.2.1=i.1∧mV i.1 i.2.2=W∧(i.2.1:Int)≤i.2.2∧i.2.2≤20001) (fun i=>i.1.length)
  (fun i=> [(1, .ptr 0 0),(3, .int .i64 i.2.2),(4, .int .i64 (i.2.1:Int))]) (fun i=>⟨[cG p],[]⟩) ?_ (p.procs,0,dI p.globals 0) ⟨rfl,hp,a2,a1⟩)
 rintro⟨rest,k,c⟩ ⟨g1,hp,g3,g4⟩ IH
 dsimp only at g1 hp g3 g4
 cases rest with
 |nil=>
  have hD:=drop_nil g1
  simp only[mV]at hp
  subst hp
  repeat' (first
 |simp only[go_sem,hD,hY,hZ,gA]
 |(with_reducible refine aE hQ ?_;exact bg))
 | cons f rest=>
  obtain⟨hY,g2,hD,g5⟩:=drop_cons g1
  simp only[mV]at hp
  by_cases hc:c≤20000
  ·have c1:decide (c≤20000)=true:=by simp;omega
   have w3:IntKind.wrap .i64 ((k:Int)+1)=((k+1:Nat):Int):=by rw[ek]<;>omega
   rw[if_pos hc]at hp
   obtain⟨r1,r2,r3⟩:=F7 f (n:=c) (by omega) hc
   unfold sT at hp r1 r2
   obtain⟨c1',c2,c3⟩:=kQ (t:=f.name) (n:=c) (by omega) g4
   obtain⟨d1,d2,d3⟩:=kJ f.vars (n:=cQ f.name c) (by omega) c2
   obtain⟨e1,e2,e3⟩:=kJ f.fin (n:=dI f.vars (cQ f.name c)) (by omega) d1
   have eN:=fun s=>qa f.name (n:=c) (by omega) g4 s
   have eV:=fun s=>wa (l:=f.vars) (n:=cQ f.name c) (by omega) c2 s
   have eF:=fun s=>wa (l:=f.fin) (n:=dI f.vars (cQ f.name c)) (by omega) d1 s
   generalize hC:dI f.fin (dI f.vars (cQ f.name c))=C at *
   obtain⟨s1,s2,s3⟩:=yI f.params (n:=C) (by omega) e1
   have eT:=fun s=>QL _ f.body (Nat.le_refl _) (n:=kl f.params C) (by omega) s1 s
   generalize hM:kl f.params C=M at *
   repeat' (first
 |simp only[go_sem,hD,hY,hZ,gA,c1,w3]
 |(with_reducible refine CU (eN _) ?_)
 |(with_reducible refine CU (eV _) ?_)
 |(with_reducible refine CU (eF _) ?_)
 | (with_reducible refine aE hQ ?_;exact bg))
   refine fi 2 0 (bq.ind (ι:=List Pm×Nat×Int) (fun i=>f.params.drop i.2.1=i.1∧kl i.1 i.2.2=M∧(i.2.1:Int)≤i.2.2∧i.2.2≤20001) (fun i=>i.1.length)
    (fun i=> [(1, .ptr 0 0),(3, .int .i64 i.2.2),(4, .int .i64 (k:Int)),(5, .ptr 1 0),(6, .int .i64 (i.2.1:Int))]) (fun i=>⟨[cG p,cj f],[]⟩) ?_ (f.params,0,C) ⟨rfl,hM,by dsimp only;omega,e1⟩)
   rintro⟨ms,j,e⟩ ⟨k1,hw,k3,k4⟩ DP
   dsimp only at k1 hw k3 k4
   cases ms with
   |nil=>
    have hD:=drop_nil k1
    simp only[kl]at hw
    subst hw
    repeat' (first
 |simp only[go_sem,hD,hY,hZ,gA,w3]
 |(with_reducible refine CU (eT _) ?_)
 | (with_reducible refine aE hQ ?_;exact bg))
    refine fi 1 0 (IH (rest,k+1,fq f.body e) ⟨g2,hp,by dsimp only;omega,r1⟩ (Nat.lt_succ_self _))
   | cons a ms=>
    obtain⟨hY,k2,hD,k5⟩:=drop_cons k1
    simp only[kl]at hw
    by_cases he:e≤20000
    ·have e1:decide (e≤20000)=true:=by simp;omega
     have w4:IntKind.wrap .i64 ((j:Int)+1)=((j+1:Nat):Int):=by rw[ek]<;>omega
     rw[if_pos he]at hw
     obtain⟨v1,v2,v3⟩:=kQ (t:=a.name) (n:=e) (by omega) k4
     have v4:=(lN (t:=a.name) (n:=e) (by omega)).2.1 he
     have eM:=fun s=>qa a.name (n:=e) (by omega) k4 s
     repeat' (first
 |simp only[go_sem,hD,hY,hZ,gA,e1,w4]
 |(with_reducible refine CU (eM _) ?_)
 | (with_reducible refine aE hQ ?_;exact bg))
     refine fi 2 0 (DP (ms,j+1,cQ a.name e) ⟨k2,hw,by dsimp only;omega,v2⟩ (Nat.lt_succ_self _))
    ·have e1:decide (e≤20000)=false:=by simp;omega
     rw[if_neg he]at hw
     subst hw
     repeat' (first
 |simp only[go_sem,hD,hY,hZ,gA,e1,w3]
 |(with_reducible refine CU (eT _) ?_)
 |(with_reducible first|refine bm fun hc=>?_|refine bn fun hc=>?_|refine bo (fun hc=>?_) fun hc=>?_)<;>(try simp only[hc,bs,↓reduceIte]at h)<;>try simp only[hc]
 | (with_reducible refine aE hQ ?_;simp only [aR,aS,bC,bD,go_sem,hD,hY,hZ,gA,e1,w3];try exact cb))
     refine fi 1 0 (IH (rest,k+1,fq f.body e) ⟨g2,hp,by dsimp only;omega,r1⟩ (Nat.lt_succ_self _))
  ·have c1:decide (c≤20000)=false:=by simp;omega
   rw[if_neg hc]at hp
   subst hp
   repeat' (first
 |simp only[go_sem,hD,hY,hZ,gA,c1]
 |(with_reducible first|refine bm fun hc=>?_|refine bn fun hc=>?_|refine bo (fun hc=>?_) fun hc=>?_)<;>(try simp only[hc,bs,↓reduceIte]at h)<;>try simp only[hc]
 |(with_reducible refine aE hQ ?_;simp only[aR,aS,bC,bD,go_sem,hD,hY,hZ,gA,c1];try exact cb))
def abT:List aF→List aF→Bool
 | [],_=>true
 |_::_,[]=>true
 |x::l,y::l'=>if !(x==y)then false else abT l l'
def Wc (l l':List aF):Bool:=if(l.length:Int) != (l'.length:Int)then false else abT l l'
def Ar.pj:List Ar→List Ar→Bool
 | [],_=>true
 |_::_,[]=>true
 |a::l,b::l'=>if !(a.ref==b.ref) || !(a.name==b.name) || !(Ex.beq a.x b.x)then false else Ar.pj l l'
mutual
def Sm.beq:Sm→Sm→Bool
 |⟨id,kind,labels,name,proc,x,has,args,aY,aW⟩,⟨id',afE,X8,Nj,uk,x',alN,Dr,abU,abV⟩=>
  if id != id' ||kind != afE || !(name==Nj) || !(proc==uk) || !(has==alN) || !(Wc labels X8) || !(Ex.beq x x') ||(args.length:Int) != (Dr.length:Int)then false
  else if !(Ar.pj args Dr)then false
  else if(if(aY.length:Int) != (abU.length:Int)then false else Sm.pj aY abU)then(if(aW.length:Int) != (abV.length:Int)then false else Sm.pj aW abV)else false
def Sm.pj:List Sm→List Sm→Bool
 | [],_=>true
 |_::_,[]=>true
 |s::l,t::l'=>if !(Sm.beq s t)then false else Sm.pj l l'
end
def Sm.alO (l l':List Sm):Bool:=if(l.length:Int) != (l'.length:Int)then false else Sm.pj l l'
def Pm.pj:List Pm→List Pm→Bool
 | [],_=>true
 |_::_,[]=>true
 |a::l,b::l'=>if !((a.name==b.name) && (a.ref==b.ref))then false else Pm.pj l l'
def Pc.pj:List Pc→List Pc→Bool
 | [],_=>true
 |_::_,[]=>true
 |f::l,g::l'=>
  if !(f.name==g.name) ||(f.params.length:Int) != (g.params.length:Int) || !(Wc f.vars g.vars) || !(Wc f.fin g.fin) || !(Sm.alO f.body g.body)then false
  else if !(Pm.pj f.params g.params)then false else Pc.pj l l'
def Pg.beq (p q:Pg):Bool:=if !(Wc p.globals q.globals) ||(p.procs.length:Int) != (q.procs.length:Int)then false else Pc.pj p.procs q.procs
def Bw (n:Int):Ex:=⟨1,n,[],[]⟩
def q7 (s:aF):Ex:=⟨2,0,s,[]⟩
def D6 (op:Int) (a b:Ex):Ex:=⟨op,0,[],[a,b]⟩
theorem afF (n:Int) (s:St):aG Tryz.prog qJ [.int .i64 n] s (.agg (bW (Bw n))) s:=by
 refine aG.pure ?_ rfl (by simp[D.ok,lr]) s
 unfold S0
 refine aG.go Il rfl fun B Q hB hQ=>?_
 have⟨hD,hY,hZ,gA⟩:=bS
 repeat' (first
 |simp only[go_sem,hD,hY,hZ,gA,Bw]
 |(with_reducible first|refine bm fun hc=>?_|refine bn fun hc=>?_|refine bo (fun hc=>?_) fun hc=>?_)<;>(try simp only[hc,bs,↓reduceIte]at h)<;>try simp only[hc]
 |(with_reducible refine aE hQ ?_;simp only[aR,aS,bC,bD,go_sem,hD,hY,hZ,gA,Bw];try exact cb))
theorem NQ (t:aF) (s:St):aG Tryz.prog kN [.str t] s (.agg (bW (q7 t))) s:=by
 refine aG.pure ?_ rfl (by simp[D.ok,lr]) s
 unfold S0
 refine aG.go Gr rfl fun B Q hB hQ=>?_
 have⟨hD,hY,hZ,gA⟩:=bS
 repeat' (first
 |simp only[go_sem,hD,hY,hZ,gA,q7]
 |(with_reducible first|refine bm fun hc=>?_|refine bn fun hc=>?_|refine bo (fun hc=>?_) fun hc=>?_)<;>(try simp only[hc,bs,↓reduceIte]at h)<;>try simp only[hc]
 |(with_reducible refine aE hQ ?_;simp only[aR,aS,bC,bD,go_sem,hD,hY,hZ,gA,q7];try exact cb))
theorem QM (op:Int) (a b:Ex) (s:St):aG Tryz.prog ub [.int .i64 op, .agg (bW a), .agg (bW b)] s (.agg (bW (D6 op a b))) s:=by
 refine aG.pure ?_ (by simp[D.bI,D.ok,lr]) (by simp[D.ok,lr]) s
 unfold S0
 refine aG.go Io rfl fun B Q hB hQ=>?_
 have⟨hD,hY,hZ,gA⟩:=bS
 repeat' (first
 |simp only[go_sem,hD,hY,hZ,gA,D6]
 |(with_reducible first|refine bm fun hc=>?_|refine bn fun hc=>?_|refine bo (fun hc=>?_) fun hc=>?_)<;>(try simp only[hc,bs,↓reduceIte]at h)<;>try simp only[hc]
 |(with_reducible refine aE hQ ?_;simp only[aR,aS,bC,bD,go_sem,hD,hY,hZ,gA,D6];try exact cb))
def source:aF:= [103,108,111,98,97,108,32,103,59,10,112,114,111,99,32,109,97,105,110,40,41,32,123,10,32,118,97,114,32,118,59,10,32,118,32,61,32,50,59,10,32,103,32,61,32,112,40,51,44,32,114,101,102,32,118,41,59,10,32,112,114,105,110,116,32,118,59,10,32,112,114,105,110,116,32,103,59,10,125,10,112,114,111,99,32,112,40,120,44,32,114,101,102,32,121,41,32,123,10,32,121,32,61,32,121,32,43,32,120,59,10,32,105,102,32,40,121,32,62,32,57,41,32,123,10,32,32,103,111,116,111,32,101,59,10,32,125,10,32,114,101,116,117,114,110,32,121,59,10,101,58,32,125,10]
def q8:Pg:=⟨[[103]],[
 ⟨[109,97,105,110],[],[[118]],[
  ⟨1,1,[],[118],[],Bw 2,false,[],[],[]⟩,
  ⟨2,4,[],[103],[112],qC,false,[⟨false,[],Bw 3⟩,⟨true,[118],qC⟩],[],[]⟩,
  ⟨3,3,[],[],[],q7 [118],false,[],[],[]⟩,
  ⟨4,3,[],[],[],q7 [103],false,[],[],[]⟩],[]⟩,
 ⟨[112],[⟨[120],false⟩,⟨[121],true⟩],[],[
  ⟨5,1,[],[121],[],D6 8 (q7 [121]) (q7 [120]),false,[],[],[]⟩,
  ⟨6,5,[],[],[],D6 12 (q7 [121]) (Bw 9),false,[],[⟨7,10,[],[101],[],qC,false,[],[],[]⟩],[]⟩,
  ⟨8,9,[],[],[],q7 [121],true,[],[],[]⟩],[[101]]⟩]⟩
theorem abW (s:St):aG Tryz.prog wB [] s (.agg (cG q8)) s:=by
 refine aG.pure ?_ rfl (by simp[D.ok,kp]) s
 unfold S0
 refine aG.go Gq rfl fun B Q hB hQ=>?_
 have⟨hD,hY,hZ,gA⟩:=bS
 repeat' (first
 |simp only[go_sem,hD,hY,hZ,gA,q8]
 |(with_reducible refine CU (afF _ _) ?_)
 |(with_reducible refine CU (NQ _ _) ?_)
 |(with_reducible refine CU (QM _ _ _ _) ?_)
 |(with_reducible refine aE hQ ?_;simp only[aR,aS,bC,bD,go_sem,hD,hY,hZ,gA];repeat' (first|exact Ok.out|with_reducible refine iJ ?_ ?_|(simp;done))))
 repeat' (first|exact Ok.out|with_reducible refine Wk.agg ?_|with_reducible refine Wk.rows ?_|with_reducible refine Wk.slice ?_|with_reducible refine gk.cons ?_ ?_|with_reducible refine iZ.cons ?_ ?_)
def Pg.asV (p:Pg) (n:Int):aF:=match p.procs[(abN n p.procs.length).toNat]? with|some f=>f.name|none=> []
theorem TT {p:Pg} (h:(p.arity.1==0)=true) (h2:(p.alias.1==0)=true) : ∀ v∈p.pre,(v.kind==4)=true→v.xL p=true:=by
 unfold Pg.alias at h2
 rw[if_pos h]at h2
 intro v hv hk
 have : ∀ l:List Sm,((pJ 8 (I2 p l)).1==0)=true→∀ v∈l,(v.kind==4)=true→v.xL p=true:=by
  intro l
  induction l with
  |nil=>intro _ v m;cases m
  | cons a l ih=>
   intro h v m hk
   simp only[I2]at h
   split at h
   ·cases h
   ·rename_i c
    rcases List.mem_cons.1 m with rfl|m
    ·simpa[hk]using c
    ·exact ih h v m hk
 exact this _ h2 v hv hk
section
variable {a b:aF}
end
section
variable {a b:aF} (ha:isName a=true) (hb:isName b=true)
include ha hb
end
def Pg.check (p:Pg):Int×Int:=if p.scope.1==0 then(if p.arity.1==0 then(if p.jump.1==0 then p.alias else p.jump)else p.arity)else p.scope
end Go.Abs
namespace Go.Abs
mutual
def Sm.EY (g:Sm→Sm):Sm→Sm
 |⟨id,kind,labels,name,proc,x,has,args,aY,aW⟩=> {g ⟨id,kind,labels,name,proc,x,has,args,aY,aW⟩with aY:=Sm.G0 g aY,aW:=Sm.G0 g aW}
def Sm.G0 (g:Sm→Sm):List Sm→List Sm
 | []=> []
 |s::l=>s.EY g::Sm.G0 g l
end
def It.EY (g:Sm→Sm) (i:It):It:= {i with s:=i.s.EY g}
def Pc.EY (g:Sm→Sm) (f:Pc):Pc:= {f with body:=Sm.G0 g f.body}
def Pg.EY (g:Sm→Sm) (p:Pg):Pg:= {p with procs:=p.procs.map (Pc.EY g)}
def at2 (t:Sm) (v:Sm):Sm:=if v.id==t.id then t else v
theorem D7 {yF fin:List aF} : ∀ {l:List (Sm×Int)} {seen:List aF},sk yF fin seen l=none↔pI seen (gW (l.map Prod.fst)++fin)=false∧∀ q∈l,pT yF q.1 q.2=true
 | [],seen=>by
  simp only[sk,List.map_nil,gW,List.nil_append,List.not_mem_nil,false_imp_iff,implies_true,and_true]
  rw[AW]
  cases pI seen fin<;>simp
 | (v,lp)::l,seen=>by
  simp only[sk,List.map_cons,gW,List.append_assoc]
  rw[AW,KP v.labels]
  cases h:pI seen v.labels
  ·simp only [Bool.false_eq_true,if_false,if_true,Bool.false_or]
   cases h2:pT yF v lp
   ·simp only [Bool.false_eq_true,if_false,reduceCtorEq,false_iff,not_and]
    intro _ h3
    have:=h3 (v,lp) (List.mem_cons_self ..)
    rw[h2]at this;cases this
   ·simp only [if_true,D7 (l:=l),List.mem_cons]
    constructor
    ·rintro⟨h3,h4⟩
     refine⟨h3,fun q hq=>?_⟩
     rcases hq with rfl|hq
     ·exact h2
     ·exact h4 q hq
    ·rintro⟨h3,h4⟩
     exact⟨h3,fun q hq=>h4 q (.inr hq)⟩
  ·simp
theorem D8 : ∀ {l:List Pc},sm l=none↔∀ f∈l,fv f.labels=false∧∀ q∈f.v7,pT f.labels q.1 q.2=true
 | []=>by simp[sm]
 | f::l=>by
  have e:sk f.labels f.fin [] f.v7=none↔fv f.labels=false∧∀ q∈f.v7,pT f.labels q.1 q.2=true:=by
   rw[D7,X1];rfl
  simp only[sm,List.mem_cons]
  split
  ·rename_i id h
   simp only[reduceCtorEq,false_iff]
   intro h3
   rw[e.2 (h3 f (.inl rfl))]at h
   cases h
  ·rename_i h
   rw[D8 (l:=l)]
   constructor
   ·intro h3 g hg
    rcases hg with rfl|hg
    ·exact e.1 h
    ·exact h3 g hg
   ·exact fun h3 g hg=>h3 g (.inr hg)
structure Pg.Right (p:Pg):Prop where
 may:p.may=true
 tg:fv p.globals=false
 tp:fv p.pn=false
 main:p.sR=false
 own : ∀ f∈p.procs,fv (p.globals++f.own)=false
 known : ∀ f∈p.procs,∀ v∈Sm.cT f.body,v.known p f p.pn=true
 yF : ∀ f∈p.procs,fv f.labels=false
 leads : ∀ f∈p.procs,∀ q∈f.v7,pT f.labels q.1 q.2=true
 fits : ∀ v∈p.pre,(v.kind==4)=true→v.pS p=true
 single : ∀ v∈p.pre,(v.kind==4)=true→v.xL p=true
theorem TU {p:Pg} (h:(p.check.1==0)=true):p.Right:=by
 unfold Pg.check at h
 by_cases h1:(p.scope.1==0)=true
 ·rw [if_pos h1]at h
  by_cases h2:(p.arity.1==0)=true
  ·rw [if_pos h2]at h
   by_cases h3:(p.jump.1==0)=true
   ·rw [if_pos h3]at h
    obtain⟨k1,k2,k3,k4⟩:=CQ h1
    have hj:sm p.procs=none:=by
     unfold Pg.jump at h3
     rw[if_pos h1]at h3
     cases e:sm p.procs with
     |none=>rfl
     |some id=>rw[e]at h3;cases h3
    rw[D8]at hj
    exact⟨AP h1,k1,k2,k3,fun f hf=>(k4 f hf).1,fun f hf=>(k4 f hf).2,fun f hf=>(hj f hf).1,fun f hf=>(hj f hf).2,(I0 h2).2,TT h2 h⟩
   ·rw[if_neg h3]at h;exact absurd h h3
  ·rw[if_neg h2]at h;exact absurd h h2
 ·rw[if_neg h1]at h;exact absurd h h1
def AtR (R:Int→Prop) (a:Int):Prop:=a = -1∨R a
theorem Bx {R:Int→Prop} {l:List Sm} {o:Int} (h : ∀ v∈Sm.cT l,R v.id) (ho:AtR R o):AtR R (fX l o):=by
 cases l with
 |nil=>exact ho
 |cons s l=>exact .inr (h s (by rw[Sm.cT,Sm.pH];exact List.mem_append_left _ (List.mem_cons_self ..)))
mutual
theorem abX {R:Int→Prop} (proc up next loop:Int) : ∀ s:Sm,(∀ v∈s.pre,R v.id)→AtR R next→(loop=0∨R loop)→
 ∀ x∈s.u6 proc up next loop,x.proc=proc∧AtR R x.next∧(x.loop=0∨R x.loop)∧AtR R (fX x.s.aY (-1))∧AtR R (fX x.s.aW (-1))∧x.s∈s.pre
 | ⟨id,kind,labels,name,pc,x,has,args,aY,aW⟩,h,hn,hl,y,m=>by
  have tW:=h _ (by rw[Sm.pH];exact List.mem_cons_self ..)
  have h1 : ∀ v∈Sm.cT aY,R v.id:=fun v m=>h v (by rw[Sm.pH];exact List.mem_cons_of_mem _ (List.mem_append_left _ m))
  have h2 : ∀ v∈Sm.cT aW,R v.id:=fun v m=>h v (by rw[Sm.pH];exact List.mem_cons_of_mem _ (List.mem_append_right _ m))
  have qu:AtR R (if kind==6 then id else next):=by split;exact .inr tW;exact hn
  have nI:(if kind==6 then id else loop)=0∨R (if kind==6 then id else loop):=by split;exact .inr tW;exact hl
  rw[Sm.pH]
  simp only[Sm.u6,List.mem_cons,List.mem_append]at m
  rcases m with rfl|m|m
  ·exact⟨rfl,hn,hl,Bx h1 (.inl rfl),Bx h2 (.inl rfl),List.mem_cons_self ..⟩
  ·obtain⟨g1,g2,g3,g4,g5,g6⟩:=xM proc id _ _ aY h1 qu nI y m
   exact⟨g1,g2,g3,g4,g5,List.mem_cons_of_mem _ (List.mem_append_left _ g6)⟩
  ·obtain⟨g1,g2,g3,g4,g5,g6⟩:=xM proc id _ _ aW h2 qu nI y m
   exact⟨g1,g2,g3,g4,g5,List.mem_cons_of_mem _ (List.mem_append_right _ g6)⟩
theorem xM {R:Int→Prop} (proc up next loop:Int) : ∀ l:List Sm,(∀ v∈Sm.cT l,R v.id)→AtR R next→(loop=0∨R loop)→
 ∀ x∈Sm.jz proc up next loop l,x.proc=proc∧AtR R x.next∧(x.loop=0∨R x.loop)∧AtR R (fX x.s.aY (-1))∧AtR R (fX x.s.aW (-1))∧x.s∈Sm.cT l
 | [],_,_,_,x,m=>by simp[Sm.jz]at m
 | s::l,h,hn,hl,x,m=>by
  simp only[Sm.cT,List.mem_append]at h
  simp only[Sm.jz,List.mem_append]at m
  simp only[Sm.cT,List.mem_append]
  rcases m with m|m
  ·obtain⟨g1,g2,g3,g4,g5,g6⟩:=abX proc up _ loop s (fun v m=>h v (.inl m)) (Bx (fun v m=>h v (.inr m)) hn) hl x m
   exact⟨g1,g2,g3,g4,g5, .inl g6⟩
  ·obtain⟨g1,g2,g3,g4,g5,g6⟩:=xM proc up next loop l (fun v m=>h v (.inr m)) hn hl x m
   exact⟨g1,g2,g3,g4,g5, .inr g6⟩
end
theorem I6 {x:Im} : ∀ (l:List Pc) (k:Nat),x∈px k l→∃ i f,l[i]? = some f∧x∈Sm.jz ((k+i:Nat):Int) 0 (-1) 0 f.body
 | [],_,h=>by simp[px]at h
 | f::l,k,h=>by
  simp only[px,List.mem_append]at h
  rcases h with h|h
  ·exact⟨0,f,rfl,h⟩
  ·obtain⟨i,g,h1,h2⟩:=I6 l (k+1) h
   exact⟨i+1,g,by simpa using h1,by rw[show k+(i+1)=k+1+i by omega];exact h2⟩
theorem I7 {x:Im} : ∀ (l:List Pc) (k:Nat) {i:Nat} {f:Pc},l[i]? = some f→x∈Sm.jz ((k+i:Nat):Int) 0 (-1) 0 f.body→x∈px k l
 |f::l,k,0,g,h,m=>by simp at h;subst h;exact List.mem_append_left _ m
 |f::l,k,i+1,g,h,m=>List.mem_append_right _ (I7 l (k+1) (i:=i) (by simpa using h) (by rw[show k+1+i=k+(i+1) by omega];exact m))
theorem QN : ∀ (l:List Pc) (k:Nat),(px k l).map Im.s=(l.map fun f=>Sm.cT f.body).flatten
 | [],_=>rfl
 |f::l,k=>by simp only[px,List.map_append,qZ,QN l,List.map_cons,List.flatten_cons]
theorem KT {R:Int→Prop} {fin:List aF} {VQ:aF} : ∀ {l:List Sm},(∀ v∈l,R v.id)→(kI fin VQ l).2=true→AtR R (kI fin VQ l).1
 | [],_,h=>by
  simp only[kI]at h ⊢
  split at h
  ·rename_i c;rw[if_pos c];exact .inl rfl
  ·cases h
 | v::l,hv,h=>by
  simp only[kI]at h ⊢
  split
  ·exact .inr (hv v (List.mem_cons_self ..))
  ·rename_i c
   rw[if_neg c]at h
   exact KT (fun w m=>hv w (List.mem_cons_of_mem _ m)) h
def Hm (L:List Im) (k:Int) (a:Int):Prop:=1≤a∧a≤(L.length:Int)∧(fR L a).proc=k
structure AZ (p:Pg) (L:List Im) (x:Im) (f:Pc):Prop where
 self:fR L x.s.id=x∧1≤x.s.id∧x.s.id≤(L.length:Int)
 proc:p.procs[x.proc.toNat]? = some f∧0≤x.proc
 mem:x.s∈Sm.cT f.body
 next:AtR (Hm L x.proc) x.next
 loop:x.s.kind=7∨x.s.kind=8→Hm L x.proc x.loop
 aY:AtR (Hm L x.proc) (fX x.s.aY (-1))
 aW:AtR (Hm L x.proc) (fX x.s.aW (-1))
 NN:x.s.kind=10→AtR (Hm L x.proc) (kI f.fin x.s.name (Sm.cT f.body)).1
structure POk (p:Pg) (L:List Im):Prop where
 im : ∀ x∈L,∃ f,AZ p L x f
 head : ∀ (i:Nat) (f:Pc),p.procs[i]? = some f→AtR (Hm L i) (fX f.body (-1))
theorem qj {p:Pg} (h:p.Right):POk p p.aX.L:=by
 have hL:=QA h.may
 have hs:p.aX.L.map Im.s=p.pre:=by rw[hL,QN];rfl
 have hlen:p.aX.L.length=p.pre.length:=by rw[← hs,List.length_map]
 have self : ∀ x∈p.aX.L,fR p.aX.L x.s.id=x∧1≤x.s.id∧x.s.id≤(p.aX.L.length:Int):=fun x m=>by
  obtain⟨i,hi⟩:=List.getElem?_of_mem m
  have h1:=IF h.may (i:=i) (v:=x.s) (by rw[← hs,List.getElem?_map,hi];rfl)
  have h2:=(List.getElem?_eq_some_iff.1 hi).1
  refine⟨?_,by omega,by omega⟩
  unfold fR
  rw[h1,show(((i+1:Nat):Int) - 1).toNat=i by omega,List.getD_eq_getElem?_getD,hi];rfl
 have there : ∀ (i:Nat) (f:Pc),p.procs[i]? = some f→∀ v∈Sm.cT f.body,Hm p.aX.L i v.id:=fun i f hf v m=>by
  rw[← qZ (i:Int) 0 (-1) 0 f.body]at m
  obtain⟨x,hx,rfl⟩:=List.mem_map.1 m
  have hxL:x∈p.aX.L:=by rw[hL];exact I7 p.procs 0 hf (by simpa using hx)
  obtain⟨g1,g2,g3⟩:=self x hxL
  exact⟨g2,g3,by rw[g1];exact(xM (R:=fun _=>True) _ 0 (-1) 0 f.body (fun _ _=>trivial) (.inl rfl) (.inl rfl) x hx).1⟩
 refine⟨fun x m=>?_,fun i f hf=>Bx (there i f hf) (.inl rfl)⟩
 have m':=m
 rw[hL]at m'
 obtain⟨i,f,h1,h2⟩:=I6 p.procs 0 m'
 have hf:=List.mem_of_getElem? h1
 rw[Nat.zero_add]at h2
 obtain⟨g1,g2,g3,g4,g5,g6⟩:=xM (R:=Hm p.aX.L i) _ 0 (-1) 0 f.body (there i f h1) (.inl rfl) (.inl rfl) x h2
 have hl:=h.leads f hf (x.s,x.loop) (by rw[← IT (i:Int) f];exact List.mem_map.2 ⟨x,h2,rfl⟩)
 refine⟨f,self x m,⟨by rw[g1];simpa using h1,by rw[g1];exact Int.natCast_nonneg _⟩,g6,by rw[g1];exact g2,fun hk=>?_,by rw[g1];exact g4,by rw[g1];exact g5,fun hk=>?_⟩
 ·rw [g1]
  refine g3.resolve_left fun e=>?_
  unfold pT at hl
  rw[if_pos (by rcases hk with hk|hk<;>simp[hk]),e]at hl
  cases hl
 ·rw [g1]
  refine KT (there i f h1) ?_
  unfold pT at hl
  rw[if_neg (by simp[hk]),if_pos (by simp[hk])]at hl
  rw[AX];exact hl
theorem I8 {vars globals:List aF} {n:aF} : ∀ {l:List Pm},vV vars globals n l≠0→n∈l.map (·.name)∨n∈vars∨n∈globals
 | [],h=>by
  simp only[vV]at h
  split at h
  ·rename_i e;exact .inr (.inl ((iO _ _).1 e))
  ·split at h
   ·rename_i e;exact .inr (.inr ((iO _ _).1 e))
   ·exact absurd rfl h
 | a::l,h=>by
  simp only[vV]at h
  split at h
  ·rename_i e;exact .inl (by simp only[List.map_cons,List.mem_cons];exact .inl (by simpa using Eq.symm (by simpa using e)))
  ·rcases I8 h with h | h
   ·exact .inl (List.mem_cons_of_mem _ h)
   ·exact .inr h
theorem TV {p:Pg} {f:Pc} {v:Sm} (h:v.known p f p.pn=true) {n:aF} (m:n∈v.said):n∈p.globals++f.own:=by
 simp only[Sm.known,Bool.and_eq_true,Bool.not_eq_true']at h
 have h1:f.k8 p n≠0:=fun e=>by
  have:v.said.any (fun n=>f.k8 p n==0)=true:=List.any_eq_true.2 ⟨n,m,by simp[e]⟩
  rw[h.1]at this;cases this
 simp only[List.mem_append,Pc.own,Pc.sP]
 rcases I8 h1 with h2|h2|h2
 ·exact .inr (.inl h2)
 ·exact .inr (.inr h2)
 ·exact .inl h2
theorem um {n:aF} : ∀ {l:List Ar} {out:List aF},n∈out∨(∃ a∈l,a.ref=true∧a.name=n)→n∈Ar.said out l
 | [],out,h=>by rcases h with h|⟨a,m,_⟩;exact h;cases m
 | b::l,out,h=>by
  simp only[Ar.said]
  refine um ?_
  rcases h with h|⟨a,m,h1,h2⟩
  ·left;split<;>simp[h]
  ·rcases List.mem_cons.1 m with rfl | m
   ·left;rw[if_pos h1];simp[h2]
   ·exact .inr ⟨a,m,h1,h2⟩
theorem I9 {x:aF} : ∀ {l:List aF} {k:Nat},x∈l→∃ j:Nat,iN x (k:Int) l=((k+j:Nat):Int)∧j<l.length
 | s::l,k,m=>by
  by_cases e:x=s
  ·subst e;exact⟨0,by simp[iN],by simp⟩
  ·have e':(x==s)=false:=by simp [e]
   obtain⟨j,h1,h2⟩:=I9 (l:=l) (k:=k+1) ((List.mem_cons.1 m).resolve_left e)
   refine⟨j+1, ?_,by simp;omega⟩
   simp only[iN,e',Bool.false_eq_true,if_false]
   rw[show(k:Int)+1=((k+1:Nat):Int) by omega,h1];congr 1;omega
theorem G1 {name:aF} {f:Pc} : ∀ {l:List Pc} {k:Nat},iF name l=some f→∃ j:Nat,kG (fun f:Pc=>f.name==name) (k:Int) l=((k+j:Nat):Int)∧l[j]? = some f
 | g::l,k,h=>by
  simp only[iF]at h
  by_cases e:(g.name==name)=true
  ·rw [if_pos e]at h;cases h
   exact⟨0,by simp only[kG,e,if_true,Nat.add_zero],rfl⟩
  ·have e':(g.name==name)=false:=by simpa using e
   rw[if_neg e]at h
   obtain⟨j,h1,h2⟩:=G1 (l:=l) (k:=k+1) h
   refine⟨j+1, ?_,by simpa using h2⟩
   simp only[kG,e',Bool.false_eq_true,if_false]
   rw[show(k:Int)+1=((k+1:Nat):Int) by omega,h1];congr 1;omega
def C0 (p:Pg) (n:Nat) (fr:Fr):Prop:=∃ f,p.procs[fr.proc.toNat]? = some f∧0≤fr.proc∧fr.names=p.globals++f.own∧fr.vars.length=fr.names.length∧∀ c∈fr.vars,c<n
def By (L:List Im):List Fr→Prop
 | []=>False
 | [fr]=>fr.call=0
 |fr::tQ::l=>(Hm L tQ.proc fr.call∧(fR L fr.call).s.kind=4)∧By L (tQ::l)
structure oO (p:Pg) (L:List Im) (a:Int) (m:Mc):Prop where
 st:By L m.st
 fr : ∀ fr∈m.st,C0 p m.mem.length fr
 at_:AtR (Hm L m.top.proc) a
 tw:p.globals.length≤m.mem.length
theorem C0.mono {p:Pg} {n n':Nat} {fr:Fr} (h:C0 p n fr) (hn:n≤n'):C0 p n' fr:=by
 obtain⟨f,h1,h2,h3,h4,h5⟩:=h
 exact⟨f,h1,h2,h3,h4,fun c m=>Nat.lt_of_lt_of_le (h5 c m) hn⟩
theorem By.ne {L:List Im} {l:List Fr} (h:By L l) : ∃ fr r,l=fr::r:=by
 cases l with
 |nil=>exact h.elim
 |cons fr r=>exact⟨fr,r,rfl⟩
theorem Mc.X9 {L:List Im} {m:Mc} (h:By L m.st):m.top∈m.st:=by
 obtain⟨fr,r,e⟩:=h.ne
 simp[Mc.top,e]
theorem oO.of {p:Pg} {L:List Im} {a a':Int} {m m':Mc} (h:oO p L a m) (h1:m'.st=m.st) (h2:m.mem.length≤m'.mem.length) (h3:AtR (Hm L m.top.proc) a'):oO p L a' m':=by
 have ht:m'.top=m.top:=by unfold Mc.top;rw[h1]
 exact⟨by rw[h1];exact h.st,fun fr hf=>(h.fr fr (by rw[← h1];exact hf)).mono h2,by rw[ht];exact h3,Nat.le_trans h.tw h2⟩
section
variable {p:Pg} {L:List Im} {m:Mc}
theorem Ya {n:aF} {k:Nat} (h:C0 p k m.top) (hn:n∈m.top.names):m.cell n<k∧∃ j:Nat,iN n 0 m.top.names=(j:Int)∧m.top.vars[j]? = some (m.cell n):=by
 obtain⟨f,h1,h2,h3,h4,h5⟩:=h
 obtain⟨j,e1,e2⟩:=I9 (k:=0) hn
 have e3:iN n 0 m.top.names=(j:Int):=by simpa using e1
 have e4:m.top.vars[j]? = some (m.cell n):=by
  unfold Mc.cell
  rw[e3,Int.toNat_natCast,List.getD_eq_getElem?_getD,List.getElem?_eq_getElem (by omega)];rfl
 exact⟨h5 _ (List.mem_of_getElem? e4),j,e3,e4⟩
theorem EZ {k:Nat} (hk:p.globals.length≤k) : ∀ (l:List Ar) (m:Mc) (out:List Nat),C0 p m.mem.length m.top→(∀ a∈l,a.ref=true→a.name∈m.top.names)→(∀ c∈out,c<m.mem.length)→
 m.mem.length≤(Mc.args l m out).2.mem.length∧∀ o,(Mc.args l m out).1=some o→o.length=out.length+l.length∧∀ c∈o,c<(Mc.args l m out).2.mem.length
 | [],m,out,h,_,ho=>⟨Nat.le_refl _,fun o e=>by cases e;exact⟨rfl,ho⟩⟩
 | a::l,m,out,h,hn,ho=>by
  simp only[Mc.args]
  by_cases c:a.ref=true
  ·rw [if_pos c]
   obtain⟨g1,g2⟩:=EZ hk l m (out++ [m.cell a.name]) h (fun b mb=>hn b (List.mem_cons_of_mem _ mb)) fun x mx=>by
    rcases List.mem_append.1 mx with mx|mx
    ·exact ho x mx
    ·rw[List.mem_singleton.1 mx];exact(Ya h (hn a (List.mem_cons_self ..) c)).1
   exact⟨g1,fun o e=>⟨by rw[(g2 o e).1];simp;omega,(g2 o e).2⟩⟩
  ·rw [if_neg c]
   have he:=jk m a.x
   by_cases c2:(m.bJ a.x).1.2=true
   ·rw [if_pos c2]
    have ht:({(m.bJ a.x).2 with mem:=(m.bJ a.x).2.mem++ [(m.bJ a.x).1.1]} : Mc).top=m.top:=by unfold Mc.top;rw[he.1]
    have hl:(m.bJ a.x).2.mem.length=m.mem.length:=by rw[he.2.1]
    obtain⟨g1,g2⟩:=EZ hk l {(m.bJ a.x).2 with mem:=(m.bJ a.x).2.mem++ [(m.bJ a.x).1.1]} (out++ [(m.bJ a.x).2.mem.length]) (by rw[ht];exact h.mono (by simp[hl])) (by rw[ht];exact fun b mb=>hn b (List.mem_cons_of_mem _ mb)) fun x mx=>by
     rcases List.mem_append.1 mx with mx|mx
     ·have:=ho x mx;simp[hl];omega
     ·rw[List.mem_singleton.1 mx];simp
    exact⟨Nat.le_trans (by simp[hl]) g1,fun o e=>⟨by rw[(g2 o e).1];simp;omega,(g2 o e).2⟩⟩
   ·rw [if_neg c2]
    exact⟨by rw[he.2.1];exact Nat.le_refl _,fun o e=>by cases e⟩
theorem KU (hP:POk p L) {i:Nat} {f:Pc} (hf:p.procs[i]? = some f) {l:List Nat} {call:Int} (hl:l.length=f.params.length) (hc : ∀ c∈l,c<m.mem.length) (hg:p.globals.length≤m.mem.length)
 (zi : ∀ fr∈m.st,C0 p m.mem.length fr) (jr:(m.st = []∧call=0)∨(By L m.st∧Hm L m.top.proc call∧(fR L call).s.kind=4)):oO p L (m.open p (i:Int) l call).1 (m.open p (i:Int) l call).2:=by
 unfold Mc.open
 rw[Int.toNat_natCast,hf]
 dsimp only
 refine⟨?_,fun fr h=>?_,by exact hP.head i f hf,by simp;omega⟩
 ·rcases jr with ⟨h1,h2⟩ | ⟨h1,h2⟩
  ·rw[h1];exact h2
  ·obtain⟨fr,r,e⟩:=h1.ne
   dsimp only
   rw[e]at h1 ⊢
   have:m.top=fr:=by simp[Mc.top,e]
   rw[this]at h2
   exact⟨h2,h1⟩
 ·rcases List.mem_cons.1 h with rfl | h
  ·refine⟨f,by rw [Int.toNat_natCast];exact hf,Int.natCast_nonneg _,rfl,by simp [Pc.own,Pc.sP,hl],fun c m=> ?_⟩
   simp only[List.mem_append,List.mem_range,List.mem_map]at m
   simp only[List.length_append,List.length_replicate]
   rcases m with (m|m)|⟨x,m,rfl⟩
   ·omega
   ·have:=hc c m;omega
   ·omega
  ·exact(zi fr h).mono (by simp)
theorem Yb (hP:POk p L) {a:Int} (h:oO p L a m) {g:Int} {a':Int} {m':Mc} (e:m.back L g=(some a',m')):oO p L a' m':=by
 have hs:=h.st
 unfold Mc.back Mc.close at e
 dsimp only at e
 obtain⟨fr,r,es⟩:=hs.ne
 have ht:m.top=fr:=by simp[Mc.top,es]
 by_cases c:(m.top.call==0)=true
 ·rw[if_pos c]at e;cases e
 ·rw [if_neg c]at e
  rw[es]at hs
  cases r with
  |nil=>rw[ht]at c;exact absurd (beq_iff_eq.2 (show fr.call=0 from hs)) c
  | cons tQ r=>
   obtain⟨⟨h1,_⟩,h2⟩:=hs
   have gU:fR L m.top.call∈L:=yG (.inr (by rw[ht];exact⟨h1.1,h1.2.1⟩)) (by have:=h1.1;rw[ht];omega)
   obtain⟨f,o⟩:=hP.im _ gU
   have ho:=o.next
   rw[show(fR L m.top.call).proc=tQ.proc by rw[ht];exact h1.2.2]at ho
   rw[ht]at ho
   split at e<;>(dsimp only at e;split at e)<;>first|(cases e;done)|skip
   all_goals
    cases e
    refine⟨by simp only[Mc.set,es,List.tail_cons];exact h2,fun q hq=>?_,by simp only[Mc.set,Mc.top,es,List.tail_cons,List.headD_cons];exact ho,by simp only[Mc.set,List.length_set];exact h.tw⟩
    simp only[Mc.set,List.length_set]at hq ⊢
    exact h.fr q (by rw[es]at hq ⊢;exact List.mem_cons_of_mem _ hq)
end
theorem yK {p:Pg} (hR:p.Right) {x:Im} {f:Pc} (h:AZ p p.aX.L x f) {n:aF} (m:n∈x.s.said):n∈p.globals++f.own:=
 TV (hR.known f (List.mem_of_getElem? h.proc.1) x.s h.mem) m
theorem Yc {p:Pg} (hR:p.Right) {x:Im} {f:Pc} (h:AZ p p.aX.L x f) (hk:x.s.kind=4) : ∃ (j:Nat) (q:Pc),p.at x.s.proc=(j:Int)∧p.procs[j]? = some q∧x.s.args.length=q.params.length:=by
 have pw:x.s∈p.pre:=by
  simp only[Pg.pre,List.mem_flatten,List.mem_map];exact⟨_,⟨f,List.mem_of_getElem? h.proc.1,rfl⟩,h.mem⟩
 have hf:=hR.fits x.s pw (by simp[hk])
 unfold Sm.pS at hf
 simp only[Bool.and_eq_true]at hf
 cases e:p.find x.s.proc with
 |none=>rw[e]at hf;cases hf.2
 |some q=>
  rw[e]at hf
  obtain⟨j,h1,h2⟩:=G1 (k:=0) e
  refine⟨j,q,by simpa[Pg.at]using h1,h2, ?_⟩
  have:=hf.2
  simp only[Bt]at this
  split at this
  ·rename_i h3;have:=(beq_iff_eq.1 h3);omega
  ·cases this
theorem Yd {p:Pg} (hR:p.Right) {m:Mc} {W:List Int} {x:Im} {f:Pc} {a a':Int} {m':Mc} (h:oO p p.aX.L a m) (hx:AZ p p.aX.L x f) (hk:x.s.kind=4) (hp:x.proc=m.top.proc) (Ja:(m.call p W x.s).2.fin=0)
 (e:m.call p W x.s=(a',m')) (h0:m.fin=0):oO p p.aX.L a' m':=by
 have hP:=qj hR
 have yL:=h.fr _ (Mc.X9 h.st)
 obtain⟨f',t1,t2,t3,t4,t5⟩:=yL
 have ef:f'=f:=by have:=hx.proc.1;rw[hp,t1]at this;exact Option.some.inj this
 subst ef
 have ab0 : ∀ b∈x.s.args,b.ref=true→b.name∈m.top.names:=fun b mb hb=>by
  rw[t3];exact yK hR hx (um (.inr ⟨b,mb,hb,rfl⟩))
 obtain⟨j,q,c1,c2,c3⟩:=Yc hR hx hk
 have g1:=EZ h.tw x.s.args m [] ⟨f',t1,t2,t3,t4,t5⟩ ab0 (by simp)
 have g2:=xK x.s.args m []
 have g3:=CY x.s.args m [] h0
 unfold Mc.call at e Ja
 generalize Mc.args x.s.args m [] = r at *
 obtain⟨o,m1⟩:=r
 cases o with
 |none=>
  dsimp only at Ja g3
  rw[g3.2]at Ja;cases Ja
 | some l=>
  dsimp only at e Ja g1 g2 g3
  by_cases c:m1.st.length > 100
  ·rw[if_pos c]at Ja;cases Ja
  ·rw [if_neg c]at e
   have he:=fw W m1 x.s.id []
   have ht:(m1.event W x.s.id []).top=m.top:=by unfold Mc.top;rw[he.1,g2.1]
   have:=KU (m:=m1.event W x.s.id []) hP c2 (l:=l) (call:=x.s.id) (by rw[(g1.2 l rfl).1,c3];simp) (by rw[he.2.1];exact(g1.2 l rfl).2) (by rw[he.2.1];exact Nat.le_trans h.tw g1.1)
    (by rw[he.1,he.2.1,g2.1];exact fun fr zi=>(h.fr fr zi).mono g1.1) (.inr ⟨by rw[he.1,g2.1];exact h.st,by rw[ht];exact⟨hx.self.2.1,hx.self.2.2,by rw[hx.self.1];exact hp⟩,by rw[hx.self.1];exact hk⟩)
   rw[← c1,e]at this
   exact this
theorem afH {p:Pg} (hR:p.Right) {m:Mc} {T W:List Int} {x:Im} {f:Pc} {a:Int} (h:oO p p.aX.L a m) (hx:AZ p p.aX.L x f) (hp:x.proc=m.top.proc) :
 ((m.do p p.aX.L T W x).2.fin=0→oO p p.aX.L (m.do p p.aX.L T W x).1 (m.do p p.aX.L T W x).2):=by
 intro h0
 have ev : ∀ (m1:Mc) (id:Int) (cB:List Int),(m1.event W id cB).st=m1.st∧(m1.event W id cB).mem=m1.mem:=fun m1 id cB=>⟨(fw W m1 id cB).1,(fw W m1 id cB).2.1⟩
 have key : ∀ (m1:Mc) (b:Int),m1.st=m.st→m1.mem.length=m.mem.length→AtR (Hm p.aX.L x.proc) b→oO p p.aX.L b m1:=fun m1 b h1 h2 h3=>h.of h1 (Nat.le_of_eq h2.symm) (by rw[← hp];exact h3)
 have hw:=jk m x.s.x
 unfold Mc.do at h0 ⊢
 dsimp only at h0 ⊢
 by_cases c7:(x.s.kind==7)=true
 ·rw [if_pos c7]
  have hk:x.s.kind=7:=by simpa using c7
  have hl:=hx.loop (.inl hk)
  have gU:=yG (L:=p.aX.L) (a:=x.loop) (.inr ⟨hl.1,hl.2.1⟩) (by have:=hl.1;omega)
  obtain⟨g,o⟩:=(qj hR).im _ gU
  refine key _ _ (ev _ _ _).1 (by rw[(ev _ _ _).2]) ?_
  have:=o.next
  rw[hl.2.2]at this;exact this
 rw[if_neg c7]at h0 ⊢
 by_cases c8:(x.s.kind==8)=true
 ·rw [if_pos c8]
  exact key _ _ (ev _ _ _).1 (by rw[(ev _ _ _).2]) (.inr (hx.loop (.inr (by simpa using c8))))
 rw[if_neg c8]at h0 ⊢
 by_cases c10:(x.s.kind==10)=true
 ·rw [if_pos c10]
  refine key _ _ (ev _ _ _).1 (by rw[(ev _ _ _).2]) ?_
  have:=hx.NN (by simpa using c10)
  rw[hx.proc.1];exact this
 rw[if_neg c10]at h0 ⊢
 by_cases c2:(x.s.kind==2)=true
 ·rw [if_pos c2]at h0 ⊢
  split at h0
  ·cases h0
  ·rename_i n e
   exact key _ _ (ev _ _ _).1 (by rw[(ev _ _ _).2];simp[Mc.set]) hx.next
 rw[if_neg c2]at h0 ⊢
 by_cases cw:(m.bJ x.s.x).1.2=true
 ·rw [if_pos cw]at h0 ⊢
  have e1:((m.bJ x.s.x).2.event W x.s.id [(m.bJ x.s.x).1.1]).st=m.st:=(ev _ _ _).1.trans hw.1
  have e2:((m.bJ x.s.x).2.event W x.s.id [(m.bJ x.s.x).1.1]).mem.length=m.mem.length:=by rw[(ev _ _ _).2,hw.2.1]
  have fo : ∀ (l:List Sm) (b:Int),AtR (Hm p.aX.L x.proc) (fX l (-1))→AtR (Hm p.aX.L x.proc) b→AtR (Hm p.aX.L x.proc) (firstM l b):=fun l b h1 h2=>by
   cases l with
   |nil=>exact h2
   |cons s l=>exact h1
  split
  ·exact key _ _ e1 (by simp only[Mc.set,List.length_set];exact e2) hx.next
  split
  ·exact key _ _ e1 e2 hx.next
  split
  ·refine key _ _ e1 e2 ?_
   split
   ·exact fo _ _ hx.aW hx.next
   ·exact fo _ _ hx.aY hx.next
  split
  ·refine key _ _ e1 e2 ?_
   split
   ·exact hx.next
   ·exact fo _ _ hx.aY (.inr ⟨hx.self.2.1,hx.self.2.2,by rw[hx.self.1]⟩)
  ·exact key _ _ e1 e2 hx.next
 ·rw [if_neg cw]at h0
  have:(m.bJ x.s.x).2.fin=4:=by unfold Mc.bJ;dsimp only;rw[if_neg (show ¬ (x.s.x.bJ m.top.names m.cB).2=true from cw)]
  rw[this]at h0;cases h0
end Go.Abs
namespace Go.Abs
structure Lay where
 κ:List Nat
 φ:List Nat
 sd:D
 vd:D
def D.arr:D→List Nat
 | .dW _ o _ _=> [o]
 |_=> []
def Lay.own (y:Lay):List Nat:=0::(y.κ++(y.sd.arr++y.vd.arr))
def e9 (o:Nat):List D:= [.ptr o 0]
def oP (κ:List Nat) (f:Fr):List D:= [.int .i64 f.proc, .slice .shared 1 (f.names.map encStr), .slice .shared 1 (f.vars.map fun c=>e9 (κ.getD c 0)), .int .i64 f.call]
def gi (e:Int×List Int):List D:= [.int .i64 e.1, .slice .shared 1 (e.2.map cr)]
abbrev ff (p:Pg) (T W:List Int) (y:Lay) (m:Mc):List D:=
 [.dt (fl p) 0, .slice .shared 1 ((y.κ.take p.globals.length).map e9), .slice .shared 1 (T.map cr), .slice .shared 1 (W.map cr),y.sd,y.vd,
  .int .i64 m.fin, .int .i64 m.steps, .int .i64 m.reads, .slice (.tok 0) 1 (m.out.map cr), .slice (.tok 1) 2 (m.trace.map gi)]
def qb (n:Int):D:= .int .i64 n
def wO (o:Nat):D:= .ptr o 0
def jl (s:St) (d:D) (cs:List D):Prop:=(d = .dU 1∧cs = [])∨∃ o g more,d = .dW 1 o g cs.length∧s.ah[o]? = some (.int .i64 ((g:Nat):Int)::(cs++more))
structure Inv (p:Pg) (T W:List Int) (y:Lay) (m:Mc) (loc:List (Nat×List D)) (s:St):Prop where
 jm:s.ah[0]? = some (ff p T W y m)
 t0:s.av[0]? = some (some m.out.length)
 t1:s.av[1]? = some (some m.trace.length)
 len:y.κ.length=m.mem.length
 cell : ∀ (i c:Nat) (v:Int),y.κ[i]? = some c→m.mem[i]? = some v→s.ah[c]? = some [.int .i64 v]
 rP:y.φ.length=m.st.length
 frame : ∀ (i o:Nat) (fr:Fr),y.φ[i]? = some o→m.st[i]? = some fr→s.ah[o]? = some (oP y.κ fr)∧o∉y.own∧∀ c∈fr.vars,c<m.mem.length
 stack:jl s y.sd (y.φ.reverse.map wO)
 cB : ∃ l:List Int,jl s y.vd (l.map qb)
 own:y.own.Nodup
 loc : ∀ q∈loc,s.ah[q.1]? = some q.2∧q.1∉y.own
theorem jl.lt {s:St} {d:D} {cs:List D} (h:jl s d cs) : ∀ o∈d.arr,o<s.ah.length:=by
 rcases h with ⟨rfl,_⟩|⟨o,g,more,rfl,h⟩
 ·intro o m;simp[D.arr]at m
 ·intro o' m
  have:o'=o:=by simpa[D.arr]using m
  subst this;exact fN h
theorem jl.keep {s s':St} {d:D} {cs:List D} (h:jl s d cs) (k : ∀ o∈d.arr,s'.ah[o]? = s.ah[o]?):jl s' d cs:=by
 rcases h with h|⟨o,g,more,rfl,h⟩
 ·exact .inl h
 ·exact .inr ⟨o,g,more,rfl,by rw[k o (by simp[D.arr])];exact h⟩
theorem F8 {κ e:List Nat} {fr:Fr} (h : ∀ c∈fr.vars,c<κ.length):oP (κ++e) fr=oP κ fr:=by
 unfold oP
 rw[List.map_congr_left (g:=fun c=>e9 (κ.getD c 0)) fun c m=>by rw[List.getD_eq_getElem?_getD,List.getD_eq_getElem?_getD,List.getElem?_append_left (h c m)]]
section
variable {p:Pg} {T W:List Int} {y:Lay} {m:Mc} {loc:List (Nat×List D)} {s:St}
theorem Inv.sU (h:Inv p T W y m loc s) : ∀ o∈y.own,o<s.ah.length:=by
 intro o mo
 simp only[Lay.own,List.mem_cons,List.mem_append]at mo
 rcases mo with rfl|mo|mo|mo
 ·exact fN h.jm
 ·obtain⟨i,hi⟩:=List.getElem?_of_mem mo
  have hD:=(List.getElem?_eq_some_iff.1 hi).1
  exact fN (h.cell i o _ hi (List.getElem?_eq_getElem (by rw[← h.len];exact hD)))
 ·exact h.stack.lt o mo
 ·obtain⟨l,hl⟩:=h.cB
  exact hl.lt o mo
theorem Inv.tR (h:Inv p T W y m loc s):0<s.ah.length:=fN h.jm
theorem Inv.sub (h:Inv p T W y m loc s) {ab2:List (Nat×List D)} (hl : ∀ q∈ab2,q∈loc):Inv p T W y m ab2 s:= {h with loc:=fun q m=>h.loc q (hl q m)}
theorem Inv.keep (h:Inv p T W y m loc s) {s':St} (k : ∀ (o:Nat) (r:List D),s.ah[o]? = some r→s'.ah[o]? = some r) (k0:s'.av[0]? = s.av[0]?) (k1:s'.av[1]? = s.av[1]?):Inv p T W y m loc s':=by
 have ka : ∀ {d:D} {cs:List D},jl s d cs→jl s' d cs:=fun ha=>ha.keep fun o mo=>by
  rw[List.getElem?_eq_getElem (ha.lt o mo)];exact k o _ (List.getElem?_eq_getElem _)
 obtain⟨l,hl⟩:=h.cB
 exact⟨k _ _ h.jm,by rw[k0];exact h.t0,by rw[k1];exact h.t1,h.len,fun i c v h1 h2=>k _ _ (h.cell i c v h1 h2),h.rP,fun i o fr h1 h2=>⟨k _ _ (h.frame i o fr h1 h2).1,(h.frame i o fr h1 h2).2⟩,
  ka h.stack,⟨l,ka hl⟩,h.own,fun q m=>⟨k _ _ (h.loc q m).1,(h.loc q m).2⟩⟩
theorem Inv.new (h:Inv p T W y m loc s) (row:List D):Inv p T W y m ((s.ah.length,row)::loc) ⟨s.ah++ [row],s.av⟩:=by
 have h':=h.keep (s':=⟨s.ah++ [row],s.av⟩) (fun o r e=>by rw[List.getElem?_append_left (fN e)];exact e) rfl rfl
 refine {h' with loc:=fun q mq=>?_}
 rcases List.mem_cons.1 mq with rfl|mq
 ·exact⟨by simp,fun mo=>Nat.lt_irrefl _ (h.sU _ mo)⟩
 ·exact h'.loc q mq
theorem Inv.av (h:Inv p T W y m loc s) (ts:List (Option Nat)):Inv p T W y m loc ⟨s.ah,s.av++ts⟩:=
 h.keep (fun _ _ e=>e) (List.getElem?_append_left (List.getElem?_eq_some_iff.1 h.t0).1) (List.getElem?_append_left (List.getElem?_eq_some_iff.1 h.t1).1)
theorem Inv.Ld (h:Inv p T W y m loc s) {o:Nat} (ho:o∈y.own) (row:List D) {q:Nat} {r:List D} (hq:s.ah[q]? = some r) (hn:q≠o):(s.ah.set o row)[q]? = some r:=by
 rw[List.getElem?_set_ne (Ne.symm hn)];exact hq
theorem Inv.vb (h:Inv p T W y m loc s) {o:Nat} (ho:o∈y.κ++(y.sd.arr++y.vd.arr)):o≠0:=fun e=>by
 have:=h.own
 rw[Lay.own,List.nodup_cons]at this
 exact this.1 (e ▸ ho)
theorem Inv.s9 (h:Inv p T W y m loc s) {m':Mc} (h1:m'.st=m.st) (h2:m'.mem=m.mem) {ts:List (Option Nat)} (k0:ts[0]? = some (some m'.out.length)) (k1:ts[1]? = some (some m'.trace.length)) :
 Inv p T W y m' loc ⟨s.ah.set 0 (ff p T W y m'),ts⟩:=by
 have ne : ∀ {q:Nat} {r:List D},s.ah[q]? = some r→q≠0→(s.ah.set 0 (ff p T W y m'))[q]? = some r:=fun e hn=>h.Ld (by simp[Lay.own]) _ e hn
 have nf : ∀ {q:Nat},q∉y.own→q≠0:=fun hq e=>hq (by rw[e];simp[Lay.own])
 have ka : ∀ {d:D} {cs:List D},(∀ o∈d.arr,o∈y.κ++(y.sd.arr++y.vd.arr))→jl s d cs→jl ⟨s.ah.set 0 (ff p T W y m'),ts⟩ d cs:=fun hd ha=>ha.keep fun o mo=>by
  show(s.ah.set 0 _)[o]? = _
  rw[List.getElem?_set_ne (Ne.symm (h.vb (hd o mo)))]
 obtain⟨l,hl⟩:=h.cB
 refine⟨by simp[h.tR],k0,k1,by rw[h2];exact h.len,fun i c v e1 e2=>ne (h.cell i c v e1 (by rw[← h2];exact e2)) (h.vb (List.mem_append_left _ (List.mem_of_getElem? e1))),by rw[h1];exact h.rP,fun i o fr e1 e2=>?_,
  ka (fun o m=>by simp[m]) h.stack,⟨l,ka (fun o m=>by simp[m]) hl⟩,h.own,fun q mq=>⟨ne (h.loc q mq).1 (nf (h.loc q mq).2),(h.loc q mq).2⟩⟩
 rw[h1]at e2
 obtain⟨g1,g2,g3⟩:=h.frame i o fr e1 e2
 exact⟨ne g1 (nf g2),g2,by rw[h2];exact g3⟩
theorem Inv.TW (h:Inv p T W y m loc s) {i c:Nat} (hc:y.κ[i]? = some c) (v:Int):Inv p T W y {m with mem:=m.mem.set i v} loc ⟨s.ah.set c [.int .i64 v],s.av⟩:=by
 have gU:c∈y.κ:=List.mem_of_getElem? hc
 have oc:c<s.ah.length:=h.sU c (by simp[Lay.own,gU])
 have zj:=h.own
 rw[Lay.own,List.nodup_cons,List.nodup_append]at zj
 have hκ : ∀ i',y.κ[i']? = some c→i'=i:=fun i' e=>(List.getElem?_inj (List.getElem?_eq_some_iff.1 e).1 zj.2.1).1 (e.trans hc.symm)
 have ne : ∀ {q:Nat} {r:List D},s.ah[q]? = some r→q≠c→(s.ah.set c [.int .i64 v])[q]? = some r:=fun e hn=>h.Ld (o:=c) (by simp[Lay.own,gU]) _ e hn
 have nf : ∀ {q:Nat},q∉y.own→q≠c:=fun hq e=>hq (by rw[e];simp[Lay.own,gU])
 have ka : ∀ {d:D} {cs:List D},(∀ o∈d.arr,o∈y.sd.arr++y.vd.arr)→jl s d cs→jl ⟨s.ah.set c [.int .i64 v],s.av⟩ d cs:=fun hd ha=>ha.keep fun o mo=>by
  show(s.ah.set c _)[o]? = _
  rw[List.getElem?_set_ne (fun e=>zj.2.2.2 c gU o (hd o mo) e)]
 obtain⟨l,hl⟩:=h.cB
 refine⟨ne h.jm (fun e=>h.vb (List.mem_append_left _ gU) e.symm),h.t0,h.t1,by rw[h.len,List.length_set],fun i' c' v' e1 e2=>?_,h.rP,fun i' o fr e1 e2=>?_,
  ka (fun o m=>by simp[m]) h.stack,⟨l,ka (fun o m=>by simp[m]) hl⟩,h.own,fun q mq=>⟨ne (h.loc q mq).1 (nf (h.loc q mq).2),(h.loc q mq).2⟩⟩
 ·show(s.ah.set c _)[c']? = _
  simp only[List.getElem?_set]at e2
  by_cases e:i=i'
  ·subst e
   rw[hc]at e1;cases e1
   rw[if_pos rfl]at e2
   split at e2
   ·cases e2;simp[oc]
   ·cases e2
  ·rw [if_neg e]at e2
   have:c'≠c:=fun ec=>e (hκ i' (by rw[e1,ec])).symm
   exact ne (h.cell i' c' v' e1 e2) this
 ·obtain⟨g1,g2,g3⟩:=h.frame i' o fr e1 e2
  exact⟨ne g1 (nf g2),g2,by simpa using g3⟩
theorem Inv.alR (h:Inv p T W y m loc s) (v:Int) (hg:p.globals.length≤m.mem.length):Inv p T W {y with κ:=y.κ++ [s.ah.length]} {m with mem:=m.mem++ [v]} loc ⟨s.ah++ [[.int .i64 v]],s.av⟩:=by
 have h':=h.keep (s':=⟨s.ah++ [[.int .i64 v]],s.av⟩) (fun o r e=>by rw[List.getElem?_append_left (fN e)];exact e) rfl rfl
 have nA:s.ah.length∉y.own:=fun mo=>Nat.lt_irrefl _ (h.sU _ mo)
 have zj:=h.own
 have ho : ∀ o,o∈Lay.own {y with κ:=y.κ++ [s.ah.length]}→o∈y.own∨o=s.ah.length:=fun o mo=>by
  simp only[Lay.own,List.mem_cons,List.mem_append]at mo ⊢
  rcases mo with rfl|(mo|rfl|mo)|mo|mo
  ·exact .inl (.inl rfl)
  ·exact .inl (.inr (.inl mo))
  ·exact .inr rfl
  ·cases mo
  ·exact .inl (.inr (.inr (.inl mo)))
  ·exact .inl (.inr (.inr (.inr mo)))
 refine⟨by rw[h'.jm];simp only[ff];rw[List.take_append_of_le_length (by rw[h.len];exact hg)],h'.t0,h'.t1,by simp[h.len],fun i c v' e1 e2=>?_,h'.rP,fun i o fr e1 e2=>?_,h'.stack,h'.cB, ?_,fun q mq=>⟨(h'.loc q mq).1,fun mo=>?_⟩⟩
 ·rcases Nat.lt_or_ge i y.κ.length with hi | hi
  ·rw [List.getElem?_append_left hi]at e1
   rw[List.getElem?_append_left (by rw[← h.len];exact hi)]at e2
   exact h'.cell i c v' e1 e2
  ·have gI:i=y.κ.length:=by
    have:=(List.getElem?_eq_some_iff.1 e1).1
    simp at this;omega
   subst gI
   rw[List.getElem?_append_right (Nat.le_refl _)]at e1
   rw[List.getElem?_append_right (by rw[h.len];exact Nat.le_refl _)]at e2
   simp at e1;subst e1
   simp[h.len]at e2;subst e2
   simp
 ·obtain⟨g1,g2,g3⟩:=h'.frame i o fr e1 e2
  refine⟨by rw[F8 (by rw[h.len];exact g3)];exact g1,fun mo=>?_,fun c mc=>by simp only[List.length_append];have:=g3 c mc;omega⟩
  rcases ho o mo with mo|rfl
  ·exact g2 mo
  ·exact absurd (fN (h.frame i _ fr e1 e2).1) (Nat.lt_irrefl _)
 ·have:(Lay.own {y with κ:=y.κ++ [s.ah.length]}).Perm (s.ah.length::y.own):=by
   simp only[Lay.own,List.append_assoc,List.singleton_append]
   exact(List.Perm.cons _ List.perm_middle).trans (List.Perm.swap _ _ _)
  rw[this.nodup_iff,List.nodup_cons]
  exact⟨nA,zj⟩
 ·rcases ho _ mo with mo | e
  ·exact(h'.loc q mq).2 mo
  ·exact absurd (fN (h.loc q mq).1) (by rw[e];exact Nat.lt_irrefl _)
theorem Inv.NR (h:Inv p T W y m loc s) {vd:D} {s1:St} (k : ∀ (o:Nat) (r:List D),s.ah[o]? = some r→o∉y.vd.arr→s1.ah[o]? = some r) (hv : ∃ l:List Int,jl s1 vd (l.map qb)) (hn:vd.arr=y.vd.arr∨vd.arr = []∨vd.arr = [s.ah.length]) (ht:s1.av=s.av) :
 Inv p T W {y with vd:=vd} m loc ⟨s1.ah.set 0 (ff p T W {y with vd:=vd} m),s1.av⟩:=by
 have zj:=h.own
 have ab3:=zj
 rw[Lay.own,List.nodup_cons,List.nodup_append,List.nodup_append]at ab3
 obtain⟨n0,nκ,⟨ns,nv,Wd⟩,Jc⟩:=ab3
 have v0 : ∀ o∈y.vd.arr,o≠0:=fun o mo=>h.vb (by simp[mo])
 have qd:0<s1.ah.length:=fN (k 0 _ h.jm fun mo=>v0 0 mo rfl)
 have g : ∀ {o:Nat} {r:List D},s.ah[o]? = some r→o∉y.vd.arr→o≠0→(s1.ah.set 0 (ff p T W {y with vd:=vd} m))[o]? = some r:=fun e hv hn=>by
  rw[List.getElem?_set_ne (Ne.symm hn)];exact k _ _ e hv
 have Jd : ∀ o,o∈Lay.own {y with vd:=vd}→o∈y.own∨o=s.ah.length:=fun o mo=>by
  simp only[Lay.own,List.mem_cons,List.mem_append]at mo ⊢
  rcases mo with rfl|mo|mo|mo
  ·exact .inl (.inl rfl)
  ·exact .inl (.inr (.inl mo))
  ·exact .inl (.inr (.inr (.inl mo)))
  ·rcases hn with e | e | e
   ·rw[e]at mo;exact .inl (.inr (.inr (.inr mo)))
   ·rw[e]at mo;cases mo
   ·rw[e]at mo;exact .inr (List.mem_singleton.1 mo)
 have nk : ∀ o∈y.κ,o∉y.vd.arr:=fun o mo mv=>Jc o mo o (List.mem_append_right _ mv) rfl
 have nsd : ∀ o∈y.sd.arr,o∉y.vd.arr:=fun o mo mv=>Wd o mo o mv rfl
 have Wf : ∀ {o:Nat},o∉y.own→o∉y.vd.arr∧o≠0:=fun ho=>⟨fun mv=>ho (by simp[Lay.own,mv]),fun e=>ho (by rw[e];simp[Lay.own])⟩
 obtain⟨l,hl⟩:=hv
 refine⟨by simp[qd],by rw[ht];exact h.t0,by rw[ht];exact h.t1,h.len,fun i c v e1 e2=>g (h.cell i c v e1 e2) (nk c (List.mem_of_getElem? e1)) (h.vb (by simp[List.mem_of_getElem? e1])),h.rP,fun i o fr e1 e2=>?_, ?_,⟨l, ?_⟩, ?_,fun q mq=>?_⟩
 ·obtain⟨f1,f2,f3⟩:=h.frame i o fr e1 e2
  refine⟨g f1 (Wf f2).1 (Wf f2).2,fun mo=>?_,f3⟩
  rcases Jd o mo with mo|e
  ·exact f2 mo
  ·exact absurd (fN f1) (by rw[e];exact Nat.lt_irrefl _)
 ·refine h.stack.keep fun o mo=> ?_
  rw[List.getElem?_eq_getElem (h.stack.lt o mo)]
  exact g (List.getElem?_eq_getElem _) (nsd o mo) (h.vb (by simp[mo]))
 ·refine hl.keep fun o mo=> ?_
  have:o≠0:=by
   rcases hn with e|e|e
   ·rw[e]at mo;exact v0 o mo
   ·rw[e]at mo;cases mo
   ·rw[e]at mo;rw[List.mem_singleton.1 mo];have:=h.tR;omega
  show(s1.ah.set 0 _)[o]? = _
  rw[List.getElem?_set_ne (Ne.symm this)]
 ·rcases hn with e | e | e
  ·simp only[Lay.own,e];exact zj
  ·simp only [Lay.own,e,List.append_nil]
   rw[List.nodup_cons,List.nodup_append]
   exact⟨fun m=>n0 (by rcases List.mem_append.1 m with m|m<;>simp[m]),nκ,ns,fun a ma b mb=>Jc a ma b (List.mem_append_left _ mb)⟩
  ·simp only [Lay.own,e]
   have da : ∀ o∈y.own,o≠s.ah.length:=fun o mo e=>by have:=h.sU o mo;omega
   rw[List.nodup_cons,List.nodup_append,List.nodup_append]
   refine⟨fun m=>?_,nκ,⟨ns,by simp,fun a ma b mb=>?_⟩,fun a ma b mb=>?_⟩
   ·rcases List.mem_append.1 m with m | m
    ·exact n0 (by simp[m])
    ·rcases List.mem_append.1 m with m | m
     ·exact n0 (by simp[m])
     ·have:=List.mem_singleton.1 m;have:=h.tR;omega
   ·rw[List.mem_singleton.1 mb];exact da a (by simp[Lay.own,ma])
   ·rcases List.mem_append.1 mb with mb | mb
    ·exact Jc a ma b (List.mem_append_left _ mb)
    ·rw[List.mem_singleton.1 mb];exact da a (by simp[Lay.own,ma])
 ·obtain⟨f1,f2⟩:=h.loc q mq
  refine⟨g f1 (Wf f2).1 (Wf f2).2,fun mo=>?_⟩
  rcases Jd q.1 mo with mo|e
  ·exact f2 mo
  ·exact absurd (fN f1) (by rw[e];exact Nat.lt_irrefl _)
end
end Go.Abs
namespace Go.Abs
set_option maxRecDepth 8000
open Go.Proofs
theorem NS (b:Bool) (s:St):aG Tryz.prog jh [.bool b] s (.int .i64 (tz b)) s:=by
 refine aG.pure ?_ rfl rfl s
 generalize h:tz b=R
 simp only[tz]at h
 unfold S0
 refine aG.go Ir rfl fun B Q hB hQ=>?_
 have⟨hD,hY,hZ,gA⟩:=bS
 repeat' (first
 |simp only[go_sem,hD,hY,hZ,gA]
 |(with_reducible first|refine bm fun hc=>?_|refine bn fun hc=>?_|refine bo (fun hc=>?_) fun hc=>?_)<;>(try simp only[hc,bs,↓reduceIte]at h)<;>try simp only[hc]
 |(with_reducible refine aE hQ ?_;exact fV)
 |(cases h;done))
theorem Ye (a:Int) (s:St):aG Tryz.prog qP [.int .i64 a] s (.bool (!(a==0))) s:=by
 refine aG.pure ?_ rfl rfl s
 have e:(a != 0) = !(a==0):=rfl
 unfold S0
 refine aG.go EN rfl fun B Q hB hQ=>?_
 have⟨hD,hY,hZ,gA⟩:=bS
 repeat' (first
 |simp only[go_sem,hD,hY,hZ,gA,e]
 |(with_reducible first|refine bm fun hc=>?_|refine bn fun hc=>?_|refine bo (fun hc=>?_) fun hc=>?_)<;>(try simp only[hc,bs,↓reduceIte]at h)<;>try simp only[hc]
 |(with_reducible refine aE hQ ?_;(try cases h);simp only[aR,aS,bC,bD,go_sem,hD,hY,hZ,gA,e];try exact cb)
 |(cases h;done))
abbrev yM (r:Int×Bool):D:= .tuple [.int .i64 r.1, .bool r.2]
theorem afJ (op a:Int) (s:St):aG Tryz.prog yi [.int .i64 op, .int .i64 a] s (yM (NF op a)) s:=by
 refine aG.pure ?_ rfl rfl s
 generalize h:NF op a=R
 simp only[NF,D4]at h
 unfold S0
 refine aG.go Ip rfl fun B Q hB hQ=>?_
 have⟨hD,hY,hZ,gA⟩:=bS
 repeat' (first
 |simp only[go_sem,hD,hY,hZ,gA]
 |(with_reducible refine CU (NS _ _) ?_)
 |(with_reducible first|refine bm fun hc=>?_|refine bn fun hc=>?_|refine bo (fun hc=>?_) fun hc=>?_)<;>(try simp only[hc,bs,↓reduceIte]at h)<;>try simp only[hc]
 |(with_reducible refine aE hQ ?_;exact fV)
 |(cases h;done))
theorem TX (op a b:Int) (s:St):aG Tryz.prog tr [.int .i64 op, .int .i64 a, .int .i64 b] s (yM (NG op a b)) s:=by
 refine aG.pure ?_ rfl rfl s
 generalize h:NG op a b=R
 simp only[NG,D4]at h
 unfold S0
 rcases Bool.eq_false_or_eq_true (b==0)with b0|b0
 ·refine aG.go vP rfl fun B Q hB hQ=> ?_
  have⟨hD,hY,hZ,gA⟩:=bS
  repeat' (first
 |simp only[go_sem,hD,hY,hZ,gA]
 |(with_reducible first|refine bm fun hc=>?_|refine bn fun hc=>?_|refine bo (fun hc=>?_) fun hc=>?_)<;>(try simp only[hc,bs,↓reduceIte]at h)<;>try simp only[hc]
 |(with_reducible refine aE hQ ?_;exact fV)
 |(cases h;done))
 ·have hb:b≠0:=by simpa using b0
  refine aG.go vP rfl fun B Q hB hQ=>?_
  have⟨hD,hY,hZ,gA⟩:=bS
  repeat' (first
 |simp only[go_sem,hD,hY,hZ,gA,hb]
 |(with_reducible first|refine bm fun hc=>?_|refine bn fun hc=>?_|refine bo (fun hc=>?_) fun hc=>?_)<;>(try simp only[hc,bs,↓reduceIte]at h)<;>try simp only[hc]
 |(with_reducible refine aE hQ ?_;(try cases h);simp only[aR,aS,bC,bD,go_sem,hD,hY,hZ,gA,hb];try exact cb)
 |(cases h;done))
theorem QP (op a b:Int) (s:St):aG Tryz.prog rH [.int .i64 op, .int .i64 a, .int .i64 b] s (yM (NH op a b)) s:=by
 refine aG.pure ?_ rfl rfl s
 have e:(a != b) = !(a==b):=rfl
 generalize h:NH op a b=R
 simp only[NH]at h
 unfold S0
 refine aG.go CI rfl fun B Q hB hQ=>?_
 have⟨hD,hY,hZ,gA⟩:=bS
 repeat' (first
 |simp only[go_sem,hD,hY,hZ,gA,e]
 |(with_reducible refine CU (NS _ _) ?_)
 |(with_reducible first|refine bm fun hc=>?_|refine bn fun hc=>?_|refine bo (fun hc=>?_) fun hc=>?_)<;>(try simp only[hc,bs,↓reduceIte]at h)<;>try simp only[hc]
 |(with_reducible refine aE hQ ?_;(try cases h);simp only[aR,aS,bC,bD,go_sem,hD,hY,hZ,gA,e];try exact cb)
 |(cases h;done))
theorem afK (op a b:Int) (s:St):aG Tryz.prog yj [.int .i64 op, .int .i64 a, .int .i64 b] s (yM (NK op a b)) s:=by
 refine aG.pure ?_ rfl rfl s
 have e1:(a != 0) = !(a==0):=rfl
 have e2:(b != 0) = !(b==0):=rfl
 generalize h:NK op a b=R
 simp only[NK,D4]at h
 unfold S0
 refine aG.go Iq rfl fun B Q hB hQ=>?_
 have⟨hD,hY,hZ,gA⟩:=bS
 repeat' (first
 |simp only[go_sem,hD,hY,hZ,gA,e1,e2]
 |(with_reducible refine CU (NS _ _) ?_)
 |(with_reducible refine CU (TX _ _ _ _) ?_)
 |(with_reducible refine CU (QP _ _ _ _) ?_)
 |(with_reducible first|refine bm fun hc=>?_|refine bn fun hc=>?_|refine bo (fun hc=>?_) fun hc=>?_)<;>(try simp only[hc,bs,↓reduceIte]at h)<;>try simp only[hc]
 |(with_reducible refine aE hQ ?_;(try cases h);simp only[aR,aS,bC,bD,go_sem,hD,hY,hZ,gA,e1,e2];try exact cb)
 |(cases h;done))
def ve (x:Int) (k:Int):List Int→Int
 | []=> -1
 |s::l=>if x==s then k else ve x (k+1) l
theorem KV (x:Int) : ∀ (l:List Int) (k:Int),0≤k→(ve x k l≥0↔l.contains x=true)
 | [],k,h=>by simp[ve]
 | s::l,k,h=>by
  by_cases e:x=s
  ·simp[ve,e];omega
  ·have e':(x==s)=false:=by simp [e]
   simp only[ve,e',Bool.false_eq_true,if_false,List.contains_cons,Bool.false_or]
   exact KV x l (k+1) (by omega)
theorem TY {l:List Int} (hl:l.length<4611686018427387904) (x:Int) (s:St):aG Tryz.prog oE [.slice .shared 1 (l.map cr), .int .i64 x] s (.int .i64 (ve x 0 l)) s:=by
 refine aG.pure ?_ (by simp[D.bI,D.ok,Tag.ok,jG]) rfl s
 generalize h:ve x 0 l=p
 unfold S0
 refine aG.go yr rfl fun B Q hB hQ=>?_
 have⟨hD,hY,hZ,gA⟩:=bS
 repeat' (first
 |simp only[go_sem,hD,hY,hZ,gA]
 |(with_reducible first|refine bm fun hc=>?_|refine bn fun hc=>?_|refine bo (fun hc=>?_) fun hc=>?_)<;>(try simp only[hc,bs,↓reduceIte]at h)<;>try simp only[hc]
 |(with_reducible refine aE hQ ?_;exact fV)
 |(cases h;done))
 refine fi 0 0 (bq.ind (ι:=List Int×Nat) (fun i=>l.drop i.2=i.1∧ve x (i.2:Int) i.1=p) (fun i=>i.1.length)
  (fun i=> [(0, .slice .shared 1 (l.map cr)),(1, .int .i64 x),(7, .int .i64 (l.length:Int)),(8, .int .i64 (i.2:Int))]) (fun i=>⟨[],[]⟩) ?_ (l,0) ⟨rfl,h⟩)
 rintro⟨rest,k⟩ ⟨h1,h⟩ IH
 dsimp only at h1 h
 cases rest with
 |nil=>
  have hD:=drop_nil h1
  simp only[ve]at h
  repeat' (first
 |simp only[go_sem,hD,hY,hZ,gA]
 |(with_reducible first|refine bm fun hc=>?_|refine bn fun hc=>?_|refine bo (fun hc=>?_) fun hc=>?_)<;>(try simp only[hc,bs,↓reduceIte]at h)<;>try simp only[hc]
 |(with_reducible refine aE hQ ?_;exact fV)
 |(cases h;done))
 |cons a rest=>
  obtain⟨hY,g2,hD,g4⟩:=drop_cons h1
  have cf:k<4611686018427387904:=by omega
  simp only[ve]at h
  repeat' (first
 |simp only[go_sem,hD,hY,hZ,gA]
 |(with_reducible first|refine bm fun hc=>?_|refine bn fun hc=>?_|refine bo (fun hc=>?_) fun hc=>?_)<;>(try simp only[hc,bs,↓reduceIte]at h)<;>try simp only[hc]
 |(with_reducible refine aE hQ ?_;exact fV)
 |(cases h;done))
  refine fj 0 0 ?_ ?_ (IH (rest,k+1) ⟨g2,h⟩ (Nat.lt_succ_self _))
  ·(simp only[go_sem,hD,hY,hZ,gA,aJ cf];try exact cv)
  ·(simp only[go_sem,hD,hY,hZ,gA,aJ cf];try exact cv)
theorem Ka {l:List Int} (hl:l.length<4611686018427387904) (x:Int) (s:St):aG Tryz.prog mK [.slice .shared 1 (l.map cr), .int .i64 x] s (.bool (l.contains x)) s:=by
 refine aG.pure ?_ (by simp[D.bI,D.ok,Tag.ok,jG]) rfl s
 have hi:=fun s=>TY hl x s
 have e:decide (ve x 0 l≥0)=l.contains x:=by
  have:=KV x l 0 (Int.le_refl 0)
  cases h:l.contains x<;>simp_all
 unfold S0
 refine aG.go vn rfl fun B Q hB hQ=>?_
 have⟨hD,hY,hZ,gA⟩:=bS
 repeat' (first
 |simp only[go_sem,hD,hY,hZ,gA,e]
 |(with_reducible refine CU (hi _) ?_)
 |(with_reducible first|refine bm fun hc=>?_|refine bn fun hc=>?_|refine bo (fun hc=>?_) fun hc=>?_)<;>(try simp only[hc,bs,↓reduceIte]at h)<;>try simp only[hc]
 |(with_reducible refine aE hQ ?_;(try cases h);simp only[aR,aS,bC,bD,go_sem,hD,hY,hZ,gA,e];try exact cb)
 |(cases h;done))
theorem mB (names:List aF) (cB:List Int) (op n:Int) (name:aF) (kids:List Ex):Ex.val names cB ⟨op,n,name,kids⟩=if op==1 then(n,true)else if op==2 then(NL name names cB,true)else GZ op (kids.map (Ex.val names cB)):=by
 have e : ∀ l:List Ex,Ex.NM names cB l=l.map (Ex.val names cB):=fun l=>by
  induction l with
  |nil=>rfl
  |cons x l ih=>simp only[Ex.NM,List.map_cons,ih]
 simp only[Ex.val,e]
theorem ab4 {names:List aF} {cB:List Int} (hn:names.length<4611686018427387904) (hv:cB.length<4611686018427387904) : ∀ (n:Nat) (x:Ex),x.dp (n:Int)=true→
 aG Tryz.prog kO [.agg (bW x), .slice .shared 1 (names.map encStr), .slice .shared 1 (cB.map cr)] S0 (yM (x.val names cB)) S0:=by
 intro n
 induction n with
 |zero=>rintro⟨op,v,name,kids⟩ h;rw[Iz]at h;omega
 | succ n ih=>
  rintro⟨op,v,name,kids⟩ h
  rw[Iz]at h
  obtain⟨_,hk,h⟩:=h
  have IG:=fun s=>Bn hn name s
  generalize hR:Ex.val names cB ⟨op,v,name,kids⟩=R
  rw[mB]at hR
  unfold S0
  by_cases o1:op=1
  ·subst o1
   simp only[beq_self_eq_true,if_true]at hR
   rw[← hR]
   show aG Tryz.prog kO _ _ (.tuple [.int .i64 v, .bool true]) _
   refine aG.go nT rfl fun B Q hB hQ=>?_
   have⟨hD,hY,hZ,gA⟩:=bS
   repeat' (first
 |simp only[go_sem,hD,hY,hZ,gA,beq_self_eq_true]
 |(with_reducible first|refine bm fun hc=>?_|refine bn fun hc=>?_|refine bo (fun hc=>?_) fun hc=>?_)<;>(try simp only[hc,bs,↓reduceIte]at h)<;>try simp only[hc]
 |(with_reducible refine aE hQ ?_;(try cases h);simp only[aR,aS,bC,bD,go_sem,hD,hY,hZ,gA,beq_self_eq_true];try exact cb)
 | (cases h;done))
  rw[if_neg o1]at h
  have b1:(op==1)=false:=by simp[o1]
  by_cases o2:op=2
  ·subst o2
   simp only[b1,Bool.false_eq_true,if_false,beq_self_eq_true,if_true,NL]at hR
   by_cases hi:iN name 0 names≥0
   ·obtain⟨j,hj⟩:=Int.eq_ofNat_of_zero_le hi
    rw[if_pos hi]at hR
    have b2:decide (iN name 0 names≥0)=true:=by simpa using hi
    rw[hj]at b2 hR
    rw[hj]at IG
    rcases Nat.lt_or_ge j cB.length with hl|hl
    ·have b3:decide ((j:Int)<(cB.length:Int))=true:=by simp [hl]
     have hg:cB[j]? = some (cB.getD j 0):=by rw[List.getD_eq_getElem?_getD,List.getElem?_eq_getElem hl];rfl
     rw[Int.toNat_natCast]at hR
     rw[← hR]
     show aG Tryz.prog kO _ _ (.tuple [.int .i64 (cB.getD j 0), .bool true]) _
     refine aG.go nT rfl fun B Q hB hQ=>?_
     have⟨hD,hY,hZ,gA⟩:=bS
     repeat' (first
 |simp only[go_sem,hD,hY,hZ,gA,b1,b2,b3,hg,beq_self_eq_true,decide_true]
 |(with_reducible refine CU (IG _) ?_)
 |(with_reducible first|refine bm fun hc=>?_|refine bn fun hc=>?_|refine bo (fun hc=>?_) fun hc=>?_)<;>(try simp only[hc,bs,↓reduceIte]at h)<;>try simp only[hc]
 |(with_reducible refine aE hQ ?_;(try cases h);simp only[aR,aS,bC,bD,go_sem,hD,hY,hZ,gA,b1,b2,b3,hg,beq_self_eq_true,decide_true];try exact cb)
 | (cases h;done))
    ·have b3:decide ((j:Int)<(cB.length:Int))=false:=by simp;omega
     rw[Int.toNat_natCast,List.getD_eq_getElem?_getD,List.getElem?_eq_none hl,Option.getD_none]at hR
     rw[← hR]
     show aG Tryz.prog kO _ _ (.tuple [.int .i64 0, .bool true]) _
     refine aG.go nT rfl fun B Q hB hQ=>?_
     have⟨hD,hY,hZ,gA⟩:=bS
     repeat' (first
 |simp only[go_sem,hD,hY,hZ,gA,b1,b2,b3,beq_self_eq_true,decide_true]
 |(with_reducible refine CU (IG _) ?_)
 |(with_reducible first|refine bm fun hc=>?_|refine bn fun hc=>?_|refine bo (fun hc=>?_) fun hc=>?_)<;>(try simp only[hc,bs,↓reduceIte]at h)<;>try simp only[hc]
 |(with_reducible refine aE hQ ?_;(try cases h);simp only[aR,aS,bC,bD,go_sem,hD,hY,hZ,gA,b1,b2,b3,beq_self_eq_true,decide_true];try exact cb)
 | (cases h;done))
   ·rw [if_neg hi]at hR
    have b2:decide (iN name 0 names≥0)=false:=by simpa using hi
    rw[← hR]
    show aG Tryz.prog kO _ _ (.tuple [.int .i64 0, .bool true]) _
    refine aG.go nT rfl fun B Q hB hQ=>?_
    have⟨hD,hY,hZ,gA⟩:=bS
    repeat' (first
 |simp only[go_sem,hD,hY,hZ,gA,b1,b2,beq_self_eq_true]
 |(with_reducible refine CU (IG _) ?_)
 |(with_reducible first|refine bm fun hc=>?_|refine bn fun hc=>?_|refine bo (fun hc=>?_) fun hc=>?_)<;>(try simp only[hc,bs,↓reduceIte]at h)<;>try simp only[hc]
 |(with_reducible refine aE hQ ?_;(try cases h);simp only[aR,aS,bC,bD,go_sem,hD,hY,hZ,gA,b1,b2,beq_self_eq_true];try exact cb)
 | (cases h;done))
  rw[if_neg o2]at h
  have b2:(op==2)=false:=by simp[o2]
  simp only[b1,b2,Bool.false_eq_true,if_false]at hR
  have hd:=h.2.2
  rw[show((n+1:Nat):Int) - 1=(n:Int) by omega]at hd
  have ihs : ∀ {y:Ex},y∈kids→∀ s,aG Tryz.prog kO [.agg (bW y), .slice .shared 1 (names.map encStr), .slice .shared 1 (cB.map cr)] s (yM (y.val names cB)) s:=fun {y} hy s=>by
   have:y.dp (n:Int)=true:=by
    have key : ∀ l:List Ex,Ex.AB (n:Int) l=true→y∈l→y.dp (n:Int)=true:=fun l=>by
     induction l with
     |nil=>intro _ m;cases m
     | cons z l QF=>
      intro hz m
      simp only[Ex.AB]at hz
      split at hz
      ·cases hz
      ·rename_i hz'
       rcases List.mem_cons.1 m with rfl|m
       ·simpa using hz'
       ·exact QF hz m
    exact key kids hd hy
   exact aG.pure (ih y this) (by simp[D.bI,D.ok,Tag.ok,lr,eQ,jG]) rfl s
  clear h IG
  have n1:((1:Nat):Int)=1:=rfl
  have e1:((1:Int)==1)=true:=rfl
  have e2:((2:Int)==1)=false:=rfl
  rename _=R=>h
  cases kids with
  |nil=>simp[nN]at hk;omega
  | cons a kids=>
   have c1:=fun s=>ihs (y:=a) (by simp) s
   cases kids with
   |nil=>
    simp only[List.map_cons,List.map_nil,GZ]at h
    refine aG.go nT rfl fun B Q hB hQ=>?_
    have⟨hD,hY,hZ,gA⟩:=bS
    repeat' (first
 |simp only[go_sem,hD,hY,hZ,gA,b1,b2,e1]
 |(with_reducible refine CU (c1 _) ?_)
 |(with_reducible refine CU (afJ _ _ _) ?_)
 |(with_reducible first|refine bm fun hc=>?_|refine bn fun hc=>?_|refine bo (fun hc=>?_) fun hc=>?_)<;>(try simp only[hc,bs,↓reduceIte]at h)<;>try simp only[hc]
 |(with_reducible refine aE hQ ?_;(try cases h);simp only[aR,aS,bC,bD,go_sem,hD,hY,hZ,gA,b1,b2,e1];try exact cb)
 | (cases h;done))
   | cons b kids=>
    cases kids with
    |nil=>
     have c2:=fun s=>ihs (y:=b) (by simp) s
     have e3 : [bW a,bW b][Int.toNat 1]? = some (bW b):=rfl
     simp only[List.map_cons,List.map_nil,GZ]at h
     refine aG.go nT rfl fun B Q hB hQ=>?_
     have⟨hD,hY,hZ,gA⟩:=bS
     repeat' (first
 |simp only[go_sem,hD,hY,hZ,gA,b1,b2,e2,e3]
 |(with_reducible refine CU (c1 _) ?_)
 |(with_reducible refine CU (c2 _) ?_)
 |(with_reducible refine CU (Ye _ _) ?_)
 |(with_reducible refine CU (afK _ _ _ _) ?_)
 |(with_reducible first|refine bm fun hc=>?_|refine bn fun hc=>?_|refine bo (fun hc=>?_) fun hc=>?_)<;>(try simp only[hc,bs,↓reduceIte]at h)<;>try simp only[hc]
 |(with_reducible refine aE hQ ?_;(try cases h);simp only[aR,aS,bC,bD,go_sem,hD,hY,hZ,gA,b1,b2,e2,e3];try exact cb)
 | (cases h;done))
    |cons c kids=>simp[nN]at hk;omega
theorem T1 {x:Ex} {names:List aF} {cB:List Int} (hx:x.size<4611686018427387904) (ht:x.texts) (hn:names.length<4611686018427387904) (hv:cB.length<4611686018427387904) (s:St) :
 aG Tryz.prog vK [.agg (bW x), .slice .shared 1 (names.map encStr), .slice .shared 1 (cB.map cr)] s (yM (x.bJ names cB)) s:=by
 refine aG.pure ?_ (by simp[D.bI,D.ok,Tag.ok,lr,eQ,jG]) rfl s
 have hm:=fun s=>yw hx ht s
 rw[DT]at hm
 generalize h:x.bJ names cB=R
 simp only[Ex.bJ]at h
 unfold S0
 rcases Bool.eq_false_or_eq_true x.may with b|b
 ·rw [if_pos b]at h
  have c1:=fun s=>aG.pure (ab4 hn hv 20 x (by rw[show((20:Nat):Int)=20 from rfl,DT];exact b)) (by simp[D.bI,D.ok,Tag.ok,lr,eQ,jG]) rfl s
  rw[h]at c1
  refine aG.go B9 rfl fun B Q hB hQ=>?_
  have⟨hD,hY,hZ,gA⟩:=bS
  repeat' (first
 |simp only[go_sem,hD,hY,hZ,gA,b]
 |(with_reducible refine CU (hm _) ?_)
 |(with_reducible refine CU (c1 _) ?_)
 |(with_reducible first|refine bm fun hc=>?_|refine bn fun hc=>?_|refine bo (fun hc=>?_) fun hc=>?_)<;>(try simp only[hc,bs,↓reduceIte]at h)<;>try simp only[hc]
 |(with_reducible refine aE hQ ?_;(try cases h);simp only[aR,aS,bC,bD,go_sem,hD,hY,hZ,gA,b];try exact cb)
 |(cases h;done))
 ·rw [if_neg (by simp [b])]at h
  refine aG.go B9 rfl fun B Q hB hQ=>?_
  have⟨hD,hY,hZ,gA⟩:=bS
  repeat' (first
 |simp only[go_sem,hD,hY,hZ,gA,b]
 |(with_reducible refine CU (hm _) ?_)
 |(with_reducible first|refine bm fun hc=>?_|refine bn fun hc=>?_|refine bo (fun hc=>?_) fun hc=>?_)<;>(try simp only[hc,bs,↓reduceIte]at h)<;>try simp only[hc]
 |(with_reducible refine aE hQ ?_;(try cases h);simp only[aR,aS,bC,bD,go_sem,hD,hY,hZ,gA,b];try exact cb)
 |(cases h;done))
theorem yN {size bytes:Nat} {rows:List (List D)} (h:rows≠ []) (hl:rows.length*(bytes+1)≤bH) {z:Nat} {g:Tag} (o:List (List D)) (T:List (Option Nat)) :
 gZ size bytes (.slice .full z []) (.slice g size rows) ⟨o,T⟩=some (.slice (.tok T.length) size rows,⟨o,T++ [some rows.length]⟩):=by
 cases rows with
 |nil=>exact absurd rfl h
 |cons x r=>simp only[List.length_cons]at hl;simp[gZ,hl]
theorem yO {size bytes z z':Nat} {g:Tag} (o:List (List D)) (T:List (Option Nat)) :
 gZ size bytes (.slice .full z []) (.slice g z' []) ⟨o,T⟩=some (.slice .full z [],⟨o,T⟩):=by simp[gZ,bH]
def Sm.bare (v:Sm):Sm:= {v with aY:= [],aW:= []}
theorem aG.afL {P:Program} {f:FuncId} {args:List D} {z k:Nat} {rows:List (List D)} (h:aG P f args S0 (.slice (.tok 0) z rows) ⟨[],[some k]⟩) (ha:D.bI 0 0 args=true) (hr:D.gR 0 0 rows=true) (s:St) :
 aG P f args s (.slice (.tok s.av.length) z rows) ⟨s.ah,s.av++ [some k]⟩:=by
 refine bG.frame [] [] h List.nodup_nil List.nodup_nil (by simp) (by simp) rfl (by simp) rfl (by simp) (by rw[fp _ _ _ ha]) ha ?_
 rintro _ _ ⟨rfl,rfl⟩
 refine⟨by simp[D.back,D.cL,Tag.cL,ki,iS _ _ _ hr], ?_⟩
 simp[St.back,kn]
theorem NT (g:Tag) (z:Nat) (s:St):aG Tryz.prog kj [.slice g z []] s (.slice .full 1 []) s:=by
 refine bG.pg (.cons (Wk.nil _ _ 1) .nil) (aG.pure ?_ rfl rfl s)
 unfold S0
 refine aG.go o8 rfl fun B Q hB hQ=>?_
 have⟨hD,hY,hZ,gA⟩:=bS
 repeat' (first
 |simp only[go_sem,hD,hY,hZ,gA]
 |(with_reducible first|refine bm fun hc=>?_|refine bn fun hc=>?_|refine bo (fun hc=>?_) fun hc=>?_)<;>(try simp only[hc,bs,↓reduceIte]at h)<;>try simp only[hc]
 |(with_reducible refine aE hQ ?_;exact fV)
 |(cases h;done))
 refine Sl (fun _=>?_) ?_
 ·repeat' (first
 |simp only[go_sem,hD,hY,hZ,gA,gZ,true_or,Nat.zero_le]
 |(with_reducible first|refine bm fun hc=>?_|refine bn fun hc=>?_|refine bo (fun hc=>?_) fun hc=>?_)<;>(try simp only[hc,bs,↓reduceIte]at h)<;>try simp only[hc]
 |(with_reducible refine aE hQ ?_;(try cases h);simp only[aR,aS,bC,bD,go_sem,hD,hY,hZ,gA,gZ,true_or,Nat.zero_le];try exact cb)
 |(cases h;done))
 ·repeat' (first
 |simp only[go_sem,hD,hY,hZ,gA,gZ,true_or,Nat.zero_le]
 |(with_reducible first|refine bm fun hc=>?_|refine bn fun hc=>?_|refine bo (fun hc=>?_) fun hc=>?_)<;>(try simp only[hc,bs,↓reduceIte]at h)<;>try simp only[hc]
 |(with_reducible refine aE hQ ?_;(try cases h);simp only[aR,aS,bC,bD,go_sem,hD,hY,hZ,gA,gZ,true_or,Nat.zero_le];try exact cb)
 |(cases h;done))
theorem NU {l:List aF} (hl:l.length<1073741824) (h0:l≠ []) (s:St):aG Tryz.prog kj [.slice .shared 1 (l.map encStr)] s (.slice (.tok s.av.length) 1 (l.map encStr)) ⟨s.ah,s.av++ [some l.length]⟩:=by
 refine aG.afL ?_ (by simp[D.bI,D.ok,Tag.ok,eQ]) (eQ l) s
 unfold S0
 refine aG.goK 0 1 (Nat.zero_le _) (Nat.zero_le _) o8 rfl fun B Q hB hQ=>?_
 have⟨hD,hY,hZ,gA⟩:=bS
 have ha:=fun o T=>yN (size:=1) (bytes:=16) (rows:=l.map encStr) (by simpa using h0) (by simp only[List.length_map];unfold bH;omega) (z:=1) (g:= .shared) o T
 cases l with
 |nil=>exact absurd rfl h0
 |cons x l=>
  simp only[List.map_cons,encStr]at ha
  repeat' (first
 |simp only[go_sem,hD,hY,hZ,gA,ha]
 |(with_reducible first|refine bm fun hc=>?_|refine bn fun hc=>?_|refine bo (fun hc=>?_) fun hc=>?_)<;>(try simp only[hc,bs,↓reduceIte]at h)<;>try simp only[hc]
 |(with_reducible refine aE hQ ?_;(try cases h);simp only[aR,aS,bC,bD,go_sem,hD,hY,hZ,gA,ha];try exact cb)
 |(cases h;done))
theorem KW {a b:List aF} {n:Nat} (hn:n=a.length) (h:a.length+b.length≤1000000000) {g:Tag} {t:Nat} {s:St} (ht:s.av[t]? = some (some n)) :
 gZ 1 16 (.slice (.tok t) 1 (a.map encStr)) (.slice g 1 (b.map encStr)) s=some (.slice (.tok t) 1 ((a++b).map encStr),⟨s.ah,s.av.set t (some (a++b).length)⟩):=by
 subst hn
 rw[oz (size:=1) (bytes:=16) (by simp only[List.length_map];unfold bH;omega) (by simpa using ht)]
 simp
theorem ab5 {p:Pg} (h:p.iU) (hb:p.may=true) {name:aF} {f:Pc} (hf:p.find name=some f) (s:St):aG Tryz.prog uL [.agg (cG p), .str name] s (.slice .shared 1 ((p.globals++f.own).map encStr)) s:=by
 refine aG.pure ?_ (by simp[D.bI,D.ok,kp]) (by simp only[D.ok,Tag.ok,eQ];rfl) s
 have hm:=fun s=>Iv h.Nx s
 simp only[Bq,hb]at hm
 obtain⟨rj,qX,qW⟩:=h.procs
 simp only[Pg.find]at hf
 unfold S0
 refine aG.go EK rfl fun B Q hB hQ=>?_
 have⟨hD,hY,hZ,gA⟩:=bS
 repeat' (first
 |simp only[go_sem,hD,hY,hZ,gA]
 |(with_reducible refine CU (hm _) ?_)
 |(with_reducible first|refine bm fun hc=>?_|refine bn fun hc=>?_|refine bo (fun hc=>?_) fun hc=>?_)<;>(try simp only[hc,bs,↓reduceIte]at h)<;>try simp only[hc]
 |(with_reducible refine aE hQ ?_;exact fV)
 |(cases h;done))
 refine fi 1 0 (bq.ind (ι:=List Pc×Nat) (fun i=>p.procs.drop i.2=i.1∧iF name i.1=some f) (fun i=>i.1.length)
  (fun i=> [(1, .str name),(2, .ptr 0 0),(11, .slice .shared 5 (p.procs.map cj)),(12, .int .i64 (p.procs.length:Int)),(13, .int .i64 (i.2:Int))]) (fun i=>⟨[cG p],[]⟩) ?_ (p.procs,0) ⟨rfl,hf⟩)
 rintro⟨rest,k⟩ ⟨h1,h2⟩ IH
 dsimp only at h1 h2
 cases rest with
 |nil=>cases h2
 | cons a rest=>
  obtain⟨hY,g2,hD,g4⟩:=drop_cons h1
  have cf:k<4611686018427387904:=by omega
  have u5:=h.small (List.mem_of_getElem? hY)
  simp only[iF]at h2
  rcases Bool.eq_false_or_eq_true (a.name==name)with b1|b1
  ·simp only [b1,if_true]at h2
   cases h2
   have ho:=fun s=>VZ (f:=f) u5.par u5.vars s
   have ju:f.own.length<2000000:=by have:=u5.par;have:=u5.vars;simp[Pc.own,Pc.sP];omega
   cases e:p.globals with
   | nil=>
    simp only[List.nil_append]at *
    have c1:=fun g z s=>NT g z s
    cases e2:f.own with
    |nil=>
     rw[e2]at ho hQ
     have ha:=fun o T=>yO (size:=1) (bytes:=16) (z:=1) (z':=1) (g:= .shared) o T
     repeat' (first
 |simp only[go_sem,hD,hY,hZ,gA,b1,ha,e]
 |(with_reducible refine CU (c1 _ _ _) ?_)
 |(with_reducible refine CU (ho _) ?_)
 |(with_reducible first|refine bm fun hc=>?_|refine bn fun hc=>?_|refine bo (fun hc=>?_) fun hc=>?_)<;>(try simp only[hc,bs,↓reduceIte]at h)<;>try simp only[hc]
 |(with_reducible refine aE hQ ?_;(try cases h);simp only[aR,aS,bC,bD,go_sem,hD,hY,hZ,gA,b1,ha,e];try exact cb)
 | (cases h;done))
    |cons x l=>
     have ha:=fun o T=>yN (size:=1) (bytes:=16) (rows:=f.own.map encStr) (by simp[e2]) (by simp only[List.length_map];unfold bH;omega) (z:=1) (g:= .shared) o T
     repeat' (first
 |simp only[go_sem,hD,hY,hZ,gA,b1,ha,e]
 |(with_reducible refine CU (c1 _ _ _) ?_)
 |(with_reducible refine CU (ho _) ?_)
 |(with_reducible first|refine bm fun hc=>?_|refine bn fun hc=>?_|refine bo (fun hc=>?_) fun hc=>?_)<;>(try simp only[hc,bs,↓reduceIte]at h)<;>try simp only[hc]
 |(with_reducible refine aE hQ ?_;(try cases h);simp only[aR,aS,bC,bD,go_sem,hD,hY,hZ,gA,b1,ha,e];try exact cb)
 | (cases h;done))
   |cons x l=>
    have c1:=fun s=>NU (l:=p.globals) (by omega) (by simp[e]) s
    have ha:=fun {s:St} {t:Nat} (ht:s.av[t]? = some (some p.globals.length))=>KW (a:=p.globals) (b:=f.own) (g:= .shared) rfl (by omega) ht
    have vz:=fun o=>KW (a:=p.globals) (b:=f.own) (g:= .shared) (t:=0) (s:=⟨o,[some p.globals.length]⟩) rfl (by omega) rfl
    repeat' (first
 |simp only[go_sem,hD,hY,hZ,gA,b1,vz]
 |(with_reducible refine CU (c1 _) ?_)
 |(with_reducible refine CU (ho _) ?_)
 |(with_reducible first|refine bm fun hc=>?_|refine bn fun hc=>?_|refine bo (fun hc=>?_) fun hc=>?_)<;>(try simp only[hc,bs,↓reduceIte]at h)<;>try simp only[hc]
 |(with_reducible refine aE hQ ?_;(try cases h);simp only[aR,aS,bC,bD,go_sem,hD,hY,hZ,gA,b1,vz];try exact cb)
 | (cases h;done))
  ·simp only [b1,Bool.false_eq_true,if_false]at h2
   repeat' (first
 |simp only[go_sem,hD,hY,hZ,gA,b1]
 |(with_reducible first|refine bm fun hc=>?_|refine bn fun hc=>?_|refine bo (fun hc=>?_) fun hc=>?_)<;>(try simp only[hc,bs,↓reduceIte]at h)<;>try simp only[hc]
 |(with_reducible refine aE hQ ?_;(try cases h);simp only[aR,aS,bC,bD,go_sem,hD,hY,hZ,gA,b1];try exact cb)
 | (cases h;done))
   refine fj 1 0 ?_ ?_ (IH (rest,k+1) ⟨g2,h2⟩ (Nat.lt_succ_self _))
   ·(simp only[go_sem,hD,hY,hZ,gA,aJ cf];try exact cv)
   ·(simp only[go_sem,hD,hY,hZ,gA,aJ cf];try exact cv)
theorem Kb {p:Pg} (hb:p.may=true) {i:Nat} {f:Pc} (hf:p.procs[i]? = some f) : ∃ a b:Int,p.aX.lo[i]? = some a∧p.aX.hi[i]? = some b∧(if decide (a<b)=true then a else -1)=fX f.body (-1):=by
 obtain⟨a,b,e,h1,h2,h3,h4⟩:=(nj p).2 i f hf
 refine⟨_,_,h1,h2, ?_⟩
 cases Be:f.body with
 |nil=>
  rw[Be]at h3
  have:b = []:=by simpa[Sm.cT]using h3
  subst this
  simp[fX]
 | cons s l=>
  rw[Be,Sm.cT,Sm.pH]at h3
  cases b with
  |nil=>simp at h3
  | cons x b=>
   simp only[List.map_cons,List.cons_append,List.cons.injEq]at h3
   have hx:p.pre[a.length]? = some s:=by
    rw[← (nj p).1,h4]
    simp[h3.1]
   have:=IF hb hx
   rw[if_pos (by simp;omega)]
   simp only[fX]
   rw[this];omega
theorem Yf {p:Pg} (hb:p.may=true) {i:Nat} {f:Pc} (hf:p.procs[i]? = some f) (s:St):aG Tryz.prog oB [.dt (fl p) 0, .int .i64 (i:Int)] s (.int .i64 (fX f.body (-1))) s:=by
 refine aG.pure ?_ (by simp[D.bI,D.ok,tv]) rfl s
 obtain⟨a,b,h1,h2,h⟩:=Kb hb hf
 generalize fX f.body (-1)=R at h
 unfold S0
 rw[nD]
 refine aG.go yp rfl fun B Q hB hQ=>?_
 have⟨hD,hY,hZ,gA⟩:=bS
 repeat' (first
 |simp only[go_sem,hD,hY,hZ,gA,h1,h2]
 |(with_reducible first|refine bm fun hc=>?_|refine bn fun hc=>?_|refine bo (fun hc=>?_) fun hc=>?_)<;>(try simp only[hc,bs,↓reduceIte]at h)<;>try simp only[hc]
 |(with_reducible refine aE hQ ?_;(try cases h);simp only[aR,aS,bC,bD,go_sem,hD,hY,hZ,gA,h1,h2];try exact cb)
 |(cases h;done))
section
variable {p:Pg} {T W:List Int} {y:Lay} {m:Mc} {loc:List (Nat×List D)} {s:St}
theorem jl.row {s:St} {d:D} {cs:List D} (h:jl s d cs) (hn:cs≠ []) : ∃ o g more,d = .dW 1 o g cs.length∧s.ah[o]? = some (.int .i64 ((g:Nat):Int)::(cs++more)):=by
 rcases h with ⟨_,h⟩|h
 ·exact absurd h hn
 ·exact h
theorem Inv.T2 (h:Inv p T W y m loc s) {fr:Fr} {r:List Fr} (jr:m.st=fr::r) : ∃ so g cells o,y.sd = .dW 1 so g (r.length+1)∧s.ah[so]? = some (.int .i64 ((g:Nat):Int)::cells)∧cells[r.length]? = some (.ptr o 0)∧s.ah[o]? = some (oP y.κ fr)∧y.φ[0]? = some o:=by
 have iR:=h.rP
 rw[jr]at iR
 cases hφ:y.φ with
 |nil=>rw[hφ]at iR;simp at iR
 | cons o φ=>
  rw[hφ]at iR
  simp only[List.length_cons]at iR
  obtain⟨so,g,more,h1,h2⟩:=h.stack.row (by simp[hφ])
  refine⟨so,g,_,o, ?_,h2, ?_,(h.frame 0 o fr (by rw[hφ];rfl) (by rw[jr];rfl)).1,rfl⟩
  ·rw[h1];simp[hφ];omega
  ·rw [hφ,List.reverse_cons,List.map_append,List.append_assoc,List.getElem?_append_right (by simp;omega)]
   simp[wO,show r.length - φ.length=0 by omega]
theorem NV (h:Inv p T W y m loc s) {fr:Fr} {r:List Fr} (jr:m.st=fr::r) (hs:r.length<1000000) : ∃ o,y.φ[0]? = some o∧s.ah[o]? = some (oP y.κ fr)∧aG Tryz.prog kx [.ptr 0 0] s (.ptr o 0) s:=by
 obtain⟨so,g,cells,o,h1,h2,h3,h4,h5⟩:=h.T2 jr
 refine⟨o,h5,h4, ?_⟩
 have hm:=h.jm
 rw[ff,h1]at hm
 have hw:IntKind.wrap .i64 (((r.length+1:Nat):Int) - 1)=((r.length:Nat):Int):=by rw[show((r.length+1:Nat):Int) - 1=(r.length:Int) by omega];exact ek (by omega) (by omega)
 have hl:(r.length<r.length+1)=True:=by simp
 refine bG.tL zw rfl fun B Q hB hQ=>?_
 have⟨hD,hY,hZ,gA⟩:=bS
 repeat' (first
 |simp only[go_sem,hD,hY,hZ,gA,hm,hw,h2,h3,hl,Nat.mul_one]
 |(with_reducible first|refine bm fun hc=>?_|refine bn fun hc=>?_|refine bo (fun hc=>?_) fun hc=>?_)<;>(try simp only[hc,bs,↓reduceIte]at h)<;>try simp only[hc]
 |(with_reducible refine aE hQ ?_;(try cases h);simp only[aR,aS,bC,bD,go_sem,hD,hY,hZ,gA,hm,hw,h2,h3,hl,Nat.mul_one];try exact cb)
 |(cases h;done))
 (refine gy hQ ?_;simp only[aR,aS,bC,bD,go_sem])
theorem Bz (h:Inv p T W y m loc s) {fr:Fr} {r:List Fr} (jr:m.st=fr::r) (hs:r.length<1000000) (hn:fr.names.length<1000000) {name:aF} {j c:Nat} (hj:iN name 0 fr.names=(j:Int)) (hc:fr.vars[j]? = some c) :
 aG Tryz.prog ix [.ptr 0 0, .str name] s (.ptr (y.κ.getD c 0) 0) s:=by
 obtain⟨o,_,h1,c1⟩:=NV h jr hs
 have c2:=fun s=>Bn (l:=fr.names) (by omega) name s
 rw[hj]at c2
 rw[oP]at h1
 refine bG.tL xn rfl fun B Q hB hQ=>?_
 have⟨hD,hY,hZ,gA⟩:=bS
 repeat' (first
 |simp only[go_sem,hD,hY,hZ,gA,h1,hc,e9,Option.map_some]
 |(with_reducible refine CU (c1) ?_)
 |(with_reducible refine CU (c2 _) ?_)
 |(with_reducible first|refine bm fun hc=>?_|refine bn fun hc=>?_|refine bo (fun hc=>?_) fun hc=>?_)<;>(try simp only[hc,bs,↓reduceIte]at h)<;>try simp only[hc]
 |(with_reducible refine aE hQ ?_;(try cases h);simp only[aR,aS,bC,bD,go_sem,hD,hY,hZ,gA,h1,hc,e9,Option.map_some];try exact cb)
 |(cases h;done))
 (refine gy hQ ?_;simp only[aR,aS,bC,bD,go_sem])
abbrev Rl (p:Pg) (T W:List Int) (d:D) (m':Mc) (X:Lay→Prop) (loc:List (Nat×List D)):D→St→Prop:=fun d' s'=>d'=d∧∃ y',X y'∧Inv p T W y' m' loc s'
theorem KX (h:Inv p T W y m loc s) (hW:W.length<1000000) (ht:m.trace.length<2000000) (id:Int) (cB:List Int) :
 bG Tryz.prog dV [.ptr 0 0, .int .i64 id, .slice .shared 1 (cB.map cr)] s (Rl p T W (.tuple []) (m.event W id cB) (· = y) loc):=by
 have hm:=h.jm
 rw[ff]at hm
 have hl:=h.tR
 have c1:=fun s=>Ka (l:=W) (by omega) id s
 have eA:gZ 2 32 (.slice (.tok 1) 2 (m.trace.map gi)) (.slice .full 2 [[.int .i64 id, .slice .shared 1 (cB.map cr)]]) s=some (.slice (.tok 1) 2 ((m.trace++ [(id,cB)]).map gi),⟨s.ah,s.av.set 1 (some (m.trace.length+1))⟩):=by
  rw[oz (size:=2) (bytes:=32) (by simp only[List.length_map,List.length_singleton];unfold bH;omega) (by simpa using h.t1)]
  simp[gi]
 refine bG.tL xp rfl fun B Q hB hQ=>?_
 have⟨hD,hY,hZ,gA⟩:=bS
 cases hb:W.contains id
 ·repeat' (first
 |simp only[go_sem,hD,hY,hZ,gA,hm,hb]
 |(with_reducible refine CU (c1 _) ?_)
 |(with_reducible first|refine bm fun hc=>?_|refine bn fun hc=>?_|refine bo (fun hc=>?_) fun hc=>?_)<;>(try simp only[hc,bs,↓reduceIte]at h)<;>try simp only[hc]
 |(with_reducible refine aE hQ ?_;(try cases h);simp only[aR,aS,bC,bD,go_sem,hD,hY,hZ,gA,hm,hb];try exact cb)
 |(cases h;done))
  (refine gy hQ ?_;simp only[aR,aS,bC,bD,go_sem])
  refine⟨rfl,y,rfl, ?_⟩
  unfold Mc.event
  rw[hb]
  exact h
 ·repeat' (first
 |simp only[go_sem,hD,hY,hZ,gA,hm,hb,eA,hl]
 |(with_reducible refine CU (c1 _) ?_)
 |(with_reducible first|refine bm fun hc=>?_|refine bn fun hc=>?_|refine bo (fun hc=>?_) fun hc=>?_)<;>(try simp only[hc,bs,↓reduceIte]at h)<;>try simp only[hc]
 |(with_reducible refine aE hQ ?_;(try cases h);simp only[aR,aS,bC,bD,go_sem,hD,hY,hZ,gA,hm,hb,eA,hl];try exact cb)
 | (cases h;done))
  (refine gy hQ ?_;simp only[aR,aS,bC,bD,go_sem])
  refine⟨rfl,y,rfl, ?_⟩
  have:=h.s9 (m':=m.event W id cB) (ts:=s.av.set 1 (some (m.trace.length+1))) (fw W m id cB).1 (fw W m id cB).2.1 (by rw[(fw W m id cB).2.2.2.2.2,List.getElem?_set_ne (by omega)];exact h.t0) (by
   unfold Mc.event
   rw[hb]
   simp[(List.getElem?_eq_some_iff.1 h.t1).1])
  unfold Mc.event at this ⊢
  rw[hb,if_pos rfl]at this ⊢
  simp only[ff,List.map_append,List.map_cons,List.map_nil]at this
  exact this
theorem KY (l:List Sm) (hl:l.length<4611686018427387904) (o:Int) (s:St):aG Tryz.prog pF [.slice .shared 13 (l.map bk), .int .i64 o] s (.int .i64 (firstM l o)) s:=by
 refine aG.pure ?_ (by simp[D.bI,D.ok,Tag.ok,qE]) rfl s
 unfold S0
 cases l with
 |nil=>
  have e:decide ((0:Int) > 0)=false:=rfl
  simp only[firstM,fX,List.map_nil]
  refine aG.go zl rfl fun B Q hB hQ=>?_
  have⟨hD,hY,hZ,gA⟩:=bS
  repeat' (first
 |simp only[go_sem,hD,hY,hZ,gA,e]
 |(with_reducible first|refine bm fun hc=>?_|refine bn fun hc=>?_|refine bo (fun hc=>?_) fun hc=>?_)<;>(try simp only[hc,bs,↓reduceIte]at h)<;>try simp only[hc]
 |(with_reducible refine aE hQ ?_;(try cases h);simp only[aR,aS,bC,bD,go_sem,hD,hY,hZ,gA,e];try exact cb)
 |(cases h;done))
 |cons a l=>
  have e:decide (((l.length+1:Nat):Int) > 0)=true:=by simp
  simp only[firstM,fX,List.map_cons]
  refine aG.go zl rfl fun B Q hB hQ=>?_
  have⟨hD,hY,hZ,gA⟩:=bS
  repeat' (first
 |simp only[go_sem,hD,hY,hZ,gA,e]
 |(with_reducible first|refine bm fun hc=>?_|refine bn fun hc=>?_|refine bo (fun hc=>?_) fun hc=>?_)<;>(try simp only[hc,bs,↓reduceIte]at h)<;>try simp only[hc]
 |(with_reducible refine aE hQ ?_;(try cases h);simp only[aR,aS,bC,bD,go_sem,hD,hY,hZ,gA,e];try exact cb)
 |(cases h;done))
end
end Go.Abs
namespace Go.Abs
set_option maxRecDepth 8000
open Go.Proofs
section
variable {p:Pg} {T W:List Int} {y:Lay} {m:Mc} {loc:List (Nat×List D)} {s:St}
theorem Je {s:St} {o g z bytes:Nat} {t:Tag} {cs more r:List D} {len:Nat} (hs:s.ah[o]? = some (.int .i64 (g:Int)::(cs++more))) (hl:cs.length=len*z) (hm:(len+1)*(bytes+1)≤bH) :
 zQ z bytes (.dW z o g len) (.slice t z [r]) s=some (.dW z o (g+1) (len+1),⟨s.ah.set o (.int .i64 ((g+1:Nat):Int)::(cs++r)),s.av⟩):=by
 have ha:nq s o g=some (cs++more):=by unfold nq;rw[hs];simp
 simp only[zQ,ha,List.length_singleton,hm,or_true,and_self,if_true,List.flatten_cons,List.flatten_nil,List.append_nil]
 rw[if_pos (by simp;omega), ← hl,List.take_append_of_le_length (Nat.le_refl _),List.take_length]
theorem Wk.afM (z z':Nat):Wk (.dU z) (.slice .shared z' []):=fun M s v h=>by
 cases h with
 |dU _ a=>cases a with
  |none=>exact .iz _ _ _ rfl trivial
  |some a=>exact .k6 _ _ _
theorem aG.afN {P:Program} {f:FuncId} {a b:D} {d:D} {s:St} {v:D} {l:List Int} (hv:jl s v (l.map qb)) (h : ∀ s,aG P f [a,b, .slice .shared 1 (l.map cr)] s d s) (ha:D.ok 0 0 a=true) (hb:D.ok 0 0 b=true) (hd:d.flat=true) :
 aG P f [a,b,v] s d s:=by
 rcases hv with ⟨rfl,e⟩|⟨o,g,more,rfl,e⟩
 ·have:l = []:=by simpa using e
  subst this
  exact bG.pg (.cons (Wk.refl _) (.cons (Wk.refl _) (.cons (Wk.afM 1 1) .nil))) (h s)
 ·have dS : ∀ l:List Int,(l.map cr).flatten=l.map qb:=fun l=>by
   induction l with
   |nil=>rfl
   |cons x l ih=>simp only[List.map_cons,List.flatten_cons,ih];rfl
  have hlen:(l.map qb).length=(l.map cr).length:=by simp
  rw[hlen]
  have e0:D.je o g (l.map cr) [a,b, .dW 1 o g (l.map cr).length] = [a,b, .slice .shared 1 (l.map cr)]:=by
   simp only[D.je,H7 _ _ _ a ha,H7 _ _ _ b hb,D.fA,and_self,if_true]
  refine aG.ah7 (k:=2) (rows:=l.map cr) rfl (by rw[dS];exact e) (by intro r hr;obtain⟨x,_,rfl⟩:=List.mem_map.1 hr;rfl) ?_ ?_ hd
  ·rw[e0];exact h S0
  ·rw[e0];simp[D.bI,D.ok,Tag.ok,ha,hb,jG]
structure mr (m:Mc) (fr:Fr) (r:List Fr):Prop where
 st:m.st=fr::r
 len:r.length<1000000
 names:fr.names.length<1000000
 vars:fr.vars.length<1000000
theorem mr.top {fr:Fr} {r:List Fr} (h:mr m fr r):m.top=fr:=by simp[Mc.top,h.st]
theorem QR {fr:Fr} {k c:Nat} {rest:List Nat} (h:fr.vars.drop k=c::rest) (m:Mc):(fr.vars.take (k+1)).map (fun c=>m.mem.getD c 0)=(fr.vars.take k).map (fun c=>m.mem.getD c 0)++ [m.mem.getD c 0]:=by
 have:=(drop_cons h).1
 rw[List.take_add_one,this]
 simp
theorem C1 (h:Inv p T W y m loc s) {fr:Fr} {r:List Fr} (ht:mr m fr r) {x:Ex} (hx:x.size<1000000) (htx:x.texts) :
 bG Tryz.prog jF [.ptr 0 0, .agg (bW x)] s (fun d s'=>Rl p T W (yM (m.bJ x).1) (m.bJ x).2 (fun y'=>y' = {y with vd:=y'.vd}) loc d s'∧s'.av=s.av):=by
 have h1:=h.new (bW x)
 generalize Wg:(s.ah.length,bW x)::loc=T3 at h1
 obtain⟨o,ho,QS,c1⟩:=NV h1 ht.st ht.len
 have hm:=h1.jm
 rw[ff]at hm
 have hl:=h1.tR
 simp only at hm hl
 rw[oP]at QS
 have hvl:=ht.vars
 have OG:=ht.names
 refine bG.tL xo rfl fun B Q hB hQ=>?_
 have⟨hD,hY,hZ,gA⟩:=bS
 -- the rounds
 have loop : ∀ (n k:Nat) (rest:List Nat) (vd:D) (s2:St),s2.av=s.av→rest.length=n→fr.vars.drop k=rest→Inv p T W {y with vd:=vd} m T3 s2→jl s2 vd (((fr.vars.take k).map fun c=>m.mem.getD c 0).map qb)→
  bq Tryz.prog B 64 QOM (km 0 (nw (jQ Tryz.prog B 64 QOY Q) Q)) [(0, .ptr 0 0),(3, .ptr s.ah.length 0),(6, .ptr o 0),(24, .slice .shared 1 (fr.vars.map fun c=>e9 (y.κ.getD c 0))),(25, .int .i64 (fr.vars.length:Int)),(26, .int .i64 (k:Int))] s2:=by
  intro n
  induction n with
  | zero=>
   intro k rest vd s2 uH zY hd h2 ha
   have:rest = []:=List.eq_nil_of_length_eq_zero zY
   subst this
   have hD:=drop_nil hd
   have hk:fr.vars.take k=fr.vars:=List.take_of_length_le (List.drop_eq_nil_iff.1 hd)
   rw[hk]at ha
   have Wh:(fr.vars.map fun c=>m.mem.getD c 0)=m.cB:=by unfold Mc.cB;rw[ht.top]
   rw[Wh]at ha
   have jj:=h2.jm
   rw[ff]at jj
   have kL:=h2.tR
   have F9:=(h2.frame 0 o fr ho (by rw[ht.st];rfl)).1
   rw[oP]at F9
   have sV:=(h2.loc (s.ah.length,bW x) (by rw[← Wg];exact List.mem_cons_self ..)).1
   simp only at jj F9 sV
   have c2:aG Tryz.prog vK [.agg (bW x), .slice .shared 1 (fr.names.map encStr),vd] s2 (yM (x.bJ fr.names m.cB)) s2:=
    aG.afN ha (fun s=>T1 (by omega) htx (by omega) (by rw[← Wh,List.length_map];omega) s) (by simp[D.ok,lr]) (by simp[D.ok,Tag.ok,eQ]) (by simp[D.flat,D.Dx])
   have hw:(m.bJ x).1=x.bJ fr.names m.cB:=by unfold Mc.bJ;rw[ht.top]
   generalize hr:x.bJ fr.names m.cB=q at *
   have sL:(m.bJ x).2=if q.2 then m else {m with fin:=4}:=by unfold Mc.bJ;rw[ht.top,hr]
   obtain⟨q1,q2⟩:=q
   have u9:Inv p T W {y with vd:=vd} {m with fin:=4} T3 ⟨s2.ah.set 0 (ff p T W {y with vd:=vd} {m with fin:=4}),s2.av⟩:=h2.s9 (m':= {m with fin:=4}) rfl rfl h2.t0 h2.t1
   rw[ff]at u9
   have mX : ∀ q∈loc,q∈T3:=fun q mq=>by rw[← Wg];exact List.mem_cons_of_mem _ mq
   refine bq.kC ?_
   cases q2
   ·repeat' (first
 |simp only[go_sem,hD,hY,hZ,gA,jj,kL,F9,sV]
 |(with_reducible refine CU (c2) ?_)
 |(with_reducible first|refine bm fun hc=>?_|refine bn fun hc=>?_|refine bo (fun hc=>?_) fun hc=>?_)<;>(try simp only[hc,bs,↓reduceIte]at h)<;>try simp only[hc]
 |(with_reducible refine aE hQ ?_;(try cases h);simp only[aR,aS,bC,bD,go_sem,hD,hY,hZ,gA,jj,kL,F9,sV];try exact cb)
 |(cases h;replace h:=hr;clear hr;(try simp only[bs,↓reduceIte]at h))
 | (cases h;done))
    (refine gy hQ ?_;simp only[aR,aS,bC,bD,go_sem])
    refine⟨⟨by rw[hw],{y with vd:=vd},rfl, ?_⟩,uH⟩
    rw[sL]
    exact u9.sub mX
   ·repeat' (first
 |simp only[go_sem,hD,hY,hZ,gA,jj,kL,F9,sV]
 |(with_reducible refine CU (c2) ?_)
 |(with_reducible first|refine bm fun hc=>?_|refine bn fun hc=>?_|refine bo (fun hc=>?_) fun hc=>?_)<;>(try simp only[hc,bs,↓reduceIte]at h)<;>try simp only[hc]
 |(with_reducible refine aE hQ ?_;(try cases h);simp only[aR,aS,bC,bD,go_sem,hD,hY,hZ,gA,jj,kL,F9,sV];try exact cb)
 |(cases h;replace h:=hr;clear hr;(try simp only[bs,↓reduceIte]at h))
 | (cases h;done))
    (refine gy hQ ?_;simp only[aR,aS,bC,bD,go_sem])
    refine⟨⟨by rw[hw],{y with vd:=vd},rfl, ?_⟩,uH⟩
    rw[sL]
    exact h2.sub mX
  | succ n ih=>
   intro k rest vd s2 uH zY hd h2 ha
   cases rest with
   |nil=>cases zY
   | cons c rest=>
    obtain⟨hY,g2,hD,g4⟩:=drop_cons hd
    have cf:k<4611686018427387904:=by omega
    have QT:c<m.mem.length:=(h2.frame 0 o fr ho (by rw[ht.st];rfl)).2.2 c (List.mem_of_getElem? hY)
    have hκ:y.κ[c]? = some (y.κ.getD c 0):=by
     rw[List.getD_eq_getElem?_getD,List.getElem?_eq_getElem (by have:=h2.len;simp only at this;omega)];rfl
    have ik:=h2.cell c _ _ hκ (by rw[List.getElem?_eq_getElem QT])
    have pf:m.mem[c] = m.mem.getD c 0:=by rw[List.getD_eq_getElem?_getD,List.getElem?_eq_getElem QT];rfl
    rw[pf]at ik
    generalize afO:m.mem.getD c 0=v at ik
    have jj:=h2.jm
    rw[ff]at jj
    have kL:=h2.tR
    simp only at jj
    have hlen:k<1000000:=by have:=ht.vars;omega
    have hvt:((fr.vars.take (k+1)).map fun c=>m.mem.getD c 0).map qb=((fr.vars.take k).map fun c=>m.mem.getD c 0).map qb++ [.int .i64 v]:=by
     rw[QR hd m,afO,List.map_append];rfl
    rcases ha with ⟨rfl,e⟩|⟨vo,g,more,rfl,e⟩
    ·have eA:=H5 (z:=1) (bytes:=8) .full [.int .i64 v] s2 (by unfold bH;omega)
     have h3:=h2.NR (vd:= .dW 1 s2.ah.length 0 1) (s1:=⟨s2.ah++ [[.int .i64 ((0:Nat):Int), .int .i64 v]],s2.av⟩) (fun o r e _=>by rw[List.getElem?_append_left (fN e)];exact e)
      ⟨[v], .inr ⟨_,0,[],rfl,by simp[qb]⟩⟩ (.inr (.inr rfl)) rfl
     rw[ff]at h3
     simp only at h3
     refine bq.kC ?_
     have hA : ∀ e:List (List D),(s2.ah++e)[0]? = s2.ah[0]? :=fun e=>List.getElem?_append_left kL
     repeat' (first
 |simp only[go_sem,hD,hY,hZ,gA,jj,kL,ik,hY,e9,eA,Option.map_some,hA]
 |(with_reducible first|refine bm fun hc=>?_|refine bn fun hc=>?_|refine bo (fun hc=>?_) fun hc=>?_)<;>(try simp only[hc,bs,↓reduceIte]at h)<;>try simp only[hc]
 |(with_reducible refine aE hQ ?_;(try cases h);simp only[aR,aS,bC,bD,go_sem,hD,hY,hZ,gA,jj,kL,ik,hY,e9,eA,Option.map_some,hA];try exact cb)
 |(cases h;replace h:=hr;clear hr;(try simp only[bs,↓reduceIte]at h))
 | (cases h;done))
     refine bq.o7 ?_ (ih (k+1) rest _ _ uH (by simpa using zY) g2 h3 ?_)
     ·simp only [go_sem,aJ cf,e9]
      repeat' (first|exact Ok.out|with_reducible refine iJ ?_ ?_)
     ·rw [hvt,e]
      refine .inr ⟨_,0,[],rfl, ?_⟩
      show((s2.ah++ [_]).set 0 _)[s2.ah.length]? = _
      rw[List.getElem?_set_ne (by omega)]
      simp
    ·have oc:(((fr.vars.take k).map fun c=>m.mem.getD c 0).map qb).length=k:=by simp;omega
     have eA:=Je (t:= .full) (bytes:=8) (r:= [.int .i64 v]) e (len:=k) (z:=1) (by rw[oc,Nat.mul_one]) (by unfold bH;omega)
     rw[oc]at jj h2
     have Ga:0≠vo:=fun e'=>(h2.vb (o:=vo) (by simp[D.arr])) e'.symm
     have da:jl ⟨s2.ah.set vo (.int .i64 ((g+1:Nat):Int)::(((fr.vars.take k).map fun c=>m.mem.getD c 0).map qb++ [.int .i64 v])),s2.av⟩ (.dW 1 vo (g+1) (k+1)) (((fr.vars.take k).map fun c=>m.mem.getD c 0).map qb++ [.int .i64 v]):=
      .inr ⟨vo,g+1,[],by simp;omega,by simp[fN e]⟩
     have h3:=h2.NR (vd:= .dW 1 vo (g+1) (k+1)) (s1:=⟨s2.ah.set vo (.int .i64 ((g+1:Nat):Int)::(((fr.vars.take k).map fun c=>m.mem.getD c 0).map qb++ [.int .i64 v])),s2.av⟩) (fun o r e hn=>by rw[List.getElem?_set_ne (fun e'=>hn (by rw[← e'];simp[D.arr]))];exact e)
      ⟨(fr.vars.take (k+1)).map fun c=>m.mem.getD c 0,by rw[hvt];exact da⟩ (.inl rfl) rfl
     rw[ff]at h3
     simp only at h3
     refine bq.kC ?_
     have hA : ∀ e:List D,(s2.ah.set vo e)[0]? = s2.ah[0]? :=fun e=>List.getElem?_set_ne (Ne.symm Ga)
     repeat' (first
 |simp only[go_sem,hD,hY,hZ,gA,jj,kL,ik,hY,e9,eA,Option.map_some,hA]
 |(with_reducible first|refine bm fun hc=>?_|refine bn fun hc=>?_|refine bo (fun hc=>?_) fun hc=>?_)<;>(try simp only[hc,bs,↓reduceIte]at h)<;>try simp only[hc]
 |(with_reducible refine aE hQ ?_;(try cases h);simp only[aR,aS,bC,bD,go_sem,hD,hY,hZ,gA,jj,kL,ik,hY,e9,eA,Option.map_some,hA];try exact cb)
 |(cases h;replace h:=hr;clear hr;(try simp only[bs,↓reduceIte]at h))
 |(cases h;done))
     refine bq.o7 ?_ (ih (k+1) rest _ _ uH (by simpa using zY) g2 h3 ?_)
     ·simp only [go_sem,aJ cf,e9]
      repeat' (first|exact Ok.out|with_reducible refine iJ ?_ ?_)
     ·rw [hvt]
      exact da.keep fun o mo=>by
       have:o=vo:=by simpa[D.arr]using mo
       subst this
       show(List.set _ 0 _)[o]? = _
       rw[List.getElem?_set_ne Ga]
 -- the values' slice is emptied
 obtain⟨l,hv⟩:=h1.cB
 have h0:((s.ah++ [bW x])[0]?).isSome=true:=by rw[hm];rfl
 rcases hv with ⟨e,_⟩|⟨vo,g,more,e,e2⟩
 ·rw [e]at hm
  have tA:wg (.dU 1) none (some (.int .i64 0))=some (.dU 1):=by simp[wg,sq,sr]
  have h3:=h1.NR (vd:= .dU 1) (s1:=⟨s.ah++ [bW x],s.av⟩) (fun _ _ e _=>e) ⟨[], .inl ⟨rfl,rfl⟩⟩ (.inl (by rw[e])) rfl
  have A0:=(h3.frame 0 o fr ho (by rw[ht.st];rfl)).1
  rw[ff]at h3 A0
  rw[oP]at A0
  simp only at h3 A0
  repeat' (first
 |simp only[go_sem,hD,hY,hZ,gA,hm,hl,QS,tA,A0]
 |(with_reducible refine CU (c1) ?_)
 |(with_reducible first|refine bm fun hc=>?_|refine bn fun hc=>?_|refine bo (fun hc=>?_) fun hc=>?_)<;>(try simp only[hc,bs,↓reduceIte]at h)<;>try simp only[hc]
 |(with_reducible refine aE hQ ?_;(try cases h);simp only[aR,aS,bC,bD,go_sem,hD,hY,hZ,gA,hm,hl,QS,tA,A0];try exact cb)
 |(cases h;replace h:=hr;clear hr;(try simp only[bs,↓reduceIte]at h))
 |(cases h;done))
  refine bq.o7 ?_ (loop _ 0 fr.vars _ _ rfl rfl rfl h3 (.inl ⟨rfl,rfl⟩))
  simp only[go_sem,e9]
  repeat' (first|exact Ok.out|with_reducible refine iJ ?_ ?_)
 ·rw [List.length_map]at e
  rw[e]at hm
  have Ga:0≠vo:=fun e'=>(h1.vb (o:=vo) (by rw[e];simp[D.arr])) e'.symm
  have tA:wg (.dW 1 vo g l.length) none (some (.int .i64 0))=some (.dW 1 vo g 0):=by simp[wg,sq,sr]
  have h3:=h1.NR (vd:= .dW 1 vo g 0) (s1:=⟨s.ah++ [bW x],s.av⟩) (fun _ _ e _=>e) ⟨[], .inr ⟨vo,g,l.map qb++more,rfl,e2⟩⟩ (.inl (by rw[e];rfl)) rfl
  have A0:=(h3.frame 0 o fr ho (by rw[ht.st];rfl)).1
  rw[ff]at h3 A0
  rw[oP]at A0
  simp only at h3 A0
  repeat' (first
 |simp only[go_sem,hD,hY,hZ,gA,hm,hl,QS,tA,A0]
 |(with_reducible refine CU (c1) ?_)
 |(with_reducible first|refine bm fun hc=>?_|refine bn fun hc=>?_|refine bo (fun hc=>?_) fun hc=>?_)<;>(try simp only[hc,bs,↓reduceIte]at h)<;>try simp only[hc]
 |(with_reducible refine aE hQ ?_;(try cases h);simp only[aR,aS,bC,bD,go_sem,hD,hY,hZ,gA,hm,hl,QS,tA,A0];try exact cb)
 |(cases h;replace h:=hr;clear hr;(try simp only[bs,↓reduceIte]at h))
 | (cases h;done))
  refine bq.o7 ?_ (loop _ 0 fr.vars _ _ rfl rfl rfl h3 (.inr ⟨vo,g,l.map qb++more,rfl, ?_⟩))
  ·simp only [go_sem,e9]
   repeat' (first|exact Ok.out|with_reducible refine iJ ?_ ?_)
  ·show(List.set _ 0 _)[vo]? = _
   rw[List.getElem?_set_ne Ga];exact e2
end
end Go.Abs
namespace Go.Abs
set_option maxRecDepth 8000
open Go.Proofs
section
variable {p:Pg} {T W:List Int} {y:Lay} {m:Mc} {loc:List (Nat×List D)} {s:St}
theorem Cr:Wk (.slice .full 0 []) (.slice .shared 1 (([] : List Int).map cr)):=Wk.nil _ _ _
theorem vf (h:Inv p T W y m loc s) (hW:W.length<1000000) (ht:m.trace.length<2000000) (id:Int) :
 bG Tryz.prog dV [.ptr 0 0, .int .i64 id, .slice .full 0 []] s (Rl p T W (.tuple []) (m.event W id []) (· = y) loc):=
 bG.pg (.cons (Wk.refl _) (.cons (Wk.refl _) (.cons Cr .nil))) (KX h hW ht id [])
theorem C2 (h:Inv p T W y m loc s) (hW:W.length<1000000) (ht:m.trace.length<2000000) (id n:Int) :
 bG Tryz.prog dV [.ptr 0 0, .int .i64 id, .slice .full 1 [[.int .i64 n]]] s (Rl p T W (.tuple []) (m.event W id [n]) (· = y) loc):=
 bG.pg (.cons (Wk.refl _) (.cons (Wk.refl _) (.cons (Wk.shared _ _ _) .nil))) (KX h hW ht id [n])
theorem Yg (h:Inv p T W y m loc s) {fr:Fr} {r:List Fr} (ht:mr m fr r) {v:Sm} (hv:v.mQ) (hW:W.length<1000000) (htr:m.trace.length<2000000) :
 bG Tryz.prog nY [.ptr 0 0, .agg (bk v)] s (Rl p T W (.int .i64 (m.iV W v).1) (m.iV W v).2 (fun y'=>y' = {y with vd:=y'.vd}) loc):=by
 have h1:=h.new (bk v)
 have hx:(s.ah++ [bk v])[s.ah.length]? = some (bk v):=by simp
 have mX : ∀ q∈loc,q∈(s.ah.length,bk v)::loc:=fun q mq=>List.mem_cons_of_mem _ mq
 refine bG.tL xl rfl fun B Q hB hQ=>?_
 have⟨hD,hY,hZ,gA⟩:=bS
 rcases Bool.eq_false_or_eq_true v.has with b|b
 ·have c1:=C1 h1 ht (x:=v.x) (by have:=hv.2.2;omega) hv.1
  repeat' (first
 |simp only[go_sem,hD,hY,hZ,gA,hx,b]
 |(with_reducible first|refine bm fun hc=>?_|refine bn fun hc=>?_|refine bo (fun hc=>?_) fun hc=>?_)<;>(try simp only[hc,bs,↓reduceIte]at h)<;>try simp only[hc]
 |(with_reducible refine aE hQ ?_;(try cases h);simp only[aR,aS,bC,bD,go_sem,hD,hY,hZ,gA,hx,b];try exact cb)
 | (cases h;done))
  refine CR c1 fun d s2 h2=>?_
  obtain⟨⟨rfl,y2,vg,h2⟩,_⟩:=h2
  have sV:=(h2.loc (s.ah.length,bk v) (List.mem_cons_self ..)).1
  have hw:=jk m v.x
  simp only at sV
  rcases Bool.eq_false_or_eq_true (m.bJ v.x).1.2 with b2|b2
  ·have c2:=C2 h2 hW (by rw [hw.2.2.2.2.2];exact htr) v.id (m.bJ v.x).1.1
   repeat' (first
 |simp only[go_sem,hD,hY,hZ,gA,sV,b2]
 |(with_reducible first|refine bm fun hc=>?_|refine bn fun hc=>?_|refine bo (fun hc=>?_) fun hc=>?_)<;>(try simp only[hc,bs,↓reduceIte]at h)<;>try simp only[hc]
 |(with_reducible refine aE hQ ?_;(try cases h);simp only[aR,aS,bC,bD,go_sem,hD,hY,hZ,gA,sV,b2];try exact cb)
 | (cases h;done))
   refine CR c2 fun d s3 h3=>?_
   obtain⟨rfl,y3,rfl,h3⟩:=h3
   repeat' (first
 |simp only[go_sem,hD,hY,hZ,gA]
 |(with_reducible first|refine bm fun hc=>?_|refine bn fun hc=>?_|refine bo (fun hc=>?_) fun hc=>?_)<;>(try simp only[hc,bs,↓reduceIte]at h)<;>try simp only[hc]
 |(with_reducible refine aE hQ ?_;exact fV)
 | (cases h;done))
   (refine gy hQ ?_;simp only[aR,aS,bC,bD,go_sem])
   refine⟨by simp only[Mc.iV,b,if_true],y3,vg, ?_⟩
   simp only[Mc.iV,b,b2,if_true]
   exact h3.sub mX
  ·repeat' (first
 |simp only[go_sem,hD,hY,hZ,gA,sV,b2]
 |(with_reducible first|refine bm fun hc=>?_|refine bn fun hc=>?_|refine bo (fun hc=>?_) fun hc=>?_)<;>(try simp only[hc,bs,↓reduceIte]at h)<;>try simp only[hc]
 |(with_reducible refine aE hQ ?_;(try cases h);simp only[aR,aS,bC,bD,go_sem,hD,hY,hZ,gA,sV,b2];try exact cb)
 | (cases h;done))
   (refine gy hQ ?_;simp only[aR,aS,bC,bD,go_sem])
   refine⟨by simp only[Mc.iV,b,if_true],y2,vg, ?_⟩
   simp only[Mc.iV,b,b2,if_true,Bool.false_eq_true,if_false]
   exact h2.sub mX
 ·have c1:=vf h1 hW htr v.id
  repeat' (first
 |simp only[go_sem,hD,hY,hZ,gA,hx,b]
 |(with_reducible first|refine bm fun hc=>?_|refine bn fun hc=>?_|refine bo (fun hc=>?_) fun hc=>?_)<;>(try simp only[hc,bs,↓reduceIte]at h)<;>try simp only[hc]
 |(with_reducible refine aE hQ ?_;(try cases h);simp only[aR,aS,bC,bD,go_sem,hD,hY,hZ,gA,hx,b];try exact cb)
 |(cases h;done))
  refine CR c1 fun d s2 h2=>?_
  obtain⟨rfl,y2,rfl,h2⟩:=h2
  repeat' (first
 |simp only[go_sem,hD,hY,hZ,gA]
 |(with_reducible first|refine bm fun hc=>?_|refine bn fun hc=>?_|refine bo (fun hc=>?_) fun hc=>?_)<;>(try simp only[hc,bs,↓reduceIte]at h)<;>try simp only[hc]
 |(with_reducible refine aE hQ ?_;exact fV)
 |(cases h;done))
  (refine gy hQ ?_;simp only[aR,aS,bC,bD,go_sem])
  refine⟨by simp only[Mc.iV,b,Bool.false_eq_true,if_false],y2,rfl, ?_⟩
  simp only[Mc.iV,b,Bool.false_eq_true,if_false]
  exact h2.sub mX
end
end Go.Abs
