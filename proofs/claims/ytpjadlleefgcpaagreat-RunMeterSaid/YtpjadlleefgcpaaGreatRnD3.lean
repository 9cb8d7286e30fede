/-
  What is proved here: part 3 of the road to the claim (Sc4, Rng, FineM, Sc5, Ar1, Ar2, Ar3, Srt1, Shelf, SortR, SrtP, Tc1, Tc2, Tc3, Bsl, Tc4, Tc5, Tc6, FlP, JmpP, Jm1, Jm2, MirRun, RunTot, RunFu, RunOk, Swap0, Swap2p, ToP, Al1, Al2, Al3, MirParse, Room1, Al4, Full1, Fits1, Fits2, MirEq, RefEq2, LawTo1, AlP, LawAl2, SwP, MirMapS, RightP, RunLo, RunNm, RunMc, RunI, Ev1, Ev2, Cp1, RunC0, RunC1).
  No conditions.
-/
import Derived.Test.YtpjadlleefgcpaaGreatRnD2
import Derived.Shelf.Small.Bits
import Derived.Shelf.Strconv.Itoa0
import Derived.Shelf.Sort.Plain
import Derived.Shelf.Slices.Turned
import Derived.Ground.Names2Prog
import Derived.Shelf.Slices.Clone
import Derived.Shelf.Slices.CompactS
import Derived.Shelf.Slices.Cells
import Derived.Shelf.Slices.In.SortNone
import Derived.Ground.SlgnProg
import Derived.Shelf.SlicesE.Clone
import Derived.Test.YtpjadlleefgcpaaGreatProg
import Derived.Sort.Walk0

set_option linter.unusedSimpArgs false
set_option linter.unusedVariables false
namespace Go.Abs
set_option maxRecDepth 8000
open Go.Proofs
structure Pg.iR (p:Pg):Prop where
 OG:p.HJ
 sz:p.size≤900000
mutual
theorem acx : ∀ s:Sm,s.wv→s.size<1000000→∀ v∈s.pre,v.nh∧v.tU
 |⟨id,kind,labels,name,proc,x,has,args,a7,aX⟩,h,hs,v,m=>by
  simp only[Sm.wv]at h
  simp only[Sm.size]at hs
  simp only[Sm.pre,List.mem_cons,List.mem_append]at m
  rcases m with rfl|m|m
  ·exact⟨⟨h.1.xt,fun a ha=>(h.1.arg a ha).2.1,by dsimp only;omega⟩,h.1⟩
  ·exact B3 a7 h.2.1 (by omega) v m
  ·exact B3 aX h.2.2 (by omega) v m
theorem B3 : ∀ l:List Sm,Sm.km l→Sm.bc l<1000000→∀ v∈Sm.cU l,v.nh∧v.tU
 | [],h,hs,v,m=>by simp[Sm.cU]at m
 |s::l,h,hs,v,m=>by
  simp only[Sm.km]at h
  simp only[Sm.bc]at hs
  simp only[Sm.cU,List.mem_append]at m
  rcases m with m|m
  ·exact acx s h.1 (by omega) v m
  ·exact B3 l h.2 (by omega) v m
end
theorem Pg.iR.said {p:Pg} (h:p.iR) {f:Pc} (hf:f∈p.procs) : ∀ v∈Sm.cU f.body,v.nh:=fun v m=>by
 have h1:=Pc.dr hf
 have h2:=h.sz
 simp only[Pg.size]at h2
 simp only[Pc.size]at h1
 exact(B3 f.body (h.OG.body f hf) (by omega) v m).1
theorem Pg.iR.small {p:Pg} (h:p.iR) {f:Pc} (hf:f∈p.procs):f.Small p:=by
 have h1:=Pc.dr hf
 have h2:=h.sz
 simp only[Pg.size]at h2
 simp only[Pc.size]at h1
 exact⟨by omega,by omega,by omega⟩
theorem Pg.iR.procs {p:Pg} (h:p.iR):p.procs.length≤900000∧Pc.bc p.procs≤900000∧p.globals.length≤900000:=by
 have h2:=h.sz
 have h3:=Pc.eW p.procs
 simp only[Pg.size]at h2
 omega
def Pg.pn (p:Pg):List aE:=p.procs.map (·.name)
def Bk (p:Pg) (f:Pc) (procs:List aE):List Sm→Option Sm
 | []=>none
 |v::l=>if v.known p f procs then Bk p f procs l else some v
def vy (p:Pg) (procs:List aE):List Pc→Int×Int
 | []=>(0,0)
 |f::l=>if fz (p.globals++f.own)then(5,0)else match Bk p f procs (Sm.cU f.body)with|some v=>(5,v.id)|none=>vy p procs l
def Pg.tn (p:Pg):Bool:=match p.find iC with|none=>true|some m=>decide ((m.params.length:Int) > 0)
def Pg.scope (p:Pg):Int×Int:=
 if p.may then if fz p.globals ||(fz p.pn ||p.tn)then(5,0)else vy p p.pn p.procs else(1,0)
theorem UM (p:Pg) (hl:p.globals.length<1000000) (n:aE):aG Tryz.prog oJ ([.str n]++ [.ptr 0 0]) ⟨[cB p],[]⟩ (.bool (fj p.globals n)) ⟨[cB p],[]⟩:=by
 show aG Tryz.prog oJ [.str n, .ptr 0 0] _ _ _
 have pB:=ju (l:=p.globals) (by omega) n
 refine aG.go Cl rfl fun B Q hB hQ=>?_
 have⟨hD,hY,hZ,gA⟩:=bX
 repeat' (first
 |simp only[go_sem,hD,hY,hZ,gA]
 |(with_reducible refine CU (pB _ _) ?_)
 |(with_reducible refine aF hQ ?_;exact bk))
theorem Xf (n m:Nat) (p:Pg):D.gh n m (fq p)=fq p:=gQ n m _ (tV p)
attribute [go_sem] Xf
theorem Y0 {p:Pg} {f:Pc} {procs:List aE} {v:Sm} (hs:f.Small p) (yd:procs.length<1000000) (hv:v.nh) (g:Tag) (s:St):aG Tryz.prog qe [.agg (cB p), .agg (cf f), .slice g 1 (procs.map encStr), .agg (bm v)] s (.bool (v.known p f procs)) s:=
 bG.pK (.cons (Wk.refl _) (.cons (Wk.refl _) (.cons (Wk.shared g 1 _) (ji.refl _)))) (YZ hs yd hv s)
theorem vz {p:Pg} (h:p.iR) (s:St):aG Tryz.prog lP [.agg (cB p)] s (.agg [.int .i64 p.scope.1, .int .i64 p.scope.2]) s:=by
 refine aG.pure ?_ (by simp[D.bL,D.ok,ki]) rfl s
 have hm:=fun s=>Jh h.OG s
 simp only[B1]at hm
 obtain⟨rI,rn,rm⟩:=h.procs
 have da:=fun s=>BW (p:=p) (by omega) s
 have pD:=fun s=>Dn (l:=p.globals) (by omega) .shared s
 have hpn:p.pn.length=p.procs.length:=by simp[Pg.pn]
 have DW:=fun g s=>Dn (l:=p.pn) (by omega) g s
 have Jq:=fun g s=>(BX (l:=p.pn) (by omega) iC s).Xa (Wk.shared g 1 (p.pn.map encStr))
 have Dp:=fun g s=>(show aG Tryz.prog fR [.slice g 1 (p.pn.map encStr), .str [109,97,105,110]] s (.int .i64 (iW iC 0 p.pn)) s from Jq g s)
 generalize hR:p.scope=R
 simp only[Pg.scope]at hR
 unfold S0
 rcases Bool.eq_false_or_eq_true p.may with hb|hb
 case inr=>
  simp only[hb]at hm
  simp only[hb,Bool.false_eq_true,if_false]at hR
  subst hR
  refine aG.go wk rfl fun B Q hB hQ=>?_
  have⟨hD,hY,hZ,gA⟩:=bX
  repeat' (first
 |simp only[go_sem,hD,hY,hZ,gA]
 |(with_reducible refine CU (hm _) ?_)
 |(with_reducible refine aF hQ ?_;exact bk))
 simp only[hb]at hm
 simp only[hb,if_true]at hR
 refine aG.go wk rfl fun B Q hB hQ=>?_
 have⟨hD,hY,hZ,gA⟩:=bX
 repeat' (first
 |simp only[go_sem,hD,hY,hZ,gA]
 |(with_reducible refine CU (hm _) ?_)
 |(with_reducible refine aF hQ ?_;exact bk))
 refine br.w6 3 1 rfl ?_
 simp only[go_sem,hD,hY,hZ,gA]
 refine fm 2 1 (br.ind (ι:=List Pc×Nat×List aE×Nat) (fun i=>p.procs.drop i.2.1=i.1∧i.2.2.1++i.1.map (·.name)=p.pn∧i.2.2.2=i.2.2.1.length) (fun i=>i.1.length)
  (fun i=> [(1, .ptr 0 0),(2, .ptr 1 0),(3, .slice (.tok 0) 1 (i.2.2.1.map encStr)),(18, .slice .shared 5 (p.procs.map cf)),(19, .int .i64 (p.procs.length:Int)),(20, .int .i64 (i.2.1:Int))]) (fun i=>⟨[cB p,[.int .i64 0, .int .i64 0]],[some i.2.2.2]⟩) ?_ (p.procs,0,[],0) ⟨rfl,rfl,rfl⟩)
 rintro⟨rest,k,out,n⟩ ⟨h1,h2,h3⟩ IH
 dsimp only at h1 h2 h3
 subst h3
 have hlo:out.length+rest.length≤900000:=by
  have:=congrArg List.length h2
  simp only[List.length_append,List.length_map]at this
  omega
 cases rest with
 |cons a rest=>
  obtain⟨hY,g2,hD,g4⟩:=drop_cons h1
  have cj:k<4611686018427387904:=by omega
  have hZ:(out.length+1)*17≤bJ:=by unfold bJ;omega
  repeat' (first
 |simp only[go_sem,hD,hY,hZ,gA]
 |(with_reducible refine aF hQ ?_;exact bk))
  refine fp 2 1 ?_ ?_ (IH (rest,k+1,out++ [a.name],out.length+1) ⟨g2,by rw[← h2];simp,by simp⟩ (Nat.lt_succ_self _))
  ·(simp only[go_sem,hD,hY,hZ,gA,aM cj,List.map_append,List.map_cons,List.map_nil,encStr];try exact cz)
  ·(simp only[go_sem,hD,hY,hZ,gA,aM cj,List.map_append,List.map_cons,List.map_nil,encStr];try exact cz)
 | nil=>
  have hD:=drop_nil h1
  simp only[List.map_nil,List.append_nil]at h2
  subst h2
  rcases Bool.eq_false_or_eq_true (fz p.globals)with b1|b1
  ·simp only [b1,Bool.true_or,if_true]at hR
   subst hR
   repeat' (first
 |simp only[go_sem,hD,hY,hZ,gA,b1]
 |(with_reducible refine CU (Dp _ _) ?_)
 |(with_reducible refine CU (pD _) ?_)
 |(with_reducible refine CU (DW _ _) ?_)
 | (with_reducible refine aF hQ ?_;exact bk))
  rcases Bool.eq_false_or_eq_true (fz p.pn)with b2|b2
  ·simp only [b1,b2,Bool.true_or,Bool.or_true,if_true]at hR
   subst hR
   repeat' (first
 |simp only[go_sem,hD,hY,hZ,gA,b1,b2]
 |(with_reducible refine CU (Dp _ _) ?_)
 |(with_reducible refine CU (pD _) ?_)
 |(with_reducible refine CU (DW _ _) ?_)
 | (with_reducible refine aF hQ ?_;exact bk))
  rcases Jo iC p.procs 0 with ⟨e1,e2⟩|⟨m,j,e1,e2,e3⟩
  ·have b3:p.tn=true:=by unfold Pg.tn Pg.find;rw [e1]
   have hi:iW iC 0 p.pn = -1:=e2
   simp only[b1,b2,b3,Bool.or_true,if_true]at hR
   subst hR
   simp only[hi]at Dp
   have d1:decide ((-1:Int)<0)=true:=by decide
   repeat' (first
 |simp only[go_sem,hD,hY,hZ,gA,b1,b2,d1]
 |(with_reducible refine CU (Dp _ _) ?_)
 |(with_reducible refine CU (pD _) ?_)
 |(with_reducible refine CU (DW _ _) ?_)
 | (with_reducible refine aF hQ ?_;exact bk))
  have hi:iW iC 0 p.pn=((j:Nat):Int):=by rw[show p.pn=p.procs.map (·.name)from rfl];simpa using e3
  simp only[hi]at Dp
  have d1:decide (((j:Nat):Int)<0)=false:=by simp
  have hj:j<p.procs.length:=(List.getElem?_eq_some_iff.1 e2).1
  have b3:p.tn=decide ((m.params.length:Int) > 0):=by unfold Pg.tn Pg.find;rw[e1]
  rw[b3]at hR
  rcases Bool.eq_false_or_eq_true (decide ((m.params.length:Int) > 0))with b4|b4
  ·simp only [b1,b2,b4,Bool.or_true,if_true]at hR
   subst hR
   repeat' (first
 |simp only[go_sem,hD,hY,hZ,gA,b1,b2,d1,e2,b4]
 |(with_reducible refine CU (Dp _ _) ?_)
 |(with_reducible refine CU (pD _) ?_)
 |(with_reducible refine CU (DW _ _) ?_)
 |(with_reducible refine aF hQ ?_;exact bk))
  simp only[b1,b2,b4,Bool.or_false,Bool.false_eq_true,if_false]at hR
  repeat' (first
 |simp only[go_sem,hD,hY,hZ,gA,b1,b2,d1,e2,b4]
 |(with_reducible refine CU (Dp _ _) ?_)
 |(with_reducible refine CU (pD _) ?_)
 |(with_reducible refine CU (DW _ _) ?_)
 |(with_reducible refine CU (da _) ?_)
 | (with_reducible refine aF hQ ?_;exact bk))
  refine fm 2 1 (br.ind (ι:=List Pc×Nat) (fun i=>p.procs.drop i.2=i.1∧vy p p.pn i.1=R) (fun i=>i.1.length)
   (fun i=> [(1, .ptr 0 0),(2, .ptr 1 0),(3, .slice (.tok 0) 1 (p.pn.map encStr)),(7, .dt (fq p) 0),(57, .slice .shared 5 (p.procs.map cf)),(58, .int .i64 (p.procs.length:Int)),(59, .int .i64 (i.2:Int))]) (fun i=>⟨[cB p,[.int .i64 0, .int .i64 0]],[some p.pn.length]⟩) ?_ (p.procs,0) ⟨rfl,hR⟩)
  clear IH h1 hD hR
  rintro⟨rest,k⟩ ⟨h1,hR⟩ IH
  dsimp only at h1 hR
  cases rest with
  |nil=>
   have hD:=drop_nil h1
   simp only[vy]at hR
   subst hR
   repeat' (first
 |simp only[go_sem,hD,hY,hZ,gA]
 | (with_reducible refine aF hQ ?_;exact bk))
  | cons f rest=>
   obtain⟨hY,g2,hD,g4⟩:=drop_cons h1
   have cj:k<4611686018427387904:=by omega
   have z6:=List.mem_of_getElem? hY
   have vA:=h.small z6
   have Ru:=fun s=>Xe (f:=f) vA.par vA.vars s
   have jh:f.own.length<4611686018427387904:=by have h1:=vA.par;have h2:=vA.vars;unfold Pc.own Pc.ti;simp;omega
   have hto:=fun s=>Dn (l:=f.own) jh .shared s
   have CJ:=fun {s:St} {o:Nat} (ho:s.ah[o]? = some (cB p))=>yc (l:=f.own) jh (f:=oJ) (row:=cB p) (b:=fj p.globals) (ki p) (by with_unfolding_all rfl) (fun x _=>UM p vA.tW x) ho
   have UN:=fun {s:St} {o:Nat} (ho:s.ah[o]? = some (cB p))=>(show aG Tryz.prog fS [.slice .shared 1 (f.own.map encStr), .fV 130 [.ptr o 0]] s (.bool (f.own.any (fj p.globals))) s from CJ ho)
   simp only[vy,Rr,b1,Bool.false_or]at hR
   rcases Bool.eq_false_or_eq_true (fz f.own)with c1|c1
   ·simp only [c1,Bool.true_or,if_true]at hR
    subst hR
    repeat' (first
 |simp only[go_sem,hD,hY,hZ,gA,c1]
 |(with_reducible refine CU (Ru _) ?_)
 |(with_reducible refine CU (hto _) ?_)
 |(with_reducible refine CU (UN (by with_unfolding_all rfl)) ?_)
 | (with_reducible refine aF hQ ?_;exact bk))
   rcases Bool.eq_false_or_eq_true (f.own.any (fj p.globals))with c2|c2
   ·simp only [c1,c2,Bool.false_or,if_true]at hR
    subst hR
    repeat' (first
 |simp only[go_sem,hD,hY,hZ,gA,c1,c2]
 |(with_reducible refine CU (Ru _) ?_)
 |(with_reducible refine CU (hto _) ?_)
 |(with_reducible refine CU (UN (by with_unfolding_all rfl)) ?_)
 | (with_reducible refine aF hQ ?_;exact bk))
   simp only[c1,c2,Bool.or_self,Bool.false_eq_true,if_false]at hR
   obtain⟨it,pG,wE⟩:=Uy hY (by omega)
   rw[← pG]at hR
   have acz:it.length≤900000:=by
    have e:=congrArg List.length pG
    have e2:=(kX p).2 k f hY
    obtain⟨a,b,e',_,_,e3,e4⟩:=e2
    have e5:=o7 p
    have e6:=congrArg List.length e3
    rw[e4]at e5
    simp only[List.length_map,List.length_append]at e e5 e6
    omega
   repeat' (first
 |simp only[go_sem,hD,hY,hZ,gA,c1,c2]
 |(with_reducible refine CU (Ru _) ?_)
 |(with_reducible refine CU (hto _) ?_)
 |(with_reducible refine CU (UN (by with_unfolding_all rfl)) ?_)
 |(with_reducible refine CU (wE _) ?_)
 | (with_reducible refine aF hQ ?_;exact bk))
   obtain⟨q,hq⟩ : ∃ q,Bk p f p.pn (it.map Im.s)=q:=⟨_,rfl⟩
   rw[hq]at hR
   refine fm 3 1 (br.ind (ι:=List Im×Nat) (fun i=>it.drop i.2=i.1∧Bk p f p.pn (i.1.map Im.s)=q) (fun i=>i.1.length)
    (fun i=> [(1, .ptr 0 0),(2, .ptr 1 0),(3, .slice (.tok 0) 1 (p.pn.map encStr)),(7, .dt (fq p) 0),(9, .ptr 2 0),(57, .slice .shared 5 (p.procs.map cf)),(58, .int .i64 (p.procs.length:Int)),(59, .int .i64 (k:Int)),(76, .slice .shared 17 (it.map dq)),(77, .int .i64 (it.length:Int)),(78, .int .i64 (i.2:Int))]) (fun i=>⟨[cB p,[.int .i64 0, .int .i64 0],cf f],[some p.pn.length]⟩) ?_ (it,0) ⟨rfl,hq⟩)
   rintro⟨BN,n⟩ ⟨j1,j2⟩ Xg
   dsimp only at j1 j2
   have zR:=hD
   cases BN with
   |nil=>
    have amA:=drop_nil j1
    simp only[List.map_nil,Bk]at j2
    subst j2
    simp only at hR
    repeat' (first
 |simp only[go_sem,hD,hY,hZ,gA,amA]
 | (with_reducible refine aF hQ ?_;exact bk))
    refine fp 2 1 ?_ ?_ (IH (rest,k+1) ⟨g2,hR⟩ (Nat.lt_succ_self _))
    ·(simp only[go_sem,hD,hY,hZ,gA,aM cj];try exact cz)
    ·(simp only[go_sem,hD,hY,hZ,gA,aM cj];try exact cz)
   | cons i BN=>
    obtain⟨o9,LB,ye,jg4⟩:=drop_cons j1
    have yf:n<4611686018427387904:=by omega
    have Ew:i.s∈Sm.cU f.body:=by rw[← pG];exact List.mem_map_of_mem (List.mem_of_getElem? o9)
    have hkn:=Y0 (v:=i.s) vA (procs:=p.pn) (by omega) (h.said z6 _ Ew)
    simp only[List.map_cons,Bk]at j2
    rcases Bool.eq_false_or_eq_true (i.s.known p f p.pn)with c3|c3
    ·simp only [c3,if_true]at j2
     repeat' (first
 |simp only[go_sem,hD,hY,hZ,gA,ye,o9,c3]
 |(with_reducible refine CU (hkn _ _) ?_)
 | (with_reducible refine aF hQ ?_;exact bk))
     refine fp 3 1 ?_ ?_ (Xg (BN,n+1) ⟨LB,j2⟩ (Nat.lt_succ_self _))
     ·(simp only[go_sem,hD,hY,hZ,gA,aM yf];try exact cz)
     ·(simp only[go_sem,hD,hY,hZ,gA,aM yf];try exact cz)
    ·simp only [c3,Bool.false_eq_true,if_false]at j2
     subst j2
     simp only at hR
     subst hR
     repeat' (first
 |simp only[go_sem,hD,hY,hZ,gA,ye,o9,c3]
 |(with_reducible refine CU (hkn _ _) ?_)
 |(with_reducible refine aF hQ ?_;exact bk))
end Go.Abs
namespace Go.Abs
mutual
def Ex.rp:Ex→Prop
 |⟨_,n,_,kids⟩=>n≤9223372036854775807∧Ex.xh kids
def Ex.xh:List Ex→Prop
 | []=>True
 |x::l=>x.rp∧Ex.xh l
end
mutual
def Sm.rp:Sm→Prop
 |⟨_,_,_,_,_,x,_,args,a7,aX⟩=>x.rp∧(∀ a∈args,a.x.rp)∧Sm.xh a7∧Sm.xh aX
def Sm.xh:List Sm→Prop
 | []=>True
 |s::l=>s.rp∧Sm.xh l
end
def Pg.rp (p:Pg):Prop:=∀ f∈p.procs,Sm.xh f.body
theorem Gv {f:Pc} : ∀ {l:List Pc} {n:Nat},Pc.fb n l=true→f∈l→(isName f.name=true∧eY f.vars=true∧eY f.fin=true∧Pm.fI f.params=true)∧∃ n,(Sm.gi 1 n f.body).1=true
 |g::l,n,h,m=>by
  simp only[Pc.fb]at h
  split at h
  ·cases h
  rename_i c1
  split at h
  ·cases h
  rename_i c2
  split at h
  ·cases h
  rename_i c3
  simp only[Bool.or_eq_true,Bool.not_eq_true',not_or,Bool.not_eq_false]at c1 c2 c3
  rcases List.mem_cons.1 m with rfl|m
  ·exact⟨⟨c1.1.1.2,c1.1.2,c1.2,c2⟩,n,c3⟩
  ·exact Gv h m
mutual
theorem OH : ∀ (s:Sm) (nest:Int) (n:Nat),(Sm.pN nest n s).1=true→s.size<4611686018427387000→s.wv
 |⟨id,kind,labels,name,proc,x,has,args,a7,aX⟩,nest,n,hm,hs=>by
  obtain⟨_,_,h1,h2,h3,_⟩:=Gs hm
  rw[Dl]
  rw[(tf h2).2]at h2
  rw[(tf h3).2]at h3
  refine⟨Jk h1 hs,uF a7 _ _ h2 ?_,uF aX _ _ h3 ?_⟩<;>simp only[Sm.size]at hs<;>omega
theorem uF : ∀ (l:List Sm) (nest:Int) (n:Nat),(Sm.fb nest n l).1=true→Sm.bc l<4611686018427387000→Sm.km l
 | [],_,_,_,_=>by simp only[Sm.km]
 |s::l,nest,n,hm,hs=>by
  simp only[Sm.fb]at hm
  simp only[Sm.bc]at hs
  split at hm
  ·cases hm
  rename_i hc
  simp only[Bool.not_eq_true',Bool.not_eq_false]at hc
  exact⟨OH s nest n hc (by omega),uF l nest _ hm (by omega)⟩
end
theorem Rv {p:Pg} (h:p.may=true) (hs:p.size<4611686018427387000):p.HJ:=by
 have hf:=UG h hs
 rw[← B1]at h
 unfold Pg.FB at h
 split at h
 ·cases h
 refine⟨hf.sz,hf.tW,hf.nR,fun f m=>?_⟩
 obtain⟨_,n,e⟩:=Gv h m
 rw[(tf e).2]at e
 have:=Pc.dr m
 simp only[Pg.size]at hs
 exact uF f.body 1 n e (by unfold Pc.size at this;omega)
set_option maxRecDepth 8000
open Go.Proofs
theorem UO (x:It):(jK x)[1]? = some (.int .i64 x.s.kind):=nd rfl
theorem UP (x:It):(jK x)[3]? = some (.str x.s.name):=nd rfl
theorem UQ (x:It):(jK x)[4]? = some (.str x.s.proc):=nd rfl
theorem Y1 (x:It):List.take 16 (jK x)=jK x:=nd rfl
attribute [go_sem] UO UP UQ Y1
end Go.Abs
namespace Go.Abs
set_option maxRecDepth 8000
open Go.Proofs
def Ey:List Pm→List Ar→Bool
 | [],_=>true
 |_,[]=>true
 |a::l,b::m=>if a.ref==b.ref then Ey l m else false
def B4 (l:List Pm) (m:List Ar):Bool:=if(l.length:Int)==(m.length:Int)then Ey l m else false
def Sm.qf (p:Pg) (v:Sm):Bool:=v.kind==4 && match p.find v.proc with|none=>false|some q=>B4 q.params v.args
theorem acA {l:List Pm} {m:List Ar} (hl:l.length<1000000000) (hm:m.length<1000000000) (s:St):aG Tryz.prog vl [.slice .shared 2 (l.map iB), .slice .shared 6 (m.map ek)] s (.bool (B4 l m)) s:=by
 refine aG.pure ?_ (by simp[D.bL,D.ok,Tag.ok,aeV,HE]) rfl s
 generalize h:B4 l m=q
 simp only[B4]at h
 unfold S0
 have b0:((l.length:Int) != (m.length:Int)) = !((l.length:Int)==(m.length:Int)):=rfl
 rcases Bool.eq_false_or_eq_true ((l.length:Int)==(m.length:Int))with b1|b1
 case inr=>
  rw[b1]at b0
  simp only[b1,Bool.false_eq_true,if_false]at h
  subst h
  refine aG.go xX rfl fun B Q hB hQ=>?_
  have⟨hD,hY,hZ,gA⟩:=bX
  repeat' (first
 |simp only[go_sem,hD,hY,hZ,gA,b0,Bool.not_false]
 |(with_reducible refine aF hQ ?_;exact bk))
 rw[b1]at b0
 simp only[b1,if_true]at h
 have Xh:l.length=m.length:=by have:=eq_of_beq b1;omega
 refine aG.go xX rfl fun B Q hB hQ=>?_
 have⟨hD,hY,hZ,gA⟩:=bX
 repeat' (first
 |simp only[go_sem,hD,hY,hZ,gA,b0,Bool.not_true]
 |(with_reducible refine aF hQ ?_;exact bk))
 refine fm 0 0 (br.ind (ι:=List Pm×List Ar×Nat) (fun i=>l.drop i.2.2=i.1∧m.drop i.2.2=i.2.1∧Ey i.1 i.2.1=q) (fun i=>i.1.length)
  (fun i=> [(1, .slice .shared 6 (m.map ek)),(12, .slice .shared 2 (l.map iB)),(13, .int .i64 (l.length:Int)),(14, .int .i64 (i.2.2:Int))]) (fun i=>⟨[],[]⟩) ?_ (l,m,0) ⟨rfl,rfl,h⟩)
 rintro⟨r1,r2,k⟩ ⟨h1,h2,h⟩ IH
 dsimp only at h1 h2 h
 cases r1 with
 |nil=>
  have hD:=drop_nil h1
  simp only[Ey]at h
  subst h
  repeat' (first
 |simp only[go_sem,hD,hY,hZ,gA]
 |(with_reducible refine aF hQ ?_;exact bk))
 | cons a r1=>
  obtain⟨hY,g2,hD,g4⟩:=drop_cons h1
  cases r2 with
  |nil=>have:=List.drop_eq_nil_iff.1 h2;omega
  | cons b r2=>
   obtain⟨Xi,b2,OI,_⟩:=drop_cons h2
   have cj:k<4611686018427387904:=by omega
   simp only[Ey]at h
   have w1:(true==true)=true:=rfl
   have w2:(false==false)=true:=rfl
   have w3:(true==false)=false:=rfl
   have w4:(false==true)=false:=rfl
   have v1:(true != true)=false:=rfl
   have v2:(false != false)=false:=rfl
   have v3:(true != false)=true:=rfl
   have v4:(false != true)=true:=rfl
   rcases Bool.eq_false_or_eq_true a.ref with ea|ea
   ·rcases Bool.eq_false_or_eq_true b.ref with eb | eb
    ·simp only [ea,eb,w1,w2,if_true]at h
     repeat' (first
 |simp only[go_sem,hD,hY,hZ,gA,Xi,OI,ea,eb,w1,w2,v1,v2]
 | (with_reducible refine aF hQ ?_;exact bk))
     refine fp 0 0 ?_ ?_ (IH (r1,r2,k+1) ⟨g2,b2,h⟩ (Nat.lt_succ_self _))
     ·(simp only[go_sem,hD,hY,hZ,gA,aM cj];try exact cz)
     ·(simp only[go_sem,hD,hY,hZ,gA,aM cj];try exact cz)
    ·simp only [ea,eb,w3,w4,Bool.false_eq_true,if_false]at h
     subst h
     repeat' (first
 |simp only[go_sem,hD,hY,hZ,gA,Xi,OI,ea,eb,w3,w4,v3,v4]
 | (with_reducible refine aF hQ ?_;exact bk))
   ·rcases Bool.eq_false_or_eq_true b.ref with eb | eb
    ·simp only [ea,eb,w3,w4,Bool.false_eq_true,if_false]at h
     subst h
     repeat' (first
 |simp only[go_sem,hD,hY,hZ,gA,Xi,OI,ea,eb,w3,w4,v3,v4]
 | (with_reducible refine aF hQ ?_;exact bk))
    ·simp only [ea,eb,w1,w2,if_true]at h
     repeat' (first
 |simp only[go_sem,hD,hY,hZ,gA,Xi,OI,ea,eb,w1,w2,v1,v2]
 |(with_reducible refine aF hQ ?_;exact bk))
     refine fp 0 0 ?_ ?_ (IH (r1,r2,k+1) ⟨g2,b2,h⟩ (Nat.lt_succ_self _))
     ·(simp only[go_sem,hD,hY,hZ,gA,aM cj];try exact cz)
     ·(simp only[go_sem,hD,hY,hZ,gA,aM cj];try exact cz)
theorem acB {p:Pg} {v:Sm} (h:p.iR) (hv:v.nh) (s:St):aG Tryz.prog vi [.agg (cB p), .agg (bm v)] s (.bool (v.qf p)) s:=by
 refine aG.pure ?_ (by simp[D.bL,D.ok,ki,qT]) rfl s
 obtain⟨rI,rn,rm⟩:=h.procs
 have AY:v.args.length<1000000000:=by have:=Ar.eW v.args;have:=hv.2.2;omega
 generalize hR:v.qf p=R
 simp only[Sm.qf]at hR
 unfold S0
 have b0:(v.kind != 4) = !(v.kind==4):=rfl
 rcases Bool.eq_false_or_eq_true (v.kind==4)with b1|b1
 case inr=>
  rw[b1]at b0
  simp only[b1,Bool.false_and]at hR
  subst hR
  refine aG.go xZ rfl fun B Q hB hQ=>?_
  have⟨hD,hY,hZ,gA⟩:=bX
  repeat' (first
 |simp only[go_sem,hD,hY,hZ,gA,b0,Bool.not_false]
 |(with_reducible refine aF hQ ?_;exact bk))
 rw[b1]at b0
 simp only[b1,Bool.true_and,Pg.find]at hR
 refine aG.go xZ rfl fun B Q hB hQ=>?_
 have⟨hD,hY,hZ,gA⟩:=bX
 repeat' (first
 |simp only[go_sem,hD,hY,hZ,gA,b0,Bool.not_true]
 |(with_reducible refine aF hQ ?_;exact bk))
 refine fm 2 0 (br.ind (ι:=List Pc×Nat) (fun i=>p.procs.drop i.2=i.1∧(match iM v.proc i.1 with|none=>false|some q=>B4 q.params v.args)=R) (fun i=>i.1.length)
  (fun i=> [(3, .ptr 1 0),(11, .slice .shared 5 (p.procs.map cf)),(12, .int .i64 (p.procs.length:Int)),(13, .int .i64 (i.2:Int))]) (fun i=>⟨[cB p,bm v],[]⟩) ?_ (p.procs,0) ⟨rfl,hR⟩)
 clear hR
 rintro⟨rest,k⟩ ⟨h1,hR⟩ IH
 dsimp only at h1 hR
 cases rest with
 |nil=>
  have hD:=drop_nil h1
  simp only[iM]at hR
  subst hR
  repeat' (first
 |simp only[go_sem,hD,hY,hZ,gA]
 |(with_reducible refine aF hQ ?_;exact bk))
 | cons a rest=>
  obtain⟨hY,g2,hD,g4⟩:=drop_cons h1
  have cj:k<4611686018427387904:=by omega
  have vA:=h.small (List.mem_of_getElem? hY)
  have Xc:=fun s=>acA (l:=a.params) (m:=v.args) (by have:=vA.par;omega) AY s
  simp only[iM]at hR
  rcases Bool.eq_false_or_eq_true (a.name==v.proc)with c1|c1
  ·simp only [c1,if_true]at hR
   subst hR
   repeat' (first
 |simp only[go_sem,hD,hY,hZ,gA,c1]
 |(with_reducible refine CU (Xc _) ?_)
 | (with_reducible refine aF hQ ?_;exact bk))
  ·simp only [c1,Bool.false_eq_true,if_false]at hR
   repeat' (first
 |simp only[go_sem,hD,hY,hZ,gA,c1]
 | (with_reducible refine aF hQ ?_;exact bk))
   refine fp 2 0 ?_ ?_ (IH (rest,k+1) ⟨g2,hR⟩ (Nat.lt_succ_self _))
   ·(simp only[go_sem,hD,hY,hZ,gA,aM cj];try exact cz)
   ·(simp only[go_sem,hD,hY,hZ,gA,aM cj];try exact cz)
def Jr (p:Pg):List Sm→Option Sm
 | []=>none
 |v::l=>if v.kind==4 && !(v.qf p)then some v else Jr p l
def p8 (c:Int):Option Sm→Int×Int
 |some v=>(c,v.id)
 |none=>(0,0)
def Pg.arity (p:Pg):Int×Int:=if p.scope.1==0 then p8 6 (Jr p p.pre)else(1,0)
theorem Pg.iR.pre {p:Pg} (h:p.iR) : ∀ v∈p.pre,v.nh:=fun v m=>by
 simp only[Pg.pre,List.mem_flatten,List.mem_map]at m
 obtain⟨l,⟨f,hf,rfl⟩,m⟩:=m
 exact h.said hf v m
theorem Js {p:Pg} (h:p.iR) (s:St):aG Tryz.prog qd [.agg (cB p)] s (.agg [.int .i64 p.arity.1, .int .i64 p.arity.2]) s:=by
 refine aG.pure ?_ (by simp[D.bL,D.ok,ki]) rfl s
 obtain⟨rI,rn,rm⟩:=h.procs
 have pB:=fun s=>vz h s
 have da:=fun s=>BW (p:=p) (by omega) s
 have hL:=(kX p).1
 have Gw:=o7 p
 generalize hR:p.arity=R
 simp only[Pg.arity]at hR
 unfold S0
 have b0:(p.scope.1 != 0) = !(p.scope.1==0):=rfl
 rcases Bool.eq_false_or_eq_true (p.scope.1==0)with b1|b1
 case inr=>
  rw[b1]at b0
  simp only[b1,Bool.false_eq_true,if_false]at hR
  subst hR
  refine aG.go wm rfl fun B Q hB hQ=>?_
  have⟨hD,hY,hZ,gA⟩:=bX
  repeat' (first
 |simp only[go_sem,hD,hY,hZ,gA,b0,Bool.not_false]
 |(with_reducible refine CU (pB _) ?_)
 |(with_reducible refine aF hQ ?_;exact bk))
 rw[b1]at b0
 simp only[b1,if_true, ← hL]at hR
 refine aG.go wm rfl fun B Q hB hQ=>?_
 have⟨hD,hY,hZ,gA⟩:=bX
 repeat' (first
 |simp only[go_sem,hD,hY,hZ,gA,b0,Bool.not_true,nS]
 |(with_reducible refine CU (pB _) ?_)
 |(with_reducible refine CU (da _) ?_)
 |(with_reducible refine aF hQ ?_;exact bk))
 refine fm 2 0 (br.ind (ι:=List Im×Nat) (fun i=>p.aT.L.drop i.2=i.1∧p8 6 (Jr p (i.1.map Im.s))=R) (fun i=>i.1.length)
  (fun i=> [(1, .ptr 0 0),(2, .ptr 1 0),(14, .slice .shared 17 (p.aT.L.map dq)),(15, .int .i64 (p.aT.L.length:Int)),(16, .int .i64 (i.2:Int))]) (fun i=>⟨[cB p,[.int .i64 0, .int .i64 0]],[]⟩) ?_ (p.aT.L,0) ⟨rfl,hR⟩)
 clear hR
 rintro⟨rest,k⟩ ⟨h1,hR⟩ IH
 dsimp only at h1 hR
 cases rest with
 |nil=>
  have hD:=drop_nil h1
  simp only[List.map_nil,Jr,p8]at hR
  subst hR
  repeat' (first
 |simp only[go_sem,hD,hY,hZ,gA]
 |(with_reducible refine aF hQ ?_;exact bk))
 | cons a rest=>
  obtain⟨hY,g2,hD,g4⟩:=drop_cons h1
  have cj:k<4611686018427387904:=by omega
  have Ew:a.s∈p.pre:=by rw[← hL];exact List.mem_map_of_mem (List.mem_of_getElem? hY)
  have LC:=fun s=>acB h (h.pre _ Ew) s
  simp only[List.map_cons,Jr]at hR
  rcases Bool.eq_false_or_eq_true (a.s.kind==4)with c1|c1
  ·rcases Bool.eq_false_or_eq_true (a.s.qf p)with c2 | c2
   ·simp only [c1,c2,Bool.not_true,Bool.and_false,Bool.false_eq_true,if_false]at hR
    repeat' (first
 |simp only[go_sem,hD,hY,hZ,gA,c1,c2]
 |(with_reducible refine CU (LC _) ?_)
 | (with_reducible refine aF hQ ?_;exact bk))
    refine fp 2 0 ?_ ?_ (IH (rest,k+1) ⟨g2,hR⟩ (Nat.lt_succ_self _))
    ·(simp only[go_sem,hD,hY,hZ,gA,aM cj];try exact cz)
    ·(simp only[go_sem,hD,hY,hZ,gA,aM cj];try exact cz)
   ·simp only [c1,c2,Bool.not_false,Bool.and_true,if_true,p8]at hR
    subst hR
    repeat' (first
 |simp only[go_sem,hD,hY,hZ,gA,c1,c2]
 |(with_reducible refine CU (LC _) ?_)
 | (with_reducible refine aF hQ ?_;exact bk))
  ·simp only [c1,Bool.false_and,Bool.false_eq_true,if_false]at hR
   repeat' (first
 |simp only[go_sem,hD,hY,hZ,gA,c1]
 |(with_reducible refine CU (LC _) ?_)
 | (with_reducible refine aF hQ ?_;exact bk))
   refine fp 2 0 ?_ ?_ (IH (rest,k+1) ⟨g2,hR⟩ (Nat.lt_succ_self _))
   ·(simp only[go_sem,hD,hY,hZ,gA,aM cj];try exact cz)
   ·(simp only[go_sem,hD,hY,hZ,gA,aM cj];try exact cz)
theorem Bl {p:Pg} (h:(p.scope.1==0)=true):p.may=true:=by
 unfold Pg.scope at h
 split at h
 ·assumption
 ·cases h
def nj (out:List aE):List aE→aE→Bool→aE×Bool
 | [],c,a=>(c,a)
 |s::l,c,a=>if !(fj out s) && (!a ||bytesLess s c)then nj out l s true else nj out l c a
def Rx (l out:List aE):List aE:=if(nj out l [] false).2 then out++ [(nj out l [] false).1]else out
def pz (l:List aE):Nat→List aE→List aE
 | 0,out=>out
 |n+1,out=>pz l n (Rx l out)
def kb (l:List aE):List aE:=pz l l.length []
end Go.Abs
namespace Go.Proofs
open Go.Shelf
def Tryz.KX:Go.Shelf.Ren:=⟨fun| 190=>173| 125=>194| 258=>193| 128=>217| 129=>218| 302=>208| 303=>209| 304=>210| 305=>211| 306=>212| 307=>213| 308=>214| 309=>215| 310=>216| 333=>224| 329=>225| 330=>226| 334=>227| 335=>228| 336=>229| 344=>230|n=>n,fun| 31=>22| 9=>9| 3=>3| 46=>208| 0=>0| 51=>227| 53=>194| 4=>4| 183=>220| 182=>219| 131=>139| 5=>5| 218=>231| 222=>235| 228=>237| 229=>238|n=>n,fun|n=>n⟩
theorem Tryz.LD:Go.Proofs.Lays.n190 Tryz.prog Tryz.KX:= {
 mixed:=by kernel_rfl
 f125:=Tryz.func194.trans (congrArg some (by kernel_rfl))
 f128:=Tryz.func217.trans (congrArg some (by kernel_rfl))
 f129:=Tryz.func218.trans (congrArg some (by kernel_rfl))
 f190:=Tryz.func173.trans (congrArg some (by kernel_rfl))
 f258:=Tryz.func193.trans (congrArg some (by kernel_rfl))
 f302:=Tryz.func208.trans (congrArg some (by kernel_rfl))
 f303:=Tryz.func209.trans (congrArg some (by kernel_rfl))
 f304:=Tryz.func210.trans (congrArg some (by kernel_rfl))
 f305:=Tryz.func211.trans (congrArg some (by kernel_rfl))
 f306:=Tryz.func212.trans (congrArg some (by kernel_rfl))
 f307:=Tryz.func213.trans (congrArg some (by kernel_rfl))
 f308:=Tryz.func214.trans (congrArg some (by kernel_rfl))
 f309:=Tryz.func215.trans (congrArg some (by kernel_rfl))
 f310:=Tryz.func216.trans (congrArg some (by kernel_rfl))
 f329:=Tryz.func225.trans (congrArg some (by kernel_rfl))
 f330:=Tryz.func226.trans (congrArg some (by kernel_rfl))
 f333:=Tryz.func224.trans (congrArg some (by kernel_rfl))
 f334:=Tryz.func227.trans (congrArg some (by kernel_rfl))
 f335:=Tryz.func228.trans (congrArg some (by kernel_rfl))
 f336:=Tryz.func229.trans (congrArg some (by kernel_rfl))
 f344:=Tryz.func230.trans (congrArg some (by kernel_rfl))
 t0:=Tryz.underlying0
 a0:=Tryz.isAgg0
 z0:=Tryz.sizeOf0
 v0:=Tryz.zeroValue0
 t3:=Tryz.underlying3
 a3:=Tryz.isAgg3
 z3:=Tryz.sizeOf3
 v3:=Tryz.zeroValue3
 t4:=Tryz.underlying4
 a4:=Tryz.isAgg4
 z4:=Tryz.sizeOf4
 v4:=Tryz.zeroValue4
 t5:=Tryz.underlying5
 a5:=Tryz.isAgg5
 z5:=Tryz.sizeOf5
 v5:=Tryz.zeroValue5
 t9:=Tryz.underlying9
 a9:=Tryz.isAgg9
 z9:=Tryz.sizeOf9
 v9:=Tryz.zeroValue9
 t31:=Tryz.underlying22
 a31:=Tryz.isAgg22
 z31:=Tryz.sizeOf22
 v31:=Tryz.zeroValue22
 t46:=Tryz.underlying208
 a46:=Tryz.isAgg208
 z46:=Tryz.sizeOf208
 v46:=Tryz.zeroValue208
 t51:=Tryz.underlying227
 a51:=Tryz.isAgg227
 z51:=Tryz.sizeOf227
 v51:=Tryz.zeroValue227
 t53:=Tryz.underlying194
 a53:=Tryz.isAgg194
 z53:=Tryz.sizeOf194
 v53:=Tryz.zeroValue194
 t131:=Tryz.underlying139
 a131:=Tryz.isAgg139
 z131:=Tryz.sizeOf139
 v131:=Tryz.zeroValue139
 t182:=Tryz.underlying219
 a182:=Tryz.isAgg219
 z182:=Tryz.sizeOf219
 v182:=Tryz.zeroValue219
 t183:=Tryz.underlying220
 a183:=Tryz.isAgg220
 z183:=Tryz.sizeOf220
 v183:=Tryz.zeroValue220
 t218:=Tryz.underlying231
 a218:=Tryz.isAgg231
 z218:=Tryz.sizeOf231
 v218:=Tryz.zeroValue231
 t222:=Tryz.underlying235
 a222:=Tryz.isAgg235
 z222:=Tryz.sizeOf235
 v222:=Tryz.zeroValue235
 t228:=Tryz.underlying237
 a228:=Tryz.isAgg237
 z228:=Tryz.sizeOf237
 v228:=Tryz.zeroValue237
 t229:=Tryz.underlying238
 a229:=Tryz.isAgg238
 z229:=Tryz.sizeOf238
 v229:=Tryz.zeroValue238}
open Go.Sort Go.RowKit in
theorem Tryz.slices_Sort_string (Bm off cap:Nat) (ss:List (List UInt8)) (w:World) (hH:Holds encStr w Bm off ss.toArray) (amB:Bm<w.heap.size) (dL:ss.length<4611686018427387904) :
 Calls Tryz.prog 173 #[.slice (some ⟨Bm,off,none⟩) ss.length cap] w fun e w'=>
  e = .returned (.tuple #[])∧∃ n os,w'=grow (putRow encStr (Sort.ahead w n) Bm off (ss.mergeSort fun x y=>decide (x≤y)).toArray) os:=Any.slices_Sort_string Tryz.LD Bm off cap ss w hH amB dL
def Tryz.KY:Go.Shelf.Ren:=⟨fun| 194=>174|n=>n,fun| 31=>22| 9=>9| 3=>3| 4=>4| 0=>0|n=>n,fun|n=>n⟩
theorem Tryz.LF:Go.Proofs.Lays.n194 Tryz.prog Tryz.KY:= {
 mixed:=by kernel_rfl
 f194:=Tryz.func174.trans (congrArg some (by kernel_rfl))
 t0:=Tryz.underlying0
 a0:=Tryz.isAgg0
 z0:=Tryz.sizeOf0
 v0:=Tryz.zeroValue0
 t3:=Tryz.underlying3
 a3:=Tryz.isAgg3
 z3:=Tryz.sizeOf3
 v3:=Tryz.zeroValue3
 t4:=Tryz.underlying4
 a4:=Tryz.isAgg4
 z4:=Tryz.sizeOf4
 v4:=Tryz.zeroValue4
 t9:=Tryz.underlying9
 a9:=Tryz.isAgg9
 z9:=Tryz.sizeOf9
 v9:=Tryz.zeroValue9
 t31:=Tryz.underlying22
 a31:=Tryz.isAgg22
 z31:=Tryz.sizeOf22
 v31:=Tryz.zeroValue22}
open Go.RowKit Go.Lib Go.Sort in
theorem Tryz.slices_Compact_string (Bm off cap:Nat) (zs:List (List UInt8)) (w:World) (hH:Holds encStr w Bm off zs.toArray) (dL:zs.length≤9223372036854775807) (tA:zs.length≤cap) :
 Calls Tryz.prog 174 #[.slice (some ⟨Bm,off,none⟩) zs.length cap] w fun e w'=>e = .returned (.slice (some ⟨Bm,off,none⟩) (Lib.compact zs).length cap)∧∃ q,w'=putRow encStr (Sort.ahead w q) Bm off (Lib.compact zs++List.replicate (zs.length - (Lib.compact zs).length) []).toArray:=Any.slices_Compact_string Tryz.LF Bm off cap zs w hH dL tA
open Go.RowKit Go.Lib Go.Sort in
theorem Tryz.slices_Compact_string_empty (a:Option Addr) (cap:Nat) (w:World) :
 Calls Tryz.prog 174 #[.slice a 0 cap] w fun e w'=>e = .returned (.slice a 0 cap)∧w'=w:=Any.slices_Compact_string_empty Tryz.LF a cap w
open Go.RowKit Go.Sort in
theorem Tryz.slices_Sort_string_none (p:Option Addr) (cap:Nat) (w:World) :
 Calls Tryz.prog 173 #[.slice p 0 cap] w fun e w'=>e = .returned (.tuple #[])∧w'=w:=Any.slices_Sort_string_none Tryz.LD p cap w
end Go.Proofs
namespace Go.Abs
open Go.Proofs
section
variable {P:Program} {B:fP} {nt:Nat}
theorem Y2 {x:Operand} {t:Nat} (h:cX x=some (.s t)):x = .tmp t:=by
 unfold cX at h
 split at h
 ·cases h;rfl
 ·obtain⟨d,_,h⟩:=map_some h;cases h
 ·cases h
 ·cases h
theorem ON {ops:Array Oper} {o:Oper} {g g':Option (Nat×Bool)} {dst:Option Nat} {f:Nat} {xs:List X} (h:sm P ops o g=some (.call dst g' f xs)) :
 g'=g∧∃ args mB,o.op = .call ⟨.value (.func f),args,mB⟩∧enters P f=true∧xA args.toList=some xs:=by
 unfold sm at h
 split at h
 ·rename_i f' args mB mA
  split at h
  ·rename_i he
   obtain⟨xs',h1,h2⟩:=map_some h
   cases h2
   exact⟨rfl,args,mB,mA,he,h1⟩
  ·cases h
 ·obtain⟨_,_,h⟩:=map_some h;cases h
 ·split at h
  ·cases h
  ·split at h<;>cases h
theorem Ry {ops:Array Oper} {o:Oper} {tmps:Array Value} (hg:uT ops o.guard=some none):Region.wanted o (yielded ops tmps)=true:=by
 have:o.guard=none:=by
  cases F2:o.guard with
  |none=>rfl
  |some p=>
   obtain⟨j,b⟩:=p
   rw[F2]at hg
   unfold uT at hg
   simp only at hg
   split at hg<;>cases hg
 simp[Region.wanted,this]
theorem Sem.acD {a k b f:Nat} {is:List AI} {Q:Exit→Tm→St→Prop} {tm:Tm} {s:St}
 (OO : ∀ act w,Holds B nt (tm.put (some a) (tm.get k)) s act w→Calls P f #[act.tmps.getD a Go.undef] w fun e w'=>∃ v,e = .returned v∧∃ bn s',Holds B nt bn s' (act.put (some b) v) w'∧iP P is (Q .normal) bn s') :
 Sem P B nt (.run (.op (some a) none (.mv (.s k)):: .call (some b) none f [.s a]::is)) Q tm s:=by
 intro c hc act w hh
 obtain⟨id,ops,rfl,hi⟩:=lq hc
 refine wp_region ?_
 have key : ∀ (l:List Nat) (ol:List Oper),l.map (ops[·]?)=ol.map some→qE P nt ops ol=some (.op (some a) none (.mv (.s k)):: .call (some b) none f [.s a]::is)→wpOps P ops (pI B nt Q) l act w:=by
  intro l ol hl w5
  match ol,l,hl with
  | [],_,_=>simp[qE]at w5
  |o0::ol,[],hl=>simp at hl
  | o0::ol,j0::l,hl=>
   simp only[List.map_cons,List.cons.injEq]at hl
   obtain⟨hj0,hl⟩:=hl
   unfold qE at w5
   split at w5
   ·rename_i i0 is0 h1 h2
    cases w5
    match ol,l,hl,h2 with
    | [],_,_,h2=>simp[qE]at h2
    |o1::ol,[],hl,_=>simp at hl
    | o1::ol,j1::l,hl,h2=>
     simp only[List.map_cons,List.cons.injEq]at hl
     obtain⟨hj1,hl⟩:=hl
     unfold qE at h2
     split at h2
     ·rename_i i1 is1 h3 h4
      cases h2
      obtain⟨M,e,r,ht,hn,hd⟩:=hh
      have Xj:=sX h1
      have Gx:=sX h3
      simp only[AI.dst]at Xj Gx
      refine wZ (K':=fun bn s'=>bn=tm.put (some a) (tm.get k)∧s'=s) hj0 h1 r (B.laid.ext e) ht (by simp only[iP,guarded,aI,X.ev,and_self]) (fun d v s1 w1 M1 hk e1 r1 hv=>?_)
      obtain⟨vU,rfl⟩:=hk
      have hH:=Holds.put e ht hn hd (xL h1) e1 r1 hv
      simp only[AI.dst]at vU
      rw[← Xj]at hH ⊢
      rw[vU]at hH
      obtain⟨g,hg,_,hb⟩:=AW h3
      obtain⟨rfl,args,mB,mA,yH,oG⟩:=ON hb
      simp only[wpOps,hj1,Ry hg,if_true]
      left
      have amC:args.map (act.put (some a) v).eval = #[(act.put (some a) v).tmps.getD a Go.undef]:=by
       have:args.toList = [.tmp a]:=by
        match hA:args.toList with
        | []=>rw[hA]at oG;simp[xA]at oG
        | [x]=>
         rw[hA]at oG
         simp only[xA]at oG
         split at oG
         ·rename_i x' r' hx hr
          cases oG
          rw[Y2 hx]
         ·cases oG
        | x::y::z=>
         rw[hA]at oG
         simp only[xA]at oG
         split at oG
         ·rename_i x' r' hx hr
          cases oG
          split at hr
          ·cases hr
          ·cases hr
         ·cases oG
       have:args = #[.tmp a]:=by rw[← Array.toArray_toList (xs:=args),this]
       rw[this]
       simp only[List.map_toArray,List.map_cons,List.map_nil]
       rfl
      have hex:(execOp (act.put (some a) v).eval o1).run P w1 = .ok (.enter f #[(act.put (some a) v).tmps.getD a Go.undef]) w1:=by
       obtain⟨dst,op,type,pos,after,guard⟩:=o1
       simp only at mA
       subst mA
       rw[← amC]
       exact wU (act.put (some a) v).eval dst f args mB type pos after guard rfl yH w1
      unfold Oper.wp
      rw[hex,Oper.upon_enter]
      refine(OO _ _ hH).mono ?_
      rintro en w' ⟨v',rfl,bn,s',hH',hvc⟩
      rw[← Gx]
      exact AS (Q:=Q) l ol _ hl h4 bn s' _ w' hvc hH'
     ·cases h2
   ·cases w5
 exact key _ _ (AT ops) hi
theorem Gy (hB:B.s = ⟨[],[]⟩) {tm:Tm} {s:St} {act:Act} {w:World} (h:Holds B nt tm s act w) {t:Nat} {l:List aE} (ht:s.au[t]? = some (some l.length)) {k0:Nat} (hk0:tm.get k0 = .slice (.tok t) 1 (l.map encStr)) :
 (l = []∧∀ k,tm.get k = .slice (.tok t) 1 (l.map encStr)→(act.tmps.getD k Go.undef = .slice none 0 0∨∃ b q,act.tmps.getD k Go.undef = .slice (some ⟨b,q,none⟩) 0 0))∨
 ∃ (b cap:Nat) (vs:Array Value) (T:TypeId),(∀ k,tm.get k = .slice (.tok t) 1 (l.map encStr)→act.tmps.getD k Go.undef = .slice (some ⟨b,0,none⟩) l.length cap)∧l.length≤cap∧w.heap[b]? = some (.cells vs T (0,0))∧vs.size=cap∧B.w.heap.size≤b∧
  ∀ j (hj:j<l.length),vs[j]? = some (.string ⟨⟨l[j]⟩⟩):=by
 obtain⟨M,e,r,hr,_,_⟩:=h
 rcases r.tok t _ ht with ⟨h3,h4⟩|⟨b,cap,z,vs,T,h3,h4,h5,h6,h7⟩
 ·have hl:l = []:=List.eq_nil_of_length_eq_zero h4
  subst hl
  refine .inl ⟨rfl,fun k hk=>?_⟩
  have hv:=hr k
  rw[hk]at hv
  generalize act.tmps.getD k Go.undef=v at hv
  cases hv with
  |iG _ _ cap hc pD=>subst hc;exact .inl rfl
  |slice _ _ _ b q cap hl hs h1 h2 pD=>
   rcases(pD.2 _ ht).2 rfl with ⟨_,h0,_⟩|⟨b',_,kB⟩
   ·subst h0;exact .inr ⟨b,q,rfl⟩
   ·rw[h3]at kB;cases kB
 ·right
  have each : ∀ k,tm.get k = .slice (.tok t) 1 (l.map encStr)→z=1∧act.tmps.getD k Go.undef = .slice (some ⟨b,0,none⟩) l.length cap∧l.length≤cap∧∀ j (hj:j<l.length),∃ u,M.G b j=some u∧RD M s (.str l[j]) u:=by
   intro k hk
   have hv:=hr k
   rw[hk]at hv
   generalize act.tmps.getD k Go.undef=v at hv
   generalize jZ:l.map encStr=rows at hv
   cases hv with
   |iG _ _ cap hc pD=>
    have hl:l = []:=by cases l<;>simp at jZ;rfl
    subst hl
    rcases(pD.2 _ ht).2 rfl with ⟨h0,_⟩|⟨b',h0,_⟩
    ·rw[h3]at h0;cases h0
    ·cases h0
   | slice _ _ _ b2 q auQ hl hs h1 h2 pD=>
    subst jZ
    rw[List.length_map]at hl pD
    rcases(pD.2 _ ht).2 rfl with ⟨h0,_⟩|⟨b',hb,kB⟩
    ·rw[h3]at h0;cases h0
    ·cases hb
     rw[h3]at kB
     cases kB
     refine⟨rfl,by rw[List.length_map],hl,fun j hj=>?_⟩
     have e1:(l.map encStr)[j]? = some [.str l[j]]:=by rw[List.getElem?_map,List.getElem?_eq_getElem hj];rfl
     obtain⟨u,hu⟩:=h1 j _ 0 _ e1 rfl
     refine⟨u,by simpa using hu,h2 j _ 0 _ u e1 rfl hu⟩
  obtain⟨rfl,_,tA,lY⟩:=each k0 hk0
  have da:B.w.heap.size≤b:=by
   rcases e.qh t b cap 1 ⟨_,ht⟩ h3 with ⟨⟨n,hn⟩,_⟩|h
   ·rw[hB]at hn;simp at hn
   ·exact h
  refine⟨b,cap,vs,T,fun k hk=>(each k hk).2.1,tA,h4,by simpa[zs]using h5,da,fun j hj=>?_⟩
  obtain⟨u,hu,jl⟩:=lY j hj
  have:=(r.comm _ _ _ hu).1
  rw[iZ h4,jl.la]at this
  exact this
theorem Jt (hB:B.s = ⟨[],[]⟩) {tm:Tm} {s:St} {act tY:Act} {w w':World} (h:Holds B nt tm s act w) {b cap:Nat} {vs:Array Value} {T:TypeId} (dL:vs.size=cap) (wi:B.w.heap.size≤b)
 (lS : ∀ q,q<B.w.heap.size→w'.heap[q]? = w.heap[q]?) (dT:w'.heap[b]? = some (.cells vs T (0,0))) (uh:w.heap.size≤w'.heap.size) (ui:w'.os=w.os) (DW:w'.tape=w.tape) (SP:w'.output=w.output)
 {l:List aE} (hl:l.length≤cap) (lY : ∀ j (hj:j<l.length),vs[j]? = some (.string ⟨⟨l[j]⟩⟩)) {k:Nat} (OP:tY.tmps.getD k Go.undef = .slice (some ⟨b,0,none⟩) l.length cap) (hn:tY.tmps.size=nt) (hd:tY.defers = []) :
 Holds B nt [(k, .slice (.tok 0) 1 (l.map encStr))] ⟨[],[some l.length]⟩ tY w':=by
 obtain⟨M,e,r,hr,_,_⟩:=h
 let M':Map:=⟨fun q o=>if q=b then(if o<l.length then(l[o]?).map fun x=>Value.string ⟨⟨x⟩⟩else none)else B.M.G q o,B.M.loc,fun _=>some (b,cap,1)⟩
 have hGb : ∀ q o v,B.M.G q o=some v→q<B.w.heap.size∧w'.cell? ⟨q,o,none⟩=some v∧v.oneCell'=true:=by
  intro q o v hq
  obtain⟨h1,h2⟩:=r.comm q o v (e.le.G q o v hq)
  have hD:=B.Cw q o v hq
  refine⟨hD, ?_,h2⟩
  rw[← h1]
  simp[World.cell?,lS q hD]
 have iy : ∀ j (hj:j<l.length),w'.cell? ⟨b,j,none⟩=some (.string ⟨⟨l[j]⟩⟩):=fun j hj=>by rw[iZ dT];exact lY j hj
 have hY : ∀ (j:Nat) v,(if j<l.length then(l[j]?).map fun x=>Value.string ⟨⟨x⟩⟩else none)=some v→∃ hj:j<l.length,v = .string ⟨⟨l[j]⟩⟩:=by
  intro j v hv
  split at hv
  ·rename_i hj
   rw[List.getElem?_eq_getElem hj]at hv
   exact⟨hj,by simpa using hv.symm⟩
  ·cases hv
 refine⟨M',⟨⟨fun q o v hq=>?_,by simp[hB],fun o ho=> .refl _,by rw[hB];exact Nat.zero_le _,fun t n' ht _=>by rw[hB]at ht;exact absurd ht (Nat.not_lt_zero _)⟩,fun q hq _ _=>?_,fun o _ h2=>absurd h2 (Nat.not_lt_zero _),fun t q c z _ hb=>?_,fun q o eA=>?_,Nat.le_trans e.size uh,ui.trans e.os,DW.trans e.tape,SP.trans e.output⟩,
  ⟨fun q o v hq=>?_,fun o ds ho=>by simp at ho,fun o ho=>absurd ho (Nat.not_lt_zero _),fun o o' ho=>absurd ho (Nat.not_lt_zero _),fun t n ht=>?_,fun t q c z o _ _ ho=>absurd ho (Nat.not_lt_zero _),fun t t' q c z c' z' vu kT _ _=>?_⟩,fun u=>?_,hn,hd⟩
 ·show(if q=b then _ else B.M.G q o)=some v
  rw[if_neg (by have:=(hGb q o v hq).1;omega)]
  exact hq
 ·rw [lS q hq]
  exact e.kept q hq (fun o ho=>by rw[hB]at ho;exact absurd ho (Nat.not_lt_zero _)) (fun t c z kT=>by rw[hB]at kT;obtain⟨n,zZ⟩:=kT;simp at zZ)
 ·cases hb;exact .inr wi
 ·by_cases hq:q=b
  ·subst hq;exact .inl wi
  ·exact absurd (show(if q=b then _ else B.M.G q o)=B.M.G q o from if_neg hq) eA
 ·have mz:(if q=b then(if o<l.length then(l[o]?).map fun x=>Value.string ⟨⟨x⟩⟩else none)else B.M.G q o)=some v:=hq
  by_cases hqb:q=b
  ·rw [if_pos hqb]at mz
   obtain⟨hj,rfl⟩:=hY o v mz
   rw[hqb]
   exact⟨iy o hj,rfl⟩
  ·rw [if_neg hqb]at mz
   exact(hGb q o v mz).2
 ·match t with
  | 0=>
   simp at ht
   subst ht
   refine .inr ⟨b,cap,1,vs,T,rfl,dT,by simp[zs,dL],hl,fun off ho=>?_,fun h=>by cases h⟩
   show(if b=b then(if off<l.length then _ else none)else B.M.G b off)=none
   rw[if_pos rfl,if_neg (by simp[zs]at ho;omega)]
  |t+1=>simp at ht
 ·obtain⟨n1,h1⟩:=vu
  obtain⟨n2,h2⟩:=kT
  have a1:=(List.getElem?_eq_some_iff.1 h1).1
  have a2:=(List.getElem?_eq_some_iff.1 h2).1
  simp at a1 a2
  omega
 ·simp only [Tm.get]
  split
  ·rename_i hku
   subst hku
   rw[OP]
   have:=RD.slice (M:=M') (s:=⟨[],[some l.length]⟩) (.tok 0) 1 (l.map encStr) b 0 cap (by simpa using hl) (fun row hr=>by
    obtain⟨x,_,rfl⟩:=List.mem_map.1 hr;rfl) (fun i row j d e1 e2=>?_) (fun i row j d u e1 e2 eu=>?_) ⟨by simp,fun n zZ=>by
    simp at zZ
    subst zZ
    exact⟨by simp,fun _=> .inr ⟨b,rfl,rfl⟩⟩⟩
   ·simpa using this
   ·rw [List.getElem?_map]at e1
    cases zT:l[i]? with
    |none=>rw[zT]at e1;cases e1
    |some x=>
     have qx:=(List.getElem?_eq_some_iff.1 zT).1
     rw[zT]at e1
     cases e1
     have hj:j=0:=by cases j with|zero=>rfl|succ j=>simp[encStr]at e2
     subst hj
     refine⟨.string ⟨⟨x⟩⟩, ?_⟩
     show(if b=b then(if 0+(i*1+0)<l.length then _ else none)else _)=_
     rw[if_pos rfl,if_pos (by omega)]
     simp[zT]
   ·rw [List.getElem?_map]at e1
    cases zT:l[i]? with
    |none=>rw[zT]at e1;cases e1
    |some x=>
     have qx:=(List.getElem?_eq_some_iff.1 zT).1
     rw[zT]at e1
     cases e1
     have hj:j=0:=by cases j with|zero=>rfl|succ j=>simp[encStr]at e2
     subst hj
     have D8:(if b=b then(if 0+(i*1+0)<l.length then(l[0+(i*1+0)]?).map fun x=>Value.string ⟨⟨x⟩⟩else none)else B.M.G b (0+(i*1+0)))=some u:=eu
     rw[if_pos rfl,if_pos (by omega)]at D8
     simp[zT]at D8
     subst D8
     simp[encStr]at e2
     subst e2
     exact .str x
  ·exact .junk _
theorem LG (hB:B.s = ⟨[],[]⟩) {tm:Tm} {s:St} {act tY:Act} {w:World} (h:Holds B nt tm s act w) {k:Nat} (OP:tY.tmps.getD k Go.undef = .slice none 0 0∨∃ b q,tY.tmps.getD k Go.undef = .slice (some ⟨b,q,none⟩) 0 0) (hn:tY.tmps.size=nt) (hd:tY.defers = []) :
 Holds B nt [(k, .slice (.tok 0) 1 (([] : List aE).map encStr))] ⟨[],[some 0]⟩ tY w:=by
 obtain⟨M,e,r,hr,_,_⟩:=h
 let M':Map:=⟨B.M.G,B.M.loc,fun _=>none⟩
 refine⟨M',⟨⟨fun q o v hq=>hq,by simp[hB],fun o ho=> .refl _,by rw[hB];exact Nat.zero_le _,fun t n' ht _=>by rw[hB]at ht;exact absurd ht (Nat.not_lt_zero _)⟩,fun q hq _ _=>?_,fun o _ h2=>absurd h2 (Nat.not_lt_zero _),fun t q c z _ hb=>(by cases hb),fun q o eA=>absurd rfl eA,e.size,e.os,e.tape,e.output⟩,
  ⟨fun q o v hq=>r.comm q o v (e.le.G q o v hq),fun o ds ho=>by simp at ho,fun o ho=>absurd ho (Nat.not_lt_zero _),fun o o' ho=>absurd ho (Nat.not_lt_zero _),fun t n ht=>?_,fun t q c z o _ _ ho=>absurd ho (Nat.not_lt_zero _),fun t t' q c z c' z' vu kT h1 _=>by cases h1⟩,fun u=>?_,hn,hd⟩
 ·exact e.kept q hq (fun o ho=>by rw[hB]at ho;exact absurd ho (Nat.not_lt_zero _)) (fun t c z kT=>by rw[hB]at kT;obtain⟨n,zZ⟩:=kT;simp at zZ)
 ·match t with
  | 0=>simp at ht;subst ht;exact .inl ⟨rfl,rfl⟩
  |t+1=>simp at ht
 ·simp only [Tm.get]
  split
  ·rename_i hku
   subst hku
   have pD : ∀ base,iI M' ⟨[],[some 0]⟩ (.tok 0) 1 0 base 0:=fun base=>⟨by simp,fun n zZ=>by
    simp at zZ
    subst zZ
    exact⟨Nat.le_refl _,fun _=> .inl ⟨rfl,rfl,fun h=>by cases h⟩⟩⟩
   rcases OP with h|⟨b,q,h⟩
   ·rw[h];exact .iG _ _ 0 rfl (pD none)
   ·rw[h];exact .slice (.tok 0) 1 [] b q 0 (Nat.le_refl _) (by simp) (by simp) (by simp) (pD _)
  ·exact .junk _
theorem Ju {α:Type} [Inhabited α] (enc:α→Value) (d:Array α) (c:Array Value) (j:Nat):(Sort.putCells enc 0 d c)[j]? = if j<d.size then(c[j]?).map fun _=>enc d[j]! else c[j]? :=by
 simp only[Sort.putCells,Array.getElem?_mapIdx]
 cases h:c[j]? with
 |none=>simp
 |some x=>by_cases hj:j<d.size<;>simp[hj]
theorem Gz {w:World} {b n cap:Nat} {vs:Array Value} {T:TypeId} (dT:w.heap[b]? = some (.cells vs T (0,0))) (dL:vs.size=cap) (l:List aE) (hl:l.length≤cap) (os:Array Obj) :
 (∀ q,q≠b→q<w.heap.size→(Sort.grow (Sort.putRow Go.Proofs.encStr (Sort.ahead w n) b 0 l.toArray) os).heap[q]? = w.heap[q]?)∧
 (Sort.grow (Sort.putRow Go.Proofs.encStr (Sort.ahead w n) b 0 l.toArray) os).heap[b]? = some (.cells (Sort.putCells Go.Proofs.encStr 0 l.toArray vs) T (0,0))∧w.heap.size≤(Sort.grow (Sort.putRow Go.Proofs.encStr (Sort.ahead w n) b 0 l.toArray) os).heap.size∧
 (Sort.putCells Go.Proofs.encStr 0 l.toArray vs).size=cap∧∀ j (hj:j<l.length),(Sort.putCells Go.Proofs.encStr 0 l.toArray vs)[j]? = some (.string ⟨⟨l[j]⟩⟩):=by
 have hb:b<w.heap.size:=(Array.getElem?_eq_some_iff.1 dT).1
 refine⟨fun q hq hD=>?_, ?_, ?_, ?_,fun j hj=>?_⟩
 ·simp only [Sort.grow,Sort.putRow,Sort.mapBlock,Sort.ahead]
  rw[Array.getElem?_append_left (by simpa using hD),Array.getElem?_modify]
  simp[Ne.symm hq]
 ·simp only [Sort.grow,Sort.putRow,Sort.mapBlock,Sort.ahead]
  rw[Array.getElem?_append_left (by simpa using hb),Array.getElem?_modify]
  simp[dT,Sort.onCells]
 ·simp[Sort.grow,Sort.putRow,Sort.mapBlock,Sort.ahead]
 ·simp[Sort.putCells,dL]
 ·rw [Ju]
  have h1:j<l.toArray.size:=by simpa using hj
  have h2:vs[j]? = some vs[j]:=Array.getElem?_eq_getElem (by omega)
  rw[if_pos h1,h2]
  simp[hj]
def l5 (l:List aE):List aE:=l.mergeSort fun x y=>decide (x≤y)
theorem Jv {act:Act} {b:Nat} {v:Value} {u:Nat} (h:u≠b):(act.put (some b) v).tmps.getD u Go.undef=act.tmps.getD u Go.undef:=by
 simp only[Act.put,Array.getD_eq_getD_getElem?]
 rw[Array.getElem?_setIfInBounds_ne (fun e=>h e.symm)]
theorem GC {act:Act} {b:Nat} {v:Value} (h:b<act.tmps.size):(act.put (some b) v).tmps.getD b Go.undef=v:=by
 simp only[Act.put,Array.getD_eq_getD_getElem?]
 simp[h]
theorem Sem.sort (hB:B.s = ⟨[],[]⟩) {a k b t:Nat} {l:List aE} {is:List AI} {Q:Exit→Tm→St→Prop} {tm:Tm} {s:St} (hak:a≠k) (hbk:b≠k) (Xb:a≠b)
 (hk:tm.get k = .slice (.tok t) 1 (l.map encStr)) (ht:s.au[t]? = some (some l.length)) (hl:l.length<4611686018427387904)
 (h:iP Tryz.prog is (Q .normal) [(k, .slice (.tok 0) 1 ((l5 l).map encStr))] ⟨[],[some l.length]⟩) :
 Sem Tryz.prog B nt (.run (.op (some a) none (.mv (.s k)):: .call (some b) none jo [.s a]::is)) Q tm s:=by
 refine Sem.acD fun act w hh=>?_
 have zP:(tm.put (some a) (tm.get k)).get k = .slice (.tok t) 1 (l.map encStr):=by rw[Tm.lf,if_neg (by simpa using hak)];exact hk
 have Jw:(tm.put (some a) (tm.get k)).get a = .slice (.tok t) 1 (l.map encStr):=by rw[Tm.lf,if_pos rfl];exact hk
 have Ez:(l5 l).length=l.length:=List.length_mergeSort l
 have hn:(act.put (some b) (.tuple #[])).tmps.size=nt:=by obtain⟨_,_,_,_,h1,_⟩:=hh;simpa[Act.put]using h1
 have hd:(act.put (some b) (.tuple #[])).defers = []:=by obtain⟨_,_,_,_,_,h1⟩:=hh;simpa[Act.put]using h1
 have dL:(act.tmps).size=nt:=by obtain⟨_,_,_,_,h1,_⟩:=hh;exact h1
 rcases Gy hB hh ht Jw with ⟨rfl,hv⟩|⟨b',cap,vs,T,hv,tA,dT,sS,wi,lY⟩
 ·rw [show l5 [] = [] by simp [l5]]at h
  have call : ∀ p,act.tmps.getD a Go.undef = .slice p 0 0→Calls Tryz.prog jo #[act.tmps.getD a Go.undef] w fun e w'=>∃ v,e = .returned v∧∃ bn s',Holds B nt bn s' (act.put (some b) v) w'∧iP Tryz.prog is (Q .normal) bn s':=by
   intro p hp
   rw[hp]
   refine(Tryz.slices_Sort_string_none p 0 w).mono ?_
   rintro e w' ⟨rfl,rfl⟩
   refine⟨_,rfl,_,_,LG hB hh (k:=k) ?_ hn hd,h⟩
   rw[Jv (Ne.symm hbk)]
   exact hv k zP
  rcases hv a Jw with h1|⟨b',q,h1⟩
  ·exact call _ h1
  ·exact call _ h1
 ·rw [hv a Jw]
  have hD:b'<w.heap.size:=(Array.getElem?_eq_some_iff.1 dT).1
  refine(Tryz.slices_Sort_string b' 0 cap l w (fun j hj=>?_) hD hl).mono ?_
  ·have Rz:j<l.length:=by simpa using hj
   refine⟨?_,by simp[World.frozen?,dT]⟩
   rw[Nat.zero_add,iZ dT,lY j Rz]
   simp[Rz]
  ·rintro e w' ⟨rfl,n,os,rfl⟩
   obtain⟨p1,p2,p3,p4,p5⟩:=Gz (n:=n) dT sS (l5 l) (by omega) os
   have hH:=Jt hB hh (tY:=act.put (some b) (.tuple #[])) (l:=l5 l) (k:=k) p4 wi (fun q hq=>p1 q (by omega) (by obtain⟨M,e,_⟩:=hh;exact Nat.lt_of_lt_of_le hq e.size)) p2 p3 rfl rfl rfl (by omega) p5 (by rw[Jv (Ne.symm hbk),hv k zP,Ez]) hn hd
   rw[Ez]at hH
   exact⟨_,rfl,_,_,hH,h⟩
theorem KZ (l:List aE):(Lib.compact l).length≤l.length:=by
 unfold Lib.compact Lib.compactUpTo
 rw[List.length_map]
 exact Nat.le_trans (List.length_filter_le _ _) (by simp)
theorem Sem.compact (hB:B.s = ⟨[],[]⟩) {a k b t:Nat} {l:List aE} {is:List AI} {Q:Exit→Tm→St→Prop} {tm:Tm} {s:St} (hbt:b<nt)
 (hk:tm.get k = .slice (.tok t) 1 (l.map encStr)) (ht:s.au[t]? = some (some l.length)) (hl:l.length<4611686018427387904)
 (h:iP Tryz.prog is (Q .normal) [(b, .slice (.tok 0) 1 ((Lib.compact l).map encStr))] ⟨[],[some (Lib.compact l).length]⟩) :
 Sem Tryz.prog B nt (.run (.op (some a) none (.mv (.s k)):: .call (some b) none jJ [.s a]::is)) Q tm s:=by
 refine Sem.acD fun act w hh=>?_
 have Jw:(tm.put (some a) (tm.get k)).get a = .slice (.tok t) 1 (l.map encStr):=by rw[Tm.lf,if_pos rfl];exact hk
 have dL:(act.tmps).size=nt:=by obtain⟨_,_,_,_,h1,_⟩:=hh;exact h1
 have hn : ∀ v,(act.put (some b) v).tmps.size=nt:=fun v=>by simpa[Act.put]using dL
 have hd : ∀ v,(act.put (some b) v).defers = []:=by obtain⟨_,_,_,_,_,h1⟩:=hh;intro v;simpa[Act.put]using h1
 rcases Gy hB hh ht Jw with ⟨rfl,hv⟩|⟨b',cap,vs,T,hv,tA,dT,sS,wi,lY⟩
 ·rw [show Lib.compact ([] : List aE) = []from rfl]at h
  have call : ∀ p,act.tmps.getD a Go.undef = .slice p 0 0→(p=none∨∃ b q,p=some ⟨b,q,none⟩)→Calls Tryz.prog jJ #[act.tmps.getD a Go.undef] w fun e w'=>∃ v,e = .returned v∧∃ bn s',Holds B nt bn s' (act.put (some b) v) w'∧iP Tryz.prog is (Q .normal) bn s':=by
   intro p hp hq
   rw[hp]
   refine(Tryz.slices_Compact_string_empty p 0 w).mono ?_
   rintro e w' ⟨rfl,rfl⟩
   refine⟨_,rfl,_,_,LG hB hh (k:=b) ?_ (hn _) (hd _),h⟩
   rw[GC (by omega)]
   rcases hq with rfl|⟨x,y,rfl⟩
   ·exact .inl rfl
   ·exact .inr ⟨x,y,rfl⟩
  rcases hv a Jw with h1|⟨b',q,h1⟩
  ·exact call _ h1 (.inl rfl)
  ·exact call _ h1 (.inr ⟨b',q,rfl⟩)
 ·rw [hv a Jw]
  have oE:(Lib.compact l).length≤l.length:=KZ l
  refine(Tryz.slices_Compact_string b' 0 cap l w (fun j hj=>?_) (by omega) tA).mono ?_
  ·have Rz:j<l.length:=by simpa using hj
   refine⟨?_,by simp[World.frozen?,dT]⟩
   rw[Nat.zero_add,iZ dT,lY j Rz]
   simp[Rz]
  ·rintro e w' ⟨rfl,q,rfl⟩
   obtain⟨p1,p2,p3,p4,p5⟩:=Gz (n:=q) dT sS (Lib.compact l++List.replicate (l.length - (Lib.compact l).length) []) (by simp;omega) #[]
   rw[Sort.grow_empty]at p1 p2 p3
   have hH:=Jt hB hh (tY:=act.put (some b) (.slice (some ⟨b',0,none⟩) (Lib.compact l).length cap)) (l:=Lib.compact l) (k:=b) p4 wi (fun q hq=>p1 q (by omega) (by obtain⟨M,e,_⟩:=hh;exact Nat.lt_of_lt_of_le hq e.size)) p2 p3 rfl rfl rfl (by omega)
    (fun j hj=>by
     have:=p5 j (by simp;omega)
     rw[List.getElem_append_left hj]at this
     exact this) (GC (by omega)) (hn _) (hd _)
   exact⟨_,rfl,_,_,hH,h⟩
end
end Go.Abs
namespace Go.Abs
theorem EA {a b:UInt8} : a<b↔a.toNat<b.toNat:=UInt8.lt_iff_toNat_lt
theorem yi : ∀ a:aE,bytesLess a a=false
 | []=>rfl
 |x::a=>by
  show Go.Op.bytesLess (x::a) (x::a)=false
  have h:=yi a
  have h:Go.Op.bytesLess a a=false:=h
  simp[Go.Op.bytesLess,h]
theorem yj : ∀ a b:aE,bytesLess a b=true∨a=b∨bytesLess b a=true
 | [],[]=> .inr (.inl rfl)
 | [],y::b=> .inl rfl
 |x::a,[]=> .inr (.inr rfl)
 | x::a,y::b=>by
  show Go.Op.bytesLess (x::a) (y::b)=true∨_∨Go.Op.bytesLess (y::b) (x::a)=true
  have h:Go.Op.bytesLess a b=true∨a=b∨Go.Op.bytesLess b a=true:=yj a b
  simp only[Go.Op.bytesLess,Bool.or_eq_true,Bool.and_eq_true,decide_eq_true_eq,beq_iff_eq,List.cons.injEq]
  by_cases e:x=y
  ·subst e
   rcases h with h|h|h
   ·exact .inl (.inr ⟨rfl,h⟩)
   ·exact .inr (.inl ⟨rfl,h⟩)
   ·exact .inr (.inr (.inr ⟨rfl,h⟩))
  ·have:x.toNat≠y.toNat:=fun h=>e (UInt8.toNat_inj.1 h)
   rcases Nat.lt_or_gt_of_ne this with h|h
   ·exact .inl (.inl (EA.2 h))
   ·exact .inr (.inr (.inl (EA.2 h)))
theorem EB : ∀ a b c:aE,bytesLess a b=true→bytesLess b c=true→bytesLess a c=true
 |a,b,[],h1,h2=>by cases b<;>cases h2
 |a,[],z::c,h1,h2=>by cases a<;>cases h1
 | [],y::b,z::c,h1,h2=>rfl
 | x::a,y::b,z::c,h1,h2=>by
  have h1:Go.Op.bytesLess (x::a) (y::b)=true:=h1
  have h2:Go.Op.bytesLess (y::b) (z::c)=true:=h2
  show Go.Op.bytesLess (x::a) (z::c)=true
  simp only[Go.Op.bytesLess,Bool.or_eq_true,Bool.and_eq_true,decide_eq_true_eq,beq_iff_eq]at h1 h2 ⊢
  rcases h1 with e1|⟨i1,e1⟩
  ·rcases h2 with e2 | ⟨i2,e2⟩
   ·exact .inl (EA.2 (Nat.lt_trans (EA.1 e1) (EA.1 e2)))
   ·exact .inl (i2 ▸ e1)
  ·rcases h2 with e2 | ⟨i2,e2⟩
   ·exact .inl (i1 ▸ e2)
   ·exact .inr ⟨i1.trans i2,EB a b c e1 e2⟩
def Bn (l:List aE):Prop:=l.Pairwise fun a b=>bytesLess a b=true
theorem xi : ∀ {a b:List aE},Bn a→Bn b→(∀ x,x∈a↔x∈b)→a=b
 | [],[],_,_,_=>rfl
 | [],y::b,_,_,h=>absurd ((h y).2 List.mem_cons_self) (by simp)
 |x::a,[],_,_,h=>absurd ((h x).1 List.mem_cons_self) (by simp)
 | x::a,y::b,h1,h2,h=>by
  obtain⟨g1,g2⟩:=List.pairwise_cons.1 h1
  obtain⟨g3,g4⟩:=List.pairwise_cons.1 h2
  have e:x=y:=by
   rcases List.mem_cons.1 ((h x).1 List.mem_cons_self)with e|m
   ·exact e
   ·rcases List.mem_cons.1 ((h y).2 List.mem_cons_self)with e | m'
    ·exact e.symm
    ·have:=EB _ _ _ (g3 x m) (g1 y m');rw[yi]at this;cases this
  subst e
  rw[xi g2 g4 fun z=>?_]
  constructor
  ·intro m
   rcases List.mem_cons.1 ((h z).1 (List.mem_cons_of_mem _ m))with e|m'
   ·subst e;have:=g1 z m;rw[yi]at this;cases this
   ·exact m'
  ·intro m
   rcases List.mem_cons.1 ((h z).2 (List.mem_cons_of_mem _ m))with e|m'
   ·subst e;have:=g3 z m;rw[yi]at this;cases this
   ·exact m'
theorem uG (out:List aE) : ∀ (l:List aE) (c:aE) (a:Bool),
 let q:=nj out l c a
 (q.2=false↔a=false∧∀ x∈l,x∈out)∧(q.2=true→((a=true∧q.1=c)∨(q.1∈l∧q.1∉out))∧(a=true→bytesLess c q.1=false)∧∀ x∈l,x∉out→bytesLess x q.1=false)
 | [],c,a=>by
  simp only[nj]
  refine⟨by simp,fun h=>⟨.inl ⟨h,by trivial⟩,fun _=>yi c,fun x m=>(by cases m)⟩⟩
 | s::l,c,a=>by
  simp only[nj]
  by_cases h1:fj out s=true
  ·have m:=(iX _ _).1 h1
   simp only[h1,Bool.not_true,Bool.false_and,Bool.false_eq_true,if_false]
   obtain⟨k1,k2⟩:=uG out l c a
   refine⟨k1.trans ⟨fun h=>⟨h.1,fun x hx=>?_⟩,fun h=>⟨h.1,fun x hx=>h.2 x (List.mem_cons_of_mem _ hx)⟩⟩,fun h=>?_⟩
   ·rcases List.mem_cons.1 hx with rfl | hx
    ·exact m
    ·exact h.2 x hx
   ·obtain⟨g1,g2,g3⟩:=k2 h
    refine⟨g1.imp_right fun h=>⟨List.mem_cons_of_mem _ h.1,h.2⟩,g2,fun x hx hn=>?_⟩
    rcases List.mem_cons.1 hx with rfl|hx
    ·exact absurd m hn
    ·exact g3 x hx hn
  ·have m:s∉out:=fun m=>h1 ((iX _ _).2 m)
   have rL:fj out s=false:=by simpa using h1
   by_cases h2:(!a ||bytesLess s c)=true
   ·simp only [rL,h2,Bool.not_false,Bool.and_self,if_true]
    obtain⟨k1,k2⟩:=uG out l s true
    refine⟨⟨fun h=>absurd (k1.1 h).1 (by simp),fun h=>absurd (h.2 s List.mem_cons_self) m⟩,fun h=>?_⟩
    obtain⟨g1,g2,g3⟩:=k2 h
    have g4:=g2 rfl
    refine⟨.inr ?_,fun ha=>?_,fun x hx hn=>?_⟩
    ·rcases g1 with ⟨_,e⟩ | g1
     ·rw[e];exact⟨List.mem_cons_self,m⟩
     ·exact⟨List.mem_cons_of_mem _ g1.1,g1.2⟩
    ·have h3:bytesLess s c=true:=by simpa [ha]using h2
     cases hh:bytesLess c (nj out l s true).1
     ·rfl
     ·have:=EB _ _ _ h3 hh;rw[g4]at this;cases this
    ·rcases List.mem_cons.1 hx with rfl | hx
     ·exact g4
     ·exact g3 x hx hn
   ·have uj:(!a || bytesLess s c)=false:=by simpa using h2
    have ha:a=true:=by cases a<;>simp_all
    have h3:bytesLess s c=false:=by cases a<;>simp_all
    simp only[rL,uj,Bool.not_false,Bool.and_false,Bool.false_eq_true,if_false]
    obtain⟨k1,k2⟩:=uG out l c a
    refine⟨⟨fun h=>absurd (k1.1 h).1 (by simp[ha]),fun h=>absurd h.1 (by simp[ha])⟩,fun h=>?_⟩
    obtain⟨g1,g2,g3⟩:=k2 h
    refine⟨g1.imp_right fun h=>⟨List.mem_cons_of_mem _ h.1,h.2⟩,g2,fun x hx hn=>?_⟩
    rcases List.mem_cons.1 hx with rfl|hx
    ·cases hh:bytesLess x (nj out l c a).1
     ·rfl
     ·have g4:=g2 ha
      rcases yj x c with e|e|e
      ·rw[h3]at e;cases e
      ·subst e;rw[g4]at hh;cases hh
      ·have:=EB _ _ _ e hh;rw[g4]at this;cases this
    ·exact g3 x hx hn
theorem xj (l:List aE) : ∀ (n:Nat) (out:List aE),Bn out→(∀ x∈out,x∈l)→(∀ x∈out,∀ y∈l,y∉out→bytesLess x y=true)→
 Bn (pz l n out)∧(∀ x∈pz l n out,x∈l)∧(∀ x∈out,x∈pz l n out)∧((∀ x∈l,x∈pz l n out)∨(pz l n out).length=out.length+n)
 | 0,out,h1,h2,h3=>⟨h1,h2,fun x m=>m, .inr rfl⟩
 | n+1,out,h1,h2,h3=>by
  simp only[pz,Rx]
  obtain⟨k1,k2⟩:=uG out l [] false
  cases hq:(nj out l [] false).2
  ·simp only [Bool.false_eq_true,if_false]
   obtain⟨g1,g2,g3,g4⟩:=xj l n out h1 h2 h3
   exact⟨g1,g2,g3, .inl fun x m=>g3 x ((k1.1 hq).2 x m)⟩
  ·simp only [if_true]
   obtain⟨g1,_,g3⟩:=k2 hq
   have g1:(nj out l [] false).1∈l∧(nj out l [] false).1∉out:=by
    rcases g1 with ⟨h,_⟩|g1
    ·cases h
    ·exact g1
   generalize (nj out l [] false).1=c at g1 g3
   obtain⟨r1,r2,r3,r4⟩:=xj l n (out++ [c])
    (by
     refine List.pairwise_append.2 ⟨h1,by simp,fun x hx y hy=>?_⟩
     have:y=c:=by simpa using hy
     subst this
     exact h3 x hx y g1.1 g1.2)
    (fun x hx=>by
     rcases List.mem_append.1 hx with hx|hx
     ·exact h2 x hx
     ·have:x=c:=by simpa using hx
      subst this;exact g1.1)
    (fun x hx y hy hn=>by
     have hyo:y∉out:=fun m=>hn (List.mem_append_left _ m)
     have hyc:y≠c:=fun e=>hn (List.mem_append_right _ (by simp[e]))
     rcases List.mem_append.1 hx with hx|hx
     ·exact h3 x hx y hy hyo
     ·have:x=c:=by simpa using hx
      subst this
      rcases yj x y with h|h|h
      ·exact h
      ·exact absurd h.symm hyc
      ·rw[g3 y hy hyo]at h;cases h)
   refine⟨r1,r2,fun x m=>r3 x (List.mem_append_left _ m),r4.imp_right fun h=>?_⟩
   rw[h];simp;omega
theorem wF : ∀ (a l:List aE),a.Nodup→(∀ x∈a,x∈l)→a.length≤l.length
 | [],l,_,_=>Nat.zero_le _
 |x::a,l,h,hm=>by
  obtain⟨h1,h2⟩:=List.nodup_cons.1 h
  have m:=hm x List.mem_cons_self
  have:=wF a (l.erase x) h2 fun y hy=>(List.mem_erase_of_ne (fun e=>h1 (by rw[← e];exact hy))).2 (hm y (List.mem_cons_of_mem _ hy))
  rw[List.length_erase_of_mem m]at this
  have:0<l.length:=List.length_pos_of_mem m
  simp only[List.length_cons];omega
theorem uH {l:List aE} (h:Bn l):l.Nodup:=h.imp fun {a b} h e=>by subst e;rw[yi]at h;cases h
theorem l6 (l:List aE):Bn (kb l)∧∀ x,x∈kb l↔x∈l:=by
 obtain⟨h1,h2,h3,h4⟩:=xj l l.length [] List.Pairwise.nil (fun x m=>(by cases m)) (fun x m=>(by cases m))
 refine⟨h1,fun x=>⟨h2 x,fun m=>?_⟩⟩
 rcases h4 with h4|h4
 ·exact h4 x m
 ·refine Classical.byContradiction fun hn=> ?_
  have:=wF (x::pz l l.length []) l (List.nodup_cons.2 ⟨hn,uH h1⟩) fun y hy=>by
   rcases List.mem_cons.1 hy with rfl|hy
   ·exact m
   ·exact h2 y hy
  simp only[List.length_cons,h4,List.length_nil]at this
  omega
theorem K0 (zs:List aE) (hs:zs.Pairwise fun a b=>bytesLess b a=false) : ∀ m,m≤zs.length→
 Bn (Lib.compactUpTo zs.toArray m)∧(∀ x,x∈Lib.compactUpTo zs.toArray m↔x∈zs.take m):=by
 intro m
 induction m with
 |zero=>intro _;exact⟨by simp[Lib.compactUpTo,Bn],fun x=>by simp[Lib.compactUpTo]⟩
 | succ m ih=>
  intro hm
  obtain⟨h1,h2⟩:=ih (by omega)
  have hz:zs[m]? = some zs[m]:=List.getElem?_eq_getElem (by omega)
  have e1:zs.toArray[m]! = zs[m]:=by simp[hm,Nat.lt_of_succ_le hm]
  have et:zs.take (m+1)=zs.take m++ [zs[m]]:=by rw[List.take_add_one,hz];rfl
  rw[Lib.compactUpTo_succ,e1,et]
  by_cases hk:Lib.keeps zs.toArray m=true
  ·rw [if_pos hk]
   refine⟨List.pairwise_append.2 ⟨h1,by simp,fun x hx y hy=>?_⟩,fun x=>by rw[List.mem_append,List.mem_append,h2]⟩
   have hy:y=zs[m]:=by simpa using hy
   subst hy
   have hx:=(h2 x).1 hx
   simp only[Lib.keeps,decide_eq_true_eq]at hk
   rcases hk with rfl|hk
   ·simp at hx
   ·have ni:m - 1<zs.length:=by omega
    have e2:zs.toArray[m - 1]! = zs[m - 1]:=by simp[ni]
    rw[e1,e2]at hk
    have h0:0<m:=by
     cases m with
     |zero=>simp at hx
     |succ m=>omega
    have hle : ∀ i j (hi:i<zs.length) (hj:j<zs.length),i<j→bytesLess zs[j] zs[i] = false:=fun i j hi hj VL=>List.pairwise_iff_getElem.1 hs i j hi hj VL
    have g1:bytesLess zs[m] zs[m - 1] = false:=hle (m - 1) m ni (by omega) (by omega)
    have g2:bytesLess zs[m - 1] zs[m] = true:=by
     rcases yj zs[m - 1] zs[m]with h|h|h
     ·exact h
     ·exact absurd h.symm hk
     ·rw[g1]at h;cases h
    obtain⟨i,hi,rfl⟩:=List.mem_iff_getElem.1 hx
    rw[List.length_take]at hi
    rw[List.getElem_take]
    by_cases nD:i=m - 1
    ·subst nD;exact g2
    ·have g3:=hle i (m - 1) (by omega) ni (by omega)
     rcases yj zs[i] zs[m - 1]with h|h|h
     ·exact EB _ _ _ h g2
     ·rw[h];exact g2
     ·rw[g3]at h;cases h
  ·rw [if_neg hk]
   simp only[List.append_nil]
   refine⟨h1,fun x=>?_⟩
   rw[h2]
   simp only[Lib.keeps,decide_eq_true_eq,not_or,ne_eq,Decidable.not_not]at hk
   obtain⟨k1,k2⟩:=hk
   have ni:m - 1<zs.length:=by omega
   have e2:zs.toArray[m - 1]! = zs[m - 1]:=by simp[ni]
   rw[e1,e2]at k2
   simp only[List.mem_append,List.mem_singleton]
   constructor
   ·exact .inl
   ·rintro(h | rfl)
    ·exact h
    ·rw [k2]
     exact List.mem_iff_getElem.2 ⟨m - 1,by rw[List.length_take];omega,by rw[List.getElem_take]⟩
theorem GD (l:List aE):(l5 l).Pairwise fun a b=>bytesLess b a=false:=by
 have h:=List.pairwise_mergeSort (le:=fun x y:aE=>decide (x≤y)) (fun a b c h1 h2=>?_) (fun a b=>?_) l
 ·refine h.imp fun {a b} h=> ?_
  rw[decide_eq_true_eq]at h
  show Go.Op.bytesLess b a=false
  rw[Go.Proofs.bytesLess_eq]
  simpa using h
 ·rw [decide_eq_true_eq]at h1 h2 ⊢
  exact List.le_trans h1 h2
 ·have:=List.le_total a b
  simpa using this
theorem Bo (l:List aE):Lib.compact (l5 l)=kb l:=by
 obtain⟨h1,h2⟩:=K0 (l5 l) (GD l) (l5 l).length (Nat.le_refl _)
 obtain⟨h3,h4⟩:=l6 l
 refine xi h1 h3 fun x=>?_
 rw[h4]
 refine(h2 x).trans ?_
 rw[List.take_length]
 exact(List.mergeSort_perm _ _).mem_iff
set_option maxRecDepth 8000
open Go.Proofs
def lQ:List Sm→List aE
 | []=> []
 |v::l=>if v.kind==4 then v.proc::lQ l else lQ l
theorem CK : ∀ l:List Sm,(lQ l).length≤l.length
 | []=>Nat.le_refl _
 |v::l=>by
  simp only[lQ]
  have:=CK l
  split<;>simp<;>omega
def Pc.calls (f:Pc):List aE:=kb (lQ (Sm.cU f.body))
theorem Bp {name:aE} : ∀ {l:List Pc} {k:Nat} {f:Pc},iM name l=some f→∃ j,l[j]? = some f∧kO (fun f:Pc=>f.name==name) (k:Int) l=((k+j:Nat):Int)
 | g::l,k,f,h=>by
  simp only[iM]at h
  cases e:(g.name==name)
  ·rw [e]at h
   simp only[Bool.false_eq_true,if_false]at h
   obtain⟨j,h1,h2⟩:=Bp (k:=k+1) h
   refine⟨j+1,by simpa using h1, ?_⟩
   simp only[kO,e,Bool.false_eq_true,if_false]
   rw[show((k:Int)+1)=((k+1:Nat):Int)from rfl,h2]
   congr 1;omega
  ·rw [e]at h
   simp only[if_true,Option.some.injEq]at h
   exact⟨0,by simpa using h,by simp[kO,e]⟩
theorem Y3 {p:Pg} (h:p.iR) {name:aE} {f:Pc} (hf:p.find name=some f) (s:St):aG Tryz.prog tQ [.dt (fq p) 0, .str name] s (.slice .shared 1 (f.calls.map encStr)) s:=by
 refine aG.pure ?_ (by simp[D.bL,D.ok,tV]) (by simp only[D.ok,Tag.ok,eU];rfl) s
 obtain⟨rI,rn,rm⟩:=h.procs
 obtain⟨j,hj,qN⟩:=Bp (k:=0) hf
 have qN:p.at name=((j:Nat):Int):=by unfold Pg.at;simpa using qN
 have yd:=fun s=>El (p:=p) (by omega) name s
 rw[qN]at yd
 obtain⟨it,pG,wE⟩:=Uy hj (by omega)
 have acz:it.length≤900000:=by
  have e:=congrArg List.length pG
  obtain⟨a,b,e',_,_,e3,e4⟩:=(kX p).2 j f hj
  have e5:=o7 p
  have e6:=congrArg List.length e3
  rw[e4]at e5
  simp only[List.length_map,List.length_append]at e e5 e6
  omega
 unfold S0
 obtain⟨fn,z7,CJ⟩:=Ed
 refine aG.intro ⟨fn,z7,CJ⟩ (Nat.le_of_ble_eq_true rfl) fun B hB=>?_
 generalize hQ:pL (⟨[],[]⟩:St).ah.length (⟨[],[]⟩:St).au.length _ _ (⟨[],[]⟩:St)=Q
 have⟨hD,hY,hZ,gA⟩:=bX
 refine Sem.mU ?_
 repeat' (first
 |simp only[go_sem,hD,hY,hZ,gA]
 |(with_reducible refine aF hQ ?_;exact bk))
 refine Sem.mU ?_
 repeat' (first
 |simp only[go_sem,hD,hY,hZ,gA]
 |(with_reducible refine aF hQ ?_;exact bk))
 refine Sem.mU ?_
 repeat' (first
 |simp only[go_sem,hD,hY,hZ,gA]
 |(with_reducible refine CU (yd _) ?_)
 |(with_reducible refine CU (wE _) ?_)
 |(with_reducible refine aF hQ ?_;exact bk))
 refine br.w6 5 1 rfl ?_
 simp only[go_sem,hD,hY,hZ,gA]
 obtain⟨R,hR⟩ : ∃ R,R=lQ (Sm.cU f.body):=⟨_,rfl⟩
 have hRl:R.length≤900000:=by rw[hR, ← pG];have:=CK (it.map Im.s);rw[List.length_map]at this;omega
 refine fm 0 1 (br.ind (ι:=List Im×Nat×List aE×Nat) (fun i=>it.drop i.2.1=i.1∧i.2.2.1++lQ (i.1.map Im.s)=R∧i.2.2.2=i.2.2.1.length) (fun i=>i.1.length)
  (fun i=> [(5, .slice (.tok 0) 1 (i.2.2.1.map encStr)),(12, .slice .shared 17 (it.map dq)),(13, .int .i64 (it.length:Int)),(14, .int .i64 (i.2.1:Int))]) (fun i=>⟨[],[some i.2.2.2]⟩) ?_ (it,0,[],0) ⟨rfl,by rw[hR,pG];rfl,rfl⟩)
 rintro⟨rest,k,out,n⟩ ⟨h1,h2,h3⟩ IH
 dsimp only at h1 h2 h3
 subst h3
 have jh:out.length≤900000:=by have:=congrArg List.length h2;rw[List.length_append]at this;omega
 cases rest with
 | cons a rest=>
  obtain⟨hY,g2,hD,g4⟩:=drop_cons h1
  have cj:k<4611686018427387904:=by omega
  have hZ:(out.length+1)*17≤bJ:=by unfold bJ;omega
  simp only[List.map_cons,lQ]at h2
  rcases Bool.eq_false_or_eq_true (a.s.kind==4)with c1|c1
  ·simp only [c1,if_true]at h2
   repeat' (first
 |simp only[go_sem,hD,hY,hZ,gA,c1]
 | (with_reducible refine aF hQ ?_;exact bk))
   refine fp 0 1 ?_ ?_ (IH (rest,k+1,out++ [a.s.proc],out.length+1) ⟨g2,by rw[← h2];simp,by simp⟩ (Nat.lt_succ_self _))
   ·(simp only[go_sem,hD,hY,hZ,gA,aM cj,List.map_append,List.map_cons,List.map_nil,encStr];try exact cz)
   ·(simp only[go_sem,hD,hY,hZ,gA,aM cj,List.map_append,List.map_cons,List.map_nil,encStr];try exact cz)
  ·simp only [c1,Bool.false_eq_true,if_false]at h2
   repeat' (first
 |simp only[go_sem,hD,hY,hZ,gA,c1]
 | (with_reducible refine aF hQ ?_;exact bk))
   refine fp 0 1 ?_ ?_ (IH (rest,k+1,out,_) ⟨g2,h2,rfl⟩ (Nat.lt_succ_self _))
   ·(simp only[go_sem,hD,hY,hZ,gA,aM cj];try exact cz)
   ·(simp only[go_sem,hD,hY,hZ,gA,aM cj];try exact cz)
 |nil=>
  have hD:=drop_nil h1
  simp only[List.map_nil,lQ,List.append_nil]at h2
  subst h2
  have Ez:(l5 out).length=out.length:=List.length_mergeSort out
  repeat' (first
 |simp only[go_sem,hD,hY,hZ,gA]
 |(with_reducible refine aF hQ ?_;exact bk))
  refine Sem.seq (Sem.sort (k:=5) (t:=0) (l:=out) hB (by decide) (by decide) (by decide) rfl rfl (by omega) ?_)
  show Sem _ _ _ _ _ _ _
  refine Sem.seq (Sem.compact (k:=5) (t:=0) (l:=l5 out) hB (by decide) rfl (by rw[Ez];rfl) (by rw[Ez];omega) ?_)
  rw[Bo]
  have amF:f.calls=kb out:=by unfold Pc.calls;rw[hR]
  rw[amF]at hQ
  refine iA (ac:= .ret) (Q:=Q) (tm:= [(32, .slice (.tok 0) 1 ((kb out).map encStr)),(4, .slice (.tok 0) 1 ((kb out).map encStr))]) (s:=⟨[],[some (kb out).length]⟩) ?_
  repeat' (first
 |simp only[go_sem,hD,hY,hZ,gA]
 |(with_reducible refine aF hQ ?_;exact bk))
theorem GF {name:aE} : ∀ {l:List Pc},name∈l.map (·.name)→∃ f,iM name l=some f
 | f::l,h=>by
  simp only[iM]
  cases e:(f.name==name)
  ·simp only [Bool.false_eq_true,if_false]
   refine GF ?_
   rcases List.mem_cons.1 h with h|h
   ·rw[h]at e;simp at e
   ·exact h
  ·exact⟨f,rfl⟩
theorem GG {p:Pg} {f:Pc} {procs:List aE} : ∀ {l:List Sm},Bk p f procs l=none→∀ v∈l,v.known p f procs=true
 | v::l,h,w,m=>by
  simp only[Bk]at h
  split at h
  ·rename_i e
   rcases List.mem_cons.1 m with rfl|m
   ·exact e
   ·exact GG h w m
  ·cases h
theorem GH {p:Pg} {procs:List aE} : ∀ {l:List Pc},((vy p procs l).1==0)=true→∀ f∈l,fz (p.globals++f.own)=false∧∀ v∈Sm.cU f.body,v.known p f procs=true
 | g::l,h,f,m=>by
  simp only[vy]at h
  split at h
  ·cases h
  ·rename_i e
   split at h
   ·cases h
   ·rename_i e2
    rcases List.mem_cons.1 m with rfl|m
    ·exact⟨by simpa using e,GG e2⟩
    ·exact GH h f m
theorem Dq {p:Pg} (h:(p.scope.1==0)=true):fz p.globals=false∧fz p.pn=false∧p.tn=false∧∀ f∈p.procs,fz (p.globals++f.own)=false∧∀ v∈Sm.cU f.body,v.known p f p.pn=true:=by
 unfold Pg.scope at h
 split at h
 ·split at h
  ·cases h
  ·rename_i e
   simp only[Bool.or_eq_true,not_or,Bool.not_eq_true]at e
   exact⟨e.1,e.2.1,e.2.2,GH h⟩
 ·cases h
theorem xk {x:aE} : ∀ {l:List Sm},x∈lQ l↔∃ v∈l,v.kind=4∧v.proc=x
 | []=>by simp[lQ]
 | v::l=>by
  simp only[lQ]
  cases e:(v.kind==4)
  ·have:v.kind≠4:=by simpa using e
   simp[this,xk (l:=l)]
  ·have:v.kind=4:=by simpa using e
   simp only[if_true,List.mem_cons,xk (l:=l),exists_eq_or_imp,this,true_and]
   constructor
   ·rintro(h | h)
    ·exact .inl h.symm
    ·exact .inr h
   ·rintro(h | h)
    ·exact .inl h.symm
    ·exact .inr h
theorem RA {f:Pc} {x:aE} : x∈f.calls↔∃ v∈Sm.cU f.body,v.kind=4∧v.proc=x:=by
 unfold Pc.calls;rw[(l6 _).2,xk]
theorem CM {p:Pg} (h:(p.scope.1==0)=true) {f:Pc} (hf:f∈p.procs) {x:aE} (m:x∈f.calls) : ∃ g,p.find x=some g:=by
 obtain⟨v,hv,h4,rfl⟩:=RA.1 m
 have hk:=((Dq h).2.2.2 f hf).2 v hv
 simp only[Sm.known,h4,Bool.and_eq_true,Bool.or_eq_true]at hk
 rcases hk.2 with h|⟨_,h⟩
 ·simp at h
 ·exact GF ((iX _ _).1 h)
def EC (p:Pg) (x:aE):List aE:=match p.find x with|some f=>f.calls|none=> []
def Dr (out:List aE):List aE→List aE
 | []=>out
 |x::l=>Dr (B0 out x) l
def wG (p:Pg):Nat→Nat→List aE→List aE
 | 0,_,out=>out
 |n+1,i,out=>match out[i]? with
  |some x=>wG p n (i+1) (Dr out (EC p x))
  |none=>out
def Pg.work (p:Pg) (name:aE):List aE:=wG p (p.procs.length+1) 0 [name]
def Good (p:Pg) (out:List aE):Prop:=out.Nodup∧∀ x∈out,∃ f,p.find x=some f
theorem Good.len {p:Pg} {out:List aE} (h:Good p out):out.length≤p.procs.length:=by
 have:=wF out p.pn h.1 fun x m=>by
  obtain⟨f,hf⟩:=h.2 x m
  obtain⟨h1,h2⟩:=sg hf
  rw[← h2];exact List.mem_map_of_mem h1
 simpa[Pg.pn]using this
theorem Good.spk {p:Pg} {out:List aE} (h:Good p out) {x:aE} (hx : ∃ f,p.find x=some f):Good p (B0 out x):=by
 unfold B0
 split
 ·exact h
 ·rename_i e
  have:x∉out:=fun m=>e ((iX _ _).2 m)
  refine⟨List.nodup_append.2 ⟨h.1,by simp,fun a ha b hb e'=>?_⟩,fun y hy=>?_⟩
  ·have hbx:b=x:=by simpa using hb
   rw[e',hbx]at ha;exact this ha
  ·rcases List.mem_append.1 hy with hy | hy
   ·exact h.2 y hy
   ·have:y=x:=by simpa using hy
    subst this;exact hx
theorem Good.add {p:Pg} : ∀ {l out:List aE},Good p out→(∀ x∈l,∃ f,p.find x=some f)→Good p (Dr out l)
 | [],out,h,_=>h
 |x::l,out,h,hx=>Good.add (l:=l) (out:=B0 out x) (Good.spk h (hx x List.mem_cons_self)) fun y m=>hx y (List.mem_cons_of_mem _ m)
def tgB:Bool→Tag
 |true=> .tok 0
 |false=> .full
def tkB:Bool→Nat→List (Option Nat)
 |true,n=> [some n]
 |false,_=> []
def ze:AI→AI
 | .op d g (.dv z k n ps)=> .op d g (.uQ z k n ps)
 |a=>a
section
variable {P:Program}
theorem K1 {nt:Nat} {ops:Array Oper} {i:Nat} {o:Oper} {ai:AI} (hi:ops[i]? = some o) (hc:cI P nt ops o=some ai)
 {M:Map} {s:St} {w:World} {tm:Tm} {act:Act} (r:Rel M s w) (ko:Laid M s w) (ht:lT M s tm act.tmps) {K':Tm→St→Prop} (h:iP P [ze ai] K' tm s)
 {K:Act→World→Prop} {Q:Exit→Act→World→Prop}
 (hK : ∀ d v s1 w1 M1,K' (tm.put ai.dst d) s1→Ext M s w M1 s1 w1→Rel M1 s1 w1→RD M1 s1 d v→K (act.put o.dst v) w1):wpOp P ops Q i K act w:=by
 by_cases hb : ∃ d g z k n ps,ai = .op d g (.dv z k n ps)
 ·obtain⟨d0,g0,z,k,n,ps,rfl⟩:=hb
  obtain⟨g,hg,_,hb⟩:=AW hc
  rw[sW hb]at hK
  simp only[wpOp,hi]
  have skip:K' (tm.put o.dst (.tuple [])) s→K (act.put o.dst Go.undef) w:=fun hk=>hK _ _ _ _ _ hk (Ext.refl M s w) r .undef
  have hd:=sW hb
  simp only[AI.dst]at hd
  subst hd
  have n7:DN P o=some (.dv z k n ps)∧g0=g:=by
   unfold sm at hb
   split at hb
   ·split at hb
    ·obtain⟨xs,_,h⟩:=map_some hb;cases h
    ·cases hb
   ·obtain⟨xs,_,h⟩:=map_some hb;cases h
   ·split at hb
    ·cases hb
    ·split at hb
     ·rename_i n7
      simp only[Option.some.injEq,AI.op.injEq,true_and]at hb
      obtain⟨h1,h2⟩:=hb
      split at h2
      ·cases h2
      ·cases h2;exact⟨n7,h1.symm⟩
     ·rename_i ao eA n7
      simp only[Option.some.injEq,AI.op.injEq,true_and]at hb
      obtain⟨h1,h2⟩:=hb
      subst h2
      exact⟨n7,h1.symm⟩
     ·cases hb
  obtain⟨n7,rfl⟩:=n7
  simp only[ze,iP]at h
  rcases j7 hg ht h with ⟨hw,hA⟩|⟨hw,hB⟩
  ·simp only [hw,if_true]
   left
   split at hA
   ·rename_i d s' qw
    obtain⟨v,w',M',dB,r',hv,e'⟩:=yG n7 r ht qw
    unfold Oper.wp
    rcases dB with dB|⟨dB,rfl⟩
    ·rw [dB,Oper.upon_value]
     exact hK _ _ _ _ _ hA e' r' hv
    ·rw [dB,Oper.upon_skip]
     exact hK _ _ _ _ _ hA e' r' hv
   ·exact hA.elim
  ·simp only [hw]
   exact skip hB
 ·have hs:ze ai=ai:=by
   unfold ze
   split
   ·rename_i d g z k n ps;exact absurd ⟨d,g,z,k,n,ps,rfl⟩ hb
   ·rfl
  rw[hs]at h
  exact wZ hi hc r ko ht h hK
theorem Y4 {a:AI} {r:List AI} {K:Tm→St→Prop} {tm:Tm} {s:St} (h:iP P (a::r) K tm s):iP P [a] (iP P r K) tm s:=by
 cases a<;>exact h
theorem GK {B:fP} {nt:Nat} {ops:Array Oper} {Q:Exit→Tm→St→Prop} : ∀ (l:List Nat) (ol:List Oper) (is:List AI),l.map (ops[·]?)=ol.map some→qE P nt ops ol=some is→
 ∀ (tm:Tm) (s:St) (act:Act) (w:World),iP P (is.map ze) (Q .normal) tm s→Holds B nt tm s act w→wpOps P ops (pI B nt Q) l act w
 | [],[],is,_,hc,tm,s,act,w,h,hh=>by cases hc;exact⟨tm,s,h,hh⟩
 | [],_::_,_,hl,_,_,_,_,_,_,_=>by simp at hl
 |_::_,[],_,hl,_,_,_,_,_,_,_=>by simp at hl
 | i::l,o::ol,is,hl,hc,tm,s,act,w,h,hh=>by
  simp only[List.map_cons,List.cons.injEq]at hl
  obtain⟨hi,hl⟩:=hl
  unfold qE at hc
  split at hc
  ·rename_i ai P0 h1 h2
   cases hc
   obtain⟨M,e,r,ht,hn,hd⟩:=hh
   have ql:=xL h1
   have hdd:=sX h1
   rw[List.map_cons]at h
   have key:=K1 (K:=fun act w=>wpOps P ops (pI B nt Q) l act w) (Q:=pI B nt Q) hi h1 r (B.laid.ext e) ht (Y4 h) (fun d v s1 w1 M1 hk e1 r1 hv=>
    GK (Q:=Q) l ol P0 hl h2 _ _ _ _ hk (hdd ▸ Holds.put e ht hn hd ql e1 r1 hv))
   simpa only[wpOps,wpOp,hi]using key
  ·cases hc
theorem Sem.swap {B:fP} {nt:Nat} {is:List AI} {Q:Exit→Tm→St→Prop} {tm:Tm} {s:St} (h:jW P B nt (.run (is.map ze)) Q tm s):Sem P B nt (.run is) Q tm s:=by
 intro c hc act w hh
 obtain⟨id,ops,rfl,hi⟩:=lq hc
 refine wp_region ?_
 exact GK _ _ is (AT ops) hi tm s act w (oh h) hh
end
end Go.Abs
namespace Go.Abs
set_option maxRecDepth 8000
open Go.Proofs
theorem OQ {l:List aE} (h:l.Nodup):l5 l=kb l:=by
 refine xi ?_ (l6 l).1 fun x=>?_
 ·have h1:=GD l
  have h2:(l5 l).Nodup:=(List.mergeSort_perm l _).nodup_iff.2 h
  refine(List.pairwise_and_iff.2 ⟨h1,h2⟩).imp fun {a b} Xb=>?_
  rcases yj a b with e|e|e
  ·exact e
  ·exact absurd e Xb.2
  ·rw[Xb.1]at e;cases e
 ·rw[(l6 l).2];exact(List.mergeSort_perm l _).mem_iff
theorem Bq {p:Pg} (nF:(p.scope.1==0)=true) : ∀ (n i:Nat) (out:List aE),Good p out→Good p (wG p n i out)
 | 0,i,out,h=>h
 | n+1,i,out,h=>by
  simp only[wG]
  split
  ·rename_i x hx
   obtain⟨g,hg⟩:=h.2 x (List.mem_of_getElem? hx)
   refine Bq nF n _ _ (h.add fun y m=>?_)
   unfold EC at m
   rw[hg]at m
   exact CM nF (sg hg).1 m
  ·exact h
theorem Ds {p:Pg} {name:aE} {f:Pc} (hf:p.find name=some f):Good p [name]:=
 ⟨by simp,fun x m=>by
  have:x=name:=by simpa using m
  subst this;exact⟨f,hf⟩⟩
theorem Y5 {p:Pg} (h:p.iR) (nF:(p.scope.1==0)=true) {name:aE} {f:Pc} (hf:p.find name=some f) (s:St):aG Tryz.prog xd [.dt (fq p) 0, .str name] s (.slice .shared 1 ((kb (p.work name)).map encStr)) s:=by
 refine aG.pure ?_ (by simp[D.bL,D.ok,tV]) (by simp only[D.ok,Tag.ok,eU];rfl) s
 obtain⟨rI,rn,rm⟩:=h.procs
 obtain⟨R,hR⟩ : ∃ R,p.work name=R:=⟨_,rfl⟩
 have hgR:Good p R:=hR ▸ Bq nF _ _ _ (Ds hf)
 rw[hR, ← OQ hgR.1]
 unfold Pg.work at hR
 have hg0:Good p [name]:=Ds hf
 have hRl:=hgR.len
 unfold S0
 obtain⟨fn,z7,CJ⟩:=Hl
 refine aG.intro ⟨fn,z7,CJ⟩ (Nat.le_of_ble_eq_true rfl) fun B hB=>?_
 generalize hQ:pL (⟨[],[]⟩:St).ah.length (⟨[],[]⟩:St).au.length _ _ (⟨[],[]⟩:St)=Q
 have⟨hD,hY,hZ,gA⟩:=bX
 refine Sem.mU ?_
 repeat' (first
 |simp only[go_sem,hD,hY,hZ,gA]
 |(with_reducible first|refine bt fun hc=>?_|refine bu fun hc=>?_|refine bx (fun hc=>?_) fun hc=>?_)<;>(try simp only[hc,bs,↓reduceIte]at h)<;>try simp only[hc]
 |(with_reducible refine aF hQ ?_;exact fX)
 |(cases h;done))
 refine Sem.seq (Sem.swap ?_)
 simp only[List.map_cons,List.map_nil,ze]
 repeat' (first
 |simp only[go_sem,hD,hY,hZ,gA]
 |(with_reducible first|refine bt fun hc=>?_|refine bu fun hc=>?_|refine bx (fun hc=>?_) fun hc=>?_)<;>(try simp only[hc,bs,↓reduceIte]at h)<;>try simp only[hc]
 |(with_reducible refine aF hQ ?_;exact fX)
 |(cases h;done))
 refine Sem.mU ?_
 repeat' (first
 |simp only[go_sem,hD,hY,hZ,gA]
 |(with_reducible first|refine bt fun hc=>?_|refine bu fun hc=>?_|refine bx (fun hc=>?_) fun hc=>?_)<;>(try simp only[hc,bs,↓reduceIte]at h)<;>try simp only[hc]
 |(with_reducible refine aF hQ ?_;exact fX)
 |(cases h;done))
 refine fm 0 1 (br.ind (ι:=Nat×Nat×List aE×Nat) (fun i=>wG p i.1 i.2.1 i.2.2.1=R∧Good p i.2.2.1∧i.1+i.2.1=p.procs.length+1∧i.2.2.2=i.2.2.1.length) (fun i=>i.1)
  (fun i=> [(0, .dt (fq p) 0),(5, .slice (.tok 0) 1 (i.2.2.1.map encStr)),(6, .int .i64 (i.2.1:Int))]) (fun i=>⟨[],[some i.2.2.2]⟩) ?_ (p.procs.length+1,0,[name],1) ⟨hR,hg0,rfl,rfl⟩)
 rintro⟨n,i,out,no⟩ ⟨h1,h2,h3,h4⟩ IH
 dsimp only at h1 h2 h3 h4
 subst h4
 have jh:=h2.len
 cases hx:out[i]? with
 | none=>
  have hD:decide ((i:Int)<(out.length:Int))=false:=by have:=List.getElem?_eq_none_iff.1 hx;simp;omega
  have:R=out:=by
   cases n with
   |zero=>simpa[wG]using h1.symm
   |succ n=>simp only[wG,hx]at h1;exact h1.symm
  subst this
  repeat' (first
 |simp only[go_sem,hD,hY,hZ,gA]
 |(with_reducible first|refine bt fun hc=>?_|refine bu fun hc=>?_|refine bx (fun hc=>?_) fun hc=>?_)<;>(try simp only[hc,bs,↓reduceIte]at h)<;>try simp only[hc]
 |(with_reducible refine aF hQ ?_;exact fX)
 |(cases h;done))
  refine Sem.seq (Sem.sort (k:=5) (t:=0) (l:=R) hB (by decide) (by decide) (by decide) rfl rfl (by omega) ?_)
  refine iA (ac:=aca) (Q:=Q) (tm:= [(5, .slice (.tok 0) 1 ((l5 R).map encStr))]) (s:=⟨[],[some R.length]⟩) ?_
  repeat' (first
 |simp only[go_sem,hD,hY,hZ,gA]
 |(with_reducible first|refine bt fun hc=>?_|refine bu fun hc=>?_|refine bx (fun hc=>?_) fun hc=>?_)<;>(try simp only[hc,bs,↓reduceIte]at h)<;>try simp only[hc]
 |(with_reducible refine aF hQ ?_;exact fX)
 |(cases h;done))
 |some x=>
  have qx:=(List.getElem?_eq_some_iff.1 hx).1
  have hD:decide ((i:Int)<(out.length:Int))=true:=by simp;omega
  have nD:i<4611686018427387904:=by omega
  cases n with
  |zero=>omega
  |succ n=>
  simp only[wG,hx]at h1
  obtain⟨g,Jx⟩:=h2.2 x (List.mem_of_getElem? hx)
  have RB:=(sg Jx).1
  have Xk:=fun s=>Y3 h Jx s
  have hcn:EC p x=g.calls:=by unfold EC;rw[Jx]
  rw[hcn]at h1
  have hth : ∀ y∈g.calls,∃ f,p.find y=some f:=fun y m=>CM nF RB m
  have auR:g.calls.length≤p.procs.length:=Good.len ⟨uH (l6 _).1,hth⟩
  obtain⟨W,hW⟩ : ∃ W,Dr out g.calls=W:=⟨_,rfl⟩
  rw[hW]at h1
  repeat' (first
 |simp only[go_sem,hD,hY,hZ,gA,hx]
 |(with_reducible refine CU (Xk _) ?_)
 |(with_reducible first|refine bt fun hc=>?_|refine bu fun hc=>?_|refine bx (fun hc=>?_) fun hc=>?_)<;>(try simp only[hc,bs,↓reduceIte]at h)<;>try simp only[hc]
 |(with_reducible refine aF hQ ?_;(try cases h);simp only[aV,aY,bH,bI,go_sem,hD,hY,hZ,gA,hx];try exact cr)
 | (cases h;done))
  refine fm 0 1 (br.ind (ι:=List aE×Nat×List aE×Nat) (fun j=>g.calls.drop j.2.1=j.1∧Dr j.2.2.1 j.1=W∧Good p j.2.2.1∧j.2.2.2=j.2.2.1.length) (fun j=>j.1.length)
   (fun j=> [(0, .dt (fq p) 0),(5, .slice (.tok 0) 1 (j.2.2.1.map encStr)),(6, .int .i64 (i:Int)),(22, .slice .shared 1 (g.calls.map encStr)),(23, .int .i64 (g.calls.length:Int)),(24, .int .i64 (j.2.1:Int))]) (fun j=>⟨[],[some j.2.2.2]⟩) ?_ (g.calls,0,out,out.length) ⟨rfl,hW,h2,rfl⟩)
  clear hW
  rintro⟨rest,k,ct,n'⟩ ⟨j1,j2,j3,j4⟩ Xg
  dsimp only at j1 j2 j3 j4
  subst j4
  have auS:=j3.len
  cases rest with
  |nil=>
   have acH:=drop_nil j1
   simp only[Dr]at j2
   subst j2
   repeat' (first
 |simp only[go_sem,hD,hY,hZ,gA,acH]
 |(with_reducible first|refine bt fun hc=>?_|refine bu fun hc=>?_|refine bx (fun hc=>?_) fun hc=>?_)<;>(try simp only[hc,bs,↓reduceIte]at h)<;>try simp only[hc]
 |(with_reducible refine aF hQ ?_;(try cases h);simp only[aV,aY,bH,bI,go_sem,hD,hY,hZ,gA,acH];try exact cr)
 | (cases h;done))
   refine fp 0 1 ?_ ?_ (IH (n,i+1,ct,ct.length) ⟨h1,j3,by dsimp only;omega,rfl⟩ (Nat.lt_succ_self _))
   ·(simp only[go_sem,hD,hY,hZ,gA,aM nD];try exact cz)
   ·(simp only[go_sem,hD,hY,hZ,gA,aM nD];try exact cz)
  | cons y rest=>
   obtain⟨o9,LB,ye,jg4⟩:=drop_cons j1
   have yf:k<4611686018427387904:=by omega
   have hZ:(ct.length+1)*17≤bJ:=by unfold bJ;omega
   have GM:=fun g s=>ju (l:=ct) (by omega) y g s
   have hy:=hth y (List.mem_of_getElem? o9)
   have CA:=j3.spk hy
   simp only[Dr]at j2
   rcases Bool.eq_false_or_eq_true (fj ct y)with c1|c1
   ·simp only [B0,c1,if_true]at j2
    repeat' (first
 |simp only[go_sem,hD,hY,hZ,gA,ye,o9,c1]
 |(with_reducible refine CU (GM _ _) ?_)
 |(with_reducible first|refine bt fun hc=>?_|refine bu fun hc=>?_|refine bx (fun hc=>?_) fun hc=>?_)<;>(try simp only[hc,bs,↓reduceIte]at h)<;>try simp only[hc]
 |(with_reducible refine aF hQ ?_;(try cases h);simp only[aV,aY,bH,bI,go_sem,hD,hY,hZ,gA,ye,o9,c1];try exact cr)
 | (cases h;done))
    refine fp 0 1 ?_ ?_ (Xg (rest,k+1,ct,ct.length) ⟨LB,j2,j3,rfl⟩ (Nat.lt_succ_self _))
    ·(simp only[go_sem,hD,hY,hZ,gA,aM yf];try exact cz)
    ·(simp only[go_sem,hD,hY,hZ,gA,aM yf];try exact cz)
   ·simp only [B0,c1,Bool.false_eq_true,if_false]at j2 CA
    repeat' (first
 |simp only[go_sem,hD,hY,hZ,gA,ye,o9,c1]
 |(with_reducible refine CU (GM _ _) ?_)
 |(with_reducible first|refine bt fun hc=>?_|refine bu fun hc=>?_|refine bx (fun hc=>?_) fun hc=>?_)<;>(try simp only[hc,bs,↓reduceIte]at h)<;>try simp only[hc]
 |(with_reducible refine aF hQ ?_;(try cases h);simp only[aV,aY,bH,bI,go_sem,hD,hY,hZ,gA,ye,o9,c1];try exact cr)
 | (cases h;done))
    refine fp 0 1 ?_ ?_ (Xg (rest,k+1,ct++ [y],ct.length+1) ⟨LB,j2,CA,by simp⟩ (Nat.lt_succ_self _))
    ·(simp only[go_sem,hD,hY,hZ,gA,aM yf,List.map_append,List.map_cons,List.map_nil,encStr];try exact cz)
    ·(simp only[go_sem,hD,hY,hZ,gA,aM yf,List.map_append,List.map_cons,List.map_nil,encStr];try exact cz)
theorem Jy (name:aE) : ∀ l:List Pc,l.any (fun f=>f.name==name)=(iM name l).isSome
 | []=>rfl
 |f::l=>by
  simp only[List.any_cons,iM]
  cases e:(f.name==name)
  ·simp[Jy name l]
  ·simp
theorem US (name:aE) (f:Pc):aG Tryz.prog oK ([.agg (cf f)]++ [.ptr 0 0]) ⟨[[.str name]],[]⟩ (.bool (f.name==name)) ⟨[[.str name]],[]⟩:=by
 show aG Tryz.prog oK [.agg (cf f), .ptr 0 0] _ _ _
 refine aG.go Cj rfl fun B Q hB hQ=>?_
 have⟨hD,hY,hZ,gA⟩:=bX
 repeat' (first
 |simp only[go_sem,hD,hY,hZ,gA]
 |(with_reducible refine aF hQ ?_;exact bk))
def Pg.zf (p:Pg) (name:aE):Option Pc:=if p.scope.1==0 then p.find name else none
theorem UT {p:Pg} (h:p.iR) (name:aE) (s:St):aG Tryz.prog tP [.agg (cB p), .str name] s (.bool (p.zf name).isSome) s:=by
 refine aG.pure ?_ (by simp[D.bL,D.ok,ki]) rfl s
 obtain⟨rI,rn,rm⟩:=h.procs
 have pB:=fun s=>vz h s
 have hi:=fun {s:St} {o:Nat} (ho:s.ah[o]? = some [.str name])=>Bc (Ae (l:=p.procs) (f:=oK) (row:= [.str name]) (b:=fun f:Pc=>f.name==name) (by omega) rfl (by with_unfolding_all rfl) (fun x _=>US name x)) rfl (wg _) rfl ho
 have gN:=fun {s:St} {o:Nat} (ho:s.ah[o]? = some [.str name])=>(show aG Tryz.prog gG [.slice .shared 5 (p.procs.map cf), .fV 191 [.ptr o 0]] s (.bool (p.procs.any fun f:Pc=>f.name==name)) s from hi ho)
 simp only[Jy]at gN
 unfold Pg.zf Pg.find
 unfold S0
 rcases Bool.eq_false_or_eq_true (p.scope.1==0)with b1|b1
 ·simp only [b1,if_true]
  refine aG.go wq rfl fun B Q hB hQ=>?_
  have⟨hD,hY,hZ,gA⟩:=bX
  repeat' (first
 |simp only[go_sem,hD,hY,hZ,gA,b1]
 |(with_reducible refine CU (pB _) ?_)
 |(with_reducible refine CU (gN (by with_unfolding_all rfl)) ?_)
 |(with_reducible refine aF hQ ?_;exact bk))
 ·simp only [b1,Bool.false_eq_true,if_false,Option.isSome_none]
  refine aG.go wq rfl fun B Q hB hQ=>?_
  have⟨hD,hY,hZ,gA⟩:=bX
  repeat' (first
 |simp only[go_sem,hD,hY,hZ,gA,b1]
 |(with_reducible refine CU (pB _) ?_)
 |(with_reducible refine CU (gN (by with_unfolding_all rfl)) ?_)
 |(with_reducible refine aF hQ ?_;exact bk))
def Pg.atD (p:Pg) (name:aE):List aE:=match p.zf name with|some f=>f.calls|none=> []
def Pg.amG (p:Pg) (name:aE):List aE:=match p.zf name with|some _=>kb (p.work name)|none=> []
theorem GN {p:Pg} {name:aE} {f:Pc} (h:p.zf name=some f):(p.scope.1==0)=true∧p.find name=some f:=by
 unfold Pg.zf at h
 split at h
 ·exact⟨by assumption,h⟩
 ·cases h
def sG (p:Pg) (out:List aE):List aE→List aE
 | []=>out
 |v::l=>sG p (if fj p.globals v then out++ [v]else out) l
def sH (p:Pg) (out:List aE):List Sm→List aE
 | []=>out
 |v::l=>sH p (sG p out v.said) l
def tq (p:Pg) (n:aE):List Sm:=match p.find n with|some f=>Sm.cU f.body|none=> []
def uI (p:Pg) (out:List aE):List aE→List aE
 | []=>out
 |n::l=>uI p (sH p out (tq p n)) l
theorem zh (p:Pg) : ∀ (l out:List aE),out.length≤(sG p out l).length∧(sG p out l).length≤out.length+l.length
 | [],out=>⟨Nat.le_refl _,Nat.le_refl _⟩
 |v::l,out=>by
  simp only[sG]
  have h:=zh p l (if fj p.globals v then out++ [v]else out)
  have h2:out.length≤(if fj p.globals v then out++ [v]else out).length∧(if fj p.globals v then out++ [v]else out).length≤out.length+1:=by split<;>simp
  simp only[List.length_cons]
  omega
def oM:List Sm→Nat
 | []=>0
 |v::l=>v.said.length+oM l
theorem Br : ∀ a b:List Sm,oM (a++b)=oM a+oM b
 | [],b=>by simp[oM]
 |v::a,b=>by simp only[List.cons_append,oM,Br a b];omega
theorem Y6 (v:Sm):v.said.length≤1+v.x.size+2*Ar.bc v.args:=by
 have : ∀ (l:List Ar) (out:List aE),(Ar.said out l).length≤out.length+2*Ar.bc l:=by
  intro l
  induction l with
  |nil=>intro out;simp[Ar.said]
  |cons a l ih=>
   intro out
   simp only[Ar.said,Ar.bc]
   refine Nat.le_trans (ih _) ?_
   have:=kY a.x
   have:1≤a.x.size:=by obtain⟨_,_,_,_⟩:=a.x;simp[Ex.size]
   simp only[List.length_append]
   split<;>simp<;>omega
 have h1:=this v.args (v.sF++v.x.names)
 have h2:=kY v.x
 have h4:v.sF.length≤1:=by unfold Sm.sF;split<;>simp
 simp only[List.length_append]at h1
 unfold Sm.said
 omega
mutual
theorem RC : ∀ s:Sm,oM s.pre≤2*s.size
 |⟨id,kind,labels,name,proc,x,has,args,a7,aX⟩=>by
  simp only[Sm.pre,oM,Br,Sm.size]
  have h1:=Y6 ⟨id,kind,labels,name,proc,x,has,args,a7,aX⟩
  have h2:=uJ a7
  have h3:=uJ aX
  dsimp only at h1
  omega
theorem uJ : ∀ l:List Sm,oM (Sm.cU l)≤2*Sm.bc l
 | []=>by simp[Sm.cU,oM,Sm.bc]
 |s::l=>by
  simp only[Sm.cU,Br,Sm.bc]
  have:=RC s;have:=uJ l;omega
end
theorem zi (p:Pg) : ∀ (l:List Sm) (out:List aE),out.length≤(sH p out l).length∧(sH p out l).length≤out.length+oM l
 | [],out=>⟨Nat.le_refl _,Nat.le_refl _⟩
 |v::l,out=>by
  simp only[sH,oM]
  have h:=zi p l (sG p out v.said)
  have h2:=zh p v.said out
  omega
theorem zj {p:Pg} (h:p.iR) : ∀ (l out:List aE),out.length≤(uI p out l).length∧(uI p out l).length≤out.length+l.length*1800000
 | [],out=>⟨Nat.le_refl _,by simp[uI]⟩
 | n::l,out=>by
  simp only[uI]
  have h1:=zj h l (sH p out (tq p n))
  have h2:=zi p (tq p n) out
  have h3:oM (tq p n)≤1800000:=by
   unfold tq
   split
   ·rename_i f hf
    have:=uJ f.body
    have h4:=Pc.dr (sg hf).1
    have h5:=h.procs.2.1
    simp only[Pc.size]at h4
    omega
   ·simp[oM]
  simp only[List.length_cons]
  omega
theorem RE {p:Pg} (h:p.may=true):p.procs.length≤16:=by
 unfold Pg.may at h
 split at h
 ·cases h
 ·rename_i c
  simp only[Bool.or_eq_true,decide_eq_true_eq,not_or,Int.not_lt,gt_iff_lt]at c
  have:=c.1.2
  omega
def Pg.sh (p:Pg) (name:aE):List aE:=uI p [] (kb (p.work name))
def Pg.p9 (p:Pg) (name:aE):List aE:=match p.zf name with|some _=>kb (p.sh name)|none=> []
theorem Jz {p:Pg} (nF:(p.scope.1==0)=true) {name:aE} {f:Pc} (hf:p.find name=some f):Good p (kb (p.work name)):=by
 have h:=Bq nF (p.procs.length+1) 0 [name] (Ds hf)
 refine⟨uH (l6 _).1,fun x m=>h.2 x ?_⟩
 exact((l6 _).2 x).1 m
theorem RF {p:Pg} (h:p.iR) (name:aE) (s:St):aG Tryz.prog q6 [.agg (cB p), .str name] s (.slice .shared 1 ((p.p9 name).map encStr)) s:=by
 refine aG.pure ?_ (by simp[D.bL,D.ok,ki]) (by simp only[D.ok,Tag.ok,eU];rfl) s
 have hk:=fun s=>UT h name s
 have da:=fun s=>BW (p:=p) (by have:=h.procs;omega) s
 unfold Pg.p9
 unfold S0
 cases UU:p.zf name with
 |none=>
  simp only[UU,Option.isSome_none]at hk
  simp only[List.map_nil]
  refine aG.go ur rfl fun B Q hB hQ=>?_
  have⟨hD,hY,hZ,gA⟩:=bX
  repeat' (first
 |simp only[go_sem,hD,hY,hZ,gA]
 |(with_reducible refine CU (hk _) ?_)
 |(with_reducible refine aF hQ ?_;exact bk))
 |some f=>
 obtain⟨nF,hf⟩:=GN UU
 simp only[UU,Option.isSome_some]at hk
 dsimp only
 obtain⟨rI,rn,rm⟩:=h.procs
 have hN:=Jz nF hf
 obtain⟨N,hNe⟩ : ∃ N,kb (p.work name)=N:=⟨_,rfl⟩
 rw[hNe]at hN
 have hNl:=hN.len
 obtain⟨R,hR⟩ : ∃ R,p.sh name=R:=⟨_,rfl⟩
 rw[hR]
 unfold Pg.sh at hR
 rw[hNe]at hR
 have hRl:R.length≤28800000:=by
  have:=(zj h N []).2
  rw[hR]at this
  have h4:=RE (Bl nF)
  have h3:N.length*1800000≤16*1800000:=Nat.mul_le_mul_right _ (by omega)
  simp only[List.length_nil]at this
  omega
 have Xk:=fun s=>Y5 h nF hf s
 simp only[hNe]at Xk
 obtain⟨fn,z7,CJ⟩:=ur
 refine aG.intro ⟨fn,z7,CJ⟩ (Nat.le_of_ble_eq_true rfl) fun B hB=>?_
 generalize hQ:pL (⟨[],[]⟩:St).ah.length (⟨[],[]⟩:St).au.length _ _ (⟨[],[]⟩:St)=Q
 have⟨hD,hY,hZ,gA⟩:=bX
 refine Sem.mU ?_
 repeat' (first
 |simp only[go_sem,hD,hY,hZ,gA]
 |(with_reducible refine aF hQ ?_;exact bk))
 refine Sem.mU ?_
 repeat' (first
 |simp only[go_sem,hD,hY,hZ,gA]
 |(with_reducible refine CU (hk _) ?_)
 |(with_reducible refine aF hQ ?_;exact bk))
 refine Sem.mU ?_
 repeat' (first
 |simp only[go_sem,hD,hY,hZ,gA]
 |(with_reducible refine CU (da _) ?_)
 |(with_reducible refine aF hQ ?_;exact bk))
 refine Sem.mU ?_
 repeat' (first
 |simp only[go_sem,hD,hY,hZ,gA]
 |(with_reducible refine aF hQ ?_;exact bk))
 refine Sem.mU ?_
 repeat' (first
 |simp only[go_sem,hD,hY,hZ,gA]
 |(with_reducible refine CU (Xk _) ?_)
 |(with_reducible refine aF hQ ?_;exact bk))
 refine br.w6 6 1 rfl ?_
 simp only[go_sem,hD,hY,hZ,gA]
 refine fm 1 1 (br.ind (ι:=List aE×Nat×List aE×Nat) (fun i=>N.drop i.2.1=i.1∧uI p i.2.2.1 i.1=R∧i.2.2.1.length≤R.length∧i.2.2.2=i.2.2.1.length) (fun i=>i.1.length)
  (fun i=> [(2, .ptr 0 0),(5, .dt (fq p) 0),(6, .slice (.tok 0) 1 (i.2.2.1.map encStr)),(21, .slice .shared 1 (N.map encStr)),(22, .int .i64 (N.length:Int)),(23, .int .i64 (i.2.1:Int))]) (fun i=>⟨[cB p],[some i.2.2.2]⟩) ?_ (N,0,[],0) ⟨rfl,hR,Nat.zero_le _,rfl⟩)
 rintro⟨rest,k,out,no⟩ ⟨h1,h2,h3,h4⟩ IH
 dsimp only at h1 h2 h3 h4
 subst h4
 cases rest with
 |nil=>
  have hD:=drop_nil h1
  simp only[uI]at h2
  subst h2
  have Ez:(l5 out).length=out.length:=List.length_mergeSort out
  repeat' (first
 |simp only[go_sem,hD,hY,hZ,gA]
 |(with_reducible refine aF hQ ?_;exact bk))
  refine Sem.seq (Sem.sort (k:=6) (t:=0) (l:=out) hB (by decide) (by decide) (by decide) rfl rfl (by omega) ?_)
  refine Sem.seq (Sem.compact (k:=6) (t:=0) (l:=l5 out) hB (by decide) rfl (by rw[Ez];rfl) (by rw[Ez];omega) ?_)
  rw[Bo]
  refine iA (ac:= .ret) (Q:=Q) (tm:= [(59, .slice (.tok 0) 1 ((kb out).map encStr)),(4, .slice (.tok 0) 1 ((kb out).map encStr))]) (s:=⟨[],[some (kb out).length]⟩) ?_
  repeat' (first
 |simp only[go_sem,hD,hY,hZ,gA]
 |(with_reducible refine aF hQ ?_;exact bk))
 | cons x rest=>
  obtain⟨hY,g2,hD,g4⟩:=drop_cons h1
  have cj:k<4611686018427387904:=by omega
  obtain⟨g,Jx⟩:=hN.2 x (List.mem_of_getElem? hY)
  have RB:=(sg Jx).1
  have hbd:tq p x=Sm.cU g.body:=by unfold tq;rw[Jx]
  simp only[uI,hbd]at h2
  obtain⟨j,hj,qN⟩:=Bp (k:=0) Jx
  have qN:p.at x=((j:Nat):Int):=by unfold Pg.at;simpa using qN
  have yd:=fun s=>El (p:=p) (by omega) x s
  simp only[qN]at yd
  obtain⟨it,pG,wE⟩:=Uy hj (by omega)
  have acz:it.length≤900000:=by
   have e:=congrArg List.length pG
   obtain⟨a,b,e',_,_,e3,e4⟩:=(kX p).2 j g hj
   have e5:=o7 p
   have e6:=congrArg List.length e3
   rw[e4]at e5
   simp only[List.length_map,List.length_append]at e e5 e6
   omega
  rw[← pG]at h2
  repeat' (first
 |simp only[go_sem,hD,hY,hZ,gA,hY]
 |(with_reducible refine CU (yd _) ?_)
 |(with_reducible refine CU (wE _) ?_)
 | (with_reducible refine aF hQ ?_;exact bk))
  obtain⟨W,hW⟩ : ∃ W,sH p out (it.map Im.s)=W:=⟨_,rfl⟩
  rw[hW]at h2
  have hWR:W.length≤R.length:=by have:=(zj h rest W).1;rw[h2]at this;exact this
  have Ru:out.length≤W.length:=by have:=(zi p (it.map Im.s) out).1;rw[hW]at this;exact this
  refine fm 1 1 (br.ind (ι:=List Im×Nat×List aE×Nat) (fun i=>it.drop i.2.1=i.1∧sH p i.2.2.1 (i.1.map Im.s)=W∧i.2.2.1.length≤W.length∧i.2.2.2=i.2.2.1.length) (fun i=>i.1.length)
   (fun i=> [(2, .ptr 0 0),(5, .dt (fq p) 0),(6, .slice (.tok 0) 1 (i.2.2.1.map encStr)),(21, .slice .shared 1 (N.map encStr)),(22, .int .i64 (N.length:Int)),(23, .int .i64 (k:Int)),(31, .slice .shared 17 (it.map dq)),(32, .int .i64 (it.length:Int)),(33, .int .i64 (i.2.1:Int))]) (fun i=>⟨[cB p],[some i.2.2.2]⟩) ?_ (it,0,out,out.length) ⟨rfl,hW,Ru,rfl⟩)
  rintro⟨wH,k2,Dt,no⟩ ⟨j1,j2,j3,j4⟩ Eo
  dsimp only at j1 j2 j3 j4
  subst j4
  cases wH with
  |nil=>
   have acJ:=drop_nil j1
   simp only[List.map_nil,sH]at j2
   subst j2
   repeat' (first
 |simp only[go_sem,hD,hY,hZ,gA,acJ]
 | (with_reducible refine aF hQ ?_;exact bk))
   refine fp 1 1 ?_ ?_ (IH (rest,k+1,Dt,Dt.length) ⟨g2,h2,hWR,rfl⟩ (Nat.lt_succ_self _))
   ·(simp only[go_sem,hD,hY,hZ,gA,aM cj];try exact cz)
   ·(simp only[go_sem,hD,hY,hZ,gA,aM cj];try exact cz)
  |cons y wH=>
   obtain⟨o9,LB,ye,jg4⟩:=drop_cons j1
   have yf:k2<4611686018427387904:=by omega
   have hym:y.s∈Sm.cU g.body:=by rw[← pG];exact List.mem_map_of_mem (List.mem_of_getElem? o9)
   have rK:=h.said RB _ hym
   have Xc:=fun s=>Bf rK s
   have Ez:=Jn _ rK
   simp only[List.map_cons,sH]at j2
   repeat' (first
 |simp only[go_sem,hD,hY,hZ,gA,ye,o9]
 |(with_reducible refine CU (Xc _) ?_)
 | (with_reducible refine aF hQ ?_;exact bk))
   obtain⟨V,hV⟩ : ∃ V,sG p Dt y.s.said=V:=⟨_,rfl⟩
   rw[hV]at j2
   have hVW:V.length≤W.length:=by have:=(zi p (wH.map Im.s) V).1;rw[j2]at this;exact this
   have hoV:Dt.length≤V.length:=by have:=(zh p y.s.said Dt).1;rw[hV]at this;exact this
   refine fm 1 1 (br.ind (ι:=List aE×Nat×List aE×Nat) (fun i=>y.s.said.drop i.2.1=i.1∧sG p i.2.2.1 i.1=V∧i.2.2.1.length≤V.length∧i.2.2.2=i.2.2.1.length) (fun i=>i.1.length)
    (fun i=> [(2, .ptr 0 0),(5, .dt (fq p) 0),(6, .slice (.tok 0) 1 (i.2.2.1.map encStr)),(21, .slice .shared 1 (N.map encStr)),(22, .int .i64 (N.length:Int)),(23, .int .i64 (k:Int)),(31, .slice .shared 17 (it.map dq)),(32, .int .i64 (it.length:Int)),(33, .int .i64 (k2:Int)),(39, .slice .shared 1 (y.s.said.map encStr)),(40, .int .i64 (y.s.said.length:Int)),(41, .int .i64 (i.2.1:Int))]) (fun i=>⟨[cB p],[some i.2.2.2]⟩) ?_ (y.s.said,0,Dt,Dt.length) ⟨rfl,hV,hoV,rfl⟩)
   rintro⟨ED,k3,zk,no⟩ ⟨l1,l2,l3,l4⟩ IH3
   dsimp only at l1 l2 l3 l4
   subst l4
   cases ED with
   |nil=>
    have amH:=drop_nil l1
    simp only[sG]at l2
    subst l2
    repeat' (first
 |simp only[go_sem,hD,hY,hZ,gA,amH]
 | (with_reducible refine aF hQ ?_;exact bk))
    refine fp 1 1 ?_ ?_ (Eo (wH,k2+1,zk,zk.length) ⟨LB,j2,hVW,rfl⟩ (Nat.lt_succ_self _))
    ·(simp only[go_sem,hD,hY,hZ,gA,aM yf];try exact cz)
    ·(simp only[go_sem,hD,hY,hZ,gA,aM yf];try exact cz)
   | cons z ED=>
    obtain⟨acK,lg2,llt,lg4⟩:=drop_cons l1
    have GO:k3<4611686018427387904:=by omega
    have GM:=fun g s=>ju (l:=p.globals) (by omega) z g s
    simp only[sG]at l2
    rcases Bool.eq_false_or_eq_true (fj p.globals z)with c1|c1
    ·simp only [c1,if_true]at l2
     have hZ:(zk.length+1)*17≤bJ:=by unfold bJ;omega
     have hoo:(zk++ [z]).length≤V.length:=by have:=(zh p ED (zk++ [z])).1;rw[l2]at this;exact this
     repeat' (first
 |simp only[go_sem,hD,hY,hZ,gA,llt,acK,c1]
 |(with_reducible refine CU (GM _ _) ?_)
 | (with_reducible refine aF hQ ?_;exact bk))
     refine fp 1 1 ?_ ?_ (IH3 (ED,k3+1,zk++ [z],zk.length+1) ⟨lg2,l2,hoo,by simp⟩ (Nat.lt_succ_self _))
     ·(simp only[go_sem,hD,hY,hZ,gA,aM GO,List.map_append,List.map_cons,List.map_nil,encStr];try exact cz)
     ·(simp only[go_sem,hD,hY,hZ,gA,aM GO,List.map_append,List.map_cons,List.map_nil,encStr];try exact cz)
    ·simp only [c1,Bool.false_eq_true,if_false]at l2
     repeat' (first
 |simp only[go_sem,hD,hY,hZ,gA,llt,acK,c1]
 |(with_reducible refine CU (GM _ _) ?_)
 |(with_reducible refine aF hQ ?_;exact bk))
     refine fp 1 1 ?_ ?_ (IH3 (ED,k3+1,zk,zk.length) ⟨lg2,l2,l3,rfl⟩ (Nat.lt_succ_self _))
     ·(simp only[go_sem,hD,hY,hZ,gA,aM GO];try exact cz)
     ·(simp only[go_sem,hD,hY,hZ,gA,aM GO];try exact cz)
mutual
def Sm.its (deep dg:Int) (aX:Bool):Sm→List It
 |⟨id,kind,labels,name,proc,x,has,args,a7,e⟩=>⟨⟨id,kind,labels,name,proc,x,has,args,a7,e⟩,deep,dg,aX⟩::(Sm.UW (deep+1) id false a7++Sm.UW (deep+1) id true e)
def Sm.UW (deep dg:Int) (aX:Bool):List Sm→List It
 | []=> []
 |s::l=>s.its deep dg aX++Sm.UW deep dg aX l
end
def fU (l:List Sm) (none:Int):Int:=match l with| []=>none|t::_=>t.id
mutual
def Sm.vB (proc up next loop:Int):Sm→List Im
 |⟨id,kind,labels,name,pc,x,has,args,a7,aX⟩=>⟨⟨id,kind,labels,name,pc,x,has,args,a7,aX⟩,proc,up,next,loop⟩::
  (Sm.jI proc id (if kind==6 then id else next) (if kind==6 then id else loop) a7++Sm.jI proc id (if kind==6 then id else next) (if kind==6 then id else loop) aX)
def Sm.jI (proc up next loop:Int):List Sm→List Im
 | []=> []
 |s::l=>s.vB proc up (fU l next) loop++Sm.jI proc up next loop l
end
def oB (n:Nat) (l:List Sm):Prop:=∀ (i:Nat) (v:Sm),l[i]? = some v→v.id=((n+i+1:Nat):Int)
theorem oB.head {n:Nat} {v:Sm} {l:List Sm} (h:oB n (v::l)):v.id=((n+1:Nat):Int):=h 0 v rfl
theorem oB.tail {n:Nat} {v:Sm} {l:List Sm} (h:oB n (v::l)):oB (n+1) l:=fun i w hw=>by
 rw[h (i+1) w (by simpa using hw)];congr 1;omega
theorem oB.left {n:Nat} {a b:List Sm} (h:oB n (a++b)):oB n a:=fun i w hw=>h i w (by rw[List.getElem?_append_left (List.getElem?_eq_some_iff.1 hw).1];exact hw)
theorem oB.right {n:Nat} {a b:List Sm} (h:oB n (a++b)):oB (n+a.length) b:=fun i w hw=>by
 rw[h (a.length+i) w (by rw[List.getElem?_append_right (by omega)];simpa using hw)];congr 1;omega
theorem UX (s:Sm):s.pre=s::(Sm.cU s.a7++Sm.cU s.aX):=Sm.p6 s
mutual
theorem LH : ∀ s:Sm,s.jn=s.pre.length
 |⟨id,kind,labels,name,proc,x,has,args,a7,aX⟩=>by
  simp only[Sm.jn,Sm.pre,List.length_cons,List.length_append,zl a7,zl aX];omega
theorem zl : ∀ l:List Sm,Sm.iU l=(Sm.cU l).length
 | []=>rfl
 |s::l=>by simp only[Sm.iU,Sm.cU,List.length_append,LH s,zl l]
end
mutual
theorem Xl (proc up next loop:Int) : ∀ s:Sm,(s.vB proc up next loop).map Im.s=s.pre
 |⟨id,kind,labels,name,pc,x,has,args,a7,aX⟩=>by
  simp only[Sm.vB,Sm.pre,List.map_cons,List.map_append,ry _ _ _ _ a7,ry _ _ _ _ aX]
theorem ry (proc up next loop:Int) : ∀ l:List Sm,(Sm.jI proc up next loop l).map Im.s=Sm.cU l
 | []=>rfl
 |s::l=>by simp only[Sm.jI,Sm.cU,List.map_append,Xl _ _ _ _ s,ry _ _ _ _ l]
end
theorem Y7 (proc up next loop:Int) (s:Sm):(s.vB proc up next loop).length=s.pre.length:=by rw[← Xl proc up next loop s,List.length_map]
theorem Du (proc up next loop:Int) (l:List Sm):(Sm.jI proc up next loop l).length=(Sm.cU l).length:=by rw[← ry proc up next loop l,List.length_map]
mutual
theorem Y8 (proc up next loop:Int) (out:List Im) : ∀ s:Sm,oB out.length s.pre→Im.one proc up next loop out s=out++s.vB proc up next loop
 | ⟨id,kind,labels,name,pc,x,has,args,a7,aX⟩,h=>by
  simp only[Sm.pre]at h
  have h0:id=((out.length+1:Nat):Int):=h.head
  have h1:=h.tail.left
  have h2:=h.tail.right
  have e0:((out.length:Int)+1)=id:=by rw[h0];rfl
  simp only[Im.one,Sm.vB,e0]
  rw[vC proc id _ _ (out++ [_]) a7 (by rw[List.length_append];exact h1)]
  rw[vC proc id _ _ _ aX (by
   rw[List.length_append,List.length_append,Du];exact h2)]
  simp
theorem vC (proc up next loop:Int) (out:List Im) : ∀ l:List Sm,oB out.length (Sm.cU l)→Im.rows proc up next loop out l=out++Sm.jI proc up next loop l
 | [],h=>by simp[Im.rows,Sm.jI]
 | s::l,h=>by
  simp only[Sm.cU]at h
  have e:(if l.length=0 then next else(out.length:Int)+1+(s.jn:Int))=fU l next:=by
   cases l with
   |nil=>rfl
   |cons t l=>
    have h2:=h.right
    simp only[Sm.cU]at h2
    rw[UX t]at h2
    simp only[List.length_cons,fU]
    rw[if_neg (by omega),h2.head,LH]
    omega
  simp only[Im.rows,Sm.jI,e]
  rw[Y8 proc up _ loop out s h.left,vC proc up next loop _ l (by rw[List.length_append,Y7];exact h.right)]
  simp
end
def pP (n:Nat):List Pc→List Im
 | []=> []
 |f::l=>Sm.jI n 0 (-1) 0 f.body++pP (n+1) l
theorem RG : ∀ (l:List Pc) (n:Nat) (h:Sh),oB h.L.length ((l.map fun f=>Sm.cU f.body).flatten)→(Sh.go n h l).L=h.L++pP n l
 | [],n,h,_=>by simp[Sh.go,pP]
 | f::l,n,h,hi=>by
  simp only[List.map_cons,List.flatten_cons]at hi
  simp only[Sh.go,pP]
  have e:=vC (n:Int) 0 (-1) 0 h.L f.body hi.left
  rw[RG l (n+1) _ (by
   show oB (Im.rows (n:Int) 0 (-1) 0 h.L f.body).length _
   rw[e,List.length_append,Du];exact hi.right)]
  show Im.rows (n:Int) 0 (-1) 0 h.L f.body++_=_
  rw[e];simp
theorem LI {p:Pg} (h:p.may=true):oB 0 p.pre:=fun i v hv=>by rw[Bj h hv];congr 1;omega
theorem RH {p:Pg} (h:p.may=true):p.aT.L=pP 0 p.procs:=by
 have:=RG p.procs 0 ⟨[],[],[]⟩ (LI h)
 simpa[Pg.aT]using this
def RI (l:List It):Nat→Int→Int
 | 0,_=>0
 |n+1,dg=>if dg==0 then 0 else match l[n]? with
  |none=>0
  |some x=>if x.s.id != dg then RI l n dg else if x.s.kind==6 then dg else RI l n x.dg
def Up (L:List It) (k:Nat) (its:List It) (vB:List Im):Prop:=∀ (i:Nat) (a:It) (b:Im),its[i]? = some a→vB[i]? = some b→a.s=b.s∧a.dg=b.up∧RI L (k+i) a.dg=b.loop
def iN (seen:List aE):List aE→List aE×Bool
 | []=>(seen,true)
 |n::l=>if fj seen n then(seen,false)else iN (seen++ [n]) l
theorem Bs : ∀ (l seen:List aE),iN seen l=(if p7 seen l then((iN seen l).1,false)else(seen++l,true))
 | [],seen=>by simp[iN,p7]
 | n::l,seen=>by
  simp only[iN,p7]
  split
  ·rfl
  ·rw [Bs l (seen++ [n])]
   split
   ·rfl
   ·simp
theorem LJ : ∀ (a b seen:List aE),p7 seen (a++b)=(p7 seen a ||p7 (seen++a) b)
 | [],b,seen=>by simp[p7]
 |x::a,b,seen=>by
  simp only[List.cons_append,p7]
  split
  ·rfl
  ·rw[LJ a b (seen++ [x])];simp
theorem GQ : ∀ (l seen:List aE),seen.length≤(iN seen l).1.length∧(iN seen l).1.length≤seen.length+l.length
 | [],seen=>by simp[iN]
 |n::l,seen=>by
  simp only[iN]
  split
  ·simp
  ·have:=GQ l (seen++ [n]);simp at this ⊢;omega
def qg (zm:List aE) (v:Sm) (loop:Int):Bool:=if v.kind==7 ||v.kind==8 then loop != 0 else if v.kind==10 then fj zm v.name else true
def sI (zm fin seen:List aE):List (Sm×Int)→Option Int
 | []=>if(iN seen fin).2 then none else some 0
 |(v,lp)::l=>if(iN seen v.labels).2 then(if qg zm v lp then sI zm fin (iN seen v.labels).1 l else some v.id)else some v.id
def ib:List Sm→List aE
 | []=> []
 |v::l=>v.labels++ib l
def Pc.labels (f:Pc):List aE:=ib (Sm.cU f.body)++f.fin
def Im.pair (m:Im):Sm×Int:=(m.s,m.loop)
def Pc.wI (f:Pc):List (Sm×Int):=(Sm.jI 0 0 (-1) 0 f.body).map Im.pair
def sJ:List Pc→Option Int
 | []=>none
 |f::l=>match sI f.labels f.fin [] f.wI with
  |some id=>some id
  |none=>sJ l
def yk (c:Int):Option Int→Int×Int
 |some id=>(c,id)
 |none=>(0,0)
def Pg.jump (p:Pg):Int×Int:=if p.scope.1==0 then yk 7 (sJ p.procs)else(1,0)
mutual
theorem UY (proc up next uK RJ next' loop:Int) : ∀ s:Sm,(s.vB proc up next loop).map Im.pair=(s.vB uK RJ next' loop).map Im.pair
 |⟨id,kind,labels,name,pc,x,has,args,a7,aX⟩=>by
  simp only[Sm.vB,List.map_cons,List.map_append,Im.pair]
  rw[wJ proc id _ uK id (if kind==6 then id else next') _ a7,wJ proc id _ uK id (if kind==6 then id else next') _ aX]
theorem wJ (proc up next uK RJ next' loop:Int) : ∀ l:List Sm,(Sm.jI proc up next loop l).map Im.pair=(Sm.jI uK RJ next' loop l).map Im.pair
 | []=>rfl
 |s::l=>by
  simp only[Sm.jI,List.map_append]
  rw[UY proc up _ uK RJ (fU l next') loop s,wJ proc up next uK RJ next' loop l]
end
theorem JA (n:Int) (f:Pc):(Sm.jI n 0 (-1) 0 f.body).map Im.pair=f.wI:=wJ _ _ _ _ _ _ _ _
theorem Y9 (f:Pc):f.wI.map Prod.fst=Sm.cU f.body:=by
 unfold Pc.wI
 rw[List.map_map, ← ry 0 0 (-1) 0 f.body]
 rfl
def LK (l:List It):Nat→Int→Int
 | 0,_=>0
 |n+1,id=>match l[n]? with
  |none=>0
  |some x=>if x.s.id != id then LK l n id else if RI l n x.dg != 0 then RI l n x.dg else LK l n id
theorem LL : ∀ (l:List Pc) (n:Nat) (h:Sh),h.lo.length=n→h.hi.length=n→oB h.L.length ((l.map fun f=>Sm.cU f.body).flatten)→
 ∃ lo hi,Sh.go n h l = ⟨h.L++pP n l,h.lo++lo,h.hi++hi⟩∧lo.length=l.length∧hi.length=l.length∧
  ∀ (i:Nat) (f:Pc),l[i]? = some f→∃ a e:List Im,lo[i]? = some (((h.L++a).length:Int)+1)∧hi[i]? = some (((h.L++a++Sm.jI ((n+i:Nat):Int) 0 (-1) 0 f.body).length:Int)+1)∧pP n l=a++Sm.jI ((n+i:Nat):Int) 0 (-1) 0 f.body++e
 | [],n,h,hl,hh,_=>⟨[],[],by simp[Sh.go,pP],rfl,rfl,fun i f h=>by simp at h⟩
 | f::l,n,h,hl,hh,hi=>by
  simp only[List.map_cons,List.flatten_cons]at hi
  simp only[Sh.go,pP]
  have e1:=vC (n:Int) 0 (-1) 0 h.L f.body hi.left
  obtain⟨lo,gN,h2,h3,h4,h5⟩:=LL l (n+1) ⟨Im.rows (n:Int) 0 (-1) 0 h.L f.body,h.lo++ [(h.L.length:Int)+1],h.hi++ [((Im.rows (n:Int) 0 (-1) 0 h.L f.body).length:Int)+1]⟩ (by simp[hl]) (by simp[hh]) (by
   show oB (Im.rows (n:Int) 0 (-1) 0 h.L f.body).length _
   rw[e1,List.length_append,Du];exact hi.right)
  refine⟨((h.L.length:Int)+1)::lo,(((Im.rows (n:Int) 0 (-1) 0 h.L f.body).length:Int)+1)::gN, ?_,by simp[h3],by simp[h4],fun i g gN=>?_⟩
  ·rw[h2,e1];simp
  ·cases i with
   |zero=>
    simp only[List.getElem?_cons_zero,Option.some.injEq]at gN
    subst gN
    exact⟨[],pP (n+1) l,by simp,by rw[e1];simp,by simp⟩
   |succ i=>
    simp only[List.getElem?_cons_succ]at gN
    obtain⟨a,e,g1,g2,g3⟩:=h5 i g gN
    have en:n+1+i=n+(i+1):=by omega
    rw[en]at g2 g3
    refine⟨Sm.jI n 0 (-1) 0 f.body++a,e, ?_, ?_,by rw[g3];simp⟩
    ·rw[List.getElem?_cons_succ,g1,e1];simp
    ·rw[List.getElem?_cons_succ,g2,e1];simp
theorem acM {p:Pg} (hb:p.may=true) {i:Nat} {f:Pc} (hf:p.procs[i]? = some f) (hs:Pc.bc p.procs<1000000000) (s:St) :
 aG Tryz.prog gF [.dt (fq p) 0, .int .i64 (i:Int)] s (.slice .shared 17 ((Sm.jI (i:Int) 0 (-1) 0 f.body).map dq)) s:=by
 obtain⟨lo,hi,h1,h2,h3,h4⟩:=LL p.procs 0 ⟨[],[],[]⟩ rfl rfl (LI hb)
 obtain⟨a,e,g1,g2,g3⟩:=h4 i f hf
 simp only[Nat.zero_add,List.nil_append]at g1 g2 g3 h1
 refine ack hs (a:=a) (e:=e) ?_ ?_ ?_ s
 ·show(Sh.go 0 ⟨[],[],[]⟩ p.procs).lo[i]? = _
  rw[h1];exact g1
 ·show(Sh.go 0 ⟨[],[],[]⟩ p.procs).hi[i]? = _
  rw[h1];exact g2
 ·show(Sh.go 0 ⟨[],[],[]⟩ p.procs).L=_
  rw[h1];exact g3
theorem aG.amI {P:Program} {f:FuncId} {pre post:List D} {rows oD:List (List D)} {z z' k k':Nat} {b:Bool} (h:aG P f (pre++ .slice (.tok 0) z rows::post) ⟨[],[some k]⟩ (.tuple [.slice (.tok 0) z' oD, .bool b]) ⟨[],[some k']⟩)
 (hp:D.bL 0 0 pre=true) (ha:D.bL 0 0 post=true) (hw:D.gU 0 0 rows=true) (hw':D.gU 0 0 oD=true)
 {s:St} {t:Nat} (ht:s.au[t]? = some (some k)):aG P f (pre++ .slice (.tok t) z rows::post) s (.tuple [.slice (.tok t) z' oD, .bool b]) ⟨s.ah,s.au.set t (some k')⟩:=by
 refine bG.frame [] [t] h (by simp) (by simp) (by simp) (by simpa using (List.getElem?_eq_some_iff.1 ht).1) rfl (fun i o' ds e1 e2=>by simp at e1) rfl (fun i t' e1=>?_)
  ?_ ?_ ?_
 ·cases i with
  |zero=>simp at e1;subst e1;simp[ht]
  |succ i=>simp at e1
 ·have h1:=fv [] [t] _ hp
  have h2:=fv [] [t] _ ha
  rw[fJ]at h1 h2
  simp[fJ,D.cJ,Tag.cJ,h1,h2,jc _ _ _ hw]
 ·have h1:=ij (n':=0) (m':=1) (Nat.le_refl 0) (Nat.zero_le 1) _ hp
  have h2:=ij (n':=0) (m':=1) (Nat.le_refl 0) (Nat.zero_le 1) _ ha
  rw[xM]at h1 h2 ⊢
  simp only[List.length_nil,List.length_cons,List.all_append,h1,Bool.true_and,List.all_cons,h2,Bool.and_true,D.ok,Tag.ok,mh (Nat.zero_le 0) (Nat.zero_le 1) _ hw]
  rfl
 ·rintro _ _ ⟨rfl,rfl⟩
  refine⟨by simp[D.back,D.cJ,D.eQ,Tag.cJ,kp,jc _ _ _ hw'], ?_⟩
  simp[St.back,kv]
theorem acN {seen l:List aE} (hl:seen.length+l.length<1000000000):aG Tryz.prog pZ [.slice (.tok 0) 1 (seen.map encStr), .slice .shared 1 (l.map encStr)] ⟨[],[some seen.length]⟩
 (.tuple [.slice (.tok 0) 1 ((iN seen l).1.map encStr), .bool (iN seen l).2]) ⟨[],[some (iN seen l).1.length]⟩:=by
 generalize hR:iN seen l=R
 refine aG.go Hq rfl fun B Q hB hQ=>?_
 have⟨hD,hY,hZ,gA⟩:=bX
 repeat' (first
 |simp only[go_sem,hD,hY,hZ,gA]
 |(with_reducible refine aF hQ ?_;exact bk))
 refine fm 0 1 (br.ind (ι:=List aE×Nat×List aE×Nat) (fun i=>l.drop i.2.1=i.1∧iN i.2.2.1 i.1=R∧i.2.2.2=i.2.2.1.length∧i.2.2.1.length+i.1.length<1000000000) (fun i=>i.1.length)
  (fun i=> [(0, .slice (.tok 0) 1 (i.2.2.1.map encStr)),(8, .slice .shared 1 (l.map encStr)),(9, .int .i64 (l.length:Int)),(10, .int .i64 (i.2.1:Int))]) (fun i=>⟨[],[some i.2.2.2]⟩) ?_ (l,0,seen,seen.length) ⟨rfl,hR,rfl,hl⟩)
 clear hR
 rintro⟨rest,k,out,n⟩ ⟨h1,h2,h3,h4⟩ IH
 dsimp only at h1 h2 h3 h4
 subst h3
 cases rest with
 |nil=>
  have hD:=drop_nil h1
  simp only[iN]at h2
  subst h2
  repeat' (first
 |simp only[go_sem,hD,hY,hZ,gA]
 |(with_reducible refine aF hQ ?_;exact bk))
 | cons x rest=>
  obtain⟨hY,g2,hD,g4⟩:=drop_cons h1
  have cj:k<4611686018427387904:=by omega
  simp only[List.length_cons]at h4
  have hZ:(out.length+1)*17≤bJ:=by unfold bJ;omega
  have GM:=fun g s=>ju (l:=out) (by omega) x g s
  simp only[iN]at h2
  rcases Bool.eq_false_or_eq_true (fj out x)with c1|c1
  ·simp only [c1,if_true]at h2
   subst h2
   repeat' (first
 |simp only[go_sem,hD,hY,hZ,gA,c1]
 |(with_reducible refine CU (GM _ _) ?_)
 | (with_reducible refine aF hQ ?_;exact bk))
  ·simp only [c1,Bool.false_eq_true,if_false]at h2
   repeat' (first
 |simp only[go_sem,hD,hY,hZ,gA,c1]
 |(with_reducible refine CU (GM _ _) ?_)
 | (with_reducible refine aF hQ ?_;exact bk))
   refine fp 0 1 ?_ ?_ (IH (rest,k+1,out++ [x],out.length+1) ⟨g2,h2,by simp,by simp;omega⟩ (Nat.lt_succ_self _))
   ·(simp only[go_sem,hD,hY,hZ,gA,aM cj,List.map_append,List.map_cons,List.map_nil,encStr];try exact cz)
   ·(simp only[go_sem,hD,hY,hZ,gA,aM cj,List.map_append,List.map_cons,List.map_nil,encStr];try exact cz)
theorem RK {seen l:List aE} (hl:seen.length+l.length<1000000000) {s:St} {t:Nat} (ht:s.au[t]? = some (some seen.length)):aG Tryz.prog pZ [.slice (.tok t) 1 (seen.map encStr), .slice .shared 1 (l.map encStr)] s
 (.tuple [.slice (.tok t) 1 ((iN seen l).1.map encStr), .bool (iN seen l).2]) ⟨s.ah,s.au.set t (some (iN seen l).1.length)⟩:=
 (acN hl).amI (pre:= []) (post:= [_]) rfl (by simp[D.bL,D.ok,Tag.ok,eU]) (eU _) (eU _) ht
theorem UZ (x:Im):(dq x)[2]? = some (.slice .shared 1 (x.s.labels.map encStr)):=nd rfl
theorem RL (x:Im):(dq x)[3]? = some (.str x.s.name):=nd rfl
attribute [go_sem] UZ RL
def kQ (fin:List aE) (label:aE):List Sm→Int×Bool
 | []=>if fj fin label then(-1,true)else(0,false)
 |v::l=>if fj v.labels label then(v.id,true)else kQ fin label l
theorem Bt (fin:List aE) (label:aE) : ∀ l:List Sm,(kQ fin label l).2=fj (ib l++fin) label
 | []=>by simp only[kQ,ib,List.nil_append];split<;>simp_all
 | v::l=>by
  simp only[kQ,ib,List.append_assoc]
  have h:=Bt fin label l
  rw[Bool.eq_iff_iff,iX]at h
  split
  ·rename_i c
   exact((iX _ _).2 (List.mem_append.2 (.inl ((iX _ _).1 c)))).symm
  ·rename_i c
   have:label∉v.labels:=fun m=>c ((iX _ _).2 m)
   rw[Bool.eq_iff_iff,h,iX]
   exact⟨fun m=>List.mem_append.2 (.inr m),fun m=>(List.mem_append.1 m).resolve_left this⟩
theorem JB {p:Pg} {v:Sm} (ho:p.iR) {f:Pc} (hf:f∈p.procs) (hv:v∈Sm.cU f.body):v.labels.length≤900000:=by
 have key : ∀ n:Nat,(∀ s:Sm,s.pre.length≤n→∀ v∈s.pre,v.labels.length≤s.size)∧(∀ l:List Sm,(Sm.cU l).length≤n→∀ v∈Sm.cU l,v.labels.length≤Sm.bc l):=by
  intro n
  induction n with
  |zero=>
   refine⟨fun s h=>by rw[Sm.p6]at h;simp at h,fun l h v m=>?_⟩
   have:=List.eq_nil_of_length_eq_zero (Nat.le_zero.1 h)
   rw[this]at m;cases m
  | succ n ih=>
   have h1 : ∀ s:Sm,s.pre.length≤n+1→∀ v∈s.pre,v.labels.length≤s.size:=by
    intro s h v m
    rw[Sm.p6]at h m
    simp only[List.length_cons,List.length_append]at h
    obtain⟨id,kind,labels,name,proc,x,has,args,a7,aX⟩:=s
    simp only[Sm.size]
    rcases List.mem_cons.1 m with rfl|m
    ·dsimp only;omega
    ·rcases List.mem_append.1 m with m | m
     ·have:=ih.2 a7 (by dsimp only at h;omega) v m;omega
     ·have:=ih.2 aX (by dsimp only at h;omega) v m;omega
   refine⟨h1,fun l=>?_⟩
   induction l with
   |nil=>intro _ v m;cases m
   |cons s l RM=>
    intro h v m
    simp only[Sm.cU,List.length_append]at h
    simp only[Sm.cU]at m
    simp only[Sm.bc]
    rcases List.mem_append.1 m with m|m
    ·have:=h1 s (by omega) v m;omega
    ·have:=RM (by omega) v m;omega
 have h1:=(key (Sm.cU f.body).length).2 f.body (Nat.le_refl _) v hv
 have h2:=Pc.dr hf
 have h3:=ho.procs.2.1
 simp only[Pc.size]at h2
 omega
theorem GR {p:Pg} (ho:p.iR) {f:Pc} (hf:f∈p.procs):f.fin.length≤900000:=by
 have h2:=Pc.dr hf
 have h3:=ho.procs.2.1
 simp only[Pc.size]at h2
 omega
theorem EE {p:Pg} (ho:p.iR) {f:Pc} (hf:f∈p.procs):(Sm.cU f.body).length≤900000:=by
 rw[← zl]
 have:=nE f.body
 have h2:=Pc.dr hf
 have h3:=ho.procs.2.1
 simp only[Pc.size]at h2
 omega
theorem acO {p:Pg} (ho:p.iR) (hb:p.may=true) {i:Nat} {f:Pc} (hf:p.procs[i]? = some f) (label:aE) (s:St) :
 aG Tryz.prog oI [.dt (fq p) 0, .int .i64 (i:Int), .str label] s (.tuple [.int .i64 (kQ f.fin label (Sm.cU f.body)).1, .bool (kQ f.fin label (Sm.cU f.body)).2]) s:=by
 refine aG.pure ?_ (by simp[D.bL,D.ok,tV]) rfl s
 obtain⟨rI,rn,rm⟩:=ho.procs
 have z6:=List.mem_of_getElem? hf
 have wE:=fun s=>acM hb hf (by omega) s
 have pO:=ry (i:Int) 0 (-1) 0 f.body
 have JC:=EE ho z6
 have vD:=GR ho z6
 have CJ:=fun s=>rl (l:=f.fin) (by omega) label s
 have qx:i<p.procs.length:=(List.getElem?_eq_some_iff.1 hf).1
 generalize hI:Sm.jI (i:Int) 0 (-1) 0 f.body=I at *
 have hIl:I.length≤900000:=by rw[← pO,List.length_map]at JC;exact JC
 obtain⟨R,hR⟩ : ∃ R,kQ f.fin label (Sm.cU f.body)=R:=⟨_,rfl⟩
 rw[hR]
 rw[← pO]at hR
 unfold S0
 refine aG.go Ci rfl fun B Q hB hQ=>?_
 have⟨hD,hY,hZ,gA⟩:=bX
 repeat' (first
 |simp only[go_sem,hD,hY,hZ,gA]
 |(with_reducible refine CU (wE _) ?_)
 |(with_reducible refine aF hQ ?_;exact bk))
 refine fm 0 0 (br.ind (ι:=List Im×Nat) (fun j=>I.drop j.2=j.1∧kQ f.fin label (j.1.map Im.s)=R) (fun j=>j.1.length)
  (fun j=> [(0, .dt (fq p) 0),(1, .int .i64 (i:Int)),(2, .str label),(12, .slice .shared 17 (I.map dq)),(13, .int .i64 (I.length:Int)),(14, .int .i64 (j.2:Int))]) (fun j=>⟨[],[]⟩) ?_ (I,0) ⟨rfl,hR⟩)
 clear hR
 rintro⟨rest,k⟩ ⟨h1,h2⟩ IH
 dsimp only at h1 h2
 cases rest with
 | nil=>
  have hD:=drop_nil h1
  simp only[List.map_nil,kQ]at h2
  rcases Bool.eq_false_or_eq_true (fj f.fin label)with c1|c1
  ·simp only [c1,if_true]at h2
   subst h2
   repeat' (first
 |simp only[go_sem,hD,hY,hZ,gA,nS,hf,c1]
 |(with_reducible refine CU (CJ _) ?_)
 | (with_reducible refine aF hQ ?_;exact bk))
  ·simp only [c1,Bool.false_eq_true,if_false]at h2
   subst h2
   repeat' (first
 |simp only[go_sem,hD,hY,hZ,gA,nS,hf,c1]
 |(with_reducible refine CU (CJ _) ?_)
 |(with_reducible refine aF hQ ?_;exact bk))
 | cons a rest=>
  obtain⟨hY,g2,hD,g4⟩:=drop_cons h1
  have cj:k<4611686018427387904:=by omega
  have Ew:a.s∈Sm.cU f.body:=by rw[← pO];exact List.mem_map_of_mem (List.mem_of_getElem? hY)
  have oE:=fun s=>rl (l:=a.s.labels) (by have:=JB ho z6 Ew;omega) label s
  simp only[List.map_cons,kQ]at h2
  rcases Bool.eq_false_or_eq_true (fj a.s.labels label)with c1|c1
  ·simp only [c1,if_true]at h2
   subst h2
   repeat' (first
 |simp only[go_sem,hD,hY,hZ,gA,c1]
 |(with_reducible refine CU (oE _) ?_)
 | (with_reducible refine aF hQ ?_;exact bk))
  ·simp only [c1,Bool.false_eq_true,if_false]at h2
   repeat' (first
 |simp only[go_sem,hD,hY,hZ,gA,c1]
 |(with_reducible refine CU (oE _) ?_)
 | (with_reducible refine aF hQ ?_;exact bk))
   refine fp 0 0 ?_ ?_ (IH (rest,k+1) ⟨g2,h2⟩ (Nat.lt_succ_self _))
   ·(simp only[go_sem,hD,hY,hZ,gA,aM cj];try exact cz)
   ·(simp only[go_sem,hD,hY,hZ,gA,aM cj];try exact cz)
theorem Za {p:Pg} (ho:p.iR) (hb:p.may=true) {i:Nat} {f:Pc} (hf:p.procs[i]? = some f) (m:Im) (hm:m.proc=(i:Int)) (s:St) :
 aG Tryz.prog vj [.dt (fq p) 0, .agg (dq m)] s (.bool (qg f.labels m.s m.loop)) s:=by
 refine aG.pure ?_ (by simp[D.bL,D.ok,tV,OD]) rfl s
 have qN:=fun s=>acO ho hb hf m.s.name s
 have acP:=Bt f.fin m.s.name (Sm.cU f.body)
 rw[← hm]at qN
 obtain⟨A,hA⟩ : ∃ A,kQ f.fin m.s.name (Sm.cU f.body)=A:=⟨_,rfl⟩
 rw[hA]at qN acP
 obtain⟨R,hR⟩ : ∃ R,qg f.labels m.s m.loop=R:=⟨_,rfl⟩
 rw[hR]
 unfold qg Pc.labels at hR
 unfold S0
 rcases Bool.eq_false_or_eq_true (m.s.kind==7)with c1|c1
 ·simp only [c1,Bool.true_or,if_true]at hR
  subst hR
  refine aG.go px rfl fun B Q hB hQ=>?_
  have⟨hD,hY,hZ,gA⟩:=bX
  repeat' (first
 |simp only[go_sem,hD,hY,hZ,gA,c1]
 |(with_reducible refine aF hQ ?_;exact bk))
 rcases Bool.eq_false_or_eq_true (m.s.kind==8)with c2|c2
 ·simp only [c1,c2,Bool.or_true,if_true]at hR
  subst hR
  refine aG.go px rfl fun B Q hB hQ=>?_
  have⟨hD,hY,hZ,gA⟩:=bX
  repeat' (first
 |simp only[go_sem,hD,hY,hZ,gA,c1,c2]
 |(with_reducible refine aF hQ ?_;exact bk))
 rcases Bool.eq_false_or_eq_true (m.s.kind==10)with c3|c3
 ·simp only [c1,c2,c3,Bool.or_self,Bool.false_eq_true,if_false,if_true, ← acP]at hR
  subst hR
  refine aG.go px rfl fun B Q hB hQ=>?_
  have⟨hD,hY,hZ,gA⟩:=bX
  repeat' (first
 |simp only[go_sem,hD,hY,hZ,gA,c1,c2,c3]
 |(with_reducible refine CU (qN _) ?_)
 |(with_reducible refine aF hQ ?_;exact bk))
 ·simp only [c1,c2,c3,Bool.or_self,Bool.false_eq_true,if_false]at hR
  subst hR
  refine aG.go px rfl fun B Q hB hQ=>?_
  have⟨hD,hY,hZ,gA⟩:=bX
  repeat' (first
 |simp only[go_sem,hD,hY,hZ,gA,c1,c2,c3]
 |(with_reducible refine aF hQ ?_;exact bk))
end Go.Abs
namespace Go.Abs
def EF (x:Int):Int:=IntKind.wrap .i64 x
def tZ (b:Bool):Int:=if b then 1 else 0
def OR (op a:Int):Int×Bool:=if op==3 then(EF (0 - a),true)else if op==4 then(tZ (a==0),true)else(0,false)
def OS (op a b:Int):Int×Bool:=
 if b==0 then(0,false)
 else if b == -1 then if op==7 then(0,true)else if a == -9223372036854775808 then(a,true)else(EF (0 - a),true)
 else if op==7 then(a.tmod b,true)else(EF (a.tdiv b),true)
def OT (op a b:Int):Int×Bool:=
 if op==10 then(tZ (decide (a<b)),true)else if op==11 then(tZ (decide (a≤b)),true)else if op==12 then(tZ (decide (a > b)),true)
 else if op==13 then(tZ (decide (a≥b)),true)else if op==14 then(tZ (a==b),true)else if op==15 then(tZ (!(a==b)),true)else(0,false)
def OU (op a b:Int):Int×Bool:=
 if op==8 then(EF (a+b),true)else if op==9 then(EF (a - b),true)else if op==5 then(EF (a*b),true)
 else if op==6 ||op==7 then OS op a b
 else if op==16 then(tZ (!(a==0) && !(b==0)),true)else if op==17 then(tZ (!(a==0) || !(b==0)),true)
 else OT op a b
def OV (name:aE) (names:List aE) (bM:List Int):Int:=if iW name 0 names≥0 then bM.getD (iW name 0 names).toNat 0 else 0
def HK (op:Int):List (Int×Bool)→Int×Bool
 | []=>(0,false)
 | [a]=>if a.2 then OR op a.1 else(0,false)
 |a::b::_=>if !a.2 then(0,false)else if op==16 && a.1==0 then(0,true)else if op==17 && !(a.1==0)then(1,true)else if !b.2 then(0,false)else OU op a.1 b.1
mutual
def Ex.val (names:List aE) (bM:List Int):Ex→Int×Bool
 |⟨op,n,name,kids⟩=>if op==1 then(n,true)else if op==2 then(OV name names bM,true)else HK op (Ex.OW names bM kids)
def Ex.OW (names:List aE) (bM:List Int):List Ex→List (Int×Bool)
 | []=> []
 |x::l=>x.val names bM::Ex.OW names bM l
end
def Ex.bg (x:Ex) (names:List aE) (bM:List Int):Int×Bool:=if x.may then x.val names bM else(0,false)
structure Fr where
 proc:Int
 names:List aE
 vars:List Nat
 call:Int
structure Mc where
 st:List Fr
 mem:List Int
 fin:Int
 steps:Int
 reads:Int
 out:List Int
 trace:List (Int×List Int)
def Mc.event (W:List Int) (m:Mc) (id:Int) (bM:List Int):Mc:=if W.contains id then {m with trace:=m.trace++ [(id,bM)]}else m
def Mc.top (m:Mc):Fr:=m.st.headD ⟨0,[],[],0⟩
def Mc.bM (m:Mc):List Int:=m.top.vars.map fun c=>m.mem.getD c 0
def Mc.cell (m:Mc) (name:aE):Nat:=m.top.vars.getD (iW name 0 m.top.names).toNat 0
def Mc.set (m:Mc) (name:aE) (v:Int):Mc:= {m with mem:=m.mem.set (m.cell name) v}
def Mc.bg (m:Mc) (x:Ex):(Int×Bool)×Mc:=
 let r:=x.bg m.top.names m.bM
 (r,if r.2 then m else {m with fin:=4})
def Mc.open (p:Pg) (m:Mc) (i:Int) (params:List Nat) (call:Int):Int×Mc:=
 match p.procs[i.toNat]? with
 |none=>(-1,m)
 |some f=>(fU f.body (-1),{m with st:=⟨i,p.globals++f.own,List.range p.globals.length++params++(List.range f.vars.length).map (m.mem.length + ·),call⟩::m.st,mem:=m.mem++List.replicate f.vars.length 0})
def fc (L:List Im) (id:Int):Im:=L.getD (id - 1).toNat ⟨IS,0,0,0,0⟩
def Mc.close (L:List Im) (m:Mc) (xl:Int):Int×Mc:=
 let call:=m.top.call
 let m:= {m with st:=m.st.tail}
 if call==0 then(-1,{m with fin:=1})
 else
  let it:=fc L call
  (it.next,if it.s.name == []then m else m.set it.s.name xl)
def Mc.e7 (W:List Int) (m:Mc) (s:Sm):Int×Mc:=
 if s.has then
  let r:=m.bg s.x
  (r.1.1,if r.1.2 then r.2.event W s.id [r.1.1]else r.2)
 else(0,m.event W s.id [])
def Mc.args:List Ar→Mc→List Nat→Option (List Nat)×Mc
 | [],m,out=>(some out,m)
 | a::l,m,out=>
  if a.ref then Mc.args l m (out++ [m.cell a.name])
  else
   let r:=m.bg a.x
   if r.1.2 then Mc.args l {r.2 with mem:=r.2.mem++ [r.1.1]} (out++ [r.2.mem.length])else(none,r.2)
def Mc.call (p:Pg) (W:List Int) (m:Mc) (s:Sm):Int×Mc:=
 match Mc.args s.args m []with
 |(none,m)=>(-1,m)
 |(some l,m)=>if m.st.length > 100 then(-1,{m with fin:=5})else(m.event W s.id []).open p (p.at s.proc) l s.id
def firstM (l:List Sm) (other:Int):Int:=fU l other
def Mc.do (p:Pg) (L:List Im) (tape W:List Int) (m:Mc) (it:Im):Int×Mc:=
 let s:=it.s
 if s.kind==7 then((fc L it.loop).next,m.event W s.id [])
 else if s.kind==8 then(it.loop,m.event W s.id [])
 else if s.kind==10 then((match p.procs[it.proc.toNat]? with|some f=>(kQ f.fin s.name (Sm.cU f.body)).1|none=>0),m.event W s.id [])
 else if s.kind==2 then
  match tape[m.reads.toNat]? with
  |none=>(-1,{m with fin:=3})
  |some n=>(it.next,(({m with reads:=m.reads+1} : Mc).set s.name n).event W s.id [n])
 else
  let r:=m.bg s.x
  if r.1.2 then
   let m:=r.2.event W s.id [r.1.1]
   let n:=r.1.1
   if s.kind==1 then(it.next,m.set s.name n)
   else if s.kind==3 then(it.next,{m with out:=m.out++ [n]})
   else if s.kind==5 then(if n==0 then firstM s.aX it.next else firstM s.a7 it.next,m)
   else if s.kind==6 then(if n==0 then it.next else firstM s.a7 s.id,m)
   else(it.next,m)
  else(-1,r.2)
def Mc.back (L:List Im) (m:Mc) (xl:Int):Option Int×Mc:=
 let r:=m.close L xl
 (if r.2.fin==0 then some r.1 else none,r.2)
def Mc.next (p:Pg) (L:List Im) (tape W:List Int) (fuel:Int) (at_:Int) (m:Mc):Option Int×Mc:=
 if at_ == -1 then m.back L 0
 else if m.steps==fuel then(none,{m with fin:=2})
 else
  let m:= {m with steps:=m.steps+1}
  let it:=fc L at_
  if it.s.kind==4 then
   let r:=m.call p W it.s
   (if r.2.fin==0 then some r.1 else none,r.2)
  else if it.s.kind==9 then
   let r:=m.e7 W it.s
   if r.2.fin==0 then r.2.back L r.1 else(none,r.2)
  else
   let r:=m.do p L tape W it
   (if r.2.fin==0 then some r.1 else none,r.2)
def Mc.go (p:Pg) (L:List Im) (tape W:List Int) (fuel:Int):Nat→Int→Mc→Option Mc
 | 0,_,_=>none
 |N+1,at_,m=>
  match m.next p L tape W fuel at_ with
  |(none,m)=>some m
  |(some a,m)=>Mc.go p L tape W fuel N a m
def jw (p:Pg):Mc:=⟨[],List.replicate p.globals.length 0,0,0,0,[],[]⟩
def runM (p:Pg) (tape W:List Int) (fuel:Int):Option Mc:=
 let r:=(jw p).open p (p.at iC) [] 0
 Mc.go p p.aT.L tape W fuel (2*fuel.toNat+3) r.1 r.2
theorem eJ (W:List Int) (m:Mc) (id:Int) (bM:List Int):(m.event W id bM).st=m.st∧(m.event W id bM).mem=m.mem∧(m.event W id bM).fin=m.fin∧(m.event W id bM).steps=m.steps∧(m.event W id bM).reads=m.reads∧(m.event W id bM).out=m.out:=by
 unfold Mc.event;split<;>exact⟨rfl,rfl,rfl,rfl,rfl,rfl⟩
theorem gw (m:Mc) (x:Ex):(m.bg x).2.st=m.st∧(m.bg x).2.mem=m.mem∧(m.bg x).2.steps=m.steps∧(m.bg x).2.reads=m.reads∧(m.bg x).2.out=m.out∧(m.bg x).2.trace=m.trace:=by
 unfold Mc.bg;dsimp only;split<;>exact⟨rfl,rfl,rfl,rfl,rfl,rfl⟩
theorem uP : ∀ (l:List Ar) (m:Mc) (out:List Nat),(Mc.args l m out).2.st=m.st∧(Mc.args l m out).2.steps=m.steps
 | [],m,out=>⟨rfl,rfl⟩
 | a::l,m,out=>by
  simp only[Mc.args]
  split
  ·exact uP l m _
  ·have h:=gw m a.x
   split
   ·have:=uP l {(m.bg a.x).2 with mem:=(m.bg a.x).2.mem++ [(m.bg a.x).1.1]} (out++ [(m.bg a.x).2.mem.length])
    exact⟨this.1.trans h.1,this.2.trans h.2.2.1⟩
   ·exact⟨h.1,h.2.2.1⟩
theorem yl (p:Pg) (m:Mc) (i:Int) (l:List Nat) (c:Int):(m.open p i l c).2.st.length≤m.st.length+1∧(m.open p i l c).2.steps=m.steps:=by
 unfold Mc.open;split
 ·exact⟨Nat.le_succ _,rfl⟩
 ·exact⟨Nat.le_refl _,rfl⟩
theorem LM (p:Pg) (W:List Int) (m:Mc) (s:Sm):(m.call p W s).2.st.length≤m.st.length+1∧(m.call p W s).2.steps=m.steps:=by
 have h:=uP s.args m []
 unfold Mc.call
 generalize Mc.args s.args m [] = r at *
 obtain⟨o,m1⟩:=r
 dsimp only at h
 cases o with
 |none=>dsimp only;rw[h.1,h.2];exact⟨Nat.le_succ _,rfl⟩
 | some l=>
  dsimp only
  split
  ·dsimp only;rw[h.1,h.2];exact⟨Nat.le_succ _,rfl⟩
  ·have h2:=yl p (m1.event W s.id []) (p.at s.proc) l s.id
   rw[(eJ ..).1,(eJ ..).2.2.2.1,h.1,h.2]at h2
   exact h2
theorem zn (W:List Int) (m:Mc) (s:Sm):(m.e7 W s).2.st=m.st∧(m.e7 W s).2.steps=m.steps:=by
 have h:=gw m s.x
 unfold Mc.e7
 dsimp only
 split
 ·split
  ·exact⟨(eJ ..).1.trans h.1,(eJ ..).2.2.2.1.trans h.2.2.1⟩
  ·exact⟨h.1,h.2.2.1⟩
 ·exact⟨(eJ ..).1,(eJ ..).2.2.2.1⟩
theorem OX (p:Pg) (L:List Im) (tape W:List Int) (m:Mc) (it:Im):(m.do p L tape W it).2.st=m.st∧(m.do p L tape W it).2.steps=m.steps:=by
 have h:=gw m it.s.x
 have e:=fun(m:Mc) id bM=>(⟨(eJ W m id bM).1,(eJ W m id bM).2.2.2.1⟩:(m.event W id bM).st=m.st∧(m.event W id bM).steps=m.steps)
 unfold Mc.do
 dsimp only
 repeat' split
 all_goals first
  |exact e ..
  |exact⟨rfl,rfl⟩
  |exact⟨(e ..).1.trans h.1,(e ..).2.trans h.2.2.1⟩
  |exact⟨h.1,h.2.2.1⟩
theorem JD (L:List Im) (m:Mc) (g:Int):(m.close L g).2.st=m.st.tail∧(m.close L g).2.steps=m.steps∧(m.st = []→(m.close L g).2.fin=1):=by
 unfold Mc.close
 dsimp only
 split
 ·exact⟨rfl,rfl,fun _=>rfl⟩
 ·rename_i hc
  refine⟨by split<;>rfl,by split<;>rfl,fun e=>absurd ?_ hc⟩
  simp[Mc.top,e]
theorem back_eq {L:List Im} {m:Mc} {g:Int} {a:Int} {m':Mc} (h:m.back L g=(some a,m')):m'.st.length<m.st.length∧m'.steps=m.steps:=by
 obtain⟨h1,h2,h3⟩:=JD L m g
 unfold Mc.back at h
 dsimp only at h
 split at h
 ·rename_i hf
  simp only[Prod.mk.injEq]at h
  rw[← h.2]
  refine⟨?_,h2⟩
  rw[h1,List.length_tail]
  cases e:m.st with
  |nil=>rw[h3 e]at hf;cases hf
  |cons x l=>simp
 ·simp at h
theorem LN {p:Pg} {L:List Im} {tape W:List Int} {fuel a a':Int} {m m':Mc} (hs:m.steps≤fuel) (h:m.next p L tape W fuel a=(some a',m')) :
 m'.steps≤fuel∧2*(fuel - m'.steps)+m'.st.length<2*(fuel - m.steps)+m.st.length:=by
 unfold Mc.next at h
 split at h
 ·have:=back_eq h;omega
 split at h
 ·simp at h
 rename_i eA
 have hD:m.steps<fuel:=by(have:m.steps≠fuel:=by simpa using eA);omega
 dsimp only at h
 split at h
 ·have h1:=LM p W {m with steps:=m.steps+1} (fc L a).s
  simp only[Prod.mk.injEq]at h
  rw[← h.2]
  dsimp only at h1
  omega
 split at h
 ·have h1:=zn W {m with steps:=m.steps+1} (fc L a).s
  dsimp only at h1
  split at h
  ·have h2:=back_eq h
   rw[h1.1,h1.2]at h2
   omega
  ·simp at h
 ·have h1:=OX p L tape W {m with steps:=m.steps+1} (fc L a)
  simp only[Prod.mk.injEq]at h
  rw[← h.2,h1.1,h1.2]
  dsimp only
  omega
theorem LO (p:Pg) (L:List Im) (tape W:List Int) (fuel:Int) : ∀ (N:Nat) (a:Int) (m:Mc),m.steps≤fuel→2*(fuel - m.steps)+m.st.length<N→∃ m',Mc.go p L tape W fuel N a m=some m'
 | 0,_,_,_,h=>by omega
 | N+1,a,m,hs,h=>by
  simp only[Mc.go]
  cases e:m.next p L tape W fuel a with
  | mk o m1=>
   cases o with
   |none=>exact⟨m1,rfl⟩
   |some a1=>
    have:=LN hs e
    exact LO p L tape W fuel N a1 m1 this.1 (by omega)
theorem GU (p:Pg) (tape W:List Int) {fuel:Int} (h:0≤fuel) : ∃ m,runM p tape W fuel=some m:=by
 unfold runM
 have h1:=yl p (jw p) (p.at iC) [] 0
 have e1:(jw p).st.length=0:=rfl
 have e2:(jw p).steps=0:=rfl
 rw[e1,e2]at h1
 exact LO p _ tape W fuel _ _ _ (by rw[h1.2];exact h) (by rw[h1.2];omega)
structure Grow (m m':Mc):Prop where
 trace : ∃ t,m'.trace=m.trace++t
 out : ∃ t,m'.out=m.out++t
 reads:m.reads≤m'.reads
 steps:m.steps≤m'.steps
def my (L:List Im) (a:Int):Prop:=a = -1∨(1≤a∧a≤(L.length:Int))
theorem nT {L:List Im} {a:Int} (h:my L a) (hn:a≠ -1):fc L a∈L:=by
 rcases h with h|⟨h1,h2⟩
 ·exact absurd h hn
 ·unfold fc
  rw[List.getD_eq_getElem?_getD,List.getElem?_eq_getElem (show(a - 1).toNat<L.length by omega)]
  exact List.getElem_mem _
structure wK (p:Pg) (L:List Im):Prop where
 id : ∀ x∈L,1≤x.s.id∧x.s.id≤(L.length:Int)
 next : ∀ x∈L,my L x.next
 loop : ∀ x∈L,x.s.kind=7∨x.s.kind=8→1≤x.loop∧x.loop≤(L.length:Int)
 FD : ∀ x∈L,x.s.kind=10→∃ f,p.procs[x.proc.toNat]? = some f∧my L (kQ f.fin x.s.name (Sm.cU f.body)).1
 a7 : ∀ x∈L,my L (fU x.s.a7 (-1))
 aX : ∀ x∈L,my L (fU x.s.aX (-1))
 nR : ∀ f∈p.procs,my L (fU f.body (-1))
def nU (L:List Im) (m:Mc):Prop:=∀ fr∈m.st,fr.call=0∨(1≤fr.call∧fr.call≤(L.length:Int))
theorem Dv {L:List Im} {l:List Sm} {o:Int} (h:my L (fU l (-1))) (ho:my L o):my L (firstM l o):=by
 cases l with
 |nil=>exact ho
 |cons s l=>exact h
theorem nU.of {L:List Im} {m m':Mc} (h:nU L m) (e:m'.st=m.st):nU L m':=by unfold nU;rw[e];exact h
def Told (L:List Im) (r:Option Int×Mc):Prop:=
 match r.1 with
 |some a=>my L a∧nU L r.2∧r.2.fin=0∧(r.2.trace.length:Int)=r.2.steps
 |none=>((r.2.fin=1∨r.2.fin=2)∧(r.2.trace.length:Int)=r.2.steps)∨((r.2.fin=3∨r.2.fin=4∨r.2.fin=5)∧(r.2.trace.length:Int)+1=r.2.steps)
theorem uL {W:List Int} {m:Mc} {id:Int} {bM:List Int} (h:W.contains id=true):(m.event W id bM).trace=m.trace++ [(id,bM)]∧(m.event W id bM).fin=m.fin:=by
 unfold Mc.event;rw[if_pos h];exact⟨rfl,rfl⟩
theorem Bu (m:Mc) (x:Ex) (h:m.fin=0):((m.bg x).1.2=true→(m.bg x).2.fin=0)∧((m.bg x).1.2=false→(m.bg x).2.fin=4):=by
 unfold Mc.bg
 dsimp only
 constructor
 ·intro e;rw[if_pos e];exact h
 ·intro e;rw[e];rfl
theorem GV {p:Pg} {L:List Im} (hL:wK p L) {m:Mc} {g:Int} (hs:nU L m) (hf:m.fin=0) (ht:(m.trace.length:Int)=m.steps):Told L (m.back L g):=by
 unfold Mc.back Mc.close
 dsimp only
 by_cases hc:(m.top.call==0)=true
 ·rw [if_pos hc]
  exact .inl ⟨.inl rfl,ht⟩
 ·rw [if_neg hc]
  have eA:m.top.call≠0:=by simpa using hc
  have OO:1≤m.top.call∧m.top.call≤(L.length:Int):=by
   cases e:m.st with
   |nil=>simp[Mc.top,e]at eA
   |cons fr l=>
    have:m.top=fr:=by simp[Mc.top,e]
    rw[this]at eA ⊢
    exact(hs fr (by rw[e];exact List.mem_cons_self ..)).resolve_left eA
  have gp:=nT (L:=L) (.inr OO) (by omega)
  have ja:nU L {m with st:=m.st.tail}:=fun fr rM=>hs fr (List.mem_of_mem_tail rM)
  have e0 : ∀ m1:Mc,m1.fin=0→(m1.fin==0)=true:=fun m1 h=>by rw[h];rfl
  split
  ·rw[if_pos (e0 _ hf)];exact⟨hL.next _ gp,ja,hf,ht⟩
  ·rw[if_pos (e0 _ (by exact hf))];exact⟨hL.next _ gp,ja.of rfl,hf,ht⟩
theorem zo : ∀ (l:List Ar) (m:Mc) (out:List Nat),m.fin=0→(Mc.args l m out).2.trace=m.trace∧(match (Mc.args l m out).1 with|some _=>(Mc.args l m out).2.fin=0|none=>(Mc.args l m out).2.fin=4)
 | [],m,out,h=>⟨rfl,h⟩
 | a::l,m,out,h=>by
  have hw:=Bu m a.x h
  have he:=gw m a.x
  simp only[Mc.args]
  by_cases c:a.ref=true
  ·rw[if_pos c];exact zo l m _ h
  ·rw [if_neg c]
   by_cases c2:(m.bg a.x).1.2=true
   ·rw [if_pos c2]
    obtain⟨h1,h2⟩:=zo l {(m.bg a.x).2 with mem:=(m.bg a.x).2.mem++ [(m.bg a.x).1.1]} (out++ [(m.bg a.x).2.mem.length]) (hw.1 c2)
    exact⟨h1.trans he.2.2.2.2.2,h2⟩
   ·rw [if_neg c2]
    exact⟨he.2.2.2.2.2,hw.2 (by simpa using c2)⟩
def Bv (L:List Im) (r:Int×Mc):Prop:=
 (r.2.fin=0∧my L r.1∧nU L r.2∧(r.2.trace.length:Int)=r.2.steps)∨((r.2.fin=3∨r.2.fin=4∨r.2.fin=5)∧(r.2.trace.length:Int)+1=r.2.steps)
theorem Bv.told {L:List Im} {r:Int×Mc} (h:Bv L r):Told L (if r.2.fin==0 then some r.1 else none,r.2):=by
 obtain⟨a,m⟩:=r
 rcases h with ⟨h1,h2,h3,h4⟩|⟨h1,h2⟩
 ·dsimp only at h1 h2 h3 h4 ⊢
  rw[if_pos (by rw[h1];rfl)]
  exact⟨h2,h3,h1,h4⟩
 ·dsimp only at h1 h2 ⊢
  rw[if_neg (by simp only[beq_iff_eq];omega)]
  exact .inr ⟨h1,h2⟩
theorem RN {p:Pg} {L:List Im} (hL:wK p L) {W:List Int} {m:Mc} {x:Im} (hx:x∈L) (hw:W.contains x.s.id=true) (hs:nU L m) (hf:m.fin=0) (ht:(m.trace.length:Int)+1=m.steps) :
 Bv L (m.call p W x.s):=by
 have h:=uP x.s.args m []
 have h2:=zo x.s.args m [] hf
 unfold Mc.call
 generalize Mc.args x.s.args m [] = r at *
 obtain⟨o,m1⟩:=r
 dsimp only at h h2
 cases o with
 |none=>
  dsimp only at h2 ⊢
  exact .inr ⟨.inr (.inl h2.2),by dsimp only;rw[h2.1,h.2];exact ht⟩
 | some l=>
  dsimp only at h2 ⊢
  by_cases c:m1.st.length > 100
  ·rw [if_pos c]
   exact .inr ⟨.inr (.inr rfl),by dsimp only;rw[h2.1,h.2];exact ht⟩
  ·rw [if_neg c]
   obtain⟨e1,e2⟩:=uL (m:=m1) (bM:= []) hw
   have e3:=eJ W m1 x.s.id []
   have uV:nU L (m1.event W x.s.id []):=hs.of (e3.1.trans h.1)
   have wy:((m1.event W x.s.id []).trace.length:Int)=(m1.event W x.s.id []).steps:=by
    rw[e1,e3.2.2.2.1,h2.1,h.2,List.length_append]
    simp only[List.length_cons,List.length_nil];omega
   have LC:(m1.event W x.s.id []).fin=0:=e2.trans h2.2
   unfold Mc.open
   cases hp:p.procs[(p.at x.s.proc).toNat]? with
   |none=>exact .inl ⟨LC, .inl rfl,uV,wy⟩
   |some f=>
    refine .inl ⟨LC,hL.nR f (List.mem_of_getElem? hp),fun fr rM=>?_,wy⟩
    rcases List.mem_cons.1 rM with rfl|rM
    ·exact .inr (hL.id x hx)
    ·exact uV fr rM
theorem OY {p:Pg} {L:List Im} (hL:wK p L) {W:List Int} {m:Mc} {x:Im} (hw:W.contains x.s.id=true) (hs:nU L m) (hf:m.fin=0) (ht:(m.trace.length:Int)+1=m.steps) :
 Told L (if(m.e7 W x.s).2.fin==0 then(m.e7 W x.s).2.back L (m.e7 W x.s).1 else(none,(m.e7 W x.s).2)):=by
 have he:=zn W m x.s
 have key:((m.e7 W x.s).2.fin=0∧((m.e7 W x.s).2.trace.length:Int)=(m.e7 W x.s).2.steps)∨((m.e7 W x.s).2.fin=4∧((m.e7 W x.s).2.trace.length:Int)+1=(m.e7 W x.s).2.steps):=by
  rw[he.2]
  unfold Mc.e7
  have RO:=Bu m x.s.x hf
  have GX:=gw m x.s.x
  by_cases c:x.s.has=true
  ·rw [if_pos c]
   dsimp only
   by_cases c2:(m.bg x.s.x).1.2=true
   ·rw [if_pos c2]
    obtain⟨e1,e2⟩:=uL (m:=(m.bg x.s.x).2) (bM:= [(m.bg x.s.x).1.1]) hw
    refine .inl ⟨e2.trans (RO.1 c2), ?_⟩
    rw[e1,GX.2.2.2.2.2,List.length_append]
    simp only[List.length_cons,List.length_nil];omega
   ·rw [if_neg c2]
    exact .inr ⟨RO.2 (by simpa using c2),by rw[GX.2.2.2.2.2];exact ht⟩
  ·rw [if_neg c]
   obtain⟨e1,e2⟩:=uL (m:=m) (bM:= []) hw
   refine .inl ⟨e2.trans hf, ?_⟩
   dsimp only
   rw[e1,List.length_append]
   simp only[List.length_cons,List.length_nil];omega
 generalize m.e7 W x.s=r at *
 rcases key with ⟨k1,k2⟩|⟨k1,k2⟩
 ·rw [if_pos (by rw [k1];rfl)]
  exact GV hL (hs.of he.1) k1 k2
 ·rw [if_neg (by simp only [beq_iff_eq];omega)]
  exact .inr ⟨.inr (.inl k1),k2⟩
theorem Zb {p:Pg} {L:List Im} (hL:wK p L) {tape W:List Int} {m:Mc} {x:Im} (hx:x∈L) (hw:W.contains x.s.id=true) (hs:nU L m) (hf:m.fin=0) (ht:(m.trace.length:Int)+1=m.steps) :
 Bv L (m.do p L tape W x):=by
 have go : ∀ {m1:Mc} {a:Int} {bM:List Int},m1.trace=m.trace→m1.steps=m.steps→m1.st=m.st→m1.fin=0→my L a→Bv L (a,m1.event W x.s.id bM):=fun {m1 a bM} e1 e2 e3 e4 ha=>by
  obtain⟨g1,g2⟩:=uL (m:=m1) (bM:=bM) hw
  have g3:=eJ W m1 x.s.id bM
  refine .inl ⟨g2.trans e4,ha,hs.of (g3.1.trans e3), ?_⟩
  dsimp only
  rw[g1,g3.2.2.2.1,e1,e2,List.length_append]
  simp only[List.length_cons,List.length_nil];omega
 have RO:=Bu m x.s.x hf
 have GX:=gw m x.s.x
 have hid:=hL.id x hx
 unfold Mc.do
 dsimp only
 split
 ·rename_i c
  have hl:=hL.loop x hx (.inl (by simpa using c))
  exact go rfl rfl rfl hf (hL.next _ (nT (.inr hl) (by omega)))
 split
 ·rename_i c
  exact go rfl rfl rfl hf (.inr (hL.loop x hx (.inr (by simpa using c))))
 split
 ·rename_i c
  obtain⟨f,h1,h2⟩:=hL.FD x hx (by simpa using c)
  rw[h1]
  exact go rfl rfl rfl hf h2
 split
 ·split
  ·exact .inr ⟨.inl rfl,ht⟩
  ·exact go rfl rfl rfl hf (hL.next x hx)
 ·by_cases c2:(m.bg x.s.x).1.2=true
  ·rw [if_pos c2]
   have base:=fun(a:Int) (ha:my L a)=>go (m1:=(m.bg x.s.x).2) (a:=a) (bM:= [(m.bg x.s.x).1.1]) GX.2.2.2.2.2 GX.2.2.1 GX.1 (RO.1 c2) ha
   have same : ∀ {a:Int} {m1 m2:Mc},Bv L (a,m1)→m2.fin=m1.fin→m2.st=m1.st→m2.trace=m1.trace→m2.steps=m1.steps→Bv L (a,m2):=fun {a m1 m2} h q1 q2 q3 q4=>by
    unfold Bv nU at *
    dsimp only at *
    rw[q1,q2,q3,q4];exact h
   split
   ·exact same (base _ (hL.next x hx)) rfl rfl rfl rfl
   split
   ·exact same (base _ (hL.next x hx)) rfl rfl rfl rfl
   split
   ·refine base _ ?_
    split
    ·exact Dv (hL.aX x hx) (hL.next x hx)
    ·exact Dv (hL.a7 x hx) (hL.next x hx)
   split
   ·refine base _ ?_
    split
    ·exact hL.next x hx
    ·exact Dv (hL.a7 x hx) (.inr hid)
   ·exact base _ (hL.next x hx)
  ·rw [if_neg c2]
   exact .inr ⟨.inr (.inl (RO.2 (by simpa using c2))),by dsimp only;rw[GX.2.2.2.2.2,GX.2.2.1];exact ht⟩
theorem Bw {p:Pg} {L:List Im} (hL:wK p L) {tape W:List Int} (hW : ∀ x∈L,W.contains x.s.id=true) {fuel a:Int} {m:Mc} (ha:my L a) (hs:nU L m) (hf:m.fin=0) (ht:(m.trace.length:Int)=m.steps) :
 Told L (m.next p L tape W fuel a):=by
 unfold Mc.next
 by_cases c1:(a == -1)=true
 ·rw[if_pos c1];exact GV hL hs hf ht
 ·rw [if_neg c1]
  by_cases c2:(m.steps==fuel)=true
  ·rw[if_pos c2];exact .inl ⟨.inr rfl,ht⟩
  ·rw [if_neg c2]
   have hx:=nT ha (by simpa using c1)
   have mQ:nU L {m with steps:=m.steps+1}:=hs.of rfl
   have D0:((({m with steps:=m.steps+1} : Mc).trace.length:Nat):Int)+1=({m with steps:=m.steps+1} : Mc).steps:=by dsimp only;omega
   dsimp only
   split
   ·exact(RN hL hx (hW _ hx) mQ hf D0).told
   split
   ·exact OY hL (hW _ hx) mQ hf D0
   ·exact(Zb hL hx (hW _ hx) mQ hf D0).told
def U0 (m:Mc):Prop:=((m.fin=1∨m.fin=2)∧(m.trace.length:Int)=m.steps)∨((m.fin=3∨m.fin=4∨m.fin=5)∧(m.trace.length:Int)+1=m.steps)
theorem LP {p:Pg} {L:List Im} (hL:wK p L) {tape W:List Int} (hW : ∀ x∈L,W.contains x.s.id=true) {fuel:Int} : ∀ (N:Nat) (a:Int) (m m':Mc),my L a→nU L m→m.fin=0→(m.trace.length:Int)=m.steps→
 Mc.go p L tape W fuel N a m=some m'→U0 m'
 | 0,_,_,_,_,_,_,_,h=>by simp[Mc.go]at h
 |N+1,a,m,m',ha,hs,hf,ht,h=>by
  have hn:=Bw (fuel:=fuel) (tape:=tape) hL hW ha hs hf ht
  simp only[Mc.go]at h
  split at h
  ·rename_i m1 e;rw[e]at hn;cases h;exact hn
  ·rename_i a1 m1 e;rw[e]at hn;exact LP hL hW N a1 m1 m' hn.1 hn.2.1 hn.2.2.1 hn.2.2.2 h
theorem Dw {p:Pg} {L:List Im} (hL:wK p L):my L ((jw p).open p (p.at iC) [] 0).1∧nU L ((jw p).open p (p.at iC) [] 0).2∧((jw p).open p (p.at iC) [] 0).2.fin=0∧
 ((((jw p).open p (p.at iC) [] 0).2.trace.length:Nat):Int)=((jw p).open p (p.at iC) [] 0).2.steps:=by
 unfold Mc.open
 cases hp:p.procs[(p.at iC).toNat]? with
 |none=>exact⟨.inl rfl,fun fr h=>by simp[jw]at h,rfl,rfl⟩
 |some f=>
  refine⟨hL.nR f (List.mem_of_getElem? hp),fun fr h=>?_,rfl,rfl⟩
  rcases List.mem_cons.1 h with rfl|h
  ·exact .inl rfl
  ·simp[jw]at h
theorem RP {p:Pg} (hL:wK p p.aT.L) {tape W:List Int} (hW : ∀ x∈p.aT.L,W.contains x.s.id=true) {fuel:Int} {m:Mc} (h:runM p tape W fuel=some m):U0 m:=by
 obtain⟨h1,h2,h3,h4⟩:=Dw hL
 exact LP hL hW _ _ _ _ h1 h2 h3 h4 h
theorem JE (p:Pg) (L:List Im) (tape W:List Int) {fuel:Int} : ∀ (N:Nat) (a:Int) (m m':Mc),m.steps≤fuel→Mc.go p L tape W fuel N a m=some m'→m'.steps≤fuel
 | 0,_,_,_,_,h=>by simp[Mc.go]at h
 | N+1,a,m,m',hs,h=>by
  simp only[Mc.go]at h
  cases e:m.next p L tape W fuel a with
  | mk o m1=>
   rw[e]at h
   cases o with
   |some a1=>exact JE p L tape W N a1 m1 m' (LN hs e).1 h
   | none=>
    cases h
    unfold Mc.next at e
    have hb : ∀ {m:Mc} {g:Int} {o:Option Int} {m2:Mc},m.back L g=(o,m2)→m2.steps=m.steps:=fun {m g o m2} h=>by
     have:=(JD L m g).2.1
     unfold Mc.back at h
     simp only[Prod.mk.injEq]at h
     rw[← h.2];exact this
    split at e
    ·rw[hb e];exact hs
    split at e
    ·simp only[Prod.mk.injEq,true_and]at e;rw[← e];exact hs
    rename_i eA
    have hD:m.steps<fuel:=by(have:m.steps≠fuel:=by simpa using eA);omega
    dsimp only at e
    split at e
    ·have h1:=(LM p W {m with steps:=m.steps+1} (fc L a).s).2
     simp only[Prod.mk.injEq]at e
     rw[← e.2,h1];dsimp only;omega
    split at e
    ·have h1:=(zn W {m with steps:=m.steps+1} (fc L a).s).2
     split at e
     ·rw[hb e,h1];dsimp only;omega
     ·simp only[Prod.mk.injEq,true_and]at e;rw[← e,h1];dsimp only;omega
    ·have h1:=(OX p L tape W {m with steps:=m.steps+1} (fc L a)).2
     simp only[Prod.mk.injEq]at e
     rw[← e.2,h1];dsimp only;omega
def CN (a b t:aE):aE:=if t==a then b else if t==b then a else t
mutual
def Ex.swap (a b:aE):Ex→Ex
 |⟨op,n,name,kids⟩=>⟨op,n,CN a b name,Ex.zp a b kids⟩
def Ex.zp (a b:aE):List Ex→List Ex
 | []=> []
 |x::l=>x.swap a b::Ex.zp a b l
end
def Ar.swap (a b:aE) (x:Ar):Ar:=⟨x.ref,CN a b x.name,x.x.swap a b⟩
mutual
def Sm.swap (a b:aE):Sm→Sm
 |⟨id,kind,labels,name,proc,x,has,args,a7,aX⟩=>⟨id,kind,labels.map (CN a b),CN a b name,CN a b proc,x.swap a b,has,args.map (Ar.swap a b),Sm.zp a b a7,Sm.zp a b aX⟩
def Sm.zp (a b:aE):List Sm→List Sm
 | []=> []
 |s::l=>s.swap a b::Sm.zp a b l
end
def Pm.swap (a b:aE) (x:Pm):Pm:=⟨CN a b x.name,x.ref⟩
def Pc.swap (a b:aE) (f:Pc):Pc:=⟨CN a b f.name,f.params.map (Pm.swap a b),f.vars.map (CN a b),Sm.zp a b f.body,f.fin.map (CN a b)⟩
def Pg.swap (a b:aE) (p:Pg):Pg:=⟨p.globals.map (CN a b),p.procs.map (Pc.swap a b)⟩
def It.swap (a b:aE) (i:It):It:=⟨i.s.swap a b,i.deep,i.dg,i.aX⟩
def Xm:List Sm→List aE
 | []=> []
 |v::l=>v.said++Xm l
def agH (p:Pg):List aE→List aE
 | []=> []
 |n::l=>Xm (tq p n)++agH p l
set_option maxRecDepth 8000
open Go.Proofs
def pA (nm:aE) (T:List aE) (seen:List aE):List Ar→Bool
 | []=>true
 |a::l=>if a.ref then(if fj seen a.name ||(a.name==nm ||fj T a.name)then false else pA nm T (seen++ [a.name]) l)else pA nm T seen l
def apM (T:List aE) (seen:List aE):List Ar→Bool
 | []=>true
 |a::l=>if a.ref then(if fj seen a.name ||fj T a.name then false else apM T (seen++ [a.name]) l)else apM T seen l
def Sm.amK (v:Sm):List aE:=if v.name != []then [v.name]else []
theorem U1 {v:Sm} (AY:v.args.length<1000000000) {T:List aE} (hT:T.length<4611686018427387904) (s:St) :
 aG Tryz.prog rY [.agg (bm v), .slice .shared 1 (T.map encStr)] s (.bool (pA v.name T [] v.args)) s:=by
 refine aG.pure ?_ (by simp[D.bL,D.ok,qT,Tag.ok,eU]) rfl s
 generalize hR:pA v.name T [] v.args=R
 have Xn:=fun x s=>rl hT x s
 unfold S0
 refine aG.go Dj rfl fun B Q hB hQ=>?_
 have⟨hD,hY,hZ,gA⟩:=bX
 repeat' (first
 |simp only[go_sem,hD,hY,hZ,gA]
 |(with_reducible refine aF hQ ?_;exact bk))
 refine br.w6 5 1 rfl ?_
 simp only[go_sem,hD,hY,hZ,gA]
 refine fm 1 1 (br.ind (ι:=List Ar×Nat×List aE×Nat) (fun i=>v.args.drop i.2.1=i.1∧pA v.name T i.2.2.1 i.1=R∧i.2.2.1.length≤i.2.1∧i.2.2.2=i.2.2.1.length) (fun i=>i.1.length)
  (fun i=> [(1, .slice .shared 1 (T.map encStr)),(2, .ptr 0 0),(5, .slice (.tok 0) 1 (i.2.2.1.map encStr)),(9, .slice .shared 6 (v.args.map ek)),(10, .int .i64 (v.args.length:Int)),(11, .int .i64 (i.2.1:Int))]) (fun i=>⟨[bm v],[some i.2.2.2]⟩) ?_ (v.args,0,[],0) ⟨rfl,hR,Nat.le_refl _,rfl⟩)
 clear hR
 rintro⟨rest,k,seen,n'⟩ ⟨h1,h2,h3,h4⟩ IH
 dsimp only at h1 h2 h3 h4
 subst h4
 cases rest with
 |nil=>
  have hD:=drop_nil h1
  simp only[pA]at h2
  subst h2
  repeat' (first
 |simp only[go_sem,hD,hY,hZ,gA]
 |(with_reducible refine aF hQ ?_;exact bk))
 | cons a rest=>
  obtain⟨hY,g2,hD,g4⟩:=drop_cons h1
  have cj:k<4611686018427387904:=by omega
  have hZ:(seen.length+1)*17≤bJ:=by unfold bJ;omega
  have nC:=fun g s=>ju (l:=seen) (by omega) a.name g s
  simp only[pA]at h2
  rcases Bool.eq_false_or_eq_true a.ref with c1|c1
  case inr=>
   simp only[c1,Bool.false_eq_true,if_false]at h2
   repeat' (first
 |simp only[go_sem,hD,hY,hZ,gA,c1,Bool.not_false]
 | (with_reducible refine aF hQ ?_;exact bk))
   refine fp 1 1 ?_ ?_ (IH (rest,k+1,seen,_) ⟨g2,h2,by dsimp only;omega,rfl⟩ (Nat.lt_succ_self _))
   ·(simp only[go_sem,hD,hY,hZ,gA,aM cj];try exact cz)
   ·(simp only[go_sem,hD,hY,hZ,gA,aM cj];try exact cz)
  simp only[c1,if_true]at h2
  rcases Bool.eq_false_or_eq_true (fj seen a.name)with c2|c2
  ·simp only [c2,Bool.true_or,if_true]at h2
   subst h2
   repeat' (first
 |simp only[go_sem,hD,hY,hZ,gA,c1,c2,Bool.not_true]
 |(with_reducible refine CU (nC _ _) ?_)
 |(with_reducible refine CU (Xn _ _) ?_)
 | (with_reducible refine aF hQ ?_;exact bk))
  rcases Bool.eq_false_or_eq_true (a.name==v.name)with c3|c3
  ·simp only [c2,c3,Bool.false_or,Bool.true_or,if_true]at h2
   subst h2
   repeat' (first
 |simp only[go_sem,hD,hY,hZ,gA,c1,c2,c3,Bool.not_true]
 |(with_reducible refine CU (nC _ _) ?_)
 |(with_reducible refine CU (Xn _ _) ?_)
 | (with_reducible refine aF hQ ?_;exact bk))
  rcases Bool.eq_false_or_eq_true (fj T a.name)with c4|c4
  ·simp only [c2,c3,c4,Bool.false_or,if_true]at h2
   subst h2
   repeat' (first
 |simp only[go_sem,hD,hY,hZ,gA,c1,c2,c3,c4,Bool.not_true]
 |(with_reducible refine CU (nC _ _) ?_)
 |(with_reducible refine CU (Xn _ _) ?_)
 | (with_reducible refine aF hQ ?_;exact bk))
  ·simp only [c2,c3,c4,Bool.false_or,Bool.false_eq_true,if_false]at h2
   repeat' (first
 |simp only[go_sem,hD,hY,hZ,gA,c1,c2,c3,c4,Bool.not_true]
 |(with_reducible refine CU (nC _ _) ?_)
 |(with_reducible refine CU (Xn _ _) ?_)
 | (with_reducible refine aF hQ ?_;exact bk))
   refine fp 1 1 ?_ ?_ (IH (rest,k+1,seen++ [a.name],seen.length+1) ⟨g2,h2,by simp;omega,by simp⟩ (Nat.lt_succ_self _))
   ·(simp only[go_sem,hD,hY,hZ,gA,aM cj,List.map_append,List.map_cons,List.map_nil,encStr];try exact cz)
   ·(simp only[go_sem,hD,hY,hZ,gA,aM cj,List.map_append,List.map_cons,List.map_nil,encStr];try exact cz)
def nn (p:Pg):List Pc→List D
 | []=> []
 |f::l=> .str f.name:: .slice .shared 1 ((p.p9 f.name).map encStr)::nn p l
theorem RQ (p:Pg) : ∀ l,D.bL 0 0 (nn p l)=true
 | []=>rfl
 |f::l=>by simp only[nn,D.bL,D.ok,Tag.ok,eU,RQ p l];rfl
theorem Zc (n m:Nat) (p:Pg) (l:List Pc):D.gh n m (nn p l)=nn p l:=gQ n m _ (RQ p l)
attribute [go_sem] Zc
theorem JF (p:Pg) : ∀ l m,nn p (l++m)=nn p l++nn p m
 | [],m=>rfl
 |f::l,m=>by simp only[List.cons_append,nn,JF p l m]
theorem JG {p:Pg} {nm:aE} {d:D} : ∀ {l:List Pc},nm∉l.map (·.name)→wQ nm d (nn p l)=some (nn p l++ [.str nm,d])
 | [],_=>rfl
 |f::l,h=>by
  simp only[List.map_cons,List.mem_cons,not_or]at h
  have:(f.name==nm)=false:=by simpa using fun e=>h.1 e.symm
  simp only[nn,wQ,this,Bool.false_eq_true,if_false,JG h.2,List.cons_append]
theorem JH {p:Pg} {nm:aE} {z:D} : ∀ {l:List Pc} {f:Pc},iM nm l=some f→yv nm z (nn p l)=some (.slice .shared 1 ((p.p9 nm).map encStr))
 | g::l,f,h=>by
  simp only[iM]at h
  simp only[nn,yv]
  split at h
  ·rename_i e
   rw[if_pos e,eq_of_beq e]
  ·rename_i e
   rw[if_neg e]
   exact JH h
theorem Zd (l:List aE) : ∀ (s:List aE),p7 s l=false→∀ a x b,l=a++x::b→x∉s++a:=by
 induction l with
 |nil=>intro s _ a x b e;cases a<;>cases e
 | cons y l ih=>
  intro s h a x b e
  simp only[p7]at h
  split at h
  ·cases h
  ·rename_i hy
   cases a with
   |nil=>cases e;simpa[← iX]using hy
   |cons z a=>
    cases e
    have:=ih (s++ [y]) h a x b rfl
    simpa using this
end Go.Abs
namespace Go.Abs
set_option maxRecDepth 8000
open Go.Proofs
theorem JI {p:Pg} (h:(p.arity.1==0)=true):(p.scope.1==0)=true∧∀ v∈p.pre,(v.kind==4)=true→v.qf p=true:=by
 unfold Pg.arity at h
 split at h
 ·rename_i e
  refine⟨e,fun v hv hk=>?_⟩
  have : ∀ l:List Sm,((p8 6 (Jr p l)).1==0)=true→∀ v∈l,(v.kind==4)=true→v.qf p=true:=by
   intro l
   induction l with
   |nil=>intro _ v m;cases m
   | cons a l ih=>
    intro h v m hk
    simp only[Jr]at h
    split at h
    ·cases h
    ·rename_i c
     rcases List.mem_cons.1 m with rfl|m
     ·simpa[hk]using c
     ·exact ih h v m hk
  exact this _ h v hv hk
 ·cases h
theorem GY {p:Pg} {v:Sm} (h:v.qf p=true) : ∃ f,p.find v.proc=some f:=by
 unfold Sm.qf at h
 cases e:p.find v.proc with
 |some f=>exact⟨f,rfl⟩
 |none=>rw[e]at h;simp at h
theorem JK : ∀ {l:List It} {n:Nat} {i:It},It.fI n l=true→i∈l→i.s.one=true
 | j::l,n,i,h,m=>by
  simp only[It.fI]at h
  split at h
  ·cases h
  ·rename_i c
   simp only[Bool.or_eq_true,not_or,Bool.not_eq_true',Bool.not_eq_false]at c
   rcases List.mem_cons.1 m with rfl|m
   ·exact c.2
   ·exact JK h m
theorem LQ {p:Pg} (h:p.may=true) : ∀ v∈p.pre,v.one=true:=fun v m=>by
 rw[← (zc h).2,List.mem_map]at m
 obtain⟨i,hi,rfl⟩:=m
 exact JK (FC h).2 hi
def Sm.ym (p:Pg) (v:Sm):Bool:=pA v.name (p.p9 v.proc) [] v.args
def JL (p:Pg):List Sm→Option Sm
 | []=>none
 |v::l=>if v.kind==4 && !(v.ym p)then some v else JL p l
def Pg.alias (p:Pg):Int×Int:=if p.arity.1==0 then p8 8 (JL p p.pre)else(1,0)
theorem JM {p:Pg} (h:p.iR) (nm:aE):(p.p9 nm).length<4611686018427387904:=by
 unfold Pg.p9
 cases hs:p.zf nm with
 |none=>dsimp only;decide
 |some f=>
  obtain⟨nF,hf⟩:=GN hs
  have h1:=(Jz nF hf).len
  have h2:=h.procs
  have h3:=(zj h (kb (p.work nm)) []).2
  have h4:(kb (p.work nm)).length*1800000≤900000*1800000:=Nat.mul_le_mul_right _ (by omega)
  have h5:(kb (p.sh nm)).length≤(p.sh nm).length:=wF _ _ (uH (l6 _).1) fun x m=>((l6 _).2 x).1 m
  dsimp only
  unfold Pg.sh at *
  simp only[List.length_nil]at h3
  omega
theorem OZ {v:Sm} (hv:v.nh):v.args.length<1000000000:=by have:=Ar.eW v.args;have:=hv.2.2;omega
theorem RR {p:Pg} (h:p.iR) (s:St):aG Tryz.prog tL [.agg (cB p)] s (.agg [.int .i64 p.alias.1, .int .i64 p.alias.2]) s:=by
 refine aG.pure ?_ (by simp[D.bL,D.ok,ki]) rfl s
 obtain⟨rI,rn,rm⟩:=h.procs
 have pB:=fun s=>Js h s
 have da:=fun s=>BW (p:=p) (by omega) s
 have hL:=(kX p).1
 have Gw:=o7 p
 generalize hR:p.alias=R
 simp only[Pg.alias]at hR
 unfold S0
 have b0:(p.arity.1 != 0) = !(p.arity.1==0):=rfl
 rcases Bool.eq_false_or_eq_true (p.arity.1==0)with b1|b1
 case inr=>
  rw[b1]at b0
  simp only[b1,Bool.false_eq_true,if_false]at hR
  subst hR
  refine aG.go wo rfl fun B Q hB hQ=>?_
  have⟨hD,hY,hZ,gA⟩:=bX
  repeat' (first
 |simp only[go_sem,hD,hY,hZ,gA,b0,Bool.not_false]
 |(with_reducible refine CU (pB _) ?_)
 |(with_reducible refine aF hQ ?_;exact bk))
 rw[b1]at b0
 obtain⟨nF,jf⟩:=JI b1
 have htw:=(Dq nF).2.1
 simp only[b1,if_true, ← hL]at hR
 refine aG.go wo rfl fun B Q hB hQ=>?_
 have⟨hD,hY,hZ,gA⟩:=bX
 repeat' (first
 |simp only[go_sem,hD,hY,hZ,gA,b0,Bool.not_true]
 |(with_reducible refine CU (pB _) ?_)
 |(with_reducible refine aF hQ ?_;exact bk))
 refine fp 3 0 ?_ ?_ (br.ind (ι:=List Pc×Nat×List Pc) (fun i=>p.procs.drop i.2.1=i.1∧p.procs=i.2.2++i.1) (fun i=>i.1.length)
  (fun i=> [(1, .ptr 0 0),(2, .ptr 1 0),(3, .fL 2),(15, .slice .shared 5 (p.procs.map cf)),(16, .int .i64 (p.procs.length:Int)),(17, .int .i64 (i.2.1:Int))]) (fun i=>⟨[cB p,[.int .i64 0, .int .i64 0],nn p i.2.2],[]⟩) ?_ (p.procs,0,[]) ⟨rfl,rfl⟩)
 ·(simp only[go_sem,hD,hY,hZ,gA,nn];try exact cz)
 ·(simp only[go_sem,hD,hY,hZ,gA,nn];try exact cz)
 rintro⟨rest,k,done⟩ ⟨h1,h2⟩ IH
 dsimp only at h1 h2
 cases rest with
 | cons a rest=>
  obtain⟨hY,g2,hD,g4⟩:=drop_cons h1
  have cj:k<4611686018427387904:=by omega
  have xG:=fun s=>RF h a.name s
  have hnm:a.name∉done.map (·.name):=by
   have:=Zd _ [] htw (done.map (·.name)) a.name (rest.map (·.name)) (by simp[Pg.pn,h2])
   simpa using this
  have hmp:wQ a.name (.slice .shared 1 ((p.p9 a.name).map encStr)) (nn p done)=some (nn p (done++ [a])):=by
   rw[JG hnm,JF];rfl
  repeat' (first
 |simp only[go_sem,hD,hY,hZ,gA,hmp]
 |(with_reducible refine CU (xG _) ?_)
 |(with_reducible refine aF hQ ?_;exact bk))
  refine fp 3 0 ?_ ?_ (IH (rest,k+1,done++ [a]) ⟨g2,by rw[h2];simp⟩ (Nat.lt_succ_self _))
  ·(simp only[go_sem,hD,hY,hZ,gA,aM cj];try exact cz)
  ·(simp only[go_sem,hD,hY,hZ,gA,aM cj];try exact cz)
 |nil=>
  have hD:=drop_nil h1
  rw[List.append_nil]at h2
  subst h2
  repeat' (first
 |simp only[go_sem,hD,hY,hZ,gA,nS]
 |(with_reducible refine CU (da _) ?_)
 | (with_reducible refine aF hQ ?_;exact bk))
  refine fm 3 0 (br.ind (ι:=List Im×Nat) (fun i=>p.aT.L.drop i.2=i.1∧p8 8 (JL p (i.1.map Im.s))=R) (fun i=>i.1.length)
   (fun i=> [(1, .ptr 0 0),(2, .ptr 1 0),(3, .fL 2),(33, .slice .shared 17 (p.aT.L.map dq)),(34, .int .i64 (p.aT.L.length:Int)),(35, .int .i64 (i.2:Int))]) (fun i=>⟨[cB p,[.int .i64 0, .int .i64 0],nn p p.procs],[]⟩) ?_ (p.aT.L,0) ⟨rfl,hR⟩)
  clear hR
  rintro⟨rest,k⟩ ⟨h1,hR⟩ IH
  dsimp only at h1 hR
  cases rest with
  |nil=>
   have hD:=drop_nil h1
   simp only[List.map_nil,JL,p8]at hR
   subst hR
   repeat' (first
 |simp only[go_sem,hD,hY,hZ,gA]
 | (with_reducible refine aF hQ ?_;exact bk))
  | cons a rest=>
   obtain⟨hY,g2,hD,g4⟩:=drop_cons h1
   have cj:k<4611686018427387904:=by omega
   have Ew:a.s∈p.pre:=by rw[← hL];exact List.mem_map_of_mem (List.mem_of_getElem? hY)
   have uV:=fun s=>U1 (OZ (h.pre _ Ew)) (JM h a.s.proc) s
   simp only[List.map_cons,JL,Sm.ym]at hR
   rcases Bool.eq_false_or_eq_true (a.s.kind==4)with c1|c1
   ·obtain⟨f,hf⟩:=GY (jf _ Ew c1)
    have hmg:=fun z=>JH (p:=p) (z:=z) hf
    rcases Bool.eq_false_or_eq_true (pA a.s.name (p.p9 a.s.proc) [] a.s.args)with c2|c2
    ·simp only [c1,c2,Bool.not_true,Bool.and_false,Bool.false_eq_true,if_false]at hR
     repeat' (first
 |simp only[go_sem,hD,hY,hZ,gA,c1,c2,hmg]
 |(with_reducible refine CU (uV _) ?_)
 | (with_reducible refine aF hQ ?_;exact bk))
     refine fp 3 0 ?_ ?_ (IH (rest,k+1) ⟨g2,hR⟩ (Nat.lt_succ_self _))
     ·(simp only[go_sem,hD,hY,hZ,gA,aM cj];try exact cz)
     ·(simp only[go_sem,hD,hY,hZ,gA,aM cj];try exact cz)
    ·simp only [c1,c2,Bool.not_false,Bool.and_true,if_true,p8]at hR
     subst hR
     repeat' (first
 |simp only[go_sem,hD,hY,hZ,gA,c1,c2,hmg]
 |(with_reducible refine CU (uV _) ?_)
 | (with_reducible refine aF hQ ?_;exact bk))
   ·simp only [c1,Bool.false_and,Bool.false_eq_true,if_false]at hR
    repeat' (first
 |simp only[go_sem,hD,hY,hZ,gA,c1]
 |(with_reducible refine CU (uV _) ?_)
 | (with_reducible refine aF hQ ?_;exact bk))
    refine fp 3 0 ?_ ?_ (IH (rest,k+1) ⟨g2,hR⟩ (Nat.lt_succ_self _))
    ·(simp only[go_sem,hD,hY,hZ,gA,aM cj];try exact cz)
    ·(simp only[go_sem,hD,hY,hZ,gA,aM cj];try exact cz)
def Sm.acT (p:Pg) (v:Sm):Bool:=v.qf p && apM (p.p9 v.proc) v.amK v.args
def apF (p:Pg):List Sm→Option Sm
 | []=>none
 |v::l=>if v.kind==4 && !(v.acT p)then some v else apF p l
def rd0 (l:List pV):Rd:=⟨l,0,0,0,0⟩
def atO (m:Nat) (text:aE):Option (Pg×Int×Int):=
 if(x8 text).2.1 != 0 then some (pg0,(x8 text).2)
 else(Rd.program m (rd0 (x8 text).1)).bind fun p=>if p.2.code != 0 then some (pg0,p.2.code,p.2.IZ)else(p.1.YF).bind fun q=>some (q,0,0)
def auD (m:Nat) (text:aE):Option (Ex×Int×Int):=
 if(x8 text).2.1 != 0 then some (qS,(x8 text).2)
 else(Rd.whole m (rd0 (x8 text).1)).bind fun x=>x.2.Q2.bind fun b=>
  if b then(x.2.bad 3).bind fun r=>if !r.good then some (qS,r.code,r.IZ)else some (x.1,0,0)
  else if !x.2.good then some (qS,x.2.code,x.2.IZ)else some (x.1,0,0)
def acU (n k:Int):Int:=if Int.tmod n k<0 then Int.tmod n k+k else Int.tmod n k
def agI (t:aE):Nat→aE
 | 0=> []
 |n+1=>agI t n++t
def two (i:Nat):aE:= [UInt8.ofNat (48+i / 10),UInt8.ofNat (48+i % 10)]
def acV (ahead:aE):Nat→aE
 | 0=> []
 |n+1=>(if n=0 then acV ahead n else acV ahead n++ [44])++(ahead++ [97]++two n)
def acW:Nat→aE
 | 0=> []
 |n+1=>acW n++([112,114,111,99,32,112]++two n++ [40,41,123,125])
def xm (k:Int):List It→List Int
 | []=> []
 |i::l=>if k==0 ||i.s.kind==k then i.s.id::xm k l else xm k l
def auE (l:List Int) (n:Int):Int:=match l[(acU n l.length).toNat]? with|some x=>x|none=>0
def B5 (id:Int):List It→Option It
 | []=>none
 |i::l=>if i.s.id==id then some i else B5 id l
def zr (id:Int):List Pc→Option (It×aE)
 | []=>none
 |f::l=>match B5 id f.flat with|some i=>some (i,f.name)|none=>zr id l
def it0:It:=⟨IS,0,0,false⟩
def amL (r:Option (It×aE)):D:=match r with
 |some (i,nm)=> .tuple [.agg (jK i), .str nm, .bool true]
 |none=> .tuple [.agg (jK it0), .str [], .bool false]
def Pg.B6 (p:Pg) (id:Int):Sm:=match zr id p.procs with|some (i,_)=>i.s|none=>IS
def cQ (t:aE) (n:Int):Int:=if n > 20000 then 20001 else if(t.length:Int)≥20000 - n then 20001 else n+1+t.length
mutual
def eZ:Ex→Int→Int
 |⟨_,_,name,kids⟩,n=>np kids (cQ name n)
def np:List Ex→Int→Int
 | [],n=>n
 |x::l,n=>if n≤20000 then np l (eZ x n)else n
end
theorem l7 {t:aE} {n:Int} (h0:0≤n):cQ t n≤20001∧(n≤20000→n+1≤cQ t n)∧0≤cQ t n∧(cQ t n≤20000→n+1+t.length=cQ t n):=by
 unfold cQ;split
 ·omega
 ·split<;>omega
theorem vE : ∀ (m:Nat) (x:Ex),x.size≤m→∀ n:Int,0≤n→eZ x n≤20001∧(n≤20000→n+1≤eZ x n)∧0≤eZ x n∧(eZ x n≤20000→(x.size:Int)+1≤2*(eZ x n - n)∧x.texts):=by
 intro m
 induction m with
 |zero=>rintro⟨op,v,name,kids⟩ h;simp only[Ex.size]at h;omega
 | succ m ih=>
  rintro⟨op,v,name,kids⟩ h n h0
  simp only[Ex.size]at h
  obtain⟨t1,t2,t3,t4⟩:=l7 (t:=name) h0
  have go : ∀ (l:List Ex),Ex.bc l≤m→∀ c:Int,0≤c→c≤20001→np l c≤20001∧c≤np l c∧(np l c≤20000→(Ex.bc l:Int)≤2*(np l c - c)∧Ex.vr l):=by
   intro l
   induction l with
   |nil=>intro _ c h0 h1;simp only[np,Ex.bc];exact⟨h1,Int.le_refl _,fun _=>⟨by omega,trivial⟩⟩
   | cons y l RM=>
    intro hs c h0 h1
    simp only[Ex.bc]at hs ⊢
    simp only[np]
    split
    ·rename_i hc
     obtain⟨a1,a2,a3,a4⟩:=ih y (by omega) c h0
     obtain⟨b1,b2,b3⟩:=RM (by omega) (eZ y c) a3 a1
     have:=a2 hc
     refine⟨b1,by omega,fun hw=>?_⟩
     obtain⟨c1,c2⟩:=b3 hw
     obtain⟨d1,d2⟩:=a4 (by omega)
     exact⟨by omega,d2,c2⟩
    ·exact⟨h1,Int.le_refl _,fun hw=>by omega⟩
  obtain⟨g1,g2,g3⟩:=go kids (by omega) (cQ name n) t3 t1
  simp only[eZ,Ex.size]
  refine⟨g1,fun hn=>by have:=t2 hn;omega,by omega,fun hw=>?_⟩
  obtain⟨k1,k2⟩:=g3 hw
  have:=t4 (by omega)
  exact⟨by omega,by omega,k2⟩
theorem qs (t:aE) {n:Int} (h0:0≤n) (h1:n≤20001) (s:St):aG Tryz.prog gd [.str t, .int .i64 n] s (.int .i64 (cQ t n)) s:=by
 refine aG.pure ?_ rfl rfl s
 unfold S0
 have w1:IntKind.wrap .i64 (20000 - n)=20000 - n:=dV (by omega) (by omega)
 have w2:IntKind.wrap .i64 (n+1)=n+1:=dV (by omega) (by omega)
 by_cases c:n > 20000
 ·have c1:decide (n > 20000)=true:=by simp;omega
  have e:cQ t n=20001:=by simp[cQ,c]
  rw[e]
  refine aG.go o5 rfl fun B Q hB hQ=>?_
  have⟨hD,hY,hZ,gA⟩:=bX
  repeat' (first
 |simp only[go_sem,hD,hY,hZ,gA,c1,w1,w2]
 |(with_reducible refine aF hQ ?_;exact bk))
 ·have c1:decide (n > 20000)=false:=by simp;omega
  by_cases d:(t.length:Int)≥20000 - n
  ·have d1:decide ((t.length:Int)≥20000 - n)=true:=by simp;omega
   have e:cQ t n=20001:=by unfold cQ;rw[if_neg c,if_pos d]
   rw[e]
   refine aG.go o5 rfl fun B Q hB hQ=>?_
   have⟨hD,hY,hZ,gA⟩:=bX
   repeat' (first
 |simp only[go_sem,hD,hY,hZ,gA,c1,d1,w1,w2]
 | (with_reducible refine aF hQ ?_;exact bk))
  ·have d1:decide ((t.length:Int)≥20000 - n)=false:=by simp;omega
   have e:cQ t n=n+1+t.length:=by unfold cQ;rw[if_neg c,if_neg d]
   have w3:IntKind.wrap .i64 (n+1+t.length)=n+1+t.length:=dV (by omega) (by omega)
   rw[e]
   refine aG.go o5 rfl fun B Q hB hQ=>?_
   have⟨hD,hY,hZ,gA⟩:=bX
   repeat' (first
 |simp only[go_sem,hD,hY,hZ,gA,c1,d1,w1,w2,w3]
 |(with_reducible refine aF hQ ?_;exact bk))
theorem JN : ∀ (m:Nat) (x:Ex),x.size≤m→∀ {n:Int},0≤n→n≤20000→∀ s:St,aG Tryz.prog jS [.agg (bY x), .int .i64 n] s (.int .i64 (eZ x n)) s:=by
 intro m
 induction m with
 |zero=>rintro⟨op,v,name,kids⟩ h;simp only[Ex.size]at h;omega
 |succ m ih=>
  rintro⟨op,v,name,kids⟩ dL n h0 h1 s
  refine aG.pure ?_ (by simp[D.bL,D.ok,lJ]) rfl s
  simp only[Ex.size]at dL
  have hk : ∀ y∈kids,∀ {n:Int},0≤n→n≤20000→∀ s:St,aG Tryz.prog jS [.agg (bY y), .int .i64 n] s (.int .i64 (eZ y n)) s:=fun y hy=>ih y (by have:=Ex.dr hy;omega)
  have ht:=fun s=>qs name h0 (by omega) s
  obtain⟨t1,t2,t3,t4⟩:=l7 (t:=name) h0
  unfold S0
  generalize h:eZ ⟨op,v,name,kids⟩ n=p
  simp only[eZ]at h
  refine aG.go A8 rfl fun B Q hB hQ=>?_
  have⟨hD,hY,hZ,gA⟩:=bX
  repeat' (first
 |simp only[go_sem,hD,hY,hZ,gA]
 |(with_reducible refine CU (ht _) ?_)
 |(with_reducible first|refine bt fun hc=>?_|refine bu fun hc=>?_|refine bx (fun hc=>?_) fun hc=>?_)<;>(try simp only[hc,bs,↓reduceIte]at h)<;>try simp only[hc]
 | (with_reducible refine aF hQ ?_;exact fX))
  refine fm 1 0 (br.ind (ι:=List Ex×Nat×Int) (fun i=>kids.drop i.2.1=i.1∧np i.1 i.2.2=p∧(i.2.1:Int)≤i.2.2∧i.2.2≤20001) (fun i=>i.1.length)
   (fun i=> [(1, .int .i64 i.2.2),(2, .ptr 0 0),(5, .int .i64 (i.2.1:Int))]) (fun i=>⟨[bY ⟨op,v,name,kids⟩],[]⟩) ?_ (kids,0,cQ name n) ⟨rfl,h,t3,t1⟩)
  rintro⟨rest,k,c⟩ ⟨g1,h,g3,g4⟩ IH
  dsimp only at g1 h g3 g4
  cases rest with
  |nil=>
   have hD:=drop_nil g1
   simp only[np]at h
   repeat' (first
 |simp only[go_sem,hD,hY,hZ,gA]
 |(with_reducible first|refine bt fun hc=>?_|refine bu fun hc=>?_|refine bx (fun hc=>?_) fun hc=>?_)<;>(try simp only[hc,bs,↓reduceIte]at h)<;>try simp only[hc]
 | (with_reducible refine aF hQ ?_;exact fX))
  | cons y rest=>
   obtain⟨hY,g2,hD,g5⟩:=drop_cons g1
   simp only[np]at h
   by_cases hc:c≤20000
   ·have c1:decide (c≤20000)=true:=by simp;omega
    have hy:=fun s=>hk y (List.mem_of_getElem? hY) (n:=c) (by omega) hc s
    obtain⟨a1,a2,a3,a4⟩:=vE _ y (Nat.le_refl _) c (by omega)
    have:=a2 hc
    have w3:IntKind.wrap .i64 ((k:Int)+1)=((k+1:Nat):Int):=by rw[dV]<;>omega
    rw[if_pos hc]at h
    repeat' (first
 |simp only[go_sem,hD,hY,hZ,gA,c1,w3]
 |(with_reducible refine CU (hy _) ?_)
 |(with_reducible first|refine bt fun hc=>?_|refine bu fun hc=>?_|refine bx (fun hc=>?_) fun hc=>?_)<;>(try simp only[hc,bs,↓reduceIte]at h)<;>try simp only[hc]
 | (with_reducible refine aF hQ ?_;(try cases h);simp only [aV,aY,bH,bI,go_sem,hD,hY,hZ,gA,c1,w3];try exact cr))
    refine fm 1 0 (IH (rest,k+1,eZ y c) ⟨g2,h,by dsimp only;omega,a1⟩ (Nat.lt_succ_self _))
   ·have c1:decide (c≤20000)=false:=by simp;omega
    rw[if_neg hc]at h
    repeat' (first
 |simp only[go_sem,hD,hY,hZ,gA,c1]
 |(with_reducible first|refine bt fun hc=>?_|refine bu fun hc=>?_|refine bx (fun hc=>?_) fun hc=>?_)<;>(try simp only[hc,bs,↓reduceIte]at h)<;>try simp only[hc]
 |(with_reducible refine aF hQ ?_;(try cases h);simp only[aV,aY,bH,bI,go_sem,hD,hY,hZ,gA,c1];try exact cr))
def dI:List aE→Int→Int
 | [],n=>n
 |t::l,n=>if n≤20000 then dI l (cQ t n)else n
def iF:List Ar→Int→Int
 | [],n=>n
 |a::l,n=>if n≤20000 then iF l (cQ a.name (eZ a.x n))else n
def kr:List Pm→Int→Int
 | [],n=>n
 |a::l,n=>if n≤20000 then kr l (cQ a.name n)else n
mutual
def rz:Sm→Int→Int
 |⟨_,_,labels,name,proc,x,_,args,a7,aX⟩,n=>fw aX (fw a7 (iF args (cQ proc (cQ name (dI labels (eZ x n))))))
def fw:List Sm→Int→Int
 | [],n=>n
 |s::l,n=>if n≤20000 then fw l (rz s n)else n
end
theorem RS (s:Sm) (n:Int):rz s n=fw s.aX (fw s.a7 (iF s.args (cQ s.proc (cQ s.name (dI s.labels (eZ s.x n)))))):=by cases s;simp only[rz]
def tr (f:Pc) (n:Int):Int:=fw f.body (kr f.params (dI f.fin (dI f.vars (cQ f.name n))))
def nq:List Pc→Int→Int
 | [],n=>n
 |f::l,n=>if n≤20000 then nq l (tr f n)else n
def Pg.B7 (p:Pg):Int:=nq p.procs (dI p.globals 0)
theorem kR : ∀ (l:List aE) {n:Int},0≤n→n≤20001→dI l n≤20001∧n≤dI l n∧(dI l n≤20000→n+l.length≤dI l n∧∀ t∈l,t.length<4611686018427387904)
 | [],n,h0,h1=>by simp only[dI];exact⟨h1,Int.le_refl _,fun _=>⟨by simp,by simp⟩⟩
 | t::l,n,h0,h1=>by
  simp only[dI]
  split
  ·rename_i hc
   obtain⟨a1,a2,a3,a4⟩:=l7 (t:=t) h0
   obtain⟨b1,b2,b3⟩:=kR l (n:=cQ t n) a3 a1
   have:=a2 hc
   refine⟨b1,by omega,fun hw=>?_⟩
   obtain⟨c1,c2⟩:=b3 hw
   have:=a4 (by omega)
   refine⟨by simp only[List.length_cons];omega,fun s m=>?_⟩
   rcases List.mem_cons.1 m with rfl|m
   ·omega
   ·exact c2 s m
  ·exact⟨h1,Int.le_refl _,fun hw=>by omega⟩
theorem zt : ∀ (l:List Pm) {n:Int},0≤n→n≤20001→kr l n≤20001∧n≤kr l n∧(kr l n≤20000→n+l.length≤kr l n∧∀ t∈l,t.name.length<4611686018427387904)
 | [],n,h0,h1=>by simp only[kr];exact⟨h1,Int.le_refl _,fun _=>⟨by simp,by simp⟩⟩
 | t::l,n,h0,h1=>by
  simp only[kr]
  split
  ·rename_i hc
   obtain⟨a1,a2,a3,a4⟩:=l7 (t:=t.name) h0
   obtain⟨b1,b2,b3⟩:=zt l (n:=cQ t.name n) a3 a1
   have:=a2 hc
   refine⟨b1,by omega,fun hw=>?_⟩
   obtain⟨c1,c2⟩:=b3 hw
   have:=a4 (by omega)
   refine⟨by simp only[List.length_cons];omega,fun s m=>?_⟩
   rcases List.mem_cons.1 m with rfl|m
   ·omega
   ·exact c2 s m
  ·exact⟨h1,Int.le_refl _,fun hw=>by omega⟩
theorem zu : ∀ (l:List Ar) {n:Int},0≤n→n≤20001→iF l n≤20001∧n≤iF l n∧
 (iF l n≤20000→(Ar.bc l:Int)≤2*(iF l n - n)∧∀ a∈l,a.x.size<4611686018427387904∧a.x.texts∧a.name.length<4611686018427387904)
 | [],n,h0,h1=>by simp only[iF];exact⟨h1,Int.le_refl _,fun _=>⟨by simp[Ar.bc],by simp⟩⟩
 | a::l,n,h0,h1=>by
  simp only[iF]
  split
  ·rename_i hc
   obtain⟨a1,a2,a3,a4⟩:=vE _ a.x (Nat.le_refl _) n h0
   obtain⟨e1,e2,e3,e4⟩:=l7 (t:=a.name) a3
   obtain⟨b1,b2,b3⟩:=zu l (n:=cQ a.name (eZ a.x n)) e3 e1
   have:=a2 hc
   have:eZ a.x n≤cQ a.name (eZ a.x n):=by
    by_cases h:eZ a.x n≤20000
    ·have:=e2 h;omega
    ·have:cQ a.name (eZ a.x n)=20001:=by unfold cQ;rw [if_pos (by omega)]
     omega
   refine⟨b1,by omega,fun hw=>?_⟩
   obtain⟨c1,c2⟩:=b3 hw
   have:=e4 (by omega)
   obtain⟨d1,d2⟩:=a4 (by omega)
   refine⟨by simp only[Ar.bc];omega,fun s m=>?_⟩
   rcases List.mem_cons.1 m with rfl|m
   ·exact⟨by omega,d2,by omega⟩
   ·exact c2 s m
  ·exact⟨h1,Int.le_refl _,fun hw=>by omega⟩
theorem kZ {t:aE} {n:Int} (h0:0≤n) (h1:n≤20001):n≤cQ t n∧cQ t n≤20001∧(cQ t n≤20000→n+1≤cQ t n∧t.length<4611686018427387904):=by
 obtain⟨e1,e2,e3,e4⟩:=l7 (t:=t) h0
 by_cases h:n≤20000
 ·have:=e2 h
  exact⟨by omega,e1,fun hw=>⟨by omega,by have:=e4 hw;omega⟩⟩
 ·have:cQ t n=20001:=by unfold cQ;rw [if_pos (by omega)]
  exact⟨by omega,e1,fun hw=>by omega⟩
mutual
theorem GZ : ∀ (s:Sm) {n:Int},0≤n→n≤20000→rz s n≤20001∧n+1≤rz s n∧(rz s n≤20000→(s.size:Int)+1≤2*(rz s n - n)∧s.wv)
 |⟨id,kind,labels,name,proc,x,has,args,a7,aX⟩,n,h0,h1=>by
  obtain⟨a1,a2,a3,a4⟩:=vE _ x (Nat.le_refl _) n h0
  have a2:=a2 h1
  obtain⟨b1,b2,b3⟩:=kR labels a3 a1
  obtain⟨c1,c2,c3⟩:=kZ (t:=name) (n:=dI labels (eZ x n)) (by omega) b1
  obtain⟨d1,d2,d3⟩:=kZ (t:=proc) (n:=cQ name (dI labels (eZ x n))) (by omega) c2
  obtain⟨e1,e2,e3⟩:=zu args (n:=cQ proc (cQ name (dI labels (eZ x n)))) (by omega) d2
  obtain⟨f1,f2,f3⟩:=rA a7 (n:=iF args (cQ proc (cQ name (dI labels (eZ x n))))) (by omega) e1
  obtain⟨g1,g2,g3⟩:=rA aX (n:=fw a7 (iF args (cQ proc (cQ name (dI labels (eZ x n)))))) (by omega) f1
  simp only[rz,Sm.size]
  refine⟨g1,by omega,fun hw=>?_⟩
  obtain⟨g4,g5⟩:=g3 hw
  obtain⟨f4,f5⟩:=f3 (by omega)
  obtain⟨e4,e5⟩:=e3 (by omega)
  obtain⟨d4,d5⟩:=d3 (by omega)
  obtain⟨c4,c5⟩:=c3 (by omega)
  obtain⟨b4,b5⟩:=b3 (by omega)
  obtain⟨a5,a6⟩:=a4 (by omega)
  have:=Ar.eW args
  refine⟨by omega, ?_⟩
  rw[Dl]
  exact⟨⟨b5,by dsimp only;omega,c5,d5,by dsimp only;omega,a6,by dsimp only;omega,e5⟩,f5,g5⟩
theorem rA : ∀ (l:List Sm) {n:Int},0≤n→n≤20001→fw l n≤20001∧n≤fw l n∧(fw l n≤20000→(Sm.bc l:Int)≤2*(fw l n - n)∧Sm.km l)
 | [],n,h0,h1=>by simp only[fw];exact⟨h1,Int.le_refl _,fun _=>⟨by simp[Sm.bc],by simp only[Sm.km]⟩⟩
 | s::l,n,h0,h1=>by
  simp only[fw]
  split
  ·rename_i hc
   obtain⟨a1,a2,a3⟩:=GZ s h0 hc
   obtain⟨b1,b2,b3⟩:=rA l (n:=rz s n) (by omega) a1
   refine⟨b1,by omega,fun hw=>?_⟩
   obtain⟨c1,c2⟩:=b3 hw
   obtain⟨d1,d2⟩:=a3 (by omega)
   exact⟨by simp only[Sm.bc];omega,d2,c2⟩
  ·exact⟨h1,Int.le_refl _,fun hw=>by omega⟩
end
theorem G0 (f:Pc) {n:Int} (h0:0≤n) (h1:n≤20000):tr f n≤20001∧n+1≤tr f n∧(tr f n≤20000→(f.size:Int)+1≤2*(tr f n - n)∧
 (f.name.length<4611686018427387904∧(∀ t∈f.vars,t.length<4611686018427387904)∧(∀ t∈f.fin,t.length<4611686018427387904)∧∀ a∈f.params,a.name.length<4611686018427387904)∧Sm.km f.body):=by
 obtain⟨c1,c2,c3⟩:=kZ (t:=f.name) h0 (by omega:n≤20001)
 have c4:=(l7 (t:=f.name) h0).2.1 h1
 obtain⟨d1,d2,d3⟩:=kR f.vars (n:=cQ f.name n) (by omega) c2
 obtain⟨e1,e2,e3⟩:=kR f.fin (n:=dI f.vars (cQ f.name n)) (by omega) d1
 obtain⟨g1,g2,g3⟩:=zt f.params (n:=dI f.fin (dI f.vars (cQ f.name n))) (by omega) e1
 obtain⟨k1,k2,k3⟩:=rA f.body (n:=kr f.params (dI f.fin (dI f.vars (cQ f.name n)))) (by omega) g1
 unfold tr Pc.size
 refine⟨k1,by omega,fun hw=>?_⟩
 obtain⟨k4,k5⟩:=k3 hw
 obtain⟨g4,g5⟩:=g3 (by omega)
 obtain⟨e4,e5⟩:=e3 (by omega)
 obtain⟨d4,d5⟩:=d3 (by omega)
 obtain⟨_,c5⟩:=c3 (by omega)
 exact⟨by omega,⟨c5,d5,e5,g5⟩,k5⟩
theorem EG : ∀ (l:List Pc) {n:Int},0≤n→n≤20001→nq l n≤20001∧n≤nq l n∧(nq l n≤20000→(Pc.bc l:Int)≤2*(nq l n - n)∧∀ f∈l,
 (f.name.length<4611686018427387904∧(∀ t∈f.vars,t.length<4611686018427387904)∧(∀ t∈f.fin,t.length<4611686018427387904)∧∀ a∈f.params,a.name.length<4611686018427387904)∧Sm.km f.body)
 | [],n,h0,h1=>by simp only[nq];exact⟨h1,Int.le_refl _,fun _=>⟨by simp[Pc.bc],by simp⟩⟩
 | f::l,n,h0,h1=>by
  simp only[nq]
  split
  ·rename_i hc
   obtain⟨a1,a2,a3⟩:=G0 f h0 hc
   obtain⟨b1,b2,b3⟩:=EG l (n:=tr f n) (by omega) a1
   refine⟨b1,by omega,fun hw=>?_⟩
   obtain⟨c1,c2⟩:=b3 hw
   obtain⟨d1,d2⟩:=a3 (by omega)
   refine⟨by simp only[Pc.bc];omega,fun s m=>?_⟩
   rcases List.mem_cons.1 m with rfl|m
   ·exact d2
   ·exact c2 s m
  ·exact⟨h1,Int.le_refl _,fun hw=>by omega⟩
theorem O0 {p:Pg} (h:p.B7≤20000):p.size≤40001∧p.HJ:=by
 unfold Pg.B7 at h
 obtain⟨a1,a2,a3⟩:=kR p.globals (n:=0) (by omega) (by omega)
 obtain⟨b1,b2,b3⟩:=EG p.procs (n:=dI p.globals 0) (by omega) a1
 obtain⟨c1,c2⟩:=b3 h
 obtain⟨d1,d2⟩:=a3 (by omega)
 have:p.size≤40001:=by unfold Pg.size;omega
 exact⟨this,by omega,d2,fun f m=>(c2 f m).1,fun f m=>(c2 f m).2⟩
theorem wL {l:List aE} {n:Int} (h0:0≤n) (h1:n≤20001) (s:St):aG Tryz.prog jA [.slice .shared 1 (l.map encStr), .int .i64 n] s (.int .i64 (dI l n)) s:=by
 refine aG.pure ?_ (by simp[D.bL,D.ok,eU,Tag.ok]) rfl s
 unfold S0
 generalize h:dI l n=p
 refine aG.go Ab rfl fun B Q hB hQ=>?_
 have⟨hD,hY,hZ,gA⟩:=bX
 repeat' (first
 |simp only[go_sem,hD,hY,hZ,gA]
 |(with_reducible refine aF hQ ?_;exact bk))
 refine fm 0 0 (br.ind (ι:=List aE×Nat×Int) (fun i=>l.drop i.2.1=i.1∧dI i.1 i.2.2=p∧(i.2.1:Int)≤i.2.2∧i.2.2≤20001) (fun i=>i.1.length)
  (fun i=> [(0, .slice .shared 1 (l.map encStr)),(1, .int .i64 i.2.2),(5, .int .i64 (i.2.1:Int))]) (fun i=>⟨[],[]⟩) ?_ (l,0,n) ⟨rfl,h,h0,h1⟩)
 rintro⟨rest,k,c⟩ ⟨g1,h,g3,g4⟩ IH
 dsimp only at g1 h g3 g4
 cases rest with
 |nil=>
  have hD:=drop_nil g1
  simp only[dI]at h
  subst h
  repeat' (first
 |simp only[go_sem,hD,hY,hZ,gA]
 |(with_reducible refine aF hQ ?_;exact bk))
 | cons y rest=>
  obtain⟨hY,g2,hD,g5⟩:=drop_cons g1
  simp only[dI]at h
  by_cases hc:c≤20000
  ·have c1:decide (c≤20000)=true:=by simp;omega
   have hy:=fun s=>qs y (n:=c) (by omega) g4 s
   obtain⟨a1,a2,a3,a4⟩:=l7 (t:=y) (n:=c) (by omega)
   have:=a2 hc
   have w3:IntKind.wrap .i64 ((k:Int)+1)=((k+1:Nat):Int):=by rw[dV]<;>omega
   rw[if_pos hc]at h
   repeat' (first
 |simp only[go_sem,hD,hY,hZ,gA,c1,w3]
 |(with_reducible refine CU (hy _) ?_)
 | (with_reducible refine aF hQ ?_;exact bk))
   refine fm 0 0 (IH (rest,k+1,cQ y c) ⟨g2,h,by dsimp only;omega,a1⟩ (Nat.lt_succ_self _))
  ·have c1:decide (c≤20000)=false:=by simp;omega
   rw[if_neg hc]at h
   subst h
   repeat' (first
 |simp only[go_sem,hD,hY,hZ,gA,c1]
 |(with_reducible refine aF hQ ?_;exact bk))
theorem RT : ∀ (m:Nat) (l:List Sm),Sm.bc l≤m→∀ {n:Int},0≤n→n≤20001→∀ s:St,aG Tryz.prog kC [.slice .shared 13 (l.map bm), .int .i64 n] s (.int .i64 (fw l n)) s:=by
 intro m
 induction m with
 | zero=>
  intro l h n h0 h1 s
  cases l with
  |nil=>
   have z:decide ((0:Int)<0)=false:=rfl
   refine aG.pure ?_ (by simp[D.bL,D.ok,D.gU,Tag.ok]) rfl s
   unfold S0
   simp only[fw]
   refine aG.go rN rfl fun B Q hB hQ=>?_
   have⟨hD,hY,hZ,gA⟩:=bX
   repeat' (first
 |simp only[go_sem,hD,hY,hZ,gA,z]
 |(with_reducible refine br.kH ?_)
 |(with_reducible refine aF hQ ?_;exact bk))
  |cons s l=>simp only[Sm.bc]at h;omega
 |succ m ih=>
  intro l h n h0 h1 s
  refine aG.pure ?_ (by simp[D.bL,D.ok,qU,Tag.ok]) rfl s
  unfold S0
  generalize hp:fw l n=p
  refine aG.go rN rfl fun B Q hB hQ=>?_
  have⟨hD,hY,hZ,gA⟩:=bX
  repeat' (first
 |simp only[go_sem,hD,hY,hZ,gA]
 | (with_reducible refine aF hQ ?_;exact bk))
  refine fm 0 0 (br.ind (ι:=List Sm×Nat×Int) (fun i=>l.drop i.2.1=i.1∧fw i.1 i.2.2=p∧(i.2.1:Int)≤i.2.2∧i.2.2≤20001) (fun i=>i.1.length)
   (fun i=> [(0, .slice .shared 13 (l.map bm)),(1, .int .i64 i.2.2),(5, .int .i64 (i.2.1:Int))]) (fun i=>⟨[],[]⟩) ?_ (l,0,n) ⟨rfl,hp,h0,h1⟩)
  rintro⟨rest,k,c⟩ ⟨g1,hp,g3,g4⟩ IH
  dsimp only at g1 hp g3 g4
  cases rest with
  |nil=>
   have hD:=drop_nil g1
   simp only[fw]at hp
   subst hp
   repeat' (first
 |simp only[go_sem,hD,hY,hZ,gA]
 | (with_reducible refine aF hQ ?_;exact bk))
  | cons y rest=>
   obtain⟨hY,g2,hD,g5⟩:=drop_cons g1
   simp only[fw]at hp
   by_cases hc:c≤20000
   ·have c1:decide (c≤20000)=true:=by simp;omega
    have gp:=List.mem_of_getElem? hY
    have dL:=Sm.dr gp
    have SU:s.ah.length≤s.ah.length∧Sm.bc y.a7<y.size∧Sm.bc y.aX<y.size:=by cases y;simp only[Sm.size];omega
    have w3:IntKind.wrap .i64 ((k:Int)+1)=((k+1:Nat):Int):=by rw[dV]<;>omega
    rw[if_pos hc]at hp
    obtain⟨a1,a2,a3,a4⟩:=vE _ y.x (Nat.le_refl _) c (by omega)
    have a2:=a2 hc
    obtain⟨b1,b2,b3⟩:=kR y.labels a3 a1
    obtain⟨c1',c2,c3⟩:=kZ (t:=y.name) (n:=dI y.labels (eZ y.x c)) (by omega) b1
    obtain⟨d1,d2,d3⟩:=kZ (t:=y.proc) (n:=cQ y.name (dI y.labels (eZ y.x c))) (by omega) c2
    have eE:=fun s=>JN _ y.x (Nat.le_refl _) (n:=c) (by omega) hc s
    have eL:=fun s=>wL (l:=y.labels) (n:=eZ y.x c) (by omega) a1 s
    have eN:=fun s=>qs y.name (n:=dI y.labels (eZ y.x c)) (by omega) b1 s
    have eP:=fun s=>qs y.proc (n:=cQ y.name (dI y.labels (eZ y.x c))) (by omega) c2 s
    obtain⟨r1,r2,r3⟩:=GZ y (n:=c) (by omega) hc
    rw[RS]at hp r1 r2
    generalize hC:cQ y.proc (cQ y.name (dI y.labels (eZ y.x c)))=C at *
    obtain⟨s1,s2,s3⟩:=zu y.args (n:=C) (by omega) d2
    obtain⟨t1,t2,t3⟩:=rA y.a7 (n:=iF y.args C) (by omega) s1
    have eT:=fun s=>ih y.a7 (by omega) (n:=iF y.args C) (by omega) s1 s
    have eS:=fun s=>ih y.aX (by omega) (n:=fw y.a7 (iF y.args C)) (by omega) t1 s
    generalize hW:iF y.args C=W at *
    repeat' (first
 |simp only[go_sem,hD,hY,hZ,gA,c1,w3]
 |(with_reducible refine CU (eE _) ?_)
 |(with_reducible refine CU (eL _) ?_)
 |(with_reducible refine CU (eN _) ?_)
 |(with_reducible refine CU (eP _) ?_)
 | (with_reducible refine aF hQ ?_;exact bk))
    refine fm 1 0 (br.ind (ι:=List Ar×Nat×Int) (fun i=>y.args.drop i.2.1=i.1∧iF i.1 i.2.2=W∧(i.2.1:Int)≤i.2.2∧i.2.2≤20001) (fun i=>i.1.length)
     (fun i=> [(0, .slice .shared 13 (l.map bm)),(1, .int .i64 i.2.2),(5, .int .i64 (k:Int)),(6, .ptr 0 0),(7, .int .i64 (i.2.1:Int))]) (fun i=>⟨[bm y],[]⟩) ?_ (y.args,0,C) ⟨rfl,hW,by dsimp only;omega,d2⟩)
    rintro⟨ars,j,e⟩ ⟨k1,hw,k3,k4⟩ Eo
    dsimp only at k1 hw k3 k4
    cases ars with
    |nil=>
     have hD:=drop_nil k1
     simp only[iF]at hw
     subst hw
     repeat' (first
 |simp only[go_sem,hD,hY,hZ,gA,w3]
 |(with_reducible refine CU (eT _) ?_)
 |(with_reducible refine CU (eS _) ?_)
 | (with_reducible refine aF hQ ?_;exact bk))
     refine fm 0 0 (IH (rest,k+1,fw y.aX (fw y.a7 e)) ⟨g2,hp,by dsimp only;omega,r1⟩ (Nat.lt_succ_self _))
    | cons a ars=>
     obtain⟨hY,k2,hD,k5⟩:=drop_cons k1
     simp only[iF]at hw
     by_cases he:e≤20000
     ·have e1:decide (e≤20000)=true:=by simp;omega
      have w4:IntKind.wrap .i64 ((j:Int)+1)=((j+1:Nat):Int):=by rw[dV]<;>omega
      rw[if_pos he]at hw
      obtain⟨u1,u2,u3,u4⟩:=vE _ a.x (Nat.le_refl _) e (by omega)
      have u2:=u2 he
      obtain⟨v1,v2,v3⟩:=kZ (t:=a.name) (n:=eZ a.x e) u3 u1
      have eX:=fun s=>JN _ a.x (Nat.le_refl _) (n:=e) (by omega) he s
      have eM:=fun s=>qs a.name (n:=eZ a.x e) u3 u1 s
      repeat' (first
 |simp only[go_sem,hD,hY,hZ,gA,e1,w4]
 |(with_reducible refine CU (eX _) ?_)
 |(with_reducible refine CU (eM _) ?_)
 |(with_reducible refine aF hQ ?_;exact bk))
      refine fm 1 0 (Eo (ars,j+1,cQ a.name (eZ a.x e)) ⟨k2,hw,by dsimp only;omega,v2⟩ (Nat.lt_succ_self _))
     ·have e1:decide (e≤20000)=false:=by simp;omega
      rw[if_neg he]at hw
      subst hw
      repeat' (first
 |simp only[go_sem,hD,hY,hZ,gA,e1,w3]
 |(with_reducible refine CU (eT _) ?_)
 |(with_reducible refine CU (eS _) ?_)
 | (with_reducible refine aF hQ ?_;exact bk))
      refine fm 0 0 (IH (rest,k+1,fw y.aX (fw y.a7 e)) ⟨g2,hp,by dsimp only;omega,r1⟩ (Nat.lt_succ_self _))
   ·have c1:decide (c≤20000)=false:=by simp;omega
    rw[if_neg hc]at hp
    subst hp
    repeat' (first
 |simp only[go_sem,hD,hY,hZ,gA,c1]
 |(with_reducible refine aF hQ ?_;exact bk))
theorem acZ (p:Pg) (s:St):aG Tryz.prog w8 [.agg (cB p)] s (.bool (decide (p.B7≤20000))) s:=by
 refine aG.pure ?_ (by simp only[D.bL,D.ok,ki];rfl) rfl s
 unfold S0
 generalize hp:p.B7=W
 unfold Pg.B7 at hp
 obtain⟨a1,a2,a3⟩:=kR p.globals (n:=0) (by omega) (by omega)
 have eG:=fun s=>wL (l:=p.globals) (n:=0) (by omega) (by omega) s
 refine aG.go Hf rfl fun B Q hB hQ=>?_
 have⟨hD,hY,hZ,gA⟩:=bX
 repeat' (first
 |simp only[go_sem,hD,hY,hZ,gA]
 |(with_reducible refine CU (eG _) ?_)
 |(with_reducible refine aF hQ ?_;exact bk))
 refine fm 1 0 (br.ind (ι:=List Pc×Nat×Int) (fun i=>p.procs.drop i.2.1=i.1∧nq i.1 i.2.2=W∧(i.2.1:Int)≤i.2.2∧i.2.2≤20001) (fun i=>i.1.length)
  (fun i=> [(1, .ptr 0 0),(3, .int .i64 i.2.2),(4, .int .i64 (i.2.1:Int))]) (fun i=>⟨[cB p],[]⟩) ?_ (p.procs,0,dI p.globals 0) ⟨rfl,hp,a2,a1⟩)
 rintro⟨rest,k,c⟩ ⟨g1,hp,g3,g4⟩ IH
 dsimp only at g1 hp g3 g4
 cases rest with
 |nil=>
  have hD:=drop_nil g1
  simp only[nq]at hp
  subst hp
  repeat' (first
 |simp only[go_sem,hD,hY,hZ,gA]
 |(with_reducible refine aF hQ ?_;exact bk))
 | cons f rest=>
  obtain⟨hY,g2,hD,g5⟩:=drop_cons g1
  simp only[nq]at hp
  by_cases hc:c≤20000
  ·have c1:decide (c≤20000)=true:=by simp;omega
   have w3:IntKind.wrap .i64 ((k:Int)+1)=((k+1:Nat):Int):=by rw[dV]<;>omega
   rw[if_pos hc]at hp
   obtain⟨r1,r2,r3⟩:=G0 f (n:=c) (by omega) hc
   unfold tr at hp r1 r2
   obtain⟨c1',c2,c3⟩:=kZ (t:=f.name) (n:=c) (by omega) g4
   obtain⟨d1,d2,d3⟩:=kR f.vars (n:=cQ f.name c) (by omega) c2
   obtain⟨e1,e2,e3⟩:=kR f.fin (n:=dI f.vars (cQ f.name c)) (by omega) d1
   have eN:=fun s=>qs f.name (n:=c) (by omega) g4 s
   have eV:=fun s=>wL (l:=f.vars) (n:=cQ f.name c) (by omega) c2 s
   have eF:=fun s=>wL (l:=f.fin) (n:=dI f.vars (cQ f.name c)) (by omega) d1 s
   generalize hC:dI f.fin (dI f.vars (cQ f.name c))=C at *
   obtain⟨s1,s2,s3⟩:=zt f.params (n:=C) (by omega) e1
   have eT:=fun s=>RT _ f.body (Nat.le_refl _) (n:=kr f.params C) (by omega) s1 s
   generalize hM:kr f.params C=M at *
   repeat' (first
 |simp only[go_sem,hD,hY,hZ,gA,c1,w3]
 |(with_reducible refine CU (eN _) ?_)
 |(with_reducible refine CU (eV _) ?_)
 |(with_reducible refine CU (eF _) ?_)
 | (with_reducible refine aF hQ ?_;exact bk))
   refine fm 2 0 (br.ind (ι:=List Pm×Nat×Int) (fun i=>f.params.drop i.2.1=i.1∧kr i.1 i.2.2=M∧(i.2.1:Int)≤i.2.2∧i.2.2≤20001) (fun i=>i.1.length)
    (fun i=> [(1, .ptr 0 0),(3, .int .i64 i.2.2),(4, .int .i64 (k:Int)),(5, .ptr 1 0),(6, .int .i64 (i.2.1:Int))]) (fun i=>⟨[cB p,cf f],[]⟩) ?_ (f.params,0,C) ⟨rfl,hM,by dsimp only;omega,e1⟩)
   rintro⟨ms,j,e⟩ ⟨k1,hw,k3,k4⟩ Eo
   dsimp only at k1 hw k3 k4
   cases ms with
   |nil=>
    have hD:=drop_nil k1
    simp only[kr]at hw
    subst hw
    repeat' (first
 |simp only[go_sem,hD,hY,hZ,gA,w3]
 |(with_reducible refine CU (eT _) ?_)
 | (with_reducible refine aF hQ ?_;exact bk))
    refine fm 1 0 (IH (rest,k+1,fw f.body e) ⟨g2,hp,by dsimp only;omega,r1⟩ (Nat.lt_succ_self _))
   | cons a ms=>
    obtain⟨hY,k2,hD,k5⟩:=drop_cons k1
    simp only[kr]at hw
    by_cases he:e≤20000
    ·have e1:decide (e≤20000)=true:=by simp;omega
     have w4:IntKind.wrap .i64 ((j:Int)+1)=((j+1:Nat):Int):=by rw[dV]<;>omega
     rw[if_pos he]at hw
     obtain⟨v1,v2,v3⟩:=kZ (t:=a.name) (n:=e) (by omega) k4
     have v4:=(l7 (t:=a.name) (n:=e) (by omega)).2.1 he
     have eM:=fun s=>qs a.name (n:=e) (by omega) k4 s
     repeat' (first
 |simp only[go_sem,hD,hY,hZ,gA,e1,w4]
 |(with_reducible refine CU (eM _) ?_)
 | (with_reducible refine aF hQ ?_;exact bk))
     refine fm 2 0 (Eo (ms,j+1,cQ a.name e) ⟨k2,hw,by dsimp only;omega,v2⟩ (Nat.lt_succ_self _))
    ·have e1:decide (e≤20000)=false:=by simp;omega
     rw[if_neg he]at hw
     subst hw
     repeat' (first
 |simp only[go_sem,hD,hY,hZ,gA,e1,w3]
 |(with_reducible refine CU (eT _) ?_)
 |(with_reducible first|refine bt fun hc=>?_|refine bu fun hc=>?_|refine bx (fun hc=>?_) fun hc=>?_)<;>(try simp only[hc,bs,↓reduceIte]at h)<;>try simp only[hc]
 | (with_reducible refine aF hQ ?_;simp only [aV,aY,bH,bI,go_sem,hD,hY,hZ,gA,e1,w3];try exact cr))
     refine fm 1 0 (IH (rest,k+1,fw f.body e) ⟨g2,hp,by dsimp only;omega,r1⟩ (Nat.lt_succ_self _))
  ·have c1:decide (c≤20000)=false:=by simp;omega
   rw[if_neg hc]at hp
   subst hp
   repeat' (first
 |simp only[go_sem,hD,hY,hZ,gA,c1]
 |(with_reducible first|refine bt fun hc=>?_|refine bu fun hc=>?_|refine bx (fun hc=>?_) fun hc=>?_)<;>(try simp only[hc,bs,↓reduceIte]at h)<;>try simp only[hc]
 |(with_reducible refine aF hQ ?_;simp only[aV,aY,bH,bI,go_sem,hD,hY,hZ,gA,c1];try exact cr))
def ac0:List aE→List aE→Bool
 | [],_=>true
 |_::_,[]=>true
 |x::l,y::l'=>if !(x==y)then false else ac0 l l'
def Xo (l l':List aE):Bool:=if(l.length:Int) != (l'.length:Int)then false else ac0 l l'
def Ar.pM:List Ar→List Ar→Bool
 | [],_=>true
 |_::_,[]=>true
 |a::l,b::l'=>if !(a.ref==b.ref) || !(a.name==b.name) || !(Ex.beq a.x b.x)then false else Ar.pM l l'
mutual
def Sm.beq:Sm→Sm→Bool
 |⟨id,kind,labels,name,proc,x,has,args,a7,aX⟩,⟨id',agJ,Ze,Ot,uK,x',amQ,D1,ac1,ac2⟩=>
  if id != id' ||kind != agJ || !(name==Ot) || !(proc==uK) || !(has==amQ) || !(Xo labels Ze) || !(Ex.beq x x') ||(args.length:Int) != (D1.length:Int)then false
  else if !(Ar.pM args D1)then false
  else if(if(a7.length:Int) != (ac1.length:Int)then false else Sm.pM a7 ac1)then(if(aX.length:Int) != (ac2.length:Int)then false else Sm.pM aX ac2)else false
def Sm.pM:List Sm→List Sm→Bool
 | [],_=>true
 |_::_,[]=>true
 |s::l,t::l'=>if !(Sm.beq s t)then false else Sm.pM l l'
end
def Sm.amR (l l':List Sm):Bool:=if(l.length:Int) != (l'.length:Int)then false else Sm.pM l l'
def Pm.pM:List Pm→List Pm→Bool
 | [],_=>true
 |_::_,[]=>true
 |a::l,b::l'=>if !((a.name==b.name) && (a.ref==b.ref))then false else Pm.pM l l'
def Pc.pM:List Pc→List Pc→Bool
 | [],_=>true
 |_::_,[]=>true
 |f::l,g::l'=>
  if !(f.name==g.name) ||(f.params.length:Int) != (g.params.length:Int) || !(Xo f.vars g.vars) || !(Xo f.fin g.fin) || !(Sm.amR f.body g.body)then false
  else if !(Pm.pM f.params g.params)then false else Pc.pM l l'
def Pg.beq (p q:Pg):Bool:=if !(Xo p.globals q.globals) ||(p.procs.length:Int) != (q.procs.length:Int)then false else Pc.pM p.procs q.procs
def B8 (n:Int):Ex:=⟨1,n,[],[]⟩
def rB (s:aE):Ex:=⟨2,0,s,[]⟩
def EH (op:Int) (a b:Ex):Ex:=⟨op,0,[],[a,b]⟩
theorem agK (n:Int) (s:St):aG Tryz.prog qY [.int .i64 n] s (.agg (bY (B8 n))) s:=by
 refine aG.pure ?_ rfl (by simp[D.ok,lJ]) s
 unfold S0
 refine aG.go Ja rfl fun B Q hB hQ=>?_
 have⟨hD,hY,hZ,gA⟩:=bX
 repeat' (first
 |simp only[go_sem,hD,hY,hZ,gA,B8]
 |(with_reducible first|refine bt fun hc=>?_|refine bu fun hc=>?_|refine bx (fun hc=>?_) fun hc=>?_)<;>(try simp only[hc,bs,↓reduceIte]at h)<;>try simp only[hc]
 |(with_reducible refine aF hQ ?_;simp only[aV,aY,bH,bI,go_sem,hD,hY,hZ,gA,B8];try exact cr))
theorem O1 (t:aE) (s:St):aG Tryz.prog kV [.str t] s (.agg (bY (rB t))) s:=by
 refine aG.pure ?_ rfl (by simp[D.ok,lJ]) s
 unfold S0
 refine aG.go Hj rfl fun B Q hB hQ=>?_
 have⟨hD,hY,hZ,gA⟩:=bX
 repeat' (first
 |simp only[go_sem,hD,hY,hZ,gA,rB]
 |(with_reducible first|refine bt fun hc=>?_|refine bu fun hc=>?_|refine bx (fun hc=>?_) fun hc=>?_)<;>(try simp only[hc,bs,↓reduceIte]at h)<;>try simp only[hc]
 |(with_reducible refine aF hQ ?_;simp only[aV,aY,bH,bI,go_sem,hD,hY,hZ,gA,rB];try exact cr))
theorem RU (op:Int) (a b:Ex) (s:St):aG Tryz.prog uD [.int .i64 op, .agg (bY a), .agg (bY b)] s (.agg (bY (EH op a b))) s:=by
 refine aG.pure ?_ (by simp[D.bL,D.ok,lJ]) (by simp[D.ok,lJ]) s
 unfold S0
 refine aG.go Jb rfl fun B Q hB hQ=>?_
 have⟨hD,hY,hZ,gA⟩:=bX
 repeat' (first
 |simp only[go_sem,hD,hY,hZ,gA,EH]
 |(with_reducible first|refine bt fun hc=>?_|refine bu fun hc=>?_|refine bx (fun hc=>?_) fun hc=>?_)<;>(try simp only[hc,bs,↓reduceIte]at h)<;>try simp only[hc]
 |(with_reducible refine aF hQ ?_;simp only[aV,aY,bH,bI,go_sem,hD,hY,hZ,gA,EH];try exact cr))
def source:aE:= [103,108,111,98,97,108,32,103,59,10,112,114,111,99,32,109,97,105,110,40,41,32,123,10,32,118,97,114,32,118,59,10,32,118,32,61,32,50,59,10,32,103,32,61,32,112,40,51,44,32,114,101,102,32,118,41,59,10,32,112,114,105,110,116,32,118,59,10,32,112,114,105,110,116,32,103,59,10,125,10,112,114,111,99,32,112,40,120,44,32,114,101,102,32,121,41,32,123,10,32,121,32,61,32,121,32,43,32,120,59,10,32,105,102,32,40,121,32,62,32,57,41,32,123,10,32,32,103,111,116,111,32,101,59,10,32,125,10,32,114,101,116,117,114,110,32,121,59,10,101,58,32,125,10]
def rC:Pg:=⟨[[103]],[
 ⟨[109,97,105,110],[],[[118]],[
  ⟨1,1,[],[118],[],B8 2,false,[],[],[]⟩,
  ⟨2,4,[],[103],[112],qS,false,[⟨false,[],B8 3⟩,⟨true,[118],qS⟩],[],[]⟩,
  ⟨3,3,[],[],[],rB [118],false,[],[],[]⟩,
  ⟨4,3,[],[],[],rB [103],false,[],[],[]⟩],[]⟩,
 ⟨[112],[⟨[120],false⟩,⟨[121],true⟩],[],[
  ⟨5,1,[],[121],[],EH 8 (rB [121]) (rB [120]),false,[],[],[]⟩,
  ⟨6,5,[],[],[],EH 12 (rB [121]) (B8 9),false,[],[⟨7,10,[],[101],[],qS,false,[],[],[]⟩],[]⟩,
  ⟨8,9,[],[],[],rB [121],true,[],[],[]⟩],[[101]]⟩]⟩
theorem ac3 (s:St):aG Tryz.prog w9 [] s (.agg (cB rC)) s:=by
 refine aG.pure ?_ rfl (by simp[D.ok,ki]) s
 unfold S0
 refine aG.go Hi rfl fun B Q hB hQ=>?_
 have⟨hD,hY,hZ,gA⟩:=bX
 repeat' (first
 |simp only[go_sem,hD,hY,hZ,gA,rC]
 |(with_reducible refine CU (agK _ _) ?_)
 |(with_reducible refine CU (O1 _ _) ?_)
 |(with_reducible refine CU (RU _ _ _ _) ?_)
 |(with_reducible refine aF hQ ?_;simp only[aV,aY,bH,bI,go_sem,hD,hY,hZ,gA];repeat' (first|exact Ok.out|with_reducible refine iQ ?_ ?_|(simp;done))))
 repeat' (first|exact Ok.out|with_reducible refine Wk.agg ?_|with_reducible refine Wk.rows ?_|with_reducible refine Wk.slice ?_|with_reducible refine gn.cons ?_ ?_|with_reducible refine ji.cons ?_ ?_)
def Pg.atW (p:Pg) (n:Int):aE:=match p.procs[(acU n p.procs.length).toNat]? with|some f=>f.name|none=> []
theorem EI {id:Int} : ∀ {l:List It},B5 id l=none→∀ i∈l,i.s.id≠id
 | a::l,h,i,m=>by
  simp only[B5]at h
  split at h
  ·cases h
  ·rename_i c
   rcases List.mem_cons.1 m with rfl|m
   ·simpa using c
   ·exact EI h i m
theorem EJ {id:Int} {i:It} : ∀ {l:List It},B5 id l=some i→i∈l∧i.s.id=id
 | a::l,h=>by
  simp only[B5]at h
  split at h
  ·rename_i c
   cases h
   exact⟨List.mem_cons_self ..,eq_of_beq c⟩
  ·obtain⟨h1,h2⟩:=EJ h
   exact⟨List.mem_cons_of_mem _ h1,h2⟩
theorem EK {id:Int} {r:It×aE} : ∀ {l:List Pc},zr id l=some r→∃ f∈l,r.1∈f.flat∧r.1.s.id=id∧r.2=f.name
 | f::l,h=>by
  simp only[zr]at h
  split at h
  ·rename_i i e
   cases h
   obtain⟨h1,h2⟩:=EJ e
   exact⟨f,List.mem_cons_self ..,h1,h2,rfl⟩
  ·obtain⟨g,h1,h2⟩:=EK h
   exact⟨g,List.mem_cons_of_mem _ h1,h2⟩
theorem EL {id:Int} : ∀ {l:List Pc},zr id l=none→∀ f∈l,∀ i∈f.flat,i.s.id≠id
 | f::l,h,g,m,i,hi=>by
  simp only[zr]at h
  split at h
  ·cases h
  ·rename_i e
   rcases List.mem_cons.1 m with rfl|m
   ·exact EI e i hi
   ·exact EL h g m i hi
theorem U2 {p:Pg} (hb:p.may=true) {id:Int} (h : ∃ v∈p.pre,v.id=id):p.B6 id∈p.pre∧(p.B6 id).id=id:=by
 obtain⟨v,hv,hid⟩:=h
 have iz:=(zc hb).1
 unfold Pg.B6
 cases e:zr id p.procs with
 |some r=>
  obtain⟨f,h1,h2,h3,_⟩:=EK e
  refine⟨?_,h3⟩
  simp only[Pg.pre,List.mem_flatten,List.mem_map]
  exact⟨_,⟨f,h1,rfl⟩,by rw[← iz f h1];exact List.mem_map_of_mem h2⟩
 |none=>
  simp only[Pg.pre,List.mem_flatten,List.mem_map]at hv
  obtain⟨l,⟨f,hf,rfl⟩,m⟩:=hv
  rw[← iz f hf,List.mem_map]at m
  obtain⟨i,hi,rfl⟩:=m
  exact absurd hid (EL e f hf i hi)
theorem U3 {p:Pg} (h:(p.arity.1==0)=true) (h2:(p.alias.1==0)=true) : ∀ v∈p.pre,(v.kind==4)=true→v.ym p=true:=by
 unfold Pg.alias at h2
 rw[if_pos h]at h2
 intro v hv hk
 have : ∀ l:List Sm,((p8 8 (JL p l)).1==0)=true→∀ v∈l,(v.kind==4)=true→v.ym p=true:=by
  intro l
  induction l with
  |nil=>intro _ v m;cases m
  | cons a l ih=>
   intro h v m hk
   simp only[JL]at h
   split at h
   ·cases h
   ·rename_i c
    rcases List.mem_cons.1 m with rfl|m
    ·simpa[hk]using c
    ·exact ih h v m hk
 exact this _ h2 v hv hk
section
variable {a b:aE}
end
section
variable {a b:aE} (ha:isName a=true) (hb:isName b=true)
include ha hb
end
def Pg.check (p:Pg):Int×Int:=if p.scope.1==0 then(if p.arity.1==0 then(if p.jump.1==0 then p.alias else p.jump)else p.arity)else p.scope
end Go.Abs
namespace Go.Abs
mutual
def Sm.FE (g:Sm→Sm):Sm→Sm
 |⟨id,kind,labels,name,proc,x,has,args,a7,aX⟩=> {g ⟨id,kind,labels,name,proc,x,has,args,a7,aX⟩with a7:=Sm.HL g a7,aX:=Sm.HL g aX}
def Sm.HL (g:Sm→Sm):List Sm→List Sm
 | []=> []
 |s::l=>s.FE g::Sm.HL g l
end
def It.FE (g:Sm→Sm) (i:It):It:= {i with s:=i.s.FE g}
def Pc.FE (g:Sm→Sm) (f:Pc):Pc:= {f with body:=Sm.HL g f.body}
def Pg.FE (g:Sm→Sm) (p:Pg):Pg:= {p with procs:=p.procs.map (Pc.FE g)}
def au3 (t:Sm) (v:Sm):Sm:=if v.id==t.id then t else v
theorem EM {zm fin:List aE} : ∀ {l:List (Sm×Int)} {seen:List aE},sI zm fin seen l=none↔p7 seen (ib (l.map Prod.fst)++fin)=false∧∀ q∈l,qg zm q.1 q.2=true
 | [],seen=>by
  simp only[sI,List.map_nil,ib,List.nil_append,List.not_mem_nil,false_imp_iff,implies_true,and_true]
  rw[Bs]
  cases p7 seen fin<;>simp
 | (v,lp)::l,seen=>by
  simp only[sI,List.map_cons,ib,List.append_assoc]
  rw[Bs,LJ v.labels]
  cases h:p7 seen v.labels
  ·simp only [Bool.false_eq_true,if_false,if_true,Bool.false_or]
   cases h2:qg zm v lp
   ·simp only [Bool.false_eq_true,if_false,reduceCtorEq,false_iff,not_and]
    intro _ h3
    have:=h3 (v,lp) (List.mem_cons_self ..)
    rw[h2]at this;cases this
   ·simp only [if_true,EM (l:=l),List.mem_cons]
    constructor
    ·rintro⟨h3,h4⟩
     refine⟨h3,fun q hq=>?_⟩
     rcases hq with rfl|hq
     ·exact h2
     ·exact h4 q hq
    ·rintro⟨h3,h4⟩
     exact⟨h3,fun q hq=>h4 q (.inr hq)⟩
  ·simp
theorem EN : ∀ {l:List Pc},sJ l=none↔∀ f∈l,fz f.labels=false∧∀ q∈f.wI,qg f.labels q.1 q.2=true
 | []=>by simp[sJ]
 | f::l=>by
  have e:sI f.labels f.fin [] f.wI=none↔fz f.labels=false∧∀ q∈f.wI,qg f.labels q.1 q.2=true:=by
   rw[EM,Y9];rfl
  simp only[sJ,List.mem_cons]
  split
  ·rename_i id h
   simp only[reduceCtorEq,false_iff]
   intro h3
   rw[e.2 (h3 f (.inl rfl))]at h
   cases h
  ·rename_i h
   rw[EN (l:=l)]
   constructor
   ·intro h3 g hg
    rcases hg with rfl|hg
    ·exact e.1 h
    ·exact h3 g hg
   ·exact fun h3 g hg=>h3 g (.inr hg)
structure Pg.Right (p:Pg):Prop where
 may:p.may=true
 tg:fz p.globals=false
 tp:fz p.pn=false
 main:p.tn=false
 own : ∀ f∈p.procs,fz (p.globals++f.own)=false
 known : ∀ f∈p.procs,∀ v∈Sm.cU f.body,v.known p f p.pn=true
 zm : ∀ f∈p.procs,fz f.labels=false
 leads : ∀ f∈p.procs,∀ q∈f.wI,qg f.labels q.1 q.2=true
 fits : ∀ v∈p.pre,(v.kind==4)=true→v.qf p=true
 single : ∀ v∈p.pre,(v.kind==4)=true→v.ym p=true
theorem Dy {p:Pg} (h:(p.check.1==0)=true):p.Right:=by
 unfold Pg.check at h
 by_cases h1:(p.scope.1==0)=true
 ·rw [if_pos h1]at h
  by_cases h2:(p.arity.1==0)=true
  ·rw [if_pos h2]at h
   by_cases h3:(p.jump.1==0)=true
   ·rw [if_pos h3]at h
    obtain⟨k1,k2,k3,k4⟩:=Dq h1
    have hj:sJ p.procs=none:=by
     unfold Pg.jump at h3
     rw[if_pos h1]at h3
     cases e:sJ p.procs with
     |none=>rfl
     |some id=>rw[e]at h3;cases h3
    rw[EN]at hj
    exact⟨Bl h1,k1,k2,k3,fun f hf=>(k4 f hf).1,fun f hf=>(k4 f hf).2,fun f hf=>(hj f hf).1,fun f hf=>(hj f hf).2,(JI h2).2,U3 h2 h⟩
   ·rw[if_neg h3]at h;exact absurd h h3
  ·rw[if_neg h2]at h;exact absurd h h2
 ·rw[if_neg h1]at h;exact absurd h h1
def AtR (R:Int→Prop) (a:Int):Prop:=a = -1∨R a
theorem B9 {R:Int→Prop} {l:List Sm} {o:Int} (h : ∀ v∈Sm.cU l,R v.id) (ho:AtR R o):AtR R (fU l o):=by
 cases l with
 |nil=>exact ho
 |cons s l=>exact .inr (h s (by rw[Sm.cU,Sm.p6];exact List.mem_append_left _ (List.mem_cons_self ..)))
mutual
theorem ac4 {R:Int→Prop} (proc up next loop:Int) : ∀ s:Sm,(∀ v∈s.pre,R v.id)→AtR R next→(loop=0∨R loop)→
 ∀ x∈s.vB proc up next loop,x.proc=proc∧AtR R x.next∧(x.loop=0∨R x.loop)∧AtR R (fU x.s.a7 (-1))∧AtR R (fU x.s.aX (-1))∧x.s∈s.pre
 | ⟨id,kind,labels,name,pc,x,has,args,a7,aX⟩,h,hn,hl,y,m=>by
  have uA:=h _ (by rw[Sm.p6];exact List.mem_cons_self ..)
  have h1 : ∀ v∈Sm.cU a7,R v.id:=fun v m=>h v (by rw[Sm.p6];exact List.mem_cons_of_mem _ (List.mem_append_left _ m))
  have h2 : ∀ v∈Sm.cU aX,R v.id:=fun v m=>h v (by rw[Sm.p6];exact List.mem_cons_of_mem _ (List.mem_append_right _ m))
  have qJ:AtR R (if kind==6 then id else next):=by split;exact .inr uA;exact hn
  have lU:(if kind==6 then id else loop)=0∨R (if kind==6 then id else loop):=by split;exact .inr uA;exact hl
  rw[Sm.p6]
  simp only[Sm.vB,List.mem_cons,List.mem_append]at m
  rcases m with rfl|m|m
  ·exact⟨rfl,hn,hl,B9 h1 (.inl rfl),B9 h2 (.inl rfl),List.mem_cons_self ..⟩
  ·obtain⟨g1,g2,g3,g4,g5,g6⟩:=yn proc id _ _ a7 h1 qJ lU y m
   exact⟨g1,g2,g3,g4,g5,List.mem_cons_of_mem _ (List.mem_append_left _ g6)⟩
  ·obtain⟨g1,g2,g3,g4,g5,g6⟩:=yn proc id _ _ aX h2 qJ lU y m
   exact⟨g1,g2,g3,g4,g5,List.mem_cons_of_mem _ (List.mem_append_right _ g6)⟩
theorem yn {R:Int→Prop} (proc up next loop:Int) : ∀ l:List Sm,(∀ v∈Sm.cU l,R v.id)→AtR R next→(loop=0∨R loop)→
 ∀ x∈Sm.jI proc up next loop l,x.proc=proc∧AtR R x.next∧(x.loop=0∨R x.loop)∧AtR R (fU x.s.a7 (-1))∧AtR R (fU x.s.aX (-1))∧x.s∈Sm.cU l
 | [],_,_,_,x,m=>by simp[Sm.jI]at m
 | s::l,h,hn,hl,x,m=>by
  simp only[Sm.cU,List.mem_append]at h
  simp only[Sm.jI,List.mem_append]at m
  simp only[Sm.cU,List.mem_append]
  rcases m with m|m
  ·obtain⟨g1,g2,g3,g4,g5,g6⟩:=ac4 proc up _ loop s (fun v m=>h v (.inl m)) (B9 (fun v m=>h v (.inr m)) hn) hl x m
   exact⟨g1,g2,g3,g4,g5, .inl g6⟩
  ·obtain⟨g1,g2,g3,g4,g5,g6⟩:=yn proc up next loop l (fun v m=>h v (.inr m)) hn hl x m
   exact⟨g1,g2,g3,g4,g5, .inr g6⟩
end
theorem JO {x:Im} : ∀ (l:List Pc) (k:Nat),x∈pP k l→∃ i f,l[i]? = some f∧x∈Sm.jI ((k+i:Nat):Int) 0 (-1) 0 f.body
 | [],_,h=>by simp[pP]at h
 | f::l,k,h=>by
  simp only[pP,List.mem_append]at h
  rcases h with h|h
  ·exact⟨0,f,rfl,h⟩
  ·obtain⟨i,g,h1,h2⟩:=JO l (k+1) h
   exact⟨i+1,g,by simpa using h1,by rw[show k+(i+1)=k+1+i by omega];exact h2⟩
theorem JP {x:Im} : ∀ (l:List Pc) (k:Nat) {i:Nat} {f:Pc},l[i]? = some f→x∈Sm.jI ((k+i:Nat):Int) 0 (-1) 0 f.body→x∈pP k l
 |f::l,k,0,g,h,m=>by simp at h;subst h;exact List.mem_append_left _ m
 |f::l,k,i+1,g,h,m=>List.mem_append_right _ (JP l (k+1) (i:=i) (by simpa using h) (by rw[show k+1+i=k+(i+1) by omega];exact m))
theorem RV : ∀ (l:List Pc) (k:Nat),(pP k l).map Im.s=(l.map fun f=>Sm.cU f.body).flatten
 | [],_=>rfl
 |f::l,k=>by simp only[pP,List.map_append,ry,RV l,List.map_cons,List.flatten_cons]
theorem LR {R:Int→Prop} {fin:List aE} {W5:aE} : ∀ {l:List Sm},(∀ v∈l,R v.id)→(kQ fin W5 l).2=true→AtR R (kQ fin W5 l).1
 | [],_,h=>by
  simp only[kQ]at h ⊢
  split at h
  ·rename_i c;rw[if_pos c];exact .inl rfl
  ·cases h
 | v::l,hv,h=>by
  simp only[kQ]at h ⊢
  split
  ·exact .inr (hv v (List.mem_cons_self ..))
  ·rename_i c
   rw[if_neg c]at h
   exact LR (fun w m=>hv w (List.mem_cons_of_mem _ m)) h
def Hm (L:List Im) (k:Int) (a:Int):Prop:=1≤a∧a≤(L.length:Int)∧(fc L a).proc=k
structure Bx (p:Pg) (L:List Im) (x:Im) (f:Pc):Prop where
 self:fc L x.s.id=x∧1≤x.s.id∧x.s.id≤(L.length:Int)
 proc:p.procs[x.proc.toNat]? = some f∧0≤x.proc
 mem:x.s∈Sm.cU f.body
 next:AtR (Hm L x.proc) x.next
 loop:x.s.kind=7∨x.s.kind=8→Hm L x.proc x.loop
 a7:AtR (Hm L x.proc) (fU x.s.a7 (-1))
 aX:AtR (Hm L x.proc) (fU x.s.aX (-1))
 FD:x.s.kind=10→AtR (Hm L x.proc) (kQ f.fin x.s.name (Sm.cU f.body)).1
structure RW (p:Pg) (L:List Im):Prop where
 im : ∀ x∈L,∃ f,Bx p L x f
 head : ∀ (i:Nat) (f:Pc),p.procs[i]? = some f→AtR (Hm L i) (fU f.body (-1))
theorem pb {p:Pg} (h:p.Right):RW p p.aT.L:=by
 have hL:=RH h.may
 have hs:p.aT.L.map Im.s=p.pre:=by rw[hL,RV];rfl
 have hlen:p.aT.L.length=p.pre.length:=by rw[← hs,List.length_map]
 have self : ∀ x∈p.aT.L,fc p.aT.L x.s.id=x∧1≤x.s.id∧x.s.id≤(p.aT.L.length:Int):=fun x m=>by
  obtain⟨i,hi⟩:=List.getElem?_of_mem m
  have h1:=Bj h.may (i:=i) (v:=x.s) (by rw[← hs,List.getElem?_map,hi];rfl)
  have h2:=(List.getElem?_eq_some_iff.1 hi).1
  refine⟨?_,by omega,by omega⟩
  unfold fc
  rw[h1,show(((i+1:Nat):Int) - 1).toNat=i by omega,List.getD_eq_getElem?_getD,hi];rfl
 have there : ∀ (i:Nat) (f:Pc),p.procs[i]? = some f→∀ v∈Sm.cU f.body,Hm p.aT.L i v.id:=fun i f hf v m=>by
  rw[← ry (i:Int) 0 (-1) 0 f.body]at m
  obtain⟨x,hx,rfl⟩:=List.mem_map.1 m
  have hxL:x∈p.aT.L:=by rw[hL];exact JP p.procs 0 hf (by simpa using hx)
  obtain⟨g1,g2,g3⟩:=self x hxL
  exact⟨g2,g3,by rw[g1];exact(yn (R:=fun _=>True) _ 0 (-1) 0 f.body (fun _ _=>trivial) (.inl rfl) (.inl rfl) x hx).1⟩
 refine⟨fun x m=>?_,fun i f hf=>B9 (there i f hf) (.inl rfl)⟩
 have m':=m
 rw[hL]at m'
 obtain⟨i,f,h1,h2⟩:=JO p.procs 0 m'
 have hf:=List.mem_of_getElem? h1
 rw[Nat.zero_add]at h2
 obtain⟨g1,g2,g3,g4,g5,g6⟩:=yn (R:=Hm p.aT.L i) _ 0 (-1) 0 f.body (there i f h1) (.inl rfl) (.inl rfl) x h2
 have hl:=h.leads f hf (x.s,x.loop) (by rw[← JA (i:Int) f];exact List.mem_map.2 ⟨x,h2,rfl⟩)
 refine⟨f,self x m,⟨by rw[g1];simpa using h1,by rw[g1];exact Int.natCast_nonneg _⟩,g6,by rw[g1];exact g2,fun hk=>?_,by rw[g1];exact g4,by rw[g1];exact g5,fun hk=>?_⟩
 ·rw [g1]
  refine g3.resolve_left fun e=>?_
  unfold qg at hl
  rw[if_pos (by rcases hk with hk|hk<;>simp[hk]),e]at hl
  cases hl
 ·rw [g1]
  refine LR (there i f h1) ?_
  unfold qg at hl
  rw[if_neg (by simp[hk]),if_pos (by simp[hk])]at hl
  rw[Bt];exact hl
theorem Hm.at {L:List Im} {k a:Int} (h:AtR (Hm L k) a):my L a:=h.imp_right fun h=>⟨h.1,h.2.1⟩
theorem RW.lok {p:Pg} {L:List Im} (h:RW p L):wK p L:=by
 refine⟨fun x m=>?_,fun x m=>?_,fun x m hk=>?_,fun x m hk=>?_,fun x m=>?_,fun x m=>?_,fun f hf=>?_⟩
 ·obtain⟨f,o⟩:=h.im x m;exact o.self.2
 ·obtain⟨f,o⟩:=h.im x m;exact Hm.at o.next
 ·obtain⟨f,o⟩:=h.im x m;exact⟨(o.loop hk).1,(o.loop hk).2.1⟩
 ·obtain⟨f,o⟩:=h.im x m;exact⟨f,o.proc.1,Hm.at (o.FD hk)⟩
 ·obtain⟨f,o⟩:=h.im x m;exact Hm.at o.a7
 ·obtain⟨f,o⟩:=h.im x m;exact Hm.at o.aX
 ·obtain⟨i,hi⟩:=List.getElem?_of_mem hf
  exact Hm.at (h.head i f hi)
theorem G1 {p:Pg} (h:p.Right):wK p p.aT.L:=(pb h).lok
theorem JQ {vars globals:List aE} {n:aE} : ∀ {l:List Pm},wC vars globals n l≠0→n∈l.map (·.name)∨n∈vars∨n∈globals
 | [],h=>by
  simp only[wC]at h
  split at h
  ·rename_i e;exact .inr (.inl ((iX _ _).1 e))
  ·split at h
   ·rename_i e;exact .inr (.inr ((iX _ _).1 e))
   ·exact absurd rfl h
 | a::l,h=>by
  simp only[wC]at h
  split at h
  ·rename_i e;exact .inl (by simp only[List.map_cons,List.mem_cons];exact .inl (by simpa using Eq.symm (by simpa using e)))
  ·rcases JQ h with h | h
   ·exact .inl (List.mem_cons_of_mem _ h)
   ·exact .inr h
theorem U4 {p:Pg} {f:Pc} {v:Sm} (h:v.known p f p.pn=true) {n:aE} (m:n∈v.said):n∈p.globals++f.own:=by
 simp only[Sm.known,Bool.and_eq_true,Bool.not_eq_true']at h
 have h1:f.lk p n≠0:=fun e=>by
  have:v.said.any (fun n=>f.lk p n==0)=true:=List.any_eq_true.2 ⟨n,m,by simp[e]⟩
  rw[h.1]at this;cases this
 simp only[List.mem_append,Pc.own,Pc.ti]
 rcases JQ h1 with h2|h2|h2
 ·exact .inr (.inl h2)
 ·exact .inr (.inr h2)
 ·exact .inl h2
theorem uM {n:aE} : ∀ {l:List Ar} {out:List aE},n∈out∨(∃ a∈l,a.ref=true∧a.name=n)→n∈Ar.said out l
 | [],out,h=>by rcases h with h|⟨a,m,_⟩;exact h;cases m
 | b::l,out,h=>by
  simp only[Ar.said]
  refine uM ?_
  rcases h with h|⟨a,m,h1,h2⟩
  ·left;split<;>simp[h]
  ·rcases List.mem_cons.1 m with rfl | m
   ·left;rw[if_pos h1];simp[h2]
   ·exact .inr ⟨a,m,h1,h2⟩
theorem JR {x:aE} : ∀ {l:List aE} {k:Nat},x∈l→∃ j:Nat,iW x (k:Int) l=((k+j:Nat):Int)∧j<l.length
 | s::l,k,m=>by
  by_cases e:x=s
  ·subst e;exact⟨0,by simp[iW],by simp⟩
  ·have e':(x==s)=false:=by simp [e]
   obtain⟨j,h1,h2⟩:=JR (l:=l) (k:=k+1) ((List.mem_cons.1 m).resolve_left e)
   refine⟨j+1, ?_,by simp;omega⟩
   simp only[iW,e',Bool.false_eq_true,if_false]
   rw[show(k:Int)+1=((k+1:Nat):Int) by omega,h1];congr 1;omega
theorem HM {name:aE} {f:Pc} : ∀ {l:List Pc} {k:Nat},iM name l=some f→∃ j:Nat,kO (fun f:Pc=>f.name==name) (k:Int) l=((k+j:Nat):Int)∧l[j]? = some f
 | g::l,k,h=>by
  simp only[iM]at h
  by_cases e:(g.name==name)=true
  ·rw [if_pos e]at h;cases h
   exact⟨0,by simp only[kO,e,if_true,Nat.add_zero],rfl⟩
  ·have e':(g.name==name)=false:=by simpa using e
   rw[if_neg e]at h
   obtain⟨j,h1,h2⟩:=HM (l:=l) (k:=k+1) h
   refine⟨j+1, ?_,by simpa using h2⟩
   simp only[kO,e',Bool.false_eq_true,if_false]
   rw[show(k:Int)+1=((k+1:Nat):Int) by omega,h1];congr 1;omega
def Dz (p:Pg) (n:Nat) (fr:Fr):Prop:=∃ f,p.procs[fr.proc.toNat]? = some f∧0≤fr.proc∧fr.names=p.globals++f.own∧fr.vars.length=fr.names.length∧∀ c∈fr.vars,c<n
def Ca (L:List Im):List Fr→Prop
 | []=>False
 | [fr]=>fr.call=0
 |fr::uv::l=>(Hm L uv.proc fr.call∧(fc L fr.call).s.kind=4)∧Ca L (uv::l)
structure pd (p:Pg) (L:List Im) (a:Int) (m:Mc):Prop where
 st:Ca L m.st
 fr : ∀ fr∈m.st,Dz p m.mem.length fr
 at_:AtR (Hm L m.top.proc) a
 tW:p.globals.length≤m.mem.length
theorem Dz.mono {p:Pg} {n n':Nat} {fr:Fr} (h:Dz p n fr) (hn:n≤n'):Dz p n' fr:=by
 obtain⟨f,h1,h2,h3,h4,h5⟩:=h
 exact⟨f,h1,h2,h3,h4,fun c m=>Nat.lt_of_lt_of_le (h5 c m) hn⟩
theorem Ca.ne {L:List Im} {l:List Fr} (h:Ca L l) : ∃ fr r,l=fr::r:=by
 cases l with
 |nil=>exact h.elim
 |cons fr r=>exact⟨fr,r,rfl⟩
theorem Mc.Zf {L:List Im} {m:Mc} (h:Ca L m.st):m.top∈m.st:=by
 obtain⟨fr,r,e⟩:=h.ne
 simp[Mc.top,e]
theorem pd.of {p:Pg} {L:List Im} {a a':Int} {m m':Mc} (h:pd p L a m) (h1:m'.st=m.st) (h2:m.mem.length≤m'.mem.length) (h3:AtR (Hm L m.top.proc) a'):pd p L a' m':=by
 have ht:m'.top=m.top:=by unfold Mc.top;rw[h1]
 exact⟨by rw[h1];exact h.st,fun fr hf=>(h.fr fr (by rw[← h1];exact hf)).mono h2,by rw[ht];exact h3,Nat.le_trans h.tW h2⟩
section
variable {p:Pg} {L:List Im} {m:Mc}
theorem Zg {n:aE} {k:Nat} (h:Dz p k m.top) (hn:n∈m.top.names):m.cell n<k∧∃ j:Nat,iW n 0 m.top.names=(j:Int)∧m.top.vars[j]? = some (m.cell n):=by
 obtain⟨f,h1,h2,h3,h4,h5⟩:=h
 obtain⟨j,e1,e2⟩:=JR (k:=0) hn
 have e3:iW n 0 m.top.names=(j:Int):=by simpa using e1
 have e4:m.top.vars[j]? = some (m.cell n):=by
  unfold Mc.cell
  rw[e3,Int.toNat_natCast,List.getD_eq_getElem?_getD,List.getElem?_eq_getElem (by omega)];rfl
 exact⟨h5 _ (List.mem_of_getElem? e4),j,e3,e4⟩
theorem FF {k:Nat} (hk:p.globals.length≤k) : ∀ (l:List Ar) (m:Mc) (out:List Nat),Dz p m.mem.length m.top→(∀ a∈l,a.ref=true→a.name∈m.top.names)→(∀ c∈out,c<m.mem.length)→
 m.mem.length≤(Mc.args l m out).2.mem.length∧∀ o,(Mc.args l m out).1=some o→o.length=out.length+l.length∧∀ c∈o,c<(Mc.args l m out).2.mem.length
 | [],m,out,h,_,ho=>⟨Nat.le_refl _,fun o e=>by cases e;exact⟨rfl,ho⟩⟩
 | a::l,m,out,h,hn,ho=>by
  simp only[Mc.args]
  by_cases c:a.ref=true
  ·rw [if_pos c]
   obtain⟨g1,g2⟩:=FF hk l m (out++ [m.cell a.name]) h (fun b mb=>hn b (List.mem_cons_of_mem _ mb)) fun x mx=>by
    rcases List.mem_append.1 mx with mx|mx
    ·exact ho x mx
    ·rw[List.mem_singleton.1 mx];exact(Zg h (hn a (List.mem_cons_self ..) c)).1
   exact⟨g1,fun o e=>⟨by rw[(g2 o e).1];simp;omega,(g2 o e).2⟩⟩
  ·rw [if_neg c]
   have he:=gw m a.x
   by_cases c2:(m.bg a.x).1.2=true
   ·rw [if_pos c2]
    have ht:({(m.bg a.x).2 with mem:=(m.bg a.x).2.mem++ [(m.bg a.x).1.1]} : Mc).top=m.top:=by unfold Mc.top;rw[he.1]
    have hl:(m.bg a.x).2.mem.length=m.mem.length:=by rw[he.2.1]
    obtain⟨g1,g2⟩:=FF hk l {(m.bg a.x).2 with mem:=(m.bg a.x).2.mem++ [(m.bg a.x).1.1]} (out++ [(m.bg a.x).2.mem.length]) (by rw[ht];exact h.mono (by simp[hl])) (by rw[ht];exact fun b mb=>hn b (List.mem_cons_of_mem _ mb)) fun x mx=>by
     rcases List.mem_append.1 mx with mx|mx
     ·have:=ho x mx;simp[hl];omega
     ·rw[List.mem_singleton.1 mx];simp
    exact⟨Nat.le_trans (by simp[hl]) g1,fun o e=>⟨by rw[(g2 o e).1];simp;omega,(g2 o e).2⟩⟩
   ·rw [if_neg c2]
    exact⟨by rw[he.2.1];exact Nat.le_refl _,fun o e=>by cases e⟩
theorem LS (hP:RW p L) {i:Nat} {f:Pc} (hf:p.procs[i]? = some f) {l:List Nat} {call:Int} (hl:l.length=f.params.length) (hc : ∀ c∈l,c<m.mem.length) (hg:p.globals.length≤m.mem.length)
 (rM : ∀ fr∈m.st,Dz p m.mem.length fr) (ja:(m.st = []∧call=0)∨(Ca L m.st∧Hm L m.top.proc call∧(fc L call).s.kind=4)):pd p L (m.open p (i:Int) l call).1 (m.open p (i:Int) l call).2:=by
 unfold Mc.open
 rw[Int.toNat_natCast,hf]
 dsimp only
 refine⟨?_,fun fr h=>?_,by exact hP.head i f hf,by simp;omega⟩
 ·rcases ja with ⟨h1,h2⟩ | ⟨h1,h2⟩
  ·rw[h1];exact h2
  ·obtain⟨fr,r,e⟩:=h1.ne
   dsimp only
   rw[e]at h1 ⊢
   have:m.top=fr:=by simp[Mc.top,e]
   rw[this]at h2
   exact⟨h2,h1⟩
 ·rcases List.mem_cons.1 h with rfl | h
  ·refine⟨f,by rw [Int.toNat_natCast];exact hf,Int.natCast_nonneg _,rfl,by simp [Pc.own,Pc.ti,hl],fun c m=> ?_⟩
   simp only[List.mem_append,List.mem_range,List.mem_map]at m
   simp only[List.length_append,List.length_replicate]
   rcases m with (m|m)|⟨x,m,rfl⟩
   ·omega
   ·have:=hc c m;omega
   ·omega
  ·exact(rM fr h).mono (by simp)
theorem Zh (hP:RW p L) {a:Int} (h:pd p L a m) {g:Int} {a':Int} {m':Mc} (e:m.back L g=(some a',m')):pd p L a' m':=by
 have hs:=h.st
 unfold Mc.back Mc.close at e
 dsimp only at e
 obtain⟨fr,r,es⟩:=hs.ne
 have ht:m.top=fr:=by simp[Mc.top,es]
 by_cases c:(m.top.call==0)=true
 ·rw[if_pos c]at e;cases e
 ·rw [if_neg c]at e
  rw[es]at hs
  cases r with
  |nil=>rw[ht]at c;exact absurd (beq_iff_eq.2 (show fr.call=0 from hs)) c
  | cons uv r=>
   obtain⟨⟨h1,_⟩,h2⟩:=hs
   have gp:fc L m.top.call∈L:=nT (.inr (by rw[ht];exact⟨h1.1,h1.2.1⟩)) (by have:=h1.1;rw[ht];omega)
   obtain⟨f,o⟩:=hP.im _ gp
   have ho:=o.next
   rw[show(fc L m.top.call).proc=uv.proc by rw[ht];exact h1.2.2]at ho
   rw[ht]at ho
   split at e<;>(dsimp only at e;split at e)<;>first|(cases e;done)|skip
   all_goals
    cases e
    refine⟨by simp only[Mc.set,es,List.tail_cons];exact h2,fun q hq=>?_,by simp only[Mc.set,Mc.top,es,List.tail_cons,List.headD_cons];exact ho,by simp only[Mc.set,List.length_set];exact h.tW⟩
    simp only[Mc.set,List.length_set]at hq ⊢
    exact h.fr q (by rw[es]at hq ⊢;exact List.mem_cons_of_mem _ hq)
end
theorem zv {p:Pg} (hR:p.Right) {x:Im} {f:Pc} (h:Bx p p.aT.L x f) {n:aE} (m:n∈x.s.said):n∈p.globals++f.own:=
 U4 (hR.known f (List.mem_of_getElem? h.proc.1) x.s h.mem) m
theorem Zi {p:Pg} (hR:p.Right) {x:Im} {f:Pc} (h:Bx p p.aT.L x f) (hk:x.s.kind=4) : ∃ (j:Nat) (q:Pc),p.at x.s.proc=(j:Int)∧p.procs[j]? = some q∧x.s.args.length=q.params.length:=by
 have pO:x.s∈p.pre:=by
  simp only[Pg.pre,List.mem_flatten,List.mem_map];exact⟨_,⟨f,List.mem_of_getElem? h.proc.1,rfl⟩,h.mem⟩
 have hf:=hR.fits x.s pO (by simp[hk])
 unfold Sm.qf at hf
 simp only[Bool.and_eq_true]at hf
 cases e:p.find x.s.proc with
 |none=>rw[e]at hf;cases hf.2
 |some q=>
  rw[e]at hf
  obtain⟨j,h1,h2⟩:=HM (k:=0) e
  refine⟨j,q,by simpa[Pg.at]using h1,h2, ?_⟩
  have:=hf.2
  simp only[B4]at this
  split at this
  ·rename_i h3;have:=(beq_iff_eq.1 h3);omega
  ·cases this
theorem Zj {p:Pg} (hR:p.Right) {m:Mc} {W:List Int} {x:Im} {f:Pc} {a a':Int} {m':Mc} (h:pd p p.aT.L a m) (hx:Bx p p.aT.L x f) (hk:x.s.kind=4) (hp:x.proc=m.top.proc) (JS:(m.call p W x.s).2.fin=0)
 (e:m.call p W x.s=(a',m')) (h0:m.fin=0):pd p p.aT.L a' m':=by
 have hP:=pb hR
 have zw:=h.fr _ (Mc.Zf h.st)
 obtain⟨f',t1,t2,t3,t4,t5⟩:=zw
 have ef:f'=f:=by have:=hx.proc.1;rw[hp,t1]at this;exact Option.some.inj this
 subst ef
 have ac6 : ∀ b∈x.s.args,b.ref=true→b.name∈m.top.names:=fun b mb hb=>by
  rw[t3];exact zv hR hx (uM (.inr ⟨b,mb,hb,rfl⟩))
 obtain⟨j,q,c1,c2,c3⟩:=Zi hR hx hk
 have g1:=FF h.tW x.s.args m [] ⟨f',t1,t2,t3,t4,t5⟩ ac6 (by simp)
 have g2:=uP x.s.args m []
 have g3:=zo x.s.args m [] h0
 unfold Mc.call at e JS
 generalize Mc.args x.s.args m [] = r at *
 obtain⟨o,m1⟩:=r
 cases o with
 |none=>
  dsimp only at JS g3
  rw[g3.2]at JS;cases JS
 | some l=>
  dsimp only at e JS g1 g2 g3
  by_cases c:m1.st.length > 100
  ·rw[if_pos c]at JS;cases JS
  ·rw [if_neg c]at e
   have he:=eJ W m1 x.s.id []
   have ht:(m1.event W x.s.id []).top=m.top:=by unfold Mc.top;rw[he.1,g2.1]
   have:=LS (m:=m1.event W x.s.id []) hP c2 (l:=l) (call:=x.s.id) (by rw[(g1.2 l rfl).1,c3];simp) (by rw[he.2.1];exact(g1.2 l rfl).2) (by rw[he.2.1];exact Nat.le_trans h.tW g1.1)
    (by rw[he.1,he.2.1,g2.1];exact fun fr rM=>(h.fr fr rM).mono g1.1) (.inr ⟨by rw[he.1,g2.1];exact h.st,by rw[ht];exact⟨hx.self.2.1,hx.self.2.2,by rw[hx.self.1];exact hp⟩,by rw[hx.self.1];exact hk⟩)
   rw[← c1,e]at this
   exact this
theorem agL {p:Pg} (hR:p.Right) {m:Mc} {T W:List Int} {x:Im} {f:Pc} {a:Int} (h:pd p p.aT.L a m) (hx:Bx p p.aT.L x f) (hp:x.proc=m.top.proc) :
 ((m.do p p.aT.L T W x).2.fin=0→pd p p.aT.L (m.do p p.aT.L T W x).1 (m.do p p.aT.L T W x).2):=by
 intro h0
 have ev : ∀ (m1:Mc) (id:Int) (bM:List Int),(m1.event W id bM).st=m1.st∧(m1.event W id bM).mem=m1.mem:=fun m1 id bM=>⟨(eJ W m1 id bM).1,(eJ W m1 id bM).2.1⟩
 have key : ∀ (m1:Mc) (b:Int),m1.st=m.st→m1.mem.length=m.mem.length→AtR (Hm p.aT.L x.proc) b→pd p p.aT.L b m1:=fun m1 b h1 h2 h3=>h.of h1 (Nat.le_of_eq h2.symm) (by rw[← hp];exact h3)
 have hw:=gw m x.s.x
 unfold Mc.do at h0 ⊢
 dsimp only at h0 ⊢
 by_cases c7:(x.s.kind==7)=true
 ·rw [if_pos c7]
  have hk:x.s.kind=7:=by simpa using c7
  have hl:=hx.loop (.inl hk)
  have gp:=nT (L:=p.aT.L) (a:=x.loop) (.inr ⟨hl.1,hl.2.1⟩) (by have:=hl.1;omega)
  obtain⟨g,o⟩:=(pb hR).im _ gp
  refine key _ _ (ev _ _ _).1 (by rw[(ev _ _ _).2]) ?_
  have:=o.next
  rw[hl.2.2]at this;exact this
 rw[if_neg c7]at h0 ⊢
 by_cases c8:(x.s.kind==8)=true
 ·rw [if_pos c8]
  exact key _ _ (ev _ _ _).1 (by rw[(ev _ _ _).2]) (.inr (hx.loop (.inr (by simpa using c8))))
 rw[if_neg c8]at h0 ⊢
 by_cases yo:(x.s.kind==10)=true
 ·rw [if_pos yo]
  refine key _ _ (ev _ _ _).1 (by rw[(ev _ _ _).2]) ?_
  have:=hx.FD (by simpa using yo)
  rw[hx.proc.1];exact this
 rw[if_neg yo]at h0 ⊢
 by_cases c2:(x.s.kind==2)=true
 ·rw [if_pos c2]at h0 ⊢
  split at h0
  ·cases h0
  ·rename_i n e
   exact key _ _ (ev _ _ _).1 (by rw[(ev _ _ _).2];simp[Mc.set]) hx.next
 rw[if_neg c2]at h0 ⊢
 by_cases cw:(m.bg x.s.x).1.2=true
 ·rw [if_pos cw]at h0 ⊢
  have e1:((m.bg x.s.x).2.event W x.s.id [(m.bg x.s.x).1.1]).st=m.st:=(ev _ _ _).1.trans hw.1
  have e2:((m.bg x.s.x).2.event W x.s.id [(m.bg x.s.x).1.1]).mem.length=m.mem.length:=by rw[(ev _ _ _).2,hw.2.1]
  have fo : ∀ (l:List Sm) (b:Int),AtR (Hm p.aT.L x.proc) (fU l (-1))→AtR (Hm p.aT.L x.proc) b→AtR (Hm p.aT.L x.proc) (firstM l b):=fun l b h1 h2=>by
   cases l with
   |nil=>exact h2
   |cons s l=>exact h1
  split
  ·exact key _ _ e1 (by simp only[Mc.set,List.length_set];exact e2) hx.next
  split
  ·exact key _ _ e1 e2 hx.next
  split
  ·refine key _ _ e1 e2 ?_
   split
   ·exact fo _ _ hx.aX hx.next
   ·exact fo _ _ hx.a7 hx.next
  split
  ·refine key _ _ e1 e2 ?_
   split
   ·exact hx.next
   ·exact fo _ _ hx.a7 (.inr ⟨hx.self.2.1,hx.self.2.2,by rw[hx.self.1]⟩)
  ·exact key _ _ e1 e2 hx.next
 ·rw [if_neg cw]at h0
  have:(m.bg x.s.x).2.fin=4:=by unfold Mc.bg;dsimp only;rw[if_neg (show ¬ (x.s.x.bg m.top.names m.bM).2=true from cw)]
  rw[this]at h0;cases h0
end Go.Abs
namespace Go.Abs
structure Lay where
 κ:List Nat
 φ:List Nat
 sd:D
 vd:D
def D.arr:D→List Nat
 | .dZ _ o _ _=> [o]
 |_=> []
def Lay.own (y:Lay):List Nat:=0::(y.κ++(y.sd.arr++y.vd.arr))
def fe (o:Nat):List D:= [.ptr o 0]
def pe (κ:List Nat) (f:Fr):List D:= [.int .i64 f.proc, .slice .shared 1 (f.names.map encStr), .slice .shared 1 (f.vars.map fun c=>fe (κ.getD c 0)), .int .i64 f.call]
def nV (e:Int×List Int):List D:= [.int .i64 e.1, .slice .shared 1 (e.2.map cq)]
abbrev fk (p:Pg) (T W:List Int) (y:Lay) (m:Mc):List D:=
 [.dt (fq p) 0, .slice .shared 1 ((y.κ.take p.globals.length).map fe), .slice .shared 1 (T.map cq), .slice .shared 1 (W.map cq),y.sd,y.vd,
  .int .i64 m.fin, .int .i64 m.steps, .int .i64 m.reads, .slice (.tok 0) 1 (m.out.map cq), .slice (.tok 1) 2 (m.trace.map nV)]
def qt (n:Int):D:= .int .i64 n
def xn (o:Nat):D:= .ptr o 0
def jx (s:St) (d:D) (cs:List D):Prop:=(d = .dX 1∧cs = [])∨∃ o g more,d = .dZ 1 o g cs.length∧s.ah[o]? = some (.int .i64 ((g:Nat):Int)::(cs++more))
structure Inv (p:Pg) (T W:List Int) (y:Lay) (m:Mc) (loc:List (Nat×List D)) (s:St):Prop where
 jy:s.ah[0]? = some (fk p T W y m)
 t0:s.au[0]? = some (some m.out.length)
 t1:s.au[1]? = some (some m.trace.length)
 len:y.κ.length=m.mem.length
 cell : ∀ (i c:Nat) (v:Int),y.κ[i]? = some c→m.mem[i]? = some v→s.ah[c]? = some [.int .i64 v]
 si:y.φ.length=m.st.length
 frame : ∀ (i o:Nat) (fr:Fr),y.φ[i]? = some o→m.st[i]? = some fr→s.ah[o]? = some (pe y.κ fr)∧o∉y.own∧∀ c∈fr.vars,c<m.mem.length
 stack:jx s y.sd (y.φ.reverse.map xn)
 bM : ∃ l:List Int,jx s y.vd (l.map qt)
 own:y.own.Nodup
 loc : ∀ q∈loc,s.ah[q.1]? = some q.2∧q.1∉y.own
theorem jx.lt {s:St} {d:D} {cs:List D} (h:jx s d cs) : ∀ o∈d.arr,o<s.ah.length:=by
 rcases h with ⟨rfl,_⟩|⟨o,g,more,rfl,h⟩
 ·intro o m;simp[D.arr]at m
 ·intro o' m
  have:o'=o:=by simpa[D.arr]using m
  subst this;exact fQ h
theorem jx.keep {s s':St} {d:D} {cs:List D} (h:jx s d cs) (k : ∀ o∈d.arr,s'.ah[o]? = s.ah[o]?):jx s' d cs:=by
 rcases h with h|⟨o,g,more,rfl,h⟩
 ·exact .inl h
 ·exact .inr ⟨o,g,more,rfl,by rw[k o (by simp[D.arr])];exact h⟩
theorem G2 {κ e:List Nat} {fr:Fr} (h : ∀ c∈fr.vars,c<κ.length):pe (κ++e) fr=pe κ fr:=by
 unfold pe
 rw[List.map_congr_left (g:=fun c=>fe (κ.getD c 0)) fun c m=>by rw[List.getD_eq_getElem?_getD,List.getD_eq_getElem?_getD,List.getElem?_append_left (h c m)]]
section
variable {p:Pg} {T W:List Int} {y:Lay} {m:Mc} {loc:List (Nat×List D)} {s:St}
theorem Inv.tt (h:Inv p T W y m loc s) : ∀ o∈y.own,o<s.ah.length:=by
 intro o mo
 simp only[Lay.own,List.mem_cons,List.mem_append]at mo
 rcases mo with rfl|mo|mo|mo
 ·exact fQ h.jy
 ·obtain⟨i,hi⟩:=List.getElem?_of_mem mo
  have hD:=(List.getElem?_eq_some_iff.1 hi).1
  exact fQ (h.cell i o _ hi (List.getElem?_eq_getElem (by rw[← h.len];exact hD)))
 ·exact h.stack.lt o mo
 ·obtain⟨l,hl⟩:=h.bM
  exact hl.lt o mo
theorem Inv.uw (h:Inv p T W y m loc s):0<s.ah.length:=fQ h.jy
theorem Inv.sub (h:Inv p T W y m loc s) {ac7:List (Nat×List D)} (hl : ∀ q∈ac7,q∈loc):Inv p T W y m ac7 s:= {h with loc:=fun q m=>h.loc q (hl q m)}
theorem Inv.keep (h:Inv p T W y m loc s) {s':St} (k : ∀ (o:Nat) (r:List D),s.ah[o]? = some r→s'.ah[o]? = some r) (k0:s'.au[0]? = s.au[0]?) (k1:s'.au[1]? = s.au[1]?):Inv p T W y m loc s':=by
 have ka : ∀ {d:D} {cs:List D},jx s d cs→jx s' d cs:=fun ha=>ha.keep fun o mo=>by
  rw[List.getElem?_eq_getElem (ha.lt o mo)];exact k o _ (List.getElem?_eq_getElem _)
 obtain⟨l,hl⟩:=h.bM
 exact⟨k _ _ h.jy,by rw[k0];exact h.t0,by rw[k1];exact h.t1,h.len,fun i c v h1 h2=>k _ _ (h.cell i c v h1 h2),h.si,fun i o fr h1 h2=>⟨k _ _ (h.frame i o fr h1 h2).1,(h.frame i o fr h1 h2).2⟩,
  ka h.stack,⟨l,ka hl⟩,h.own,fun q m=>⟨k _ _ (h.loc q m).1,(h.loc q m).2⟩⟩
theorem Inv.new (h:Inv p T W y m loc s) (row:List D):Inv p T W y m ((s.ah.length,row)::loc) ⟨s.ah++ [row],s.au⟩:=by
 have h':=h.keep (s':=⟨s.ah++ [row],s.au⟩) (fun o r e=>by rw[List.getElem?_append_left (fQ e)];exact e) rfl rfl
 refine {h' with loc:=fun q mq=>?_}
 rcases List.mem_cons.1 mq with rfl|mq
 ·exact⟨by simp,fun mo=>Nat.lt_irrefl _ (h.tt _ mo)⟩
 ·exact h'.loc q mq
theorem Inv.au (h:Inv p T W y m loc s) (ts:List (Option Nat)):Inv p T W y m loc ⟨s.ah,s.au++ts⟩:=
 h.keep (fun _ _ e=>e) (List.getElem?_append_left (List.getElem?_eq_some_iff.1 h.t0).1) (List.getElem?_append_left (List.getElem?_eq_some_iff.1 h.t1).1)
theorem Inv.Mg (h:Inv p T W y m loc s) {o:Nat} (ho:o∈y.own) (row:List D) {q:Nat} {r:List D} (hq:s.ah[q]? = some r) (hn:q≠o):(s.ah.set o row)[q]? = some r:=by
 rw[List.getElem?_set_ne (Ne.symm hn)];exact hq
theorem Inv.vG (h:Inv p T W y m loc s) {o:Nat} (ho:o∈y.κ++(y.sd.arr++y.vd.arr)):o≠0:=fun e=>by
 have:=h.own
 rw[Lay.own,List.nodup_cons]at this
 exact this.1 (e ▸ ho)
theorem Inv.tF (h:Inv p T W y m loc s) {m':Mc} (h1:m'.st=m.st) (h2:m'.mem=m.mem) {ts:List (Option Nat)} (k0:ts[0]? = some (some m'.out.length)) (k1:ts[1]? = some (some m'.trace.length)) :
 Inv p T W y m' loc ⟨s.ah.set 0 (fk p T W y m'),ts⟩:=by
 have ne : ∀ {q:Nat} {r:List D},s.ah[q]? = some r→q≠0→(s.ah.set 0 (fk p T W y m'))[q]? = some r:=fun e hn=>h.Mg (by simp[Lay.own]) _ e hn
 have nf : ∀ {q:Nat},q∉y.own→q≠0:=fun hq e=>hq (by rw[e];simp[Lay.own])
 have ka : ∀ {d:D} {cs:List D},(∀ o∈d.arr,o∈y.κ++(y.sd.arr++y.vd.arr))→jx s d cs→jx ⟨s.ah.set 0 (fk p T W y m'),ts⟩ d cs:=fun hd ha=>ha.keep fun o mo=>by
  show(s.ah.set 0 _)[o]? = _
  rw[List.getElem?_set_ne (Ne.symm (h.vG (hd o mo)))]
 obtain⟨l,hl⟩:=h.bM
 refine⟨by simp[h.uw],k0,k1,by rw[h2];exact h.len,fun i c v e1 e2=>ne (h.cell i c v e1 (by rw[← h2];exact e2)) (h.vG (List.mem_append_left _ (List.mem_of_getElem? e1))),by rw[h1];exact h.si,fun i o fr e1 e2=>?_,
  ka (fun o m=>by simp[m]) h.stack,⟨l,ka (fun o m=>by simp[m]) hl⟩,h.own,fun q mq=>⟨ne (h.loc q mq).1 (nf (h.loc q mq).2),(h.loc q mq).2⟩⟩
 rw[h1]at e2
 obtain⟨g1,g2,g3⟩:=h.frame i o fr e1 e2
 exact⟨ne g1 (nf g2),g2,by rw[h2];exact g3⟩
theorem Inv.U5 (h:Inv p T W y m loc s) {i c:Nat} (hc:y.κ[i]? = some c) (v:Int):Inv p T W y {m with mem:=m.mem.set i v} loc ⟨s.ah.set c [.int .i64 v],s.au⟩:=by
 have gp:c∈y.κ:=List.mem_of_getElem? hc
 have oE:c<s.ah.length:=h.tt c (by simp[Lay.own,gp])
 have zW:=h.own
 rw[Lay.own,List.nodup_cons,List.nodup_append]at zW
 have hκ : ∀ i',y.κ[i']? = some c→i'=i:=fun i' e=>(List.getElem?_inj (List.getElem?_eq_some_iff.1 e).1 zW.2.1).1 (e.trans hc.symm)
 have ne : ∀ {q:Nat} {r:List D},s.ah[q]? = some r→q≠c→(s.ah.set c [.int .i64 v])[q]? = some r:=fun e hn=>h.Mg (o:=c) (by simp[Lay.own,gp]) _ e hn
 have nf : ∀ {q:Nat},q∉y.own→q≠c:=fun hq e=>hq (by rw[e];simp[Lay.own,gp])
 have ka : ∀ {d:D} {cs:List D},(∀ o∈d.arr,o∈y.sd.arr++y.vd.arr)→jx s d cs→jx ⟨s.ah.set c [.int .i64 v],s.au⟩ d cs:=fun hd ha=>ha.keep fun o mo=>by
  show(s.ah.set c _)[o]? = _
  rw[List.getElem?_set_ne (fun e=>zW.2.2.2 c gp o (hd o mo) e)]
 obtain⟨l,hl⟩:=h.bM
 refine⟨ne h.jy (fun e=>h.vG (List.mem_append_left _ gp) e.symm),h.t0,h.t1,by rw[h.len,List.length_set],fun i' c' v' e1 e2=>?_,h.si,fun i' o fr e1 e2=>?_,
  ka (fun o m=>by simp[m]) h.stack,⟨l,ka (fun o m=>by simp[m]) hl⟩,h.own,fun q mq=>⟨ne (h.loc q mq).1 (nf (h.loc q mq).2),(h.loc q mq).2⟩⟩
 ·show(s.ah.set c _)[c']? = _
  simp only[List.getElem?_set]at e2
  by_cases e:i=i'
  ·subst e
   rw[hc]at e1;cases e1
   rw[if_pos rfl]at e2
   split at e2
   ·cases e2;simp[oE]
   ·cases e2
  ·rw [if_neg e]at e2
   have:c'≠c:=fun ec=>e (hκ i' (by rw[e1,ec])).symm
   exact ne (h.cell i' c' v' e1 e2) this
 ·obtain⟨g1,g2,g3⟩:=h.frame i' o fr e1 e2
  exact⟨ne g1 (nf g2),g2,by simpa using g3⟩
theorem Inv.amT (h:Inv p T W y m loc s) (v:Int) (hg:p.globals.length≤m.mem.length):Inv p T W {y with κ:=y.κ++ [s.ah.length]} {m with mem:=m.mem++ [v]} loc ⟨s.ah++ [[.int .i64 v]],s.au⟩:=by
 have h':=h.keep (s':=⟨s.ah++ [[.int .i64 v]],s.au⟩) (fun o r e=>by rw[List.getElem?_append_left (fQ e)];exact e) rfl rfl
 have nO:s.ah.length∉y.own:=fun mo=>Nat.lt_irrefl _ (h.tt _ mo)
 have zW:=h.own
 have ho : ∀ o,o∈Lay.own {y with κ:=y.κ++ [s.ah.length]}→o∈y.own∨o=s.ah.length:=fun o mo=>by
  simp only[Lay.own,List.mem_cons,List.mem_append]at mo ⊢
  rcases mo with rfl|(mo|rfl|mo)|mo|mo
  ·exact .inl (.inl rfl)
  ·exact .inl (.inr (.inl mo))
  ·exact .inr rfl
  ·cases mo
  ·exact .inl (.inr (.inr (.inl mo)))
  ·exact .inl (.inr (.inr (.inr mo)))
 refine⟨by rw[h'.jy];simp only[fk];rw[List.take_append_of_le_length (by rw[h.len];exact hg)],h'.t0,h'.t1,by simp[h.len],fun i c v' e1 e2=>?_,h'.si,fun i o fr e1 e2=>?_,h'.stack,h'.bM, ?_,fun q mq=>⟨(h'.loc q mq).1,fun mo=>?_⟩⟩
 ·rcases Nat.lt_or_ge i y.κ.length with hi | hi
  ·rw [List.getElem?_append_left hi]at e1
   rw[List.getElem?_append_left (by rw[← h.len];exact hi)]at e2
   exact h'.cell i c v' e1 e2
  ·have gN:i=y.κ.length:=by
    have:=(List.getElem?_eq_some_iff.1 e1).1
    simp at this;omega
   subst gN
   rw[List.getElem?_append_right (Nat.le_refl _)]at e1
   rw[List.getElem?_append_right (by rw[h.len];exact Nat.le_refl _)]at e2
   simp at e1;subst e1
   simp[h.len]at e2;subst e2
   simp
 ·obtain⟨g1,g2,g3⟩:=h'.frame i o fr e1 e2
  refine⟨by rw[G2 (by rw[h.len];exact g3)];exact g1,fun mo=>?_,fun c mc=>by simp only[List.length_append];have:=g3 c mc;omega⟩
  rcases ho o mo with mo|rfl
  ·exact g2 mo
  ·exact absurd (fQ (h.frame i _ fr e1 e2).1) (Nat.lt_irrefl _)
 ·have:(Lay.own {y with κ:=y.κ++ [s.ah.length]}).Perm (s.ah.length::y.own):=by
   simp only[Lay.own,List.append_assoc,List.singleton_append]
   exact(List.Perm.cons _ List.perm_middle).trans (List.Perm.swap _ _ _)
  rw[this.nodup_iff,List.nodup_cons]
  exact⟨nO,zW⟩
 ·rcases ho _ mo with mo | e
  ·exact(h'.loc q mq).2 mo
  ·exact absurd (fQ (h.loc q mq).1) (by rw[e];exact Nat.lt_irrefl _)
theorem Inv.O2 (h:Inv p T W y m loc s) {vd:D} {s1:St} (k : ∀ (o:Nat) (r:List D),s.ah[o]? = some r→o∉y.vd.arr→s1.ah[o]? = some r) (hv : ∃ l:List Int,jx s1 vd (l.map qt)) (hn:vd.arr=y.vd.arr∨vd.arr = []∨vd.arr = [s.ah.length]) (ht:s1.au=s.au) :
 Inv p T W {y with vd:=vd} m loc ⟨s1.ah.set 0 (fk p T W {y with vd:=vd} m),s1.au⟩:=by
 have zW:=h.own
 have ac8:=zW
 rw[Lay.own,List.nodup_cons,List.nodup_append,List.nodup_append]at ac8
 obtain⟨n0,nκ,⟨ns,nv,Xp⟩,JV⟩:=ac8
 have v0 : ∀ o∈y.vd.arr,o≠0:=fun o mo=>h.vG (by simp[mo])
 have qv:0<s1.ah.length:=fQ (k 0 _ h.jy fun mo=>v0 0 mo rfl)
 have g : ∀ {o:Nat} {r:List D},s.ah[o]? = some r→o∉y.vd.arr→o≠0→(s1.ah.set 0 (fk p T W {y with vd:=vd} m))[o]? = some r:=fun e hv hn=>by
  rw[List.getElem?_set_ne (Ne.symm hn)];exact k _ _ e hv
 have JW : ∀ o,o∈Lay.own {y with vd:=vd}→o∈y.own∨o=s.ah.length:=fun o mo=>by
  simp only[Lay.own,List.mem_cons,List.mem_append]at mo ⊢
  rcases mo with rfl|mo|mo|mo
  ·exact .inl (.inl rfl)
  ·exact .inl (.inr (.inl mo))
  ·exact .inl (.inr (.inr (.inl mo)))
  ·rcases hn with e | e | e
   ·rw[e]at mo;exact .inl (.inr (.inr (.inr mo)))
   ·rw[e]at mo;cases mo
   ·rw[e]at mo;exact .inr (List.mem_singleton.1 mo)
 have nk : ∀ o∈y.κ,o∉y.vd.arr:=fun o mo mv=>JV o mo o (List.mem_append_right _ mv) rfl
 have nsd : ∀ o∈y.sd.arr,o∉y.vd.arr:=fun o mo mv=>Xp o mo o mv rfl
 have Xq : ∀ {o:Nat},o∉y.own→o∉y.vd.arr∧o≠0:=fun ho=>⟨fun mv=>ho (by simp[Lay.own,mv]),fun e=>ho (by rw[e];simp[Lay.own])⟩
 obtain⟨l,hl⟩:=hv
 refine⟨by simp[qv],by rw[ht];exact h.t0,by rw[ht];exact h.t1,h.len,fun i c v e1 e2=>g (h.cell i c v e1 e2) (nk c (List.mem_of_getElem? e1)) (h.vG (by simp[List.mem_of_getElem? e1])),h.si,fun i o fr e1 e2=>?_, ?_,⟨l, ?_⟩, ?_,fun q mq=>?_⟩
 ·obtain⟨f1,f2,f3⟩:=h.frame i o fr e1 e2
  refine⟨g f1 (Xq f2).1 (Xq f2).2,fun mo=>?_,f3⟩
  rcases JW o mo with mo|e
  ·exact f2 mo
  ·exact absurd (fQ f1) (by rw[e];exact Nat.lt_irrefl _)
 ·refine h.stack.keep fun o mo=> ?_
  rw[List.getElem?_eq_getElem (h.stack.lt o mo)]
  exact g (List.getElem?_eq_getElem _) (nsd o mo) (h.vG (by simp[mo]))
 ·refine hl.keep fun o mo=> ?_
  have:o≠0:=by
   rcases hn with e|e|e
   ·rw[e]at mo;exact v0 o mo
   ·rw[e]at mo;cases mo
   ·rw[e]at mo;rw[List.mem_singleton.1 mo];have:=h.uw;omega
  show(s1.ah.set 0 _)[o]? = _
  rw[List.getElem?_set_ne (Ne.symm this)]
 ·rcases hn with e | e | e
  ·simp only[Lay.own,e];exact zW
  ·simp only [Lay.own,e,List.append_nil]
   rw[List.nodup_cons,List.nodup_append]
   exact⟨fun m=>n0 (by rcases List.mem_append.1 m with m|m<;>simp[m]),nκ,ns,fun a ma b mb=>JV a ma b (List.mem_append_left _ mb)⟩
  ·simp only [Lay.own,e]
   have da : ∀ o∈y.own,o≠s.ah.length:=fun o mo e=>by have:=h.tt o mo;omega
   rw[List.nodup_cons,List.nodup_append,List.nodup_append]
   refine⟨fun m=>?_,nκ,⟨ns,by simp,fun a ma b mb=>?_⟩,fun a ma b mb=>?_⟩
   ·rcases List.mem_append.1 m with m | m
    ·exact n0 (by simp[m])
    ·rcases List.mem_append.1 m with m | m
     ·exact n0 (by simp[m])
     ·have:=List.mem_singleton.1 m;have:=h.uw;omega
   ·rw[List.mem_singleton.1 mb];exact da a (by simp[Lay.own,ma])
   ·rcases List.mem_append.1 mb with mb | mb
    ·exact JV a ma b (List.mem_append_left _ mb)
    ·rw[List.mem_singleton.1 mb];exact da a (by simp[Lay.own,ma])
 ·obtain⟨f1,f2⟩:=h.loc q mq
  refine⟨g f1 (Xq f2).1 (Xq f2).2,fun mo=>?_⟩
  rcases JW q.1 mo with mo|e
  ·exact f2 mo
  ·exact absurd (fQ f1) (by rw[e];exact Nat.lt_irrefl _)
end
end Go.Abs
namespace Go.Abs
set_option maxRecDepth 8000
open Go.Proofs
theorem O3 (b:Bool) (s:St):aG Tryz.prog jq [.bool b] s (.int .i64 (tZ b)) s:=by
 refine aG.pure ?_ rfl rfl s
 generalize h:tZ b=R
 simp only[tZ]at h
 unfold S0
 refine aG.go Je rfl fun B Q hB hQ=>?_
 have⟨hD,hY,hZ,gA⟩:=bX
 repeat' (first
 |simp only[go_sem,hD,hY,hZ,gA]
 |(with_reducible first|refine bt fun hc=>?_|refine bu fun hc=>?_|refine bx (fun hc=>?_) fun hc=>?_)<;>(try simp only[hc,bs,↓reduceIte]at h)<;>try simp only[hc]
 |(with_reducible refine aF hQ ?_;exact fX)
 |(cases h;done))
theorem Zk (a:Int) (s:St):aG Tryz.prog q9 [.int .i64 a] s (.bool (!(a==0))) s:=by
 refine aG.pure ?_ rfl rfl s
 have e:(a != 0) = !(a==0):=rfl
 unfold S0
 refine aG.go Ft rfl fun B Q hB hQ=>?_
 have⟨hD,hY,hZ,gA⟩:=bX
 repeat' (first
 |simp only[go_sem,hD,hY,hZ,gA,e]
 |(with_reducible first|refine bt fun hc=>?_|refine bu fun hc=>?_|refine bx (fun hc=>?_) fun hc=>?_)<;>(try simp only[hc,bs,↓reduceIte]at h)<;>try simp only[hc]
 |(with_reducible refine aF hQ ?_;(try cases h);simp only[aV,aY,bH,bI,go_sem,hD,hY,hZ,gA,e];try exact cr)
 |(cases h;done))
abbrev zz (r:Int×Bool):D:= .tuple [.int .i64 r.1, .bool r.2]
theorem agN (op a:Int) (s:St):aG Tryz.prog yP [.int .i64 op, .int .i64 a] s (zz (OR op a)) s:=by
 refine aG.pure ?_ rfl rfl s
 generalize h:OR op a=R
 simp only[OR,EF]at h
 unfold S0
 refine aG.go Jc rfl fun B Q hB hQ=>?_
 have⟨hD,hY,hZ,gA⟩:=bX
 repeat' (first
 |simp only[go_sem,hD,hY,hZ,gA]
 |(with_reducible refine CU (O3 _ _) ?_)
 |(with_reducible first|refine bt fun hc=>?_|refine bu fun hc=>?_|refine bx (fun hc=>?_) fun hc=>?_)<;>(try simp only[hc,bs,↓reduceIte]at h)<;>try simp only[hc]
 |(with_reducible refine aF hQ ?_;exact fX)
 |(cases h;done))
theorem U6 (op a b:Int) (s:St):aG Tryz.prog tR [.int .i64 op, .int .i64 a, .int .i64 b] s (zz (OS op a b)) s:=by
 refine aG.pure ?_ rfl rfl s
 generalize h:OS op a b=R
 simp only[OS,EF]at h
 unfold S0
 rcases Bool.eq_false_or_eq_true (b==0)with b0|b0
 ·refine aG.go wu rfl fun B Q hB hQ=> ?_
  have⟨hD,hY,hZ,gA⟩:=bX
  repeat' (first
 |simp only[go_sem,hD,hY,hZ,gA]
 |(with_reducible first|refine bt fun hc=>?_|refine bu fun hc=>?_|refine bx (fun hc=>?_) fun hc=>?_)<;>(try simp only[hc,bs,↓reduceIte]at h)<;>try simp only[hc]
 |(with_reducible refine aF hQ ?_;exact fX)
 |(cases h;done))
 ·have hb:b≠0:=by simpa using b0
  refine aG.go wu rfl fun B Q hB hQ=>?_
  have⟨hD,hY,hZ,gA⟩:=bX
  repeat' (first
 |simp only[go_sem,hD,hY,hZ,gA,hb]
 |(with_reducible first|refine bt fun hc=>?_|refine bu fun hc=>?_|refine bx (fun hc=>?_) fun hc=>?_)<;>(try simp only[hc,bs,↓reduceIte]at h)<;>try simp only[hc]
 |(with_reducible refine aF hQ ?_;(try cases h);simp only[aV,aY,bH,bI,go_sem,hD,hY,hZ,gA,hb];try exact cr)
 |(cases h;done))
theorem RY (op a b:Int) (s:St):aG Tryz.prog rZ [.int .i64 op, .int .i64 a, .int .i64 b] s (zz (OT op a b)) s:=by
 refine aG.pure ?_ rfl rfl s
 have e:(a != b) = !(a==b):=rfl
 generalize h:OT op a b=R
 simp only[OT]at h
 unfold S0
 refine aG.go Di rfl fun B Q hB hQ=>?_
 have⟨hD,hY,hZ,gA⟩:=bX
 repeat' (first
 |simp only[go_sem,hD,hY,hZ,gA,e]
 |(with_reducible refine CU (O3 _ _) ?_)
 |(with_reducible first|refine bt fun hc=>?_|refine bu fun hc=>?_|refine bx (fun hc=>?_) fun hc=>?_)<;>(try simp only[hc,bs,↓reduceIte]at h)<;>try simp only[hc]
 |(with_reducible refine aF hQ ?_;(try cases h);simp only[aV,aY,bH,bI,go_sem,hD,hY,hZ,gA,e];try exact cr)
 |(cases h;done))
theorem agO (op a b:Int) (s:St):aG Tryz.prog yQ [.int .i64 op, .int .i64 a, .int .i64 b] s (zz (OU op a b)) s:=by
 refine aG.pure ?_ rfl rfl s
 have e1:(a != 0) = !(a==0):=rfl
 have e2:(b != 0) = !(b==0):=rfl
 generalize h:OU op a b=R
 simp only[OU,EF]at h
 unfold S0
 refine aG.go Jd rfl fun B Q hB hQ=>?_
 have⟨hD,hY,hZ,gA⟩:=bX
 repeat' (first
 |simp only[go_sem,hD,hY,hZ,gA,e1,e2]
 |(with_reducible refine CU (O3 _ _) ?_)
 |(with_reducible refine CU (U6 _ _ _ _) ?_)
 |(with_reducible refine CU (RY _ _ _ _) ?_)
 |(with_reducible first|refine bt fun hc=>?_|refine bu fun hc=>?_|refine bx (fun hc=>?_) fun hc=>?_)<;>(try simp only[hc,bs,↓reduceIte]at h)<;>try simp only[hc]
 |(with_reducible refine aF hQ ?_;(try cases h);simp only[aV,aY,bH,bI,go_sem,hD,hY,hZ,gA,e1,e2];try exact cr)
 |(cases h;done))
def vH (x:Int) (k:Int):List Int→Int
 | []=> -1
 |s::l=>if x==s then k else vH x (k+1) l
theorem LU (x:Int) : ∀ (l:List Int) (k:Int),0≤k→(vH x k l≥0↔l.contains x=true)
 | [],k,h=>by simp[vH]
 | s::l,k,h=>by
  by_cases e:x=s
  ·simp[vH,e];omega
  ·have e':(x==s)=false:=by simp [e]
   simp only[vH,e',Bool.false_eq_true,if_false,List.contains_cons,Bool.false_or]
   exact LU x l (k+1) (by omega)
theorem U7 {l:List Int} (hl:l.length<4611686018427387904) (x:Int) (s:St):aG Tryz.prog oY [.slice .shared 1 (l.map cq), .int .i64 x] s (.int .i64 (vH x 0 l)) s:=by
 refine aG.pure ?_ (by simp[D.bL,D.ok,Tag.ok,jt]) rfl s
 generalize h:vH x 0 l=p
 unfold S0
 refine aG.go yX rfl fun B Q hB hQ=>?_
 have⟨hD,hY,hZ,gA⟩:=bX
 repeat' (first
 |simp only[go_sem,hD,hY,hZ,gA]
 |(with_reducible first|refine bt fun hc=>?_|refine bu fun hc=>?_|refine bx (fun hc=>?_) fun hc=>?_)<;>(try simp only[hc,bs,↓reduceIte]at h)<;>try simp only[hc]
 |(with_reducible refine aF hQ ?_;exact fX)
 |(cases h;done))
 refine fm 0 0 (br.ind (ι:=List Int×Nat) (fun i=>l.drop i.2=i.1∧vH x (i.2:Int) i.1=p) (fun i=>i.1.length)
  (fun i=> [(0, .slice .shared 1 (l.map cq)),(1, .int .i64 x),(7, .int .i64 (l.length:Int)),(8, .int .i64 (i.2:Int))]) (fun i=>⟨[],[]⟩) ?_ (l,0) ⟨rfl,h⟩)
 rintro⟨rest,k⟩ ⟨h1,h⟩ IH
 dsimp only at h1 h
 cases rest with
 |nil=>
  have hD:=drop_nil h1
  simp only[vH]at h
  repeat' (first
 |simp only[go_sem,hD,hY,hZ,gA]
 |(with_reducible first|refine bt fun hc=>?_|refine bu fun hc=>?_|refine bx (fun hc=>?_) fun hc=>?_)<;>(try simp only[hc,bs,↓reduceIte]at h)<;>try simp only[hc]
 |(with_reducible refine aF hQ ?_;exact fX)
 |(cases h;done))
 |cons a rest=>
  obtain⟨hY,g2,hD,g4⟩:=drop_cons h1
  have cj:k<4611686018427387904:=by omega
  simp only[vH]at h
  repeat' (first
 |simp only[go_sem,hD,hY,hZ,gA]
 |(with_reducible first|refine bt fun hc=>?_|refine bu fun hc=>?_|refine bx (fun hc=>?_) fun hc=>?_)<;>(try simp only[hc,bs,↓reduceIte]at h)<;>try simp only[hc]
 |(with_reducible refine aF hQ ?_;exact fX)
 |(cases h;done))
  refine fp 0 0 ?_ ?_ (IH (rest,k+1) ⟨g2,h⟩ (Nat.lt_succ_self _))
  ·(simp only[go_sem,hD,hY,hZ,gA,aM cj];try exact cz)
  ·(simp only[go_sem,hD,hY,hZ,gA,aM cj];try exact cz)
theorem K4 {l:List Int} (hl:l.length<4611686018427387904) (x:Int) (s:St):aG Tryz.prog mX [.slice .shared 1 (l.map cq), .int .i64 x] s (.bool (l.contains x)) s:=by
 refine aG.pure ?_ (by simp[D.bL,D.ok,Tag.ok,jt]) rfl s
 have hi:=fun s=>U7 hl x s
 have e:decide (vH x 0 l≥0)=l.contains x:=by
  have:=LU x l 0 (Int.le_refl 0)
  cases h:l.contains x<;>simp_all
 unfold S0
 refine aG.go vP rfl fun B Q hB hQ=>?_
 have⟨hD,hY,hZ,gA⟩:=bX
 repeat' (first
 |simp only[go_sem,hD,hY,hZ,gA,e]
 |(with_reducible refine CU (hi _) ?_)
 |(with_reducible first|refine bt fun hc=>?_|refine bu fun hc=>?_|refine bx (fun hc=>?_) fun hc=>?_)<;>(try simp only[hc,bs,↓reduceIte]at h)<;>try simp only[hc]
 |(with_reducible refine aF hQ ?_;(try cases h);simp only[aV,aY,bH,bI,go_sem,hD,hY,hZ,gA,e];try exact cr)
 |(cases h;done))
theorem mO (names:List aE) (bM:List Int) (op n:Int) (name:aE) (kids:List Ex):Ex.val names bM ⟨op,n,name,kids⟩=if op==1 then(n,true)else if op==2 then(OV name names bM,true)else HK op (kids.map (Ex.val names bM)):=by
 have e : ∀ l:List Ex,Ex.OW names bM l=l.map (Ex.val names bM):=fun l=>by
  induction l with
  |nil=>rfl
  |cons x l ih=>simp only[Ex.OW,List.map_cons,ih]
 simp only[Ex.val,e]
theorem ac9 {names:List aE} {bM:List Int} (hn:names.length<4611686018427387904) (hv:bM.length<4611686018427387904) : ∀ (n:Nat) (x:Ex),x.dp (n:Int)=true→
 aG Tryz.prog kW [.agg (bY x), .slice .shared 1 (names.map encStr), .slice .shared 1 (bM.map cq)] S0 (zz (x.val names bM)) S0:=by
 intro n
 induction n with
 |zero=>rintro⟨op,v,name,kids⟩ h;rw[Jl]at h;omega
 | succ n ih=>
  rintro⟨op,v,name,kids⟩ h
  rw[Jl]at h
  obtain⟨_,hk,h⟩:=h
  have Jq:=fun s=>BX hn name s
  generalize hR:Ex.val names bM ⟨op,v,name,kids⟩=R
  rw[mO]at hR
  unfold S0
  by_cases o1:op=1
  ·subst o1
   simp only[beq_self_eq_true,if_true]at hR
   rw[← hR]
   show aG Tryz.prog kW _ _ (.tuple [.int .i64 v, .bool true]) _
   refine aG.go om rfl fun B Q hB hQ=>?_
   have⟨hD,hY,hZ,gA⟩:=bX
   repeat' (first
 |simp only[go_sem,hD,hY,hZ,gA,beq_self_eq_true]
 |(with_reducible first|refine bt fun hc=>?_|refine bu fun hc=>?_|refine bx (fun hc=>?_) fun hc=>?_)<;>(try simp only[hc,bs,↓reduceIte]at h)<;>try simp only[hc]
 |(with_reducible refine aF hQ ?_;(try cases h);simp only[aV,aY,bH,bI,go_sem,hD,hY,hZ,gA,beq_self_eq_true];try exact cr)
 | (cases h;done))
  rw[if_neg o1]at h
  have b1:(op==1)=false:=by simp[o1]
  by_cases o2:op=2
  ·subst o2
   simp only[b1,Bool.false_eq_true,if_false,beq_self_eq_true,if_true,OV]at hR
   by_cases hi:iW name 0 names≥0
   ·obtain⟨j,hj⟩:=Int.eq_ofNat_of_zero_le hi
    rw[if_pos hi]at hR
    have b2:decide (iW name 0 names≥0)=true:=by simpa using hi
    rw[hj]at b2 hR
    rw[hj]at Jq
    rcases Nat.lt_or_ge j bM.length with hl|hl
    ·have b3:decide ((j:Int)<(bM.length:Int))=true:=by simp [hl]
     have hg:bM[j]? = some (bM.getD j 0):=by rw[List.getD_eq_getElem?_getD,List.getElem?_eq_getElem hl];rfl
     rw[Int.toNat_natCast]at hR
     rw[← hR]
     show aG Tryz.prog kW _ _ (.tuple [.int .i64 (bM.getD j 0), .bool true]) _
     refine aG.go om rfl fun B Q hB hQ=>?_
     have⟨hD,hY,hZ,gA⟩:=bX
     repeat' (first
 |simp only[go_sem,hD,hY,hZ,gA,b1,b2,b3,hg,beq_self_eq_true,decide_true]
 |(with_reducible refine CU (Jq _) ?_)
 |(with_reducible first|refine bt fun hc=>?_|refine bu fun hc=>?_|refine bx (fun hc=>?_) fun hc=>?_)<;>(try simp only[hc,bs,↓reduceIte]at h)<;>try simp only[hc]
 |(with_reducible refine aF hQ ?_;(try cases h);simp only[aV,aY,bH,bI,go_sem,hD,hY,hZ,gA,b1,b2,b3,hg,beq_self_eq_true,decide_true];try exact cr)
 | (cases h;done))
    ·have b3:decide ((j:Int)<(bM.length:Int))=false:=by simp;omega
     rw[Int.toNat_natCast,List.getD_eq_getElem?_getD,List.getElem?_eq_none hl,Option.getD_none]at hR
     rw[← hR]
     show aG Tryz.prog kW _ _ (.tuple [.int .i64 0, .bool true]) _
     refine aG.go om rfl fun B Q hB hQ=>?_
     have⟨hD,hY,hZ,gA⟩:=bX
     repeat' (first
 |simp only[go_sem,hD,hY,hZ,gA,b1,b2,b3,beq_self_eq_true,decide_true]
 |(with_reducible refine CU (Jq _) ?_)
 |(with_reducible first|refine bt fun hc=>?_|refine bu fun hc=>?_|refine bx (fun hc=>?_) fun hc=>?_)<;>(try simp only[hc,bs,↓reduceIte]at h)<;>try simp only[hc]
 |(with_reducible refine aF hQ ?_;(try cases h);simp only[aV,aY,bH,bI,go_sem,hD,hY,hZ,gA,b1,b2,b3,beq_self_eq_true,decide_true];try exact cr)
 | (cases h;done))
   ·rw [if_neg hi]at hR
    have b2:decide (iW name 0 names≥0)=false:=by simpa using hi
    rw[← hR]
    show aG Tryz.prog kW _ _ (.tuple [.int .i64 0, .bool true]) _
    refine aG.go om rfl fun B Q hB hQ=>?_
    have⟨hD,hY,hZ,gA⟩:=bX
    repeat' (first
 |simp only[go_sem,hD,hY,hZ,gA,b1,b2,beq_self_eq_true]
 |(with_reducible refine CU (Jq _) ?_)
 |(with_reducible first|refine bt fun hc=>?_|refine bu fun hc=>?_|refine bx (fun hc=>?_) fun hc=>?_)<;>(try simp only[hc,bs,↓reduceIte]at h)<;>try simp only[hc]
 |(with_reducible refine aF hQ ?_;(try cases h);simp only[aV,aY,bH,bI,go_sem,hD,hY,hZ,gA,b1,b2,beq_self_eq_true];try exact cr)
 | (cases h;done))
  rw[if_neg o2]at h
  have b2:(op==2)=false:=by simp[o2]
  simp only[b1,b2,Bool.false_eq_true,if_false]at hR
  have hd:=h.2.2
  rw[show((n+1:Nat):Int) - 1=(n:Int) by omega]at hd
  have ihs : ∀ {y:Ex},y∈kids→∀ s,aG Tryz.prog kW [.agg (bY y), .slice .shared 1 (names.map encStr), .slice .shared 1 (bM.map cq)] s (zz (y.val names bM)) s:=fun {y} hy s=>by
   have:y.dp (n:Int)=true:=by
    have key : ∀ l:List Ex,Ex.Be (n:Int) l=true→y∈l→y.dp (n:Int)=true:=fun l=>by
     induction l with
     |nil=>intro _ m;cases m
     | cons z l RM=>
      intro hz m
      simp only[Ex.Be]at hz
      split at hz
      ·cases hz
      ·rename_i hz'
       rcases List.mem_cons.1 m with rfl|m
       ·simpa using hz'
       ·exact RM hz m
    exact key kids hd hy
   exact aG.pure (ih y this) (by simp[D.bL,D.ok,Tag.ok,lJ,eU,jt]) rfl s
  clear h Jq
  have n1:((1:Nat):Int)=1:=rfl
  have e1:((1:Int)==1)=true:=rfl
  have e2:((2:Int)==1)=false:=rfl
  rename _=R=>h
  cases kids with
  |nil=>simp[oc]at hk;omega
  | cons a kids=>
   have c1:=fun s=>ihs (y:=a) (by simp) s
   cases kids with
   |nil=>
    simp only[List.map_cons,List.map_nil,HK]at h
    refine aG.go om rfl fun B Q hB hQ=>?_
    have⟨hD,hY,hZ,gA⟩:=bX
    repeat' (first
 |simp only[go_sem,hD,hY,hZ,gA,b1,b2,e1]
 |(with_reducible refine CU (c1 _) ?_)
 |(with_reducible refine CU (agN _ _ _) ?_)
 |(with_reducible first|refine bt fun hc=>?_|refine bu fun hc=>?_|refine bx (fun hc=>?_) fun hc=>?_)<;>(try simp only[hc,bs,↓reduceIte]at h)<;>try simp only[hc]
 |(with_reducible refine aF hQ ?_;(try cases h);simp only[aV,aY,bH,bI,go_sem,hD,hY,hZ,gA,b1,b2,e1];try exact cr)
 | (cases h;done))
   | cons b kids=>
    cases kids with
    |nil=>
     have c2:=fun s=>ihs (y:=b) (by simp) s
     have e3 : [bY a,bY b][Int.toNat 1]? = some (bY b):=rfl
     simp only[List.map_cons,List.map_nil,HK]at h
     refine aG.go om rfl fun B Q hB hQ=>?_
     have⟨hD,hY,hZ,gA⟩:=bX
     repeat' (first
 |simp only[go_sem,hD,hY,hZ,gA,b1,b2,e2,e3]
 |(with_reducible refine CU (c1 _) ?_)
 |(with_reducible refine CU (c2 _) ?_)
 |(with_reducible refine CU (Zk _ _) ?_)
 |(with_reducible refine CU (agO _ _ _ _) ?_)
 |(with_reducible first|refine bt fun hc=>?_|refine bu fun hc=>?_|refine bx (fun hc=>?_) fun hc=>?_)<;>(try simp only[hc,bs,↓reduceIte]at h)<;>try simp only[hc]
 |(with_reducible refine aF hQ ?_;(try cases h);simp only[aV,aY,bH,bI,go_sem,hD,hY,hZ,gA,b1,b2,e2,e3];try exact cr)
 | (cases h;done))
    |cons c kids=>simp[oc]at hk;omega
theorem U8 {x:Ex} {names:List aE} {bM:List Int} (hx:x.size<4611686018427387904) (ht:x.texts) (hn:names.length<4611686018427387904) (hv:bM.length<4611686018427387904) (s:St) :
 aG Tryz.prog wj [.agg (bY x), .slice .shared 1 (names.map encStr), .slice .shared 1 (bM.map cq)] s (zz (x.bg names bM)) s:=by
 refine aG.pure ?_ (by simp[D.bL,D.ok,Tag.ok,lJ,eU,jt]) rfl s
 have hm:=fun s=>za hx ht s
 rw[Et]at hm
 generalize h:x.bg names bM=R
 simp only[Ex.bg]at h
 unfold S0
 rcases Bool.eq_false_or_eq_true x.may with b|b
 ·rw [if_pos b]at h
  have c1:=fun s=>aG.pure (ac9 hn hv 20 x (by rw[show((20:Nat):Int)=20 from rfl,Et];exact b)) (by simp[D.bL,D.ok,Tag.ok,lJ,eU,jt]) rfl s
  rw[h]at c1
  refine aG.go CG rfl fun B Q hB hQ=>?_
  have⟨hD,hY,hZ,gA⟩:=bX
  repeat' (first
 |simp only[go_sem,hD,hY,hZ,gA,b]
 |(with_reducible refine CU (hm _) ?_)
 |(with_reducible refine CU (c1 _) ?_)
 |(with_reducible first|refine bt fun hc=>?_|refine bu fun hc=>?_|refine bx (fun hc=>?_) fun hc=>?_)<;>(try simp only[hc,bs,↓reduceIte]at h)<;>try simp only[hc]
 |(with_reducible refine aF hQ ?_;(try cases h);simp only[aV,aY,bH,bI,go_sem,hD,hY,hZ,gA,b];try exact cr)
 |(cases h;done))
 ·rw [if_neg (by simp [b])]at h
  refine aG.go CG rfl fun B Q hB hQ=>?_
  have⟨hD,hY,hZ,gA⟩:=bX
  repeat' (first
 |simp only[go_sem,hD,hY,hZ,gA,b]
 |(with_reducible refine CU (hm _) ?_)
 |(with_reducible first|refine bt fun hc=>?_|refine bu fun hc=>?_|refine bx (fun hc=>?_) fun hc=>?_)<;>(try simp only[hc,bs,↓reduceIte]at h)<;>try simp only[hc]
 |(with_reducible refine aF hQ ?_;(try cases h);simp only[aV,aY,bH,bI,go_sem,hD,hY,hZ,gA,b];try exact cr)
 |(cases h;done))
theorem zA {size bytes:Nat} {rows:List (List D)} (h:rows≠ []) (hl:rows.length*(bytes+1)≤bJ) {z:Nat} {g:Tag} (o:List (List D)) (T:List (Option Nat)) :
 ig size bytes (.slice .full z []) (.slice g size rows) ⟨o,T⟩=some (.slice (.tok T.length) size rows,⟨o,T++ [some rows.length]⟩):=by
 cases rows with
 |nil=>exact absurd rfl h
 |cons x r=>simp only[List.length_cons]at hl;simp[ig,hl]
theorem zB {size bytes z z':Nat} {g:Tag} (o:List (List D)) (T:List (Option Nat)) :
 ig size bytes (.slice .full z []) (.slice g z' []) ⟨o,T⟩=some (.slice .full z [],⟨o,T⟩):=by simp[ig,bJ]
def Sm.bare (v:Sm):Sm:= {v with a7:= [],aX:= []}
theorem aG.agP {P:Program} {f:FuncId} {args:List D} {z k:Nat} {rows:List (List D)} (h:aG P f args S0 (.slice (.tok 0) z rows) ⟨[],[some k]⟩) (ha:D.bL 0 0 args=true) (hr:D.gU 0 0 rows=true) (s:St) :
 aG P f args s (.slice (.tok s.au.length) z rows) ⟨s.ah,s.au++ [some k]⟩:=by
 refine bG.frame [] [] h List.nodup_nil List.nodup_nil (by simp) (by simp) rfl (by simp) rfl (by simp) (by rw[fv _ _ _ ha]) ha ?_
 rintro _ _ ⟨rfl,rfl⟩
 refine⟨by simp[D.back,D.cJ,Tag.cJ,kp,jc _ _ _ hr], ?_⟩
 simp[St.back,kv]
theorem O4 (g:Tag) (z:Nat) (s:St):aG Tryz.prog kq [.slice g z []] s (.slice .full 1 []) s:=by
 refine bG.pK (.cons (Wk.nil _ _ 1) .nil) (aG.pure ?_ rfl rfl s)
 unfold S0
 refine aG.go pF rfl fun B Q hB hQ=>?_
 have⟨hD,hY,hZ,gA⟩:=bX
 repeat' (first
 |simp only[go_sem,hD,hY,hZ,gA]
 |(with_reducible first|refine bt fun hc=>?_|refine bu fun hc=>?_|refine bx (fun hc=>?_) fun hc=>?_)<;>(try simp only[hc,bs,↓reduceIte]at h)<;>try simp only[hc]
 |(with_reducible refine aF hQ ?_;exact fX)
 |(cases h;done))
 refine TC (fun _=>?_) ?_
 ·repeat' (first
 |simp only[go_sem,hD,hY,hZ,gA,ig,true_or,Nat.zero_le]
 |(with_reducible first|refine bt fun hc=>?_|refine bu fun hc=>?_|refine bx (fun hc=>?_) fun hc=>?_)<;>(try simp only[hc,bs,↓reduceIte]at h)<;>try simp only[hc]
 |(with_reducible refine aF hQ ?_;(try cases h);simp only[aV,aY,bH,bI,go_sem,hD,hY,hZ,gA,ig,true_or,Nat.zero_le];try exact cr)
 |(cases h;done))
 ·repeat' (first
 |simp only[go_sem,hD,hY,hZ,gA,ig,true_or,Nat.zero_le]
 |(with_reducible first|refine bt fun hc=>?_|refine bu fun hc=>?_|refine bx (fun hc=>?_) fun hc=>?_)<;>(try simp only[hc,bs,↓reduceIte]at h)<;>try simp only[hc]
 |(with_reducible refine aF hQ ?_;(try cases h);simp only[aV,aY,bH,bI,go_sem,hD,hY,hZ,gA,ig,true_or,Nat.zero_le];try exact cr)
 |(cases h;done))
theorem O5 {l:List aE} (hl:l.length<1073741824) (h0:l≠ []) (s:St):aG Tryz.prog kq [.slice .shared 1 (l.map encStr)] s (.slice (.tok s.au.length) 1 (l.map encStr)) ⟨s.ah,s.au++ [some l.length]⟩:=by
 refine aG.agP ?_ (by simp[D.bL,D.ok,Tag.ok,eU]) (eU l) s
 unfold S0
 refine aG.goK 0 1 (Nat.zero_le _) (Nat.zero_le _) pF rfl fun B Q hB hQ=>?_
 have⟨hD,hY,hZ,gA⟩:=bX
 have ha:=fun o T=>zA (size:=1) (bytes:=16) (rows:=l.map encStr) (by simpa using h0) (by simp only[List.length_map];unfold bJ;omega) (z:=1) (g:= .shared) o T
 cases l with
 |nil=>exact absurd rfl h0
 |cons x l=>
  simp only[List.map_cons,encStr]at ha
  repeat' (first
 |simp only[go_sem,hD,hY,hZ,gA,ha]
 |(with_reducible first|refine bt fun hc=>?_|refine bu fun hc=>?_|refine bx (fun hc=>?_) fun hc=>?_)<;>(try simp only[hc,bs,↓reduceIte]at h)<;>try simp only[hc]
 |(with_reducible refine aF hQ ?_;(try cases h);simp only[aV,aY,bH,bI,go_sem,hD,hY,hZ,gA,ha];try exact cr)
 |(cases h;done))
theorem LV {a b:List aE} {n:Nat} (hn:n=a.length) (h:a.length+b.length≤1000000000) {g:Tag} {t:Nat} {s:St} (ht:s.au[t]? = some (some n)) :
 ig 1 16 (.slice (.tok t) 1 (a.map encStr)) (.slice g 1 (b.map encStr)) s=some (.slice (.tok t) 1 ((a++b).map encStr),⟨s.ah,s.au.set t (some (a++b).length)⟩):=by
 subst hn
 rw[oU (size:=1) (bytes:=16) (by simp only[List.length_map];unfold bJ;omega) (by simpa using ht)]
 simp
theorem ada {p:Pg} (h:p.iR) (hb:p.may=true) {name:aE} {f:Pc} (hf:p.find name=some f) (s:St):aG Tryz.prog vg [.agg (cB p), .str name] s (.slice .shared 1 ((p.globals++f.own).map encStr)) s:=by
 refine aG.pure ?_ (by simp[D.bL,D.ok,ki]) (by simp only[D.ok,Tag.ok,eU];rfl) s
 have hm:=fun s=>Jh h.OG s
 simp only[B1,hb]at hm
 obtain⟨rI,rn,rm⟩:=h.procs
 simp only[Pg.find]at hf
 unfold S0
 refine aG.go Fp rfl fun B Q hB hQ=>?_
 have⟨hD,hY,hZ,gA⟩:=bX
 repeat' (first
 |simp only[go_sem,hD,hY,hZ,gA]
 |(with_reducible refine CU (hm _) ?_)
 |(with_reducible first|refine bt fun hc=>?_|refine bu fun hc=>?_|refine bx (fun hc=>?_) fun hc=>?_)<;>(try simp only[hc,bs,↓reduceIte]at h)<;>try simp only[hc]
 |(with_reducible refine aF hQ ?_;exact fX)
 |(cases h;done))
 refine fm 1 0 (br.ind (ι:=List Pc×Nat) (fun i=>p.procs.drop i.2=i.1∧iM name i.1=some f) (fun i=>i.1.length)
  (fun i=> [(1, .str name),(2, .ptr 0 0),(11, .slice .shared 5 (p.procs.map cf)),(12, .int .i64 (p.procs.length:Int)),(13, .int .i64 (i.2:Int))]) (fun i=>⟨[cB p],[]⟩) ?_ (p.procs,0) ⟨rfl,hf⟩)
 rintro⟨rest,k⟩ ⟨h1,h2⟩ IH
 dsimp only at h1 h2
 cases rest with
 |nil=>cases h2
 | cons a rest=>
  obtain⟨hY,g2,hD,g4⟩:=drop_cons h1
  have cj:k<4611686018427387904:=by omega
  have vA:=h.small (List.mem_of_getElem? hY)
  simp only[iM]at h2
  rcases Bool.eq_false_or_eq_true (a.name==name)with b1|b1
  ·simp only [b1,if_true]at h2
   cases h2
   have ho:=fun s=>Xe (f:=f) vA.par vA.vars s
   have jh:f.own.length<2000000:=by have:=vA.par;have:=vA.vars;simp[Pc.own,Pc.ti];omega
   cases e:p.globals with
   | nil=>
    simp only[List.nil_append]at *
    have c1:=fun g z s=>O4 g z s
    cases e2:f.own with
    |nil=>
     rw[e2]at ho hQ
     have ha:=fun o T=>zB (size:=1) (bytes:=16) (z:=1) (z':=1) (g:= .shared) o T
     repeat' (first
 |simp only[go_sem,hD,hY,hZ,gA,b1,ha,e]
 |(with_reducible refine CU (c1 _ _ _) ?_)
 |(with_reducible refine CU (ho _) ?_)
 |(with_reducible first|refine bt fun hc=>?_|refine bu fun hc=>?_|refine bx (fun hc=>?_) fun hc=>?_)<;>(try simp only[hc,bs,↓reduceIte]at h)<;>try simp only[hc]
 |(with_reducible refine aF hQ ?_;(try cases h);simp only[aV,aY,bH,bI,go_sem,hD,hY,hZ,gA,b1,ha,e];try exact cr)
 | (cases h;done))
    |cons x l=>
     have ha:=fun o T=>zA (size:=1) (bytes:=16) (rows:=f.own.map encStr) (by simp[e2]) (by simp only[List.length_map];unfold bJ;omega) (z:=1) (g:= .shared) o T
     repeat' (first
 |simp only[go_sem,hD,hY,hZ,gA,b1,ha,e]
 |(with_reducible refine CU (c1 _ _ _) ?_)
 |(with_reducible refine CU (ho _) ?_)
 |(with_reducible first|refine bt fun hc=>?_|refine bu fun hc=>?_|refine bx (fun hc=>?_) fun hc=>?_)<;>(try simp only[hc,bs,↓reduceIte]at h)<;>try simp only[hc]
 |(with_reducible refine aF hQ ?_;(try cases h);simp only[aV,aY,bH,bI,go_sem,hD,hY,hZ,gA,b1,ha,e];try exact cr)
 | (cases h;done))
   |cons x l=>
    have c1:=fun s=>O5 (l:=p.globals) (by omega) (by simp[e]) s
    have ha:=fun {s:St} {t:Nat} (ht:s.au[t]? = some (some p.globals.length))=>LV (a:=p.globals) (b:=f.own) (g:= .shared) rfl (by omega) ht
    have vZ:=fun o=>LV (a:=p.globals) (b:=f.own) (g:= .shared) (t:=0) (s:=⟨o,[some p.globals.length]⟩) rfl (by omega) rfl
    repeat' (first
 |simp only[go_sem,hD,hY,hZ,gA,b1,vZ]
 |(with_reducible refine CU (c1 _) ?_)
 |(with_reducible refine CU (ho _) ?_)
 |(with_reducible first|refine bt fun hc=>?_|refine bu fun hc=>?_|refine bx (fun hc=>?_) fun hc=>?_)<;>(try simp only[hc,bs,↓reduceIte]at h)<;>try simp only[hc]
 |(with_reducible refine aF hQ ?_;(try cases h);simp only[aV,aY,bH,bI,go_sem,hD,hY,hZ,gA,b1,vZ];try exact cr)
 | (cases h;done))
  ·simp only [b1,Bool.false_eq_true,if_false]at h2
   repeat' (first
 |simp only[go_sem,hD,hY,hZ,gA,b1]
 |(with_reducible first|refine bt fun hc=>?_|refine bu fun hc=>?_|refine bx (fun hc=>?_) fun hc=>?_)<;>(try simp only[hc,bs,↓reduceIte]at h)<;>try simp only[hc]
 |(with_reducible refine aF hQ ?_;(try cases h);simp only[aV,aY,bH,bI,go_sem,hD,hY,hZ,gA,b1];try exact cr)
 | (cases h;done))
   refine fp 1 0 ?_ ?_ (IH (rest,k+1) ⟨g2,h2⟩ (Nat.lt_succ_self _))
   ·(simp only[go_sem,hD,hY,hZ,gA,aM cj];try exact cz)
   ·(simp only[go_sem,hD,hY,hZ,gA,aM cj];try exact cz)
theorem K5 {p:Pg} (hb:p.may=true) {i:Nat} {f:Pc} (hf:p.procs[i]? = some f) : ∃ a b:Int,p.aT.lo[i]? = some a∧p.aT.hi[i]? = some b∧(if decide (a<b)=true then a else -1)=fU f.body (-1):=by
 obtain⟨a,b,e,h1,h2,h3,h4⟩:=(kX p).2 i f hf
 refine⟨_,_,h1,h2, ?_⟩
 cases BO:f.body with
 |nil=>
  rw[BO]at h3
  have:b = []:=by simpa[Sm.cU]using h3
  subst this
  simp[fU]
 | cons s l=>
  rw[BO,Sm.cU,Sm.p6]at h3
  cases b with
  |nil=>simp at h3
  | cons x b=>
   simp only[List.map_cons,List.cons_append,List.cons.injEq]at h3
   have hx:p.pre[a.length]? = some s:=by
    rw[← (kX p).1,h4]
    simp[h3.1]
   have:=Bj hb hx
   rw[if_pos (by simp;omega)]
   simp only[fU]
   rw[this];omega
theorem Zl {p:Pg} (hb:p.may=true) {i:Nat} {f:Pc} (hf:p.procs[i]? = some f) (s:St):aG Tryz.prog oW [.dt (fq p) 0, .int .i64 (i:Int)] s (.int .i64 (fU f.body (-1))) s:=by
 refine aG.pure ?_ (by simp[D.bL,D.ok,tV]) rfl s
 obtain⟨a,b,h1,h2,h⟩:=K5 hb hf
 generalize fU f.body (-1)=R at h
 unfold S0
 rw[nS]
 refine aG.go yW rfl fun B Q hB hQ=>?_
 have⟨hD,hY,hZ,gA⟩:=bX
 repeat' (first
 |simp only[go_sem,hD,hY,hZ,gA,h1,h2]
 |(with_reducible first|refine bt fun hc=>?_|refine bu fun hc=>?_|refine bx (fun hc=>?_) fun hc=>?_)<;>(try simp only[hc,bs,↓reduceIte]at h)<;>try simp only[hc]
 |(with_reducible refine aF hQ ?_;(try cases h);simp only[aV,aY,bH,bI,go_sem,hD,hY,hZ,gA,h1,h2];try exact cr)
 |(cases h;done))
section
variable {p:Pg} {T W:List Int} {y:Lay} {m:Mc} {loc:List (Nat×List D)} {s:St}
theorem jx.row {s:St} {d:D} {cs:List D} (h:jx s d cs) (hn:cs≠ []) : ∃ o g more,d = .dZ 1 o g cs.length∧s.ah[o]? = some (.int .i64 ((g:Nat):Int)::(cs++more)):=by
 rcases h with ⟨_,h⟩|h
 ·exact absurd h hn
 ·exact h
theorem Inv.U9 (h:Inv p T W y m loc s) {fr:Fr} {r:List Fr} (ja:m.st=fr::r) : ∃ so g cells o,y.sd = .dZ 1 so g (r.length+1)∧s.ah[so]? = some (.int .i64 ((g:Nat):Int)::cells)∧cells[r.length]? = some (.ptr o 0)∧s.ah[o]? = some (pe y.κ fr)∧y.φ[0]? = some o:=by
 have iz:=h.si
 rw[ja]at iz
 cases hφ:y.φ with
 |nil=>rw[hφ]at iz;simp at iz
 | cons o φ=>
  rw[hφ]at iz
  simp only[List.length_cons]at iz
  obtain⟨so,g,more,h1,h2⟩:=h.stack.row (by simp[hφ])
  refine⟨so,g,_,o, ?_,h2, ?_,(h.frame 0 o fr (by rw[hφ];rfl) (by rw[ja];rfl)).1,rfl⟩
  ·rw[h1];simp[hφ];omega
  ·rw [hφ,List.reverse_cons,List.map_append,List.append_assoc,List.getElem?_append_right (by simp;omega)]
   simp[xn,show r.length - φ.length=0 by omega]
theorem O6 (h:Inv p T W y m loc s) {fr:Fr} {r:List Fr} (ja:m.st=fr::r) (hs:r.length<1000000) : ∃ o,y.φ[0]? = some o∧s.ah[o]? = some (pe y.κ fr)∧aG Tryz.prog kD [.ptr 0 0] s (.ptr o 0) s:=by
 obtain⟨so,g,cells,o,h1,h2,h3,h4,h5⟩:=h.U9 ja
 refine⟨o,h5,h4, ?_⟩
 have hm:=h.jy
 rw[fk,h1]at hm
 have hw:IntKind.wrap .i64 (((r.length+1:Nat):Int) - 1)=((r.length:Nat):Int):=by rw[show((r.length+1:Nat):Int) - 1=(r.length:Int) by omega];exact dV (by omega) (by omega)
 have hl:(r.length<r.length+1)=True:=by simp
 refine bG.uq Ad rfl fun B Q hB hQ=>?_
 have⟨hD,hY,hZ,gA⟩:=bX
 repeat' (first
 |simp only[go_sem,hD,hY,hZ,gA,hm,hw,h2,h3,hl,Nat.mul_one]
 |(with_reducible first|refine bt fun hc=>?_|refine bu fun hc=>?_|refine bx (fun hc=>?_) fun hc=>?_)<;>(try simp only[hc,bs,↓reduceIte]at h)<;>try simp only[hc]
 |(with_reducible refine aF hQ ?_;(try cases h);simp only[aV,aY,bH,bI,go_sem,hD,hY,hZ,gA,hm,hw,h2,h3,hl,Nat.mul_one];try exact cr)
 |(cases h;done))
 (refine gE hQ ?_;simp only[aV,aY,bH,bI,go_sem])
theorem Cb (h:Inv p T W y m loc s) {fr:Fr} {r:List Fr} (ja:m.st=fr::r) (hs:r.length<1000000) (hn:fr.names.length<1000000) {name:aE} {j c:Nat} (hj:iW name 0 fr.names=(j:Int)) (hc:fr.vars[j]? = some c) :
 aG Tryz.prog iE [.ptr 0 0, .str name] s (.ptr (y.κ.getD c 0) 0) s:=by
 obtain⟨o,_,h1,c1⟩:=O6 h ja hs
 have c2:=fun s=>BX (l:=fr.names) (by omega) name s
 rw[hj]at c2
 rw[pe]at h1
 refine bG.uq xT rfl fun B Q hB hQ=>?_
 have⟨hD,hY,hZ,gA⟩:=bX
 repeat' (first
 |simp only[go_sem,hD,hY,hZ,gA,h1,hc,fe,Option.map_some]
 |(with_reducible refine CU (c1) ?_)
 |(with_reducible refine CU (c2 _) ?_)
 |(with_reducible first|refine bt fun hc=>?_|refine bu fun hc=>?_|refine bx (fun hc=>?_) fun hc=>?_)<;>(try simp only[hc,bs,↓reduceIte]at h)<;>try simp only[hc]
 |(with_reducible refine aF hQ ?_;(try cases h);simp only[aV,aY,bH,bI,go_sem,hD,hY,hZ,gA,h1,hc,fe,Option.map_some];try exact cr)
 |(cases h;done))
 (refine gE hQ ?_;simp only[aV,aY,bH,bI,go_sem])
abbrev Rl (p:Pg) (T W:List Int) (d:D) (m':Mc) (X:Lay→Prop) (loc:List (Nat×List D)):D→St→Prop:=fun d' s'=>d'=d∧∃ y',X y'∧Inv p T W y' m' loc s'
theorem LW (h:Inv p T W y m loc s) (hW:W.length<1000000) (ht:m.trace.length<2000000) (id:Int) (bM:List Int) :
 bG Tryz.prog dY [.ptr 0 0, .int .i64 id, .slice .shared 1 (bM.map cq)] s (Rl p T W (.tuple []) (m.event W id bM) (· = y) loc):=by
 have hm:=h.jy
 rw[fk]at hm
 have hl:=h.uw
 have c1:=fun s=>K4 (l:=W) (by omega) id s
 have eH:ig 2 32 (.slice (.tok 1) 2 (m.trace.map nV)) (.slice .full 2 [[.int .i64 id, .slice .shared 1 (bM.map cq)]]) s=some (.slice (.tok 1) 2 ((m.trace++ [(id,bM)]).map nV),⟨s.ah,s.au.set 1 (some (m.trace.length+1))⟩):=by
  rw[oU (size:=2) (bytes:=32) (by simp only[List.length_map,List.length_singleton];unfold bJ;omega) (by simpa using h.t1)]
  simp[nV]
 refine bG.uq xV rfl fun B Q hB hQ=>?_
 have⟨hD,hY,hZ,gA⟩:=bX
 cases hb:W.contains id
 ·repeat' (first
 |simp only[go_sem,hD,hY,hZ,gA,hm,hb]
 |(with_reducible refine CU (c1 _) ?_)
 |(with_reducible first|refine bt fun hc=>?_|refine bu fun hc=>?_|refine bx (fun hc=>?_) fun hc=>?_)<;>(try simp only[hc,bs,↓reduceIte]at h)<;>try simp only[hc]
 |(with_reducible refine aF hQ ?_;(try cases h);simp only[aV,aY,bH,bI,go_sem,hD,hY,hZ,gA,hm,hb];try exact cr)
 |(cases h;done))
  (refine gE hQ ?_;simp only[aV,aY,bH,bI,go_sem])
  refine⟨rfl,y,rfl, ?_⟩
  unfold Mc.event
  rw[hb]
  exact h
 ·repeat' (first
 |simp only[go_sem,hD,hY,hZ,gA,hm,hb,eH,hl]
 |(with_reducible refine CU (c1 _) ?_)
 |(with_reducible first|refine bt fun hc=>?_|refine bu fun hc=>?_|refine bx (fun hc=>?_) fun hc=>?_)<;>(try simp only[hc,bs,↓reduceIte]at h)<;>try simp only[hc]
 |(with_reducible refine aF hQ ?_;(try cases h);simp only[aV,aY,bH,bI,go_sem,hD,hY,hZ,gA,hm,hb,eH,hl];try exact cr)
 | (cases h;done))
  (refine gE hQ ?_;simp only[aV,aY,bH,bI,go_sem])
  refine⟨rfl,y,rfl, ?_⟩
  have:=h.tF (m':=m.event W id bM) (ts:=s.au.set 1 (some (m.trace.length+1))) (eJ W m id bM).1 (eJ W m id bM).2.1 (by rw[(eJ W m id bM).2.2.2.2.2,List.getElem?_set_ne (by omega)];exact h.t0) (by
   unfold Mc.event
   rw[hb]
   simp[(List.getElem?_eq_some_iff.1 h.t1).1])
  unfold Mc.event at this ⊢
  rw[hb,if_pos rfl]at this ⊢
  simp only[fk,List.map_append,List.map_cons,List.map_nil]at this
  exact this
theorem LX (l:List Sm) (hl:l.length<4611686018427387904) (o:Int) (s:St):aG Tryz.prog pY [.slice .shared 13 (l.map bm), .int .i64 o] s (.int .i64 (firstM l o)) s:=by
 refine aG.pure ?_ (by simp[D.bL,D.ok,Tag.ok,qU]) rfl s
 unfold S0
 cases l with
 |nil=>
  have e:decide ((0:Int) > 0)=false:=rfl
  simp only[firstM,fU,List.map_nil]
  refine aG.go zY rfl fun B Q hB hQ=>?_
  have⟨hD,hY,hZ,gA⟩:=bX
  repeat' (first
 |simp only[go_sem,hD,hY,hZ,gA,e]
 |(with_reducible first|refine bt fun hc=>?_|refine bu fun hc=>?_|refine bx (fun hc=>?_) fun hc=>?_)<;>(try simp only[hc,bs,↓reduceIte]at h)<;>try simp only[hc]
 |(with_reducible refine aF hQ ?_;(try cases h);simp only[aV,aY,bH,bI,go_sem,hD,hY,hZ,gA,e];try exact cr)
 |(cases h;done))
 |cons a l=>
  have e:decide (((l.length+1:Nat):Int) > 0)=true:=by simp
  simp only[firstM,fU,List.map_cons]
  refine aG.go zY rfl fun B Q hB hQ=>?_
  have⟨hD,hY,hZ,gA⟩:=bX
  repeat' (first
 |simp only[go_sem,hD,hY,hZ,gA,e]
 |(with_reducible first|refine bt fun hc=>?_|refine bu fun hc=>?_|refine bx (fun hc=>?_) fun hc=>?_)<;>(try simp only[hc,bs,↓reduceIte]at h)<;>try simp only[hc]
 |(with_reducible refine aF hQ ?_;(try cases h);simp only[aV,aY,bH,bI,go_sem,hD,hY,hZ,gA,e];try exact cr)
 |(cases h;done))
end
end Go.Abs
