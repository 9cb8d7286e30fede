/-
  What is proved here: part 5 of the road to the claim (SubP, Cp2, Cp3, Nb1, Nb2, Nb3, Nb4, LsP, RunMv, PutP, LawRu9, Glue2, Join, Binds1, Join2, Join3, Join4, Join5).
  No conditions.
-/
import Derived.Test.YtpjadlleefgcpaaGreatRnI4
import Derived.RowKit3
import Derived.WalkKit
import Derived.ProofKit
import Derived.OpenShut
import Derived.ShutString
import Derived.ChangeMaps5
import Derived.ChangeStays
import Derived.KernelRfl

set_option linter.unusedSimpArgs false
set_option linter.unusedVariables false
namespace Go.Abs
def Sm.core (v:Sm):Sm:= {v with id:=0,aP:= [],aM:= []}
theorem Ee (v:Sm):v.core.said=v.said:=by cases v;rfl
theorem sN (v:Sm):v.core.kind=v.kind:=rfl
theorem Ik (p:Pg) (f:Pc) (l:List aK) (v:Sm):v.core.known p f l=v.known p f l:=by unfold Sm.known;rw[Ee];rfl
theorem KF (p:Pg) (v:Sm):v.core.nG p=v.nG p:=rfl
theorem Ft (p:Pg) (v:Sm):v.core.q8 p=v.q8 p:=rfl
theorem Xf (lK:List aK) (v:Sm) (lp:Int):ky lK v.core lp=ky lK v lp:=rfl
theorem Xg (lK:List aK) (v:Sm) (lp fW:Int) (h:(lp != 0)=(fW != 0)):ky lK v lp=ky lK v fW:=by unfold ky;rw[h]
mutual
def Sm.cp (b:Bool):Sm→List (Sm×Bool)
 |⟨id,kind,labels,name,pc,x,has,args,aP,aM⟩=>((⟨id,kind,labels,name,pc,x,has,args,aP,aM⟩:Sm).core,b)::(Sm.pg (b ||kind==6) aP++Sm.pg (b ||kind==6) aM)
def Sm.pg (b:Bool):List Sm→List (Sm×Bool)
 | []=> []
 |s::l=>s.cp b++Sm.pg b l
end
mutual
theorem ai6 (proc up next loop:Int) : ∀ s:Sm,(∀ v∈s.pre,v.id≠0)→(s.tJ proc up next loop).map (fun m=>(m.s.core,m.loop != 0))=s.cp (loop != 0)
 | ⟨id,kind,labels,name,pc,x,has,args,aP,aM⟩,h=>by
  have Ww:id≠0:=h ⟨id,kind,labels,name,pc,x,has,args,aP,aM⟩ (by simp[Sm.pre])
  have h1 : ∀ v∈Sm.cf aP,v.id≠0:=fun v m=>h v (by simp[Sm.pre,m])
  have h2 : ∀ v∈Sm.cf aM,v.id≠0:=fun v m=>h v (by simp[Sm.pre,m])
  have e:((if kind==6 then id else loop) != 0)=((loop != 0) ||kind==6):=by
   cases hk:(kind==6)<;>simp[Ww]
  simp only[Sm.tJ,Sm.cp,List.map_cons,List.map_append,EN _ _ _ _ aP h1,EN _ _ _ _ aM h2,e]
theorem EN (proc up next loop:Int) : ∀ l:List Sm,(∀ v∈Sm.cf l,v.id≠0)→(Sm.fF proc up next loop l).map (fun m=>(m.s.core,m.loop != 0))=Sm.pg (loop != 0) l
 | [],_=>rfl
 |s::l,h=>by
  simp only[Sm.fF,Sm.pg,List.map_append]
  rw[ai6 _ _ _ _ s fun v m=>h v (by simp[Sm.cf,m]),EN _ _ _ _ l fun v m=>h v (by simp[Sm.cf,m])]
end
def Pc.pg (f:Pc):List (Sm×Bool):=Sm.pg false f.body
theorem Xh {f:Pc} (h : ∀ v∈Sm.cf f.body,v.id≠0):f.tM.map (fun q=>(q.1.core,q.2 != 0))=f.pg:=by
 have:=EN 0 0 (-1) 0 f.body h
 unfold Pc.tM Pc.pg
 rw[List.map_map]
 exact this
mutual
theorem ai7 (b:Bool) : ∀ s:Sm,(s.cp b).map Prod.fst=s.pre.map Sm.core
 |⟨id,kind,labels,name,pc,x,has,args,aP,aM⟩=>by simp only[Sm.cp,Sm.pre,List.map_cons,List.map_append,wZ _ aP,wZ _ aM]
theorem wZ (b:Bool) : ∀ l:List Sm,(Sm.pg b l).map Prod.fst=(Sm.cf l).map Sm.core
 | []=>rfl
 |s::l=>by simp only[Sm.pg,Sm.cf,List.map_append,ai7 _ s,wZ _ l]
end
theorem Fu : ∀ l:List Sm,fA (l.map Sm.core)=fA l
 | []=>rfl
 |v::l=>by simp only[List.map_cons,fA,Fu l];rfl
theorem wW (f:Pc):f.labels=fA (f.pg.map Prod.fst)++f.fin:=by
 unfold Pc.labels Pc.pg
 rw[wZ,Fu]
theorem T7 {l m:List Sm} (h:List.Sublist l m):List.Sublist (fA l) (fA m):=by
 induction h with
 |slnil=>exact List.Sublist.refl _
 |cons a _ ih=>exact ih.trans (List.sublist_append_right _ _)
 |cons_cons a _ ih=>exact List.Sublist.append (List.Sublist.refl _) ih
theorem Ef {x:aK} : ∀ {l:List Sm},x∈se l↔∃ v∈l,x∈v.said
 | []=>by simp[se]
 |v::l=>by simp[se,Ef (l:=l)]
structure Pc.Part (g f:Pc):Prop where
 name:g.name=f.name
 params:g.params=f.params
 vars:g.vars=f.vars
 fin:g.fin=f.fin
 sub:List.Sublist g.pg f.pg
 xO : ∀ c∈g.pg,c.1.kind=10→c.1.name∈f.labels→c.1.name∈g.labels
structure Pg.Part (q p:Pg):Prop where
 rF:q.globals=p.globals
 procs : ∃ l:List (Pc×Pc),q.procs=l.map Prod.fst∧(l.map Prod.snd).Perm p.procs∧∀ x∈l,Pc.Part x.1 x.2
theorem tY {nm:aK} : ∀ {l:List Pc} {f:Pc},(l.map (·.name)).Nodup→(iC nm l=some f↔f∈l∧f.name=nm)
 | [],f,_=>by simp[iC]
 | a::l,f,h=>by
  simp only[List.map_cons,List.nodup_cons]at h
  simp only[iC]
  by_cases e:(a.name==nm)=true
  ·rw [if_pos e]
   have e':a.name=nm:=by simpa using e
   constructor
   ·intro h1;cases h1;exact⟨List.mem_cons_self ..,e'⟩
   ·rintro⟨h1,h2⟩
    rcases List.mem_cons.1 h1 with rfl|h1
    ·rfl
    ·exact absurd (List.mem_map_of_mem (f:=fun x:Pc=>x.name) h1) (by show f.name∉_;rw[h2, ← e'];exact h.1)
  ·rw [if_neg e,tY h.2]
   constructor
   ·exact fun⟨h1,h2⟩=>⟨List.mem_cons_of_mem _ h1,h2⟩
   ·rintro⟨h1,h2⟩
    rcases List.mem_cons.1 h1 with rfl|h1
    ·exact absurd (by simpa using h2) e
    ·exact⟨h1,h2⟩
theorem z7 {nm:aK} {T T':List aK} (hT : ∀ x,fC T' x=true→fC T x=true) : ∀ {l:List Ar} {seen:List aK},nr nm T seen l=true→nr nm T' seen l=true
 | [],_,_=>rfl
 | a::l,seen,h=>by
  simp only[nr]at h ⊢
  split
  ·rename_i hr
   rw[if_pos hr]at h
   split at h
   ·cases h
   ·rename_i hc
    simp only[Bool.or_eq_true,not_or,Bool.not_eq_true]at hc
    have hx:fC T' a.name=false:=by
     cases e:fC T' a.name with
     |false=>rfl
     |true=>rw[hT _ e]at hc;exact absurd hc.2.2 (by simp)
    rw[if_neg (by simp only[Bool.or_eq_true,not_or,Bool.not_eq_true];exact⟨hc.1,hc.2.1,hx⟩)]
    exact z7 hT h
  ·rename_i hr
   rw[if_neg hr]at h
   exact z7 hT h
theorem QF {p:Pg} (h:p.may=true) {f:Pc} (hf:f∈p.procs) : ∀ v∈Sm.cf f.body,v.id≠0:=fun v m=>by
 have hm:v∈p.pre:=by simp only[Pg.pre,List.mem_flatten,List.mem_map];exact⟨_,⟨f,hf,rfl⟩,m⟩
 obtain⟨i,hi⟩:=List.getElem?_of_mem hm
 have:=xJ h hi
 omega
theorem QG {lK:List aK} {f:Pc} (h : ∀ v∈Sm.cf f.body,v.id≠0):(∀ q∈f.tM,ky lK q.1 q.2=true)↔∀ c∈f.pg,ky lK c.1 (if c.2 then 1 else 0)=true:=by
 rw[← Xh h]
 have key : ∀ q:Sm×Int,ky lK q.1.core (if(q.2 != 0)=true then 1 else 0)=ky lK q.1 q.2:=fun q=>by
  rw[Xf]
  exact Xg lK q.1 _ _ (by cases (q.2 != 0)<;>rfl)
 constructor
 ·intro h1 c hc
  obtain⟨q,hq,rfl⟩:=List.mem_map.1 hc
  rw[key];exact h1 q hq
 ·intro h1 q hq
  have:=h1 _ (List.mem_map_of_mem hq)
  rw[key]at this;exact this
theorem T8 {p q:Pg} (hp:p.Right) (hq:q.may=true) (h:q.Part p):q.Right:=by
 obtain⟨hg,l,tC,je,hl3⟩:=h
 have nd:(p.procs.map (·.name)).Nodup:=by
  have:=hp.tp
  unfold Pg.pn at this
  cases e:fv (p.procs.map (·.name))with
  |true=>rw[e]at this;cases this
  |false=>
   by_cases hn:(p.procs.map (·.name)).Nodup
   ·exact hn
   ·rw[(pe _).2 hn]at e;cases e
 have P4:(q.pn).Perm p.pn:=by
  unfold Pg.pn
  have h1:q.procs.map (·.name)=(l.map Prod.snd).map (·.name):=by
   rw[tC,List.map_map,List.map_map]
   exact List.map_congr_left fun x m=>(hl3 x m).name
  rw[h1]
  exact je.map _
 have ndq:(q.procs.map (·.name)).Nodup:=P4.nodup_iff.2 nd
 have tpq:fv q.pn=false:=by
  cases e:fv q.pn with
  |false=>rfl
  |true=>exact absurd ndq ((pe _).1 e)
 have QH : ∀ g∈q.procs,∃ f∈p.procs,Pc.Part g f:=fun g m=>by
  rw[tC]at m
  obtain⟨x,hx,rfl⟩:=List.mem_map.1 m
  exact⟨x.2,je.mem_iff.1 (List.mem_map_of_mem hx),hl3 x hx⟩
 have ofp : ∀ f∈p.procs,∃ g∈q.procs,Pc.Part g f:=fun f m=>by
  obtain⟨x,hx,rfl⟩:=List.mem_map.1 (je.mem_iff.2 m)
  exact⟨x.1,by rw[tC];exact List.mem_map_of_mem hx,hl3 x hx⟩
 have fq : ∀ {nm:aK} {g:Pc},q.find nm=some g→∃ f,p.find nm=some f∧Pc.Part g f:=fun {nm g} e=>by
  obtain⟨h1,h2⟩:=(tY ndq).1 e
  obtain⟨f,hf,jS⟩:=QH g h1
  exact⟨f,(tY nd).2 ⟨hf,by rw[← jS.name];exact h2⟩,jS⟩
 have fp : ∀ {nm:aK} {f:Pc},p.find nm=some f→∃ g,q.find nm=some g∧Pc.Part g f:=fun {nm f} e=>by
  obtain⟨h1,h2⟩:=(tY nd).1 e
  obtain⟨g,nD,jS⟩:=ofp f h1
  exact⟨g,(tY ndq).2 ⟨nD,by rw[jS.name];exact h2⟩,jS⟩
 -- a part's statements
 have st : ∀ {g f:Pc},Pc.Part g f→∀ v∈Sm.cf g.body,∃ u∈Sm.cf f.body,u.core=v.core:=fun {g f} jS v m=>by
  have h1:v.core∈g.pg.map Prod.fst:=by unfold Pc.pg;rw[wZ];exact List.mem_map_of_mem m
  obtain⟨c,hc,e⟩:=List.mem_map.1 h1
  have h2:v.core∈f.pg.map Prod.fst:=by rw[← e];exact List.mem_map_of_mem (jS.sub.subset hc)
  unfold Pc.pg at h2
  rw[wZ]at h2
  obtain⟨u,hu,e2⟩:=List.mem_map.1 h2
  exact⟨u,hu,e2⟩
 have has : ∀ x,fC q.pn x=fC p.pn x:=fun x=>by
  have h1:=fy q.pn x
  have h2:=fy p.pn x
  have h3:=P4.mem_iff (a:=x)
  rw[Bool.eq_iff_iff,h1,h2,h3]
 have kind : ∀ {g f:Pc},Pc.Part g f→∀ n,g.kQ q n=f.kQ p n:=fun {g f} jS n=>by unfold Pc.kQ;rw[jS.vars,jS.params,hg]
 have known : ∀ g∈q.procs,∀ v∈Sm.cf g.body,v.known q g q.pn=true:=fun g m v mv=>by
  obtain⟨f,hf,jS⟩:=QH g m
  obtain⟨u,hu,e⟩:=st jS v mv
  have:=hp.known f hf u hu
  rw[← Ik,e,Ik]at this
  unfold Sm.known at this ⊢
  rw[has]
  simpa only[kind jS]using this
 have own : ∀ g∈q.procs,fv (q.globals++g.own)=false:=fun g m=>by
  obtain⟨f,hf,jS⟩:=QH g m
  have:=hp.own f hf
  unfold Pc.own Pc.tF at this ⊢
  rw[hg,jS.params,jS.vars];exact this
 have main:q.oK=false:=by
  have h1:=hp.main
  unfold Pg.oK at h1 ⊢
  cases e:p.find iX with
  |none=>rw[e]at h1;cases h1
  |some f=>
   rw[e]at h1
   obtain⟨g,nD,jS⟩:=fp e
   rw[nD]
   simpa only[jS.params]using h1
 have tg:fv q.globals=false:=by rw[hg];exact hp.tg
 have mS:q.scope=(0,0):=Kt hq tg tpq main fun g m=>⟨own g m,known g m⟩
 have aCl:(q.scope.1==0)=true:=by rw[mS];rfl
 have aja:(p.scope.1==0)=true:=by rw[hp.scope];rfl
 -- who is called, what is touched
 have calls : ∀ x y,y∈pS q x→y∈pS p x:=fun x y m=>by
  unfold pS at m ⊢
  cases e:q.find x with
  |none=>rw[e]at m;cases m
  |some g=>
   rw[e]at m
   obtain⟨f,hf,jS⟩:=fq e
   rw[hf]
   obtain⟨v,hv,h1,h2⟩:=DR.1 m
   obtain⟨u,hu,e2⟩:=st jS v hv
   refine DR.2 ⟨u,hu, ?_, ?_⟩
   ·rw[← sN,e2,sN];exact h1
   ·rw[show u.proc=u.core.proc from rfl,e2];exact h2
 have work : ∀ {nm:aK} {f:Pc},p.find nm=some f→∀ x∈q.work nm,x∈p.work nm:=fun {nm f} hf x m=>by
  unfold Pg.work at m
  refine HO (p:=q) (S:=fun x=>x∈p.work nm) (fun x hx y hy=>?_) _ _ _ (fun x hx=>?_) x m
  ·exact Fo aja _ _ _ (BB hf) (by omega) (fun j x hj=>absurd hj (Nat.not_lt_zero _)) _ hx _ (calls x y hy)
  ·rw [List.mem_singleton]at hx
   subst hx
   exact Nz p _ _ _ (by simp)
 have body : ∀ n x,x∈se (oN q n)→x∈se (oN p n):=fun n x m=>by
  unfold oN at m ⊢
  cases e:q.find n with
  |none=>rw[e]at m;cases m
  |some g=>
   rw[e]at m
   obtain⟨f,hf,jS⟩:=fq e
   rw[hf]
   obtain⟨v,hv,h1⟩:=Ef.1 m
   obtain⟨u,hu,e2⟩:=st jS v hv
   exact Ef.2 ⟨u,hu,by rw[← Ee,e2,Ee];exact h1⟩
 have Lw : ∀ nm x,fC (q.mT nm) x=true→fC (p.mT nm) x=true:=fun nm x m=>by
  rw[fy]at m ⊢
  cases e:q.uO nm with
  |none=>unfold Pg.mT at m;rw[e]at m;cases m
  |some g=>
   obtain⟨_,eg⟩:=DU e
   obtain⟨f,hf,jS⟩:=fq eg
   have ef:p.uO nm=some f:=by unfold Pg.uO;rw[if_pos aja];exact hf
   rw[Kp e]at m
   rw[Kp ef]
   obtain⟨⟨n,hn,hx⟩,HG⟩:=m
   exact⟨⟨n,work hf n hn,body n x hx⟩,by rw[← hg];exact HG⟩
 have pre : ∀ v∈q.pre,∃ u∈p.pre,u.core=v.core:=fun v m=>by
  simp only[Pg.pre,List.mem_flatten,List.mem_map]at m
  obtain⟨_,⟨g,nD,rfl⟩,mv⟩:=m
  obtain⟨f,hf,jS⟩:=QH g nD
  obtain⟨u,hu,e⟩:=st jS v mv
  exact⟨u,by simp only[Pg.pre,List.mem_flatten,List.mem_map];exact⟨_,⟨f,hf,rfl⟩,hu⟩,e⟩
 refine⟨hq,tg,tpq,main,own,known,fun g m=>?_,fun g m=>?_,fun v m hk=>?_,fun v m hk=>?_⟩
 ·obtain⟨f,hf,jS⟩:=QH g m
  have h1:=hp.lK f hf
  cases e:fv g.labels with
  |false=>rfl
  | true=>
   exfalso
   refine(pe _).1 e ?_
   have h2:f.labels.Nodup:=by
    by_cases hn:f.labels.Nodup
    ·exact hn
    ·rw[(pe _).2 hn]at h1;cases h1
   refine h2.sublist ?_
   rw[wW g,wW f,jS.fin]
   exact List.Sublist.append (T7 (jS.sub.map _)) (List.Sublist.refl _)
 ·obtain⟨f,hf,jS⟩:=QH g m
  rw[QG (QF hq m)]
  have h1:=(QG (lK:=f.labels) (QF hp.may hf)).1 (hp.leads f hf)
  intro c hc
  have h2:=h1 c (jS.sub.subset hc)
  unfold ky at h2 ⊢
  split
  ·rename_i hk;rw[if_pos hk]at h2;exact h2
  ·rename_i hk
   rw[if_neg hk]at h2
   split
   ·rename_i cu
    rw[if_pos cu]at h2
    rw[fy]at h2 ⊢
    exact jS.xO c hc (by simpa using cu) h2
   ·rfl
 ·obtain⟨u,hu,e⟩:=pre v m
  have sC:(u.kind==4)=true:=by rw[← sN,e,sN];exact hk
  have:=hp.fits u hu sC
  rw[← KF,e,KF]at this
  unfold Sm.nG at this ⊢
  rw[hk]at this ⊢
  simp only[Bool.true_and]at this ⊢
  cases e2:p.find v.proc with
  |none=>rw[e2]at this;cases this
  |some f=>
   rw[e2]at this
   obtain⟨g,nD,jS⟩:=fp e2
   rw[nD]
   simpa only[jS.params]using this
 ·obtain⟨u,hu,e⟩:=pre v m
  have sC:(u.kind==4)=true:=by rw[← sN,e,sN];exact hk
  have:=hp.single u hu sC
  rw[← Ft,e,Ft]at this
  unfold Sm.q8 at this ⊢
  exact z7 (Lw v.proc) this
set_option maxRecDepth 8000
open Go.Proofs
abbrev Sm.aCn (t:Sm) (l:List Sm):List Sm:=Sm.kA (fJ t) l
abbrev Pg.put (p:Pg) (t:Sm):Pg:=p.gd (fJ t)
def Sm.B8 (v:Sm):Nat:=v.labels.length+v.x.size+Ar.a7 v.args
abbrev acL (t:Sm) (N:Nat):Prop:=∀ l:List Sm,Sm.a7 l<N→∀ s:St,aH Tryz.prog pC [.slice .shared 13 (l.map bd), .agg (bd t)] s (.slice .shared 13 ((Sm.kA (fJ t) l).map bd)) s
theorem aat (t:Sm) (ht:t.B8<10000000) {N:Nat} (hN:N<10000000) (ih:acL t N) (l:List Sm) (hl:Sm.a7 l<N+1) :
 aH Tryz.prog pC [.slice .shared 13 (l.map bd), .agg (bd t)] S0 (.slice .shared 13 ((Sm.kA (fJ t) l).map bd)) S0:=by
 have hlen:l.length<10000001:=by have:=Sm.dQ l;omega
 have hct:=fun s=>D0 (v:=t) ht s
 have hbt:bd t.bare=_:=dM t.bare
 simp only[hbt,Sm.bare,List.map_nil]at hct
 generalize hR:Sm.kA (fJ t) l=R
 unfold S0
 refine aH.go M5 rfl fun B Q hB hQ=>?_
 have⟨hD,hZ,gA,gB⟩:=bX
 repeat' (first
 |simp only[go_sem,hD,hZ,gA,gB]
 |(with_reducible first|refine bt fun hc=>?_|refine bu fun hc=>?_|refine bx (fun hc=>?_) fun hc=>?_)<;>(try simp only[hc,bs,↓reduceIte]at h)<;>try simp only[hc]
 |(with_reducible refine aI hQ ?_;exact fS)
 |(cases h;done))
 refine bp.sq 5 13 rfl ?_
 simp only[go_sem,hD,hZ,gA,gB]
 refine fG 1 1 (bp.ind (ι:=List Sm×Nat×List Sm) (fun i=>l.drop i.2.1=i.1∧i.2.1=i.2.2.length∧i.2.2++Sm.kA (fJ t) i.1=R) (fun i=>i.1.length)
  (fun i=> [(3, .ptr 0 0),(5, .slice (.tok 0) 13 (i.2.2.map bd)),(9, .slice .shared 13 (l.map bd)),(10, .int .i64 (l.length:Int)),(11, .int .i64 (i.2.1:Int))])
  (fun i=>⟨[bd t],[some i.2.1]⟩) ?_ (l,0,[]) ⟨rfl,rfl,hR⟩)
 rintro⟨rest,k,acc⟩ ⟨h1,h2,h3⟩ IH
 dsimp only at h1 h2 h3
 subst h2
 cases rest with
 |nil=>
  have hD:=drop_nil h1
  simp only[Sm.kA,List.append_nil]at h3
  subst h3
  repeat' (first
 |simp only[go_sem,hD,hZ,gA,gB]
 |(with_reducible first|refine bt fun hc=>?_|refine bu fun hc=>?_|refine bx (fun hc=>?_) fun hc=>?_)<;>(try simp only[hc,bs,↓reduceIte]at h)<;>try simp only[hc]
 |(with_reducible refine aI hQ ?_;exact fS)
 |(cases h;done))
 | cons y rest=>
  obtain⟨hZ,g2,hD,g4⟩:=drop_cons h1
  have hk:acc.length<4611686018427387904:=by omega
  have dU:y.size≤N:=by have:=Sm.da (List.mem_of_getElem? hZ);omega
  obtain⟨id,kind,labels,name,proc,x,has,args,aP,aM⟩:=y
  simp only[Sm.size]at dU
  have ic:(acc.length+1)*209≤bq:=by simp only[bq];omega
  have JT:=fun s=>D0 (v:=⟨id,kind,labels,name,proc,x,has,args,aP,aM⟩) (by dsimp only;omega) s
  simp only[Sm.bare,dM,List.map_nil]at JT
  have c1:=ih aP (by omega)
  have c2:=ih aM (by omega)
  simp only[Sm.kA]at h3
  obtain⟨Y,hY⟩ : ∃ Y,Sm.gd (fJ t) ⟨id,kind,labels,name,proc,x,has,args,aP,aM⟩=Y:=⟨_,rfl⟩
  rw[hY]at h3
  rw[Qj]at hY
  unfold fJ at hY
  obtain⟨T,hT⟩ : ∃ T,Sm.kA (fJ t) aP=T:=⟨_,rfl⟩
  obtain⟨E,hE⟩ : ∃ E,Sm.kA (fJ t) aM=E:=⟨_,rfl⟩
  unfold fJ at hT hE
  simp only[hT,hE]at hY
  unfold fJ at c1 c2
  rw[hT]at c1
  rw[hE]at c2
  rcases Bool.eq_false_or_eq_true (id==t.id)with b1|b1
  ·rw [if_pos b1]at hY
   subst hY
   repeat' (first
 |simp only[go_sem,hD,hZ,gA,gB,ic,b1]
 |(with_reducible refine CU (JT _) ?_)
 |(with_reducible refine CU (hct _) ?_)
 |(with_reducible refine CU (c1 _) ?_)
 |(with_reducible refine CU (c2 _) ?_)
 |(with_reducible first|refine bt fun hc=>?_|refine bu fun hc=>?_|refine bx (fun hc=>?_) fun hc=>?_)<;>(try simp only[hc,bs,↓reduceIte]at h)<;>try simp only[hc]
 |(with_reducible refine aI hQ ?_;(try cases h);simp only[bh,bj,bP,bQ,go_sem,hD,hZ,gA,gB,ic,b1];try exact cO)
 | (cases h;done))
   refine fi 1 1 ?_ ?_ (IH (rest,acc.length+1,acc++ [{t with aP:=T,aM:=E}]) ⟨g2,by simp,by rw[← h3];simp⟩ (Nat.lt_succ_self _))
   ·(simp only[go_sem,hD,hZ,gA,gB,aN hk,dM];try exact bY)
   ·(simp only[go_sem,hD,hZ,gA,gB,aN hk,dM];try exact bY)
  ·rw [if_neg (by simp [b1])]at hY
   subst hY
   repeat' (first
 |simp only[go_sem,hD,hZ,gA,gB,ic,b1]
 |(with_reducible refine CU (JT _) ?_)
 |(with_reducible refine CU (hct _) ?_)
 |(with_reducible refine CU (c1 _) ?_)
 |(with_reducible refine CU (c2 _) ?_)
 |(with_reducible first|refine bt fun hc=>?_|refine bu fun hc=>?_|refine bx (fun hc=>?_) fun hc=>?_)<;>(try simp only[hc,bs,↓reduceIte]at h)<;>try simp only[hc]
 |(with_reducible refine aI hQ ?_;(try cases h);simp only[bh,bj,bP,bQ,go_sem,hD,hZ,gA,gB,ic,b1];try exact cO)
 | (cases h;done))
   refine fi 1 1 ?_ ?_ (IH (rest,acc.length+1,acc++ [⟨id,kind,labels,name,proc,x,has,args,T,E⟩]) ⟨g2,by simp,by rw[← h3];simp⟩ (Nat.lt_succ_self _))
   ·(simp only[go_sem,hD,hZ,gA,gB,aN hk];try exact bY)
   ·(simp only[go_sem,hD,hZ,gA,gB,aN hk];try exact bY)
theorem aeQ (t:Sm) (ht:t.B8<10000000) : ∀ N,N<10000000→acL t N:=by
 intro N
 induction N with
 |zero=>intro _ l hl;exact absurd hl (Nat.not_lt_zero _)
 |succ N ih=>
  intro hN l hl s
  exact(aat t ht (by omega) (ih (by omega)) l hl).pure (by simp[D.bM,D.ok,Tag.ok,nF,pz]) (by simp[D.bM,D.ok,Tag.ok,nF]) s
theorem Ou {t:Sm} (ht:t.B8<10000000) {l:List Sm} (h:Sm.a7 l<9000000) (s:St):aH Tryz.prog pC [.slice .shared 13 (l.map bd), .agg (bd t)] s (.slice .shared 13 ((Sm.kA (fJ t) l).map bd)) s:=
 aeQ t ht 9999999 (by omega) l (by omega) s
theorem amI {p:Pg} (hp:p.size<1000000) {t:Sm} (ht:t.B8<10000000) (st:St):aH Tryz.prog pB [.agg (bO p), .agg (bd t)] st (.agg (bO (p.put t))) st:=by
 refine aH.pure ?_ (by simp[D.bM,D.ok,iy,pz]) (by simp[D.ok,iy]) st
 obtain⟨globals,procs⟩:=p
 simp only[Pg.size]at hp
 have hlen:procs.length<1000000:=by have:=Pc.dQ procs;omega
 have hG:=fun s=>q9 (l:=globals) (by omega) s
 have e:Pg.gd (fJ t) ⟨globals,procs⟩ = ⟨globals,procs.map (Pc.gd (fJ t))⟩:=rfl
 show aH _ _ _ _ (.agg (bO (Pg.gd (fJ t) ⟨globals,procs⟩))) _
 rw[e]
 generalize hR:procs.map (Pc.gd (fJ t))=R
 unfold S0
 refine aH.go DA rfl fun B Q hB hQ=>?_
 have⟨hD,hZ,gA,gB⟩:=bX
 repeat' (first
 |simp only[go_sem,hD,hZ,gA,gB]
 |(with_reducible refine CU (hG _) ?_)
 |(with_reducible first|refine bt fun hc=>?_|refine bu fun hc=>?_|refine bx (fun hc=>?_) fun hc=>?_)<;>(try simp only[hc,bs,↓reduceIte]at h)<;>try simp only[hc]
 |(with_reducible refine aI hQ ?_;exact fS)
 |(cases h;done))
 refine bp.zz 3 1 5 rfl rfl ?_
 simp only[go_sem,hD,hZ,gA,gB]
 refine fG 4 1 (bp.ind (ι:=List Pc×Nat×List Pc) (fun i=>procs.drop i.2.1=i.1∧i.2.1=i.2.2.length∧i.2.2++i.1.map (Pc.gd (fJ t))=R) (fun i=>i.1.length)
  (fun i=> [(3, .ptr 1 0),(4, .ptr 2 0),(5, .ptr 3 0),(14, .slice .shared 5 (procs.map bN)),(15, .int .i64 (procs.length:Int)),(16, .int .i64 (i.2.1:Int))])
  (fun i=>⟨[bO ⟨globals,procs⟩,bd t,bO pg0,[.slice .shared 1 (globals.map encStr), .slice (.tok 0) 5 (i.2.2.map bN)]],[some i.2.1]⟩) ?_ (procs,0,[]) ⟨rfl,rfl,hR⟩)
 rintro⟨rest,k,acc⟩ ⟨h1,h2,h3⟩ IH
 dsimp only at h1 h2 h3
 subst h2
 cases rest with
 |nil=>
  have hD:=drop_nil h1
  simp only[List.map_nil,List.append_nil]at h3
  subst h3
  repeat' (first
 |simp only[go_sem,hD,hZ,gA,gB]
 |(with_reducible first|refine bt fun hc=>?_|refine bu fun hc=>?_|refine bx (fun hc=>?_) fun hc=>?_)<;>(try simp only[hc,bs,↓reduceIte]at h)<;>try simp only[hc]
 |(with_reducible refine aI hQ ?_;exact fS)
 |(cases h;done))
 | cons y rest=>
  obtain⟨hZ,g2,hD,g4⟩:=drop_cons h1
  have dU:=Pc.da (List.mem_of_getElem? hZ)
  obtain⟨name,params,vars,body,fin⟩:=y
  simp only[Pc.size]at dU
  have hk:acc.length<4611686018427387904:=by omega
  have ic:(acc.length+1)*113≤bq:=by simp only[bq];omega
  have c1:=fun s=>q9 (l:=vars) (by omega) s
  have c2:=fun s=>q9 (l:=fin) (by omega) s
  have c3:=fun s=>Ou ht (l:=body) (by omega) s
  have e2:Pc.gd (fJ t) ⟨name,params,vars,body,fin⟩ = ⟨name,params,vars,Sm.kA (fJ t) body,fin⟩:=rfl
  cases params with
  |nil=>
   have ha:=fun o T=>qR (size:=2) (bytes:=24) (z:=0) (z':=2) (g:= .shared) o T
   repeat' (first
 |simp only[go_sem,hD,hZ,gA,gB,ic,ha]
 |(with_reducible refine CU (c1 _) ?_)
 |(with_reducible refine CU (c2 _) ?_)
 |(with_reducible refine CU (c3 _) ?_)
 |(with_reducible first|refine bt fun hc=>?_|refine bu fun hc=>?_|refine bx (fun hc=>?_) fun hc=>?_)<;>(try simp only[hc,bs,↓reduceIte]at h)<;>try simp only[hc]
 |(with_reducible refine aI hQ ?_;(try cases h);simp only[bh,bj,bP,bQ,go_sem,hD,hZ,gA,gB,ic,ha];try exact cO)
 | (cases h;done))
   refine fi 4 1 ?_ ?_ (IH (rest,acc.length+1,acc++ [Pc.gd (fJ t) ⟨name,[],vars,body,fin⟩]) ⟨g2,by simp,by rw[← h3];simp⟩ (Nat.lt_succ_self _))
   ·(simp only[go_sem,hD,hZ,gA,gB,aN hk,e2];try exact bY)
   ·(simp only[go_sem,hD,hZ,gA,gB,aN hk,e2];try exact bY)
  |cons q params=>
   have ha:=fun o T=>pI (size:=2) (bytes:=24) (rows:=(q::params).map iJ) (by simp) (by simp only[List.length_map];unfold bq;omega) (z:=0) (g:= .shared) o T
   generalize q::params=ps at *
   repeat' (first
 |simp only[go_sem,hD,hZ,gA,gB,ic,ha]
 |(with_reducible refine CU (c1 _) ?_)
 |(with_reducible refine CU (c2 _) ?_)
 |(with_reducible refine CU (c3 _) ?_)
 |(with_reducible first|refine bt fun hc=>?_|refine bu fun hc=>?_|refine bx (fun hc=>?_) fun hc=>?_)<;>(try simp only[hc,bs,↓reduceIte]at h)<;>try simp only[hc]
 |(with_reducible refine aI hQ ?_;(try cases h);simp only[bh,bj,bP,bQ,go_sem,hD,hZ,gA,gB,ic,ha];try exact cO)
 | (cases h;done))
   refine fi 4 1 ?_ ?_ (IH (rest,acc.length+1,acc++ [Pc.gd (fJ t) ⟨name,ps,vars,body,fin⟩]) ⟨g2,by simp,by rw[← h3];simp⟩ (Nat.lt_succ_self _))
   ·(simp only[go_sem,hD,hZ,gA,gB,aN hk,e2];try exact bY)
   ·(simp only[go_sem,hD,hZ,gA,gB,aN hk,e2];try exact bY)
set_option maxRecDepth 8000
open Go.Proofs
theorem Xj (l:List Pc):((l.map bN).flatten).length=l.length*5:=xn bN 5 (fun f=>rfl) l
def EO:List D:= [.junk, .junk, .junk, .junk, .junk]
abbrev Lx (procs:List Pc) (k:Int):Tm:= [(3, .ptr 1 0),(4, .ptr 2 0),(5, .ptr 3 0),(14, .slice .shared 5 (procs.map bN)),(15, .int .i64 (procs.length:Int)),(16, .int .i64 k)]
abbrev pJ (l:List Pc):List D:= .int .i64 ((l.length - 1:Nat):Int)::(l.map bN).flatten
theorem amJ {globals:List aK} {procs:List Pc} (hp:(⟨globals,procs⟩:Pg).size<1000000) (h0:procs≠ []) {t:Sm} (ht:t.B8<10000000) {R:List Pc} (hR:procs.map (Pc.gd (fJ t))=R) :
 aH Tryz.prog pB [.agg (bO ⟨globals,procs⟩), .agg (bd t)] S0 (.agg [.slice .shared 1 (globals.map encStr), .dS 5 4 (R.length - 1) R.length])
  ⟨[bO ⟨globals,procs⟩,bd t,[.junk, .junk],[.junk, .junk],pJ R],[]⟩:=by
 simp only[Pg.size]at hp
 have hlen:procs.length<1000000:=by have:=Pc.dQ procs;omega
 have hG:=fun s=>q9 (l:=globals) (by omega) s
 unfold S0
 refine aH.goK 5 0 (Nat.zero_le _) (Nat.zero_le _) DA rfl fun B Q hB hQ=>?_
 have⟨hD,hZ,gA,gB⟩:=bX
 obtain⟨y0,T9,yH⟩ : ∃ y r,procs.drop 0=y::r:=by
  cases procs with
  |nil=>exact absurd rfl h0
  |cons y r=>exact⟨y,r,rfl⟩
 obtain⟨Il,g20,at8,g40⟩:=drop_cons yH
 have Ua:decide ((0:Int)<(procs.length:Int))=true:=by simpa using at8
 have hR0:Pc.gd (fJ t) y0::T9.map (Pc.gd (fJ t))=R:=by
  have:procs=y0::T9:=by simpa using yH
  rw[← hR,this];rfl
 have ic:(1:Nat)*113≤bq:=by simp only[bq];omega
 have fl:=fun(tg:Tag) (r:List D) (s:St)=>FM (z:=5) (bytes:=112) tg r s (by simp only[bq];omega)
 -- the rounds behind the first one
 have loop:bp Tryz.prog B 47 QZS (jq 0 (lR (ki Tryz.prog B 47 QZX Q) Q)) (Lx procs ((1:Nat):Int)) ⟨[bO ⟨globals,procs⟩,bd t,[.junk, .junk],[.slice .shared 1 (globals.map encStr), .dS 5 4 0 1],pJ [Pc.gd (fJ t) y0]],[]⟩:=by
  refine bp.ind (ι:=List Pc×Nat×List Pc) (fun i=>procs.drop i.2.1=i.1∧i.2.1=i.2.2.length∧0<i.2.2.length∧i.2.2++i.1.map (Pc.gd (fJ t))=R) (fun i=>i.1.length)
   (fun i=>Lx procs (i.2.1:Int)) (fun i=>⟨[bO ⟨globals,procs⟩,bd t,[.junk, .junk],[.slice .shared 1 (globals.map encStr), .dS 5 4 (i.2.2.length - 1) i.2.2.length],pJ i.2.2],[]⟩) ?_ (T9,1,[Pc.gd (fJ t) y0]) ⟨g20,rfl,Nat.zero_lt_one,hR0⟩
  rintro⟨rest,k,acc⟩ ⟨h1,h2,h3,h4⟩ IH
  dsimp only at h1 h2 h3 h4
  subst h2
  have sJ:acc.length≤procs.length:=by
   have:=congrArg List.length h4
   rw[← hR]at this
   simp at this;omega
  cases rest with
  |nil=>
   have hD:=drop_nil h1
   simp only[List.map_nil,List.append_nil]at h4
   subst h4
   repeat' (first
 |simp only[go_sem,hD,hZ,gA,gB]
 |(with_reducible first|refine bt fun hc=>?_|refine bu fun hc=>?_|refine bx (fun hc=>?_) fun hc=>?_)<;>(try simp only[hc,bs,↓reduceIte]at h)<;>try simp only[hc]
 |(with_reducible refine aI hQ ?_;exact fS)
 | (cases h;done))
  | cons y rest=>
   obtain⟨hZ,g2,hD,g4⟩:=drop_cons h1
   have dU:=Pc.da (List.mem_of_getElem? hZ)
   obtain⟨name,params,vars,body,fin⟩:=y
   simp only[Pc.size]at dU
   have hk:acc.length<4611686018427387904:=by omega
   have c1:=fun s=>q9 (l:=vars) (by omega) s
   have c2:=fun s=>q9 (l:=fin) (by omega) s
   have c3:=fun s=>Ou ht (l:=body) (by omega) s
   have e2:Pc.gd (fJ t) ⟨name,params,vars,body,fin⟩ = ⟨name,params,vars,Sm.kA (fJ t) body,fin⟩:=rfl
   have QI:=fun(tg:Tag) (r a b c d e f:List D) (T:List (Option Nat))=>adF (s:=⟨[a,b,c,d,pJ acc,e,f],T⟩) (o:=4) (g:=acc.length - 1) (len:=acc.length) (z:=5) (bytes:=112) (t:=tg) (r:=r) rfl (Xj acc) (by unfold bq;omega)
   have e3:acc.length - 1+1=acc.length:=by omega
   have e6 : ∀ f:Pc,pJ (acc++ [f]) = .int .i64 (acc.length:Int)::((acc.map bN).flatten++bN f):=fun f=>by simp
   have e7 : ∀ f:Pc,(acc++ [f]).length=acc.length+1:=fun f=>by simp
   cases params with
   |nil=>
    have ha:=fun o T=>qR (size:=2) (bytes:=24) (z:=0) (z':=2) (g:= .shared) o T
    repeat' (first
 |simp only[go_sem,hD,hZ,gA,gB,ha,QI,e3]
 |(with_reducible refine CU (c1 _) ?_)
 |(with_reducible refine CU (c2 _) ?_)
 |(with_reducible refine CU (c3 _) ?_)
 |(with_reducible first|refine bt fun hc=>?_|refine bu fun hc=>?_|refine bx (fun hc=>?_) fun hc=>?_)<;>(try simp only[hc,bs,↓reduceIte]at h)<;>try simp only[hc]
 |(with_reducible refine aI hQ ?_;(try cases h);simp only[bh,bj,bP,bQ,go_sem,hD,hZ,gA,gB,ha,QI,e3];try exact cO)
 | (cases h;done))
    refine fi 5 0 ?_ ?_ (IH (rest,acc.length+1,acc++ [Pc.gd (fJ t) ⟨name,[],vars,body,fin⟩]) ⟨g2,by simp,by simp,by rw[← h4];simp⟩ (Nat.lt_succ_self _))
    ·(simp only[go_sem,hD,hZ,gA,gB,aN hk,e2,e3,e6,e7,Nat.add_sub_cancel];try exact bY)
    ·(simp only[go_sem,hD,hZ,gA,gB,aN hk,e2,e3,e6,e7,Nat.add_sub_cancel];try exact bY)
   |cons q params=>
    have ha:=fun o T=>pI (size:=2) (bytes:=24) (rows:=(q::params).map iJ) (by simp) (by simp only[List.length_map];unfold bq;omega) (z:=0) (g:= .shared) o T
    generalize q::params=ps at *
    repeat' (first
 |simp only[go_sem,hD,hZ,gA,gB,ha,QI,e3]
 |(with_reducible refine CU (c1 _) ?_)
 |(with_reducible refine CU (c2 _) ?_)
 |(with_reducible refine CU (c3 _) ?_)
 |(with_reducible first|refine bt fun hc=>?_|refine bu fun hc=>?_|refine bx (fun hc=>?_) fun hc=>?_)<;>(try simp only[hc,bs,↓reduceIte]at h)<;>try simp only[hc]
 |(with_reducible refine aI hQ ?_;(try cases h);simp only[bh,bj,bP,bQ,go_sem,hD,hZ,gA,gB,ha,QI,e3];try exact cO)
 | (cases h;done))
    refine fi 5 0 ?_ ?_ (IH (rest,acc.length+1,acc++ [Pc.gd (fJ t) ⟨name,ps,vars,body,fin⟩]) ⟨g2,by simp,by simp,by rw[← h4];simp⟩ (Nat.lt_succ_self _))
    ·(simp only[go_sem,hD,hZ,gA,gB,aN hk,e2,e3,e6,e7,Nat.add_sub_cancel];try exact bY)
    ·(simp only[go_sem,hD,hZ,gA,gB,aN hk,e2,e3,e6,e7,Nat.add_sub_cancel];try exact bY)
 repeat' (first
 |simp only[go_sem,hD,hZ,gA,gB]
 |(with_reducible refine CU (hG _) ?_)
 |(with_reducible first|refine bt fun hc=>?_|refine bu fun hc=>?_|refine bx (fun hc=>?_) fun hc=>?_)<;>(try simp only[hc,bs,↓reduceIte]at h)<;>try simp only[hc]
 |(with_reducible refine aI hQ ?_;exact fS)
 |(cases h;done))
 refine fG 4 0 (bp.kO (tm:=Lx procs 0) (s:=⟨[bO ⟨globals,procs⟩,bd t,[.junk, .junk],[.slice .shared 1 (globals.map encStr), .ff 5]],[]⟩) ?_)
 have dU:=Pc.da (List.mem_of_getElem? Il)
 obtain⟨name,params,vars,body,fin⟩:=y0
 simp only[Pc.size]at dU
 have c1:=fun s=>q9 (l:=vars) (by omega) s
 have c2:=fun s=>q9 (l:=fin) (by omega) s
 have c3:=fun s=>Ou ht (l:=body) (by omega) s
 have e2:Pc.gd (fJ t) ⟨name,params,vars,body,fin⟩ = ⟨name,params,vars,Sm.kA (fJ t) body,fin⟩:=rfl
 have w1:IntKind.wrap .i64 ((0:Int)+1)=((1:Nat):Int):=rfl
 have Dp:=bp.Y0 (P:=Tryz.prog) (a:=QZS) (Q:=jq 0 (lR (ki Tryz.prog B 47 QZX Q) Q)) (nt:=47) (tm:=Lx procs ((1:Nat):Int)) (s:=⟨[bO ⟨globals,procs⟩,bd t,[.junk, .junk],[.slice .shared 1 (globals.map encStr), .dS 5 6 0 1],EO,EO,pJ [Pc.gd (fJ t) ⟨name,params,vars,body,fin⟩]],[]⟩)
  hB [0,1,2,3,6] _ _ (by decide) (by simp) (by simp[zC,D.fa,D.cU,D.bM,D.ok,Tag.cU,Tag.ok,Es,PT,IQ,MF,qB,G7,VI,xo,xp,Av]) (by simp[Cm,Tm.get,D.cU,D.ok,Tag.cU,Tag.ok,FN,IS]) loop
 have e4:pJ [⟨name,params,vars,Sm.kA (fJ t) body,fin⟩] = [.int .i64 0, .str name, .slice .shared 2 (params.map iJ), .slice .shared 1 (vars.map encStr), .slice .shared 13 ((Sm.kA (fJ t) body).map bd), .slice .shared 1 (fin.map encStr)]:=rfl
 cases params with
 |nil=>
  have ha:=fun o T=>qR (size:=2) (bytes:=24) (z:=0) (z':=2) (g:= .shared) o T
  repeat' (first
 |simp only[go_sem,hD,hZ,gA,gB,Il,Ua,ic,ha,fl]
 |(with_reducible refine CU (c1 _) ?_)
 |(with_reducible refine CU (c2 _) ?_)
 |(with_reducible refine CU (c3 _) ?_)
 |(with_reducible first|refine bt fun hc=>?_|refine bu fun hc=>?_|refine bx (fun hc=>?_) fun hc=>?_)<;>(try simp only[hc,bs,↓reduceIte]at h)<;>try simp only[hc]
 |(with_reducible refine aI hQ ?_;(try cases h);simp only[bh,bj,bP,bQ,go_sem,hD,hZ,gA,gB,Il,Ua,ic,ha,fl];try exact cO)
 |(cases h;done))
  refine fi 7 0 ?_ ?_ (Dp)
  ·(simp only[go_sem,hD,hZ,gA,gB,w1,e2,e4,EO];try exact bY)
  ·(simp only[go_sem,hD,hZ,gA,gB,w1,e2,e4,EO];try exact bY)
 |cons q params=>
  have ha:=fun o T=>pI (size:=2) (bytes:=24) (rows:=(q::params).map iJ) (by simp) (by simp only[List.length_map];unfold bq;omega) (z:=0) (g:= .shared) o T
  generalize q::params=ps at *
  repeat' (first
 |simp only[go_sem,hD,hZ,gA,gB,Il,Ua,ic,ha,fl]
 |(with_reducible refine CU (c1 _) ?_)
 |(with_reducible refine CU (c2 _) ?_)
 |(with_reducible refine CU (c3 _) ?_)
 |(with_reducible first|refine bt fun hc=>?_|refine bu fun hc=>?_|refine bx (fun hc=>?_) fun hc=>?_)<;>(try simp only[hc,bs,↓reduceIte]at h)<;>try simp only[hc]
 |(with_reducible refine aI hQ ?_;(try cases h);simp only[bh,bj,bP,bQ,go_sem,hD,hZ,gA,gB,Il,Ua,ic,ha,fl];try exact cO)
 |(cases h;done))
  refine fi 7 0 ?_ ?_ (Dp)
  ·(simp only[go_sem,hD,hZ,gA,gB,w1,e2,e4,EO];try exact bY)
  ·(simp only[go_sem,hD,hZ,gA,gB,w1,e2,e4,EO];try exact bY)
set_option maxRecDepth 8000
open Go.Proofs
theorem acM:(⟨-1,0,[],[],[],rk,false,[],[],[]⟩:Sm).B8<10000000:=by decide
def iK:Sm:=⟨-1,0,[],[],[],rk,false,[],[],[]⟩
theorem Xk:bd iK = [.int .i64 (-1), .int .i64 0, .slice .shared 1 [], .str [], .str [], .int .i64 0, .int .i64 0, .str [], .slice .shared 4 [], .bool false, .slice .shared 6 [], .slice .shared 13 [], .slice .shared 13 []]:=rfl
theorem ajc {p:Pg} (hp:p.size<1000000) (st:St):aH Tryz.prog pX [.agg (bO p)] st (.agg (bO (p.put iK))) st:=by
 refine aH.pure ?_ (by simp[D.bM,D.ok,iy]) (by simp[D.ok,iy]) st
 have h1:=fun s=>amI hp (t:=iK) acM s
 have h2 : ∀ s,aH Tryz.prog pB [.agg (bO p), .agg [.int .i64 (-1), .int .i64 0, .slice .full 0 [], .str [], .str [], .int .i64 0, .int .i64 0, .str [], .slice .full 0 [], .bool false, .slice .full 0 [], .slice .full 0 [], .slice .full 0 []]] s (.agg (bO (p.put iK))) s:=
  fun s=>bV.qA (.cons (Wk.refl _) (.cons (by rw[Xk];exact Wk.agg (.cons (Wk.refl _) (.cons (Wk.refl _) (.cons (Wk.nil _ _ _) (.cons (Wk.refl _) (.cons (Wk.refl _) (.cons (Wk.refl _) (.cons (Wk.refl _) (.cons (Wk.refl _) (.cons (Wk.nil _ _ _) (.cons (Wk.refl _) (.cons (Wk.nil _ _ _) (.cons (Wk.nil _ _ _) (.cons (Wk.nil _ _ _) .nil)))))))))))))) .nil)) (h1 s)
 unfold S0
 refine aH.go Cq rfl fun B Q hB hQ=>?_
 have⟨hD,hZ,gA,gB⟩:=bX
 repeat' (first
 |simp only[go_sem,hD,hZ,gA,gB]
 |(with_reducible refine CU (h2 _) ?_)
 |(with_reducible first|refine bt fun hc=>?_|refine bu fun hc=>?_|refine bx (fun hc=>?_) fun hc=>?_)<;>(try simp only[hc,bs,↓reduceIte]at h)<;>try simp only[hc]
 |(with_reducible refine aI hQ ?_;exact fS)
 |(cases h;done))
theorem amK {p:Pg} (hp:p.size<1000000) (h0:p.procs≠ []) {t:Sm} (ht:t.B8<10000000) (st:St) :
 aH Tryz.prog pB [.agg (bO p), .agg (bd t)] st (.agg [.slice .shared 1 (p.globals.map encStr), .dS 5 st.al.length (p.procs.length - 1) p.procs.length]) ⟨st.al++ [pJ (p.put t).procs],st.aA⟩:=by
 obtain⟨globals,procs⟩:=p
 show aH _ _ _ _ _ ⟨st.al++ [pJ (procs.map (Pc.gd (fJ t)))],st.aA⟩
 have h1:=amJ hp h0 ht (R:=procs.map (Pc.gd (fJ t))) rfl
 have hl:(procs.map (Pc.gd (fJ t))).length=procs.length:=List.length_map ..
 generalize procs.map (Pc.gd (fJ t))=R at *
 rw[hl]at h1
 have h2:=aH.Dp (d':= .agg [.slice .shared 1 (globals.map encStr), .dS 5 0 (procs.length - 1) procs.length]) (fx:= [pJ R]) [4] h1 (by decide) (by simp) rfl (fun i o ds e1 e2=>by
  cases i with
  |zero=>
   simp only[List.getElem?_cons_zero,Option.some.injEq]at e1 e2
   subst e1 e2
   exact⟨by simp[D.fa,D.cU,xp,hl],by simp[D.bM,D.ok,Av]⟩
  |succ i=>simp at e1) (by simp[D.cU,D.fa,Tag.cU,qB]) (by simp[D.ok,D.bM,Tag.ok,xo])
 have h3:=h2.abn (by simp[D.bM,D.ok,iy,pz]) (by simp[D.bM,D.ok,G8]) st
 simpa[D.cU,D.fa,Tag.cU,qB]using h3
theorem ajd {p:Pg} (hp:p.size<1000000) (h0:p.procs≠ []) (st:St) :
 aH Tryz.prog pX [.agg (bO p)] st (.agg [.slice .shared 1 (p.globals.map encStr), .dS 5 st.al.length (p.procs.length - 1) p.procs.length]) ⟨st.al++ [pJ (p.put iK).procs],st.aA⟩:=by
 have h1:=fun s=>amK hp h0 (t:=iK) acM s
 have h2 : ∀ s:St,aH Tryz.prog pB [.agg (bO p), .agg [.int .i64 (-1), .int .i64 0, .slice .full 0 [], .str [], .str [], .int .i64 0, .int .i64 0, .str [], .slice .full 0 [], .bool false, .slice .full 0 [], .slice .full 0 [], .slice .full 0 []]] s
  (.agg [.slice .shared 1 (p.globals.map encStr), .dS 5 s.al.length (p.procs.length - 1) p.procs.length]) ⟨s.al++ [pJ (p.put iK).procs],s.aA⟩:=
  fun s=>bV.qA (.cons (Wk.refl _) (.cons (by rw[Xk];exact Wk.agg (.cons (Wk.refl _) (.cons (Wk.refl _) (.cons (Wk.nil _ _ _) (.cons (Wk.refl _) (.cons (Wk.refl _) (.cons (Wk.refl _) (.cons (Wk.refl _) (.cons (Wk.refl _) (.cons (Wk.nil _ _ _) (.cons (Wk.refl _) (.cons (Wk.nil _ _ _) (.cons (Wk.nil _ _ _) (.cons (Wk.nil _ _ _) .nil)))))))))))))) .nil)) (h1 s)
 have key:aH Tryz.prog pX [.agg (bO p)] S0 (.agg [.slice .shared 1 (p.globals.map encStr), .dS 5 2 (p.procs.length - 1) p.procs.length]) ⟨[bO p,[.junk, .junk],pJ (p.put iK).procs],[]⟩:=by
  unfold S0
  refine aH.goK 3 0 (Nat.zero_le _) (Nat.zero_le _) Cq rfl fun B Q hB hQ=>?_
  have⟨hD,hZ,gA,gB⟩:=bX
  generalize (p.put iK).procs=R at *
  repeat' (first
 |simp only[go_sem,hD,hZ,gA,gB]
 |(with_reducible refine CU (h2 _) ?_)
 |(with_reducible first|refine bt fun hc=>?_|refine bu fun hc=>?_|refine bx (fun hc=>?_) fun hc=>?_)<;>(try simp only[hc,bs,↓reduceIte]at h)<;>try simp only[hc]
 |(with_reducible refine aI hQ ?_;exact fS)
 |(cases h;done))
 generalize (p.put iK).procs=R at *
 have h3:=aH.Dp (d':= .agg [.slice .shared 1 (p.globals.map encStr), .dS 5 0 (p.procs.length - 1) p.procs.length]) (fx:= [pJ R]) [2] key (by decide) (by simp) rfl (fun i o ds e1 e2=>by
  cases i with
  |zero=>
   simp only[List.getElem?_cons_zero,Option.some.injEq]at e1 e2
   subst e1 e2
   exact⟨by simp[D.fa,D.cU,xp],by simp[D.bM,D.ok,Av]⟩
  |succ i=>simp at e1) (by simp[D.cU,D.fa,Tag.cU,qB]) (by simp[D.ok,D.bM,Tag.ok,xo])
 have h4:=h3.abn (by simp[D.bM,D.ok,iy]) (by simp[D.bM,D.ok,G8]) st
 simpa[D.cU,D.fa,Tag.cU,qB]using h4
set_option maxRecDepth 8000
open Go.Proofs
abbrev acN (N:Nat):Prop:=∀ (l:List Sm) (n:Nat),Sm.a7 l<N→n+Sm.a7 l<1000000000→∀ s:St,aH Tryz.prog ko [.slice .shared 13 (l.map bd), .int .i64 (n:Int)] s
 (.tuple [.slice .shared 13 ((Sm.dJ true n l).1.map bd), .int .i64 ((Sm.dJ true n l).2:Int)]) s
theorem Lf {N:Nat} (hN:N<10000000) (ih:acN N) (l:List Sm) (n:Nat) (hl:Sm.a7 l<N+1) (hn:n+Sm.a7 l<1000000000) :
 aH Tryz.prog ko [.slice .shared 13 (l.map bd), .int .i64 (n:Int)] S0 (.tuple [.slice .shared 13 ((Sm.dJ true n l).1.map bd), .int .i64 ((Sm.dJ true n l).2:Int)]) S0:=by
 have hlen:l.length<10000001:=by have:=Sm.dQ l;omega
 have hle:=Sm.uG true n l
 generalize hR:Sm.dJ true n l=R at *
 unfold S0
 refine aH.go EX rfl fun B Q hB hQ=>?_
 have⟨hD,hZ,gA,gB⟩:=bX
 repeat' (first
 |simp only[go_sem,hD,hZ,gA,gB]
 |(with_reducible first|refine bt fun hc=>?_|refine bu fun hc=>?_|refine bx (fun hc=>?_) fun hc=>?_)<;>(try simp only[hc,bs,↓reduceIte]at h)<;>try simp only[hc]
 |(with_reducible refine aI hQ ?_;exact fS)
 |(cases h;done))
 refine bp.sq 6 13 rfl ?_
 simp only[go_sem,hD,hZ,gA,gB]
 refine fG 0 1 (bp.ind (ι:=List Sm×Nat×List Sm×Nat) (fun i=>l.drop i.2.1=i.1∧i.2.1=i.2.2.1.length∧(i.2.2.1++(Sm.dJ true i.2.2.2 i.1).1,(Sm.dJ true i.2.2.2 i.1).2)=R∧i.2.2.2+Sm.a7 i.1≤n+Sm.a7 l) (fun i=>i.1.length)
  (fun i=> [(1, .int .i64 (i.2.2.2:Int)),(6, .slice (.tok 0) 13 (i.2.2.1.map bd)),(10, .slice .shared 13 (l.map bd)),(11, .int .i64 (l.length:Int)),(12, .int .i64 (i.2.1:Int))])
  (fun i=>⟨[],[some i.2.1]⟩) ?_ (l,0,[],n) ⟨rfl,rfl,by simpa using hR,Nat.le_refl _⟩)
 rintro⟨rest,k,acc,m⟩ ⟨h1,h2,h3,h4⟩ IH
 dsimp only at h1 h2 h3 h4
 subst h2
 cases rest with
 |nil=>
  have hD:=drop_nil h1
  simp only[Sm.dJ,List.append_nil]at h3
  subst h3
  repeat' (first
 |simp only[go_sem,hD,hZ,gA,gB]
 |(with_reducible first|refine bt fun hc=>?_|refine bu fun hc=>?_|refine bx (fun hc=>?_) fun hc=>?_)<;>(try simp only[hc,bs,↓reduceIte]at h)<;>try simp only[hc]
 |(with_reducible refine aI hQ ?_;exact fS)
 |(cases h;done))
 |cons y rest=>
  obtain⟨hZ,g2,hD,g4⟩:=drop_cons h1
  have hk:acc.length<4611686018427387904:=by omega
  have dU:y.size≤N:=by have:=Sm.da (List.mem_of_getElem? hZ);omega
  obtain⟨id,kind,labels,name,proc,x,has,args,aP,aM⟩:=y
  simp only[Sm.size]at dU
  simp only[Sm.a7,Sm.size]at h4
  have ic:(acc.length+1)*209≤bq:=by simp only[bq];omega
  have JT:=fun s=>D0 (v:=⟨id,kind,labels,name,proc,x,has,args,aP,aM⟩) (by dsimp only;omega) s
  simp only[Sm.bare,dM,List.map_nil]at JT
  simp only[Sm.dJ,Sm.num,if_true]at h3
  have c1:=ih aP (m+1) (by omega) (by omega)
  have l1:=Sm.uG true (m+1) aP
  obtain⟨T,hT⟩ : ∃ T,Sm.dJ true (m+1) aP=T:=⟨_,rfl⟩
  rw[hT]at h3 c1 l1
  have c2:=ih aM T.2 (by omega) (by omega)
  have l2:=Sm.uG true T.2 aM
  obtain⟨E,hE⟩ : ∃ E,Sm.dJ true T.2 aM=E:=⟨_,rfl⟩
  rw[hE]at h3 c2 l2
  have wm:IntKind.wrap .i64 ((m:Int)+1)=((m+1:Nat):Int):=by rw[eB]<;>omega
  repeat' (first
 |simp only[go_sem,hD,hZ,gA,gB,ic,wm]
 |(with_reducible refine CU (JT _) ?_)
 |(with_reducible refine CU (c1 _) ?_)
 |(with_reducible refine CU (c2 _) ?_)
 |(with_reducible first|refine bt fun hc=>?_|refine bu fun hc=>?_|refine bx (fun hc=>?_) fun hc=>?_)<;>(try simp only[hc,bs,↓reduceIte]at h)<;>try simp only[hc]
 |(with_reducible refine aI hQ ?_;(try cases h);simp only[bh,bj,bP,bQ,go_sem,hD,hZ,gA,gB,ic,wm];try exact cO)
 |(cases h;done))
  refine fi 0 1 ?_ ?_ (IH (rest,acc.length+1,acc++ [⟨((m+1:Nat):Int),kind,labels,name,proc,x,has,args,T.1,E.1⟩],E.2) ⟨g2,by simp,by rw[← h3];simp,by dsimp only;omega⟩ (Nat.lt_succ_self _))
  ·(simp only[go_sem,hD,hZ,gA,gB,aN hk,dM];try exact bY)
  ·(simp only[go_sem,hD,hZ,gA,gB,aN hk,dM];try exact bY)
theorem Ow : ∀ N,N<10000000→acN N:=by
 intro N
 induction N with
 |zero=>intro _ l n hl;exact absurd hl (Nat.not_lt_zero _)
 |succ N ih=>
  intro hN l n hl hn s
  exact(Lf (by omega) (ih (by omega)) l n hl hn).pure (by simp[D.bM,D.ok,Tag.ok,nF]) (by simp[D.bM,D.ok,Tag.ok,nF]) s
theorem Ub {l:List Sm} {n:Nat} (h:Sm.a7 l<9000000) (hn:n+Sm.a7 l<1000000000) (s:St):aH Tryz.prog ko [.slice .shared 13 (l.map bd), .int .i64 (n:Int)] s
 (.tuple [.slice .shared 13 ((Sm.dJ true n l).1.map bd), .int .i64 ((Sm.dJ true n l).2:Int)]) s:=
 Ow 9999999 (by omega) l n (by omega) hn s
mutual
def Sm.drp (id:Int):Sm→Sm
 |⟨i,kind,labels,name,proc,x,has,args,aP,aM⟩=>⟨i,kind,labels,name,proc,x,has,args,Sm.Gq id aP,Sm.Gq id aM⟩
def Sm.Gq (id:Int):List Sm→List Sm
 | []=> []
 |s::l=>if s.id==id then Sm.Gq id l else s.drp id::Sm.Gq id l
end
set_option maxRecDepth 8000
open Go.Proofs
abbrev aav (g:Nat) (l:List Pc):List D:= .int .i64 (g:Int)::(l.map bN).flatten
abbrev amL (len k n:Nat) (g:Nat):Tm:= [(1, .ptr 0 0),(2, .ptr 1 0),(3, .ptr 2 0),(4, .int .i64 (n:Int)),(9, .dS 5 3 g len),(10, .int .i64 (len:Int)),(11, .int .i64 (k:Int))]
theorem Xl {p:Pg} (hp:p.size<1000000) (h0:p.procs≠ []) (st:St):aH Tryz.prog rZ [.agg (bO p)] st (.agg (bO p.number)) st:=by
 refine aH.pure ?_ (by simp[D.bM,D.ok,iy]) (by simp[D.ok,iy]) st
 have KH:=fun s=>ajd hp h0 s
 obtain⟨globals,procs⟩:=p
 simp only[Pg.size]at hp
 have hlen:procs.length<1000000:=by have:=Pc.dQ procs;omega
 have ou:((⟨globals,procs⟩:Pg).put iK).procs.length=procs.length:=List.length_map ..
 have hcg:((⟨globals,procs⟩:Pg).put iK).procs=procs.map (Pc.gd (fJ iK)):=rfl
 have fk:0<procs.length:=List.length_pos_iff.2 h0
 dsimp only at KH
 obtain⟨C,hC⟩ : ∃ C,((⟨globals,procs⟩:Pg).put iK).procs=C:=⟨_,rfl⟩
 rw[hC]at KH ou hcg
 obtain⟨g,hg⟩ : ∃ g,procs.length - 1=g:=⟨_,rfl⟩
 have QI:pJ C=aav g C:=by rw[← hg, ← ou]
 have Xm:bO (⟨globals,procs⟩:Pg) = [.slice .shared 1 (globals.map encStr), .slice .shared 5 (procs.map bN)]:=rfl
 simp only[QI,hg,Xm]at KH
 generalize hR:Pc.dJ 0 procs=R
 have Uc:bO (⟨globals,procs⟩:Pg).number = [.slice .shared 1 (globals.map encStr), .slice .shared 5 (R.map bN)]:=by
  unfold Pg.number;rw[hR];rfl
 rw[Uc]
 unfold S0
 refine aH.go He rfl fun B Q hB hQ=>?_
 have⟨hD,hZ,gA,gB⟩:=bX
 have loop : ∀ (rest Io done:List Pc) (n:Nat),procs.drop done.length=rest→Io=rest.map (Pc.gd (fJ iK))→done++Pc.dJ n rest=R→n+Pc.a7 rest≤Pc.a7 procs→
  bp Tryz.prog B 32 QJS (jq 0 (lR (ki Tryz.prog B 32 QJX Q) Q)) (amL procs.length done.length n g) ⟨[bO ⟨globals,procs⟩,[.junk, .junk],[.slice .shared 1 (globals.map encStr), .dS 5 3 g procs.length],aav g (done++Io)],[]⟩:=by
  intro rest
  induction rest with
  | nil=>
   intro Io done n h1 h2 h3 h4
   have hD:=drop_nil h1
   have:Io = []:=by simpa using h2
   subst this
   simp only[Pc.dJ,List.append_nil]at h3
   subst h3
   rw[List.append_nil]
   have hdl:procs.length=(done.map bN).length:=by
    rw[List.length_map]
    have h5:=List.drop_eq_nil_iff.1 h1
    have h6:=congrArg List.length hR
    have : ∀ (l:List Pc) (n:Nat),(Pc.dJ n l).length=l.length:=by
     intro l
     induction l with
     |nil=>intro n;rfl
     |cons a l ih=>intro n;simp[Pc.dJ,ih]
    rw[this]at h6
    exact h6
   refine bp.YY 3 g 5 (done.map bN) [(2, .ptr 1 0),(3, .ptr 2 0),(10, .int .i64 (procs.length:Int)),(11, .int .i64 (done.length:Int))] [bO ⟨globals,procs⟩,[.junk, .junk],[.slice .shared 1 (globals.map encStr), .slice .shared 5 (done.map bN)]]
    (by rw[hB];exact Nat.zero_le _) rfl ⟨9,_, .inl rfl⟩ (fun row hr=>by obtain⟨a,_,rfl⟩:=List.mem_map.1 hr;rfl) ?_ ?_ (bp.kO ?_)
   ·simp only [go_sem]
    repeat' (first|exact Ok.out|with_reducible refine jG ?_ ?_)
   ·show il [G3 _ _ _ _ _ (bO _),G3 _ _ _ _ _ [.junk, .junk],G3 _ _ _ _ _ [.slice .shared 1 _, .dS _ _ _ _]] _
    simp only[go_sem,hdl,and_self,if_true]
    exact Ok.out
   ·repeat' (first
 |simp only[go_sem,hD,hZ,gA,gB]
 |(with_reducible first|refine bt fun hc=>?_|refine bu fun hc=>?_|refine bx (fun hc=>?_) fun hc=>?_)<;>(try simp only[hc,bs,↓reduceIte]at h)<;>try simp only[hc]
 |(with_reducible refine aI hQ ?_;exact fS)
 |(cases h;replace h:=hr;clear hr;(try simp only[bs,↓reduceIte]at h))
 | (cases h;done))
  | cons y rest ih=>
   intro Io done n h1 h2 h3 h4
   obtain⟨hZ,g2,hD,g4⟩:=drop_cons h1
   subst h2
   have hk:done.length<4611686018427387904:=by omega
   simp only[Pc.a7,Pc.size]at h4
   simp only[Pc.dJ]at h3
   have hnb:=fun s=>Ub (l:=y.body) (n:=n) (by omega) (by omega) s
   have hle:=Sm.uG true n y.body
   obtain⟨b,hb⟩ : ∃ b,Sm.dJ true n y.body=b:=⟨_,rfl⟩
   rw[hb]at h3 hnb hle
   have Au:gS (((done++Pc.gd (fJ iK) y::rest.map (Pc.gd (fJ iK))).map bN).flatten) (done.length*5+3) [.slice .shared 13 (b.1.map bd)] =
    ((done++ {y with body:=b.1}::rest.map (Pc.gd (fJ iK))).map bN).flatten:=SX bN 5 (fun f=>rfl) done _ (Pc.gd (fJ iK) y) {y with body:=b.1} 3 _ rfl (by simp)
   have iL:done.length*5+3+1≤(((done++Pc.gd (fJ iK) y::rest.map (Pc.gd (fJ iK))).map bN).flatten).length:=by rw[Xj];simp;omega
   have IH:=ih (rest.map (Pc.gd (fJ iK))) (done++ [{y with body:=b.1}]) b.2 (by rw[List.length_append];exact g2) rfl (by rw[← h3];simp) (by omega)
   have e7:(done++ [{y with body:=b.1}]).length=done.length+1:=by simp
   have e8:done++ [{y with body:=b.1}]++rest.map (Pc.gd (fJ iK))=done++ {y with body:=b.1}::rest.map (Pc.gd (fJ iK)):=by simp
   rw[e7,e8]at IH
   generalize done++ {y with body:=b.1}::rest.map (Pc.gd (fJ iK))=L2 at *
   rw[List.map_cons]
   generalize done++Pc.gd (fJ iK) y::rest.map (Pc.gd (fJ iK))=L1 at *
   clear ih
   refine bp.kO ?_
   repeat' (first
 |simp only[go_sem,hD,hZ,gA,gB,g4,Au,iL]
 |(with_reducible refine CU (hnb _) ?_)
 |(with_reducible first|refine bt fun hc=>?_|refine bu fun hc=>?_|refine bx (fun hc=>?_) fun hc=>?_)<;>(try simp only[hc,bs,↓reduceIte]at h)<;>try simp only[hc]
 |(with_reducible refine aI hQ ?_;(try cases h);simp only[bh,bj,bP,bQ,go_sem,hD,hZ,gA,gB,g4,Au,iL];try exact cO)
 |(cases h;replace h:=hr;clear hr;(try simp only[bs,↓reduceIte]at h))
 | (cases h;done))
   refine fi 4 0 ?_ ?_ (IH)
   ·(simp only[go_sem,hD,hZ,gA,gB,aN hk];try exact bY)
   ·(simp only[go_sem,hD,hZ,gA,gB,aN hk];try exact bY)
 repeat' (first
 |simp only[go_sem,hD,hZ,gA,gB]
 |(with_reducible refine CU (KH _) ?_)
 |(with_reducible first|refine bt fun hc=>?_|refine bu fun hc=>?_|refine bx (fun hc=>?_) fun hc=>?_)<;>(try simp only[hc,bs,↓reduceIte]at h)<;>try simp only[hc]
 |(with_reducible refine aI hQ ?_;exact fS)
 |(cases h;replace h:=hr;clear hr;(try simp only[bs,↓reduceIte]at h))
 |(cases h;done))
 have Dp:=bp.Y0 (P:=Tryz.prog) (a:=QJS) (Q:=jq 0 (lR (ki Tryz.prog B 32 QJX Q) Q)) (nt:=32) (tm:= [(1, .ptr 0 0),(2, .ptr 1 0),(3, .ptr 3 0),(4, .int .i64 ((0:Nat):Int)),(9, .dS 5 2 g procs.length),(10, .int .i64 (procs.length:Int)),(11, .int .i64 ((0:Nat):Int))])
  (s:=⟨[bO ⟨globals,procs⟩,[.junk, .junk],aav g C,[.slice .shared 1 (globals.map encStr), .dS 5 2 g procs.length]],[]⟩)
  hB [0,1,3,2] _ _ (by decide) (by simp) (by simp[zC,D.fa,D.cU,D.bM,D.ok,Tag.cU,Tag.ok,Es,IQ,MF,qB,G7,xo,xp,Av]) (by simp[Cm,Tm.get,D.cU,D.ok,Tag.cU,Tag.ok,FN,IS])
  (loop procs C [] 0 rfl hcg (by simpa using hR) (by simp))
 refine fG 4 0 (Dp)
set_option maxRecDepth 8000
open Go.Proofs
def Pc.drp (id:Int) (f:Pc):Pc:= {f with body:=Sm.Gq id f.body}
def Pg.drp (p:Pg) (id:Int):Pg:= {p with procs:=p.procs.map (Pc.drp id)}
abbrev aBu (id:Int) (len k:Nat) (g:Nat):Tm:= [(1, .int .i64 id),(2, .ptr 0 0),(4, .ptr 1 0),(5, .ptr 2 0),(10, .dS 5 3 g len),(11, .int .i64 (len:Int)),(12, .int .i64 (k:Int))]
def Pg.wE (p:Pg) (n:Nat):Pg:= {p with procs:=p.procs.drop n++p.procs.take n}
theorem Pc.B9 : ∀ a b:List Pc,Pc.a7 (a++b)=Pc.a7 a+Pc.a7 b
 | [],b=>by simp[Pc.a7]
 |f::a,b=>by simp only[List.cons_append,Pc.a7,Pc.B9 a b];omega
theorem Pg.Ox (p:Pg) (n:Nat):(p.wE n).size=p.size:=by
 have h:=Pc.B9 (p.procs.take n) (p.procs.drop n)
 rw[List.take_append_drop]at h
 simp only[Pg.size,Pg.wE,Pc.B9];omega
theorem Wk.amM (g:Tag) (globals:List aK) (R:List Pc):Wk (.agg [.slice .shared 1 (globals.map encStr), .slice g 5 (R.map bN)]) (.agg (bO ⟨globals,R⟩)):=
 Wk.agg (.cons (Wk.refl _) (.cons (Wk.shared g 5 _) .nil))
theorem aaw {p:Pg} (hp:p.size<1000000) (h0:p.procs≠ []) (aax:p.put iK=p) (n:Int) (st:St) :
 aH Tryz.prog xu [.agg (bO p), .int .i64 n] st (.agg (bO (p.wE (tO n p.procs.length).toNat).number)) st:=by
 refine aH.pure ?_ (by simp[D.bM,D.ok,iy]) (by simp[D.ok,iy]) st
 have KH:=fun s=>ajc hp s
 rw[aax]at KH
 obtain⟨globals,procs⟩:=p
 dsimp only at h0
 have Xm:bO (⟨globals,procs⟩:Pg) = [.slice .shared 1 (globals.map encStr), .slice .shared 5 (procs.map bN)]:=rfl
 simp only[Xm]at KH
 have fk:0<procs.length:=List.length_pos_iff.2 h0
 have hlen:procs.length<1000000:=by simp only[Pg.size]at hp;have:=Pc.dQ procs;omega
 have LS:=fun s=>ama n (k:=(procs.length:Int)) (by omega) (by omega) s
 obtain⟨m1,m2⟩:=aet n (k:=(procs.length:Int)) (by omega)
 dsimp only
 generalize tO n (procs.length:Int)=m at *
 obtain⟨q,rfl⟩ : ∃ q:Nat,m=(q:Int):=⟨m.toNat,by omega⟩
 rw[Int.toNat_natCast]
 have hq:q<procs.length:=by omega
 have hrs:=(⟨globals,procs⟩:Pg).Ox q
 have hrp:((⟨globals,procs⟩:Pg).wE q) = ⟨globals,procs.drop q++procs.take q⟩:=rfl
 have at9 : ∀ (g:Tag) (s:St),aH Tryz.prog rZ [.agg [.slice .shared 1 (globals.map encStr), .slice g 5 ((procs.drop q).map bN++(procs.take q).map bN)]] s (.agg (bO ((⟨globals,procs⟩:Pg).wE q).number)) s:=fun g s=>by
  rw[← List.map_append]
  exact bV.qA (.cons (Wk.amM g globals (procs.drop q++procs.take q)) .nil) (Xl (p:=(⟨globals,procs⟩:Pg).wE q) (by omega) (by
   intro e
   have:=congrArg List.length e
   simp[Pg.wE]at this;omega) s)
 have je:(procs.drop q++procs.take q).length=procs.length:=by simp;omega
 have hz:decide ((procs.length:Int)=0)=false:=by simp;omega
 have N1:((procs.length:Int)==0)=false:=by simp;omega
 have hd:(procs.map bN).drop q=(procs.drop q).map bN:=List.map_drop.symm
 have ht:(procs.map bN).take q=(procs.take q).map bN:=List.map_take.symm
 have aua:(procs.drop q).map bN≠ []:=by
  intro e
  have:=congrArg List.length e
  simp at this;omega
 have ha1:=fun(o:List (List D)) (T:List (Option Nat)) (g:Tag)=>pI (size:=5) (bytes:=112) (rows:=(procs.drop q).map bN) aua (by simp only[List.length_map,List.length_drop];unfold bq;omega) (z:=5) (g:=g) o T
 have U0:=fun(o:List (List D)) (g:Tag)=>nP (size:=5) (bytes:=112) (t:=0) (rows:=(procs.drop q).map bN) (new:=(procs.take q).map bN) (g:=g) (s:=⟨o,[some ((procs.drop q).map bN).length]⟩) (by simp only[List.length_map,List.length_drop,List.length_take];unfold bq;omega) rfl
 simp only[List.length_map]at U0
 generalize ((⟨globals,procs⟩:Pg).wE q).number=Z at *
 unfold S0
 refine aH.go IX rfl fun B Q hB hQ=>?_
 have⟨hD,hZ,gA,gB⟩:=bX
 have q1:(q:Int)≤(procs.length:Int):=by omega
 have q2:(procs.length:Int)≤(procs.length:Int):=Int.le_refl _
 have q3:(procs.map bN).take procs.length=procs.map bN:=List.take_of_length_le (by simp)
 repeat' (first
 |simp only[go_sem,hD,hZ,gA,gB,N1,ha1,U0,hd,ht,q1,q2,q3,or_true,and_self,ite_self]
 |(with_reducible refine CU (KH _) ?_)
 |(with_reducible refine CU (LS _) ?_)
 |(with_reducible refine CU (at9 _ _) ?_)
 |(with_reducible first|refine bt fun hc=>?_|refine bu fun hc=>?_|refine bx (fun hc=>?_) fun hc=>?_)<;>(try simp only[hc,bs,↓reduceIte]at h)<;>try simp only[hc]
 |(with_reducible refine aI hQ ?_;(try cases h);simp only[bh,bj,bP,bQ,go_sem,hD,hZ,gA,gB,N1,ha1,U0,hd,ht,q1,q2,q3,or_true,and_self,ite_self];try exact cO)
 |(cases h;done))
mutual
theorem amN (deep bW:Int) (aM:Bool) : ∀ s:Sm,(∀ i∈s.oO deep bW aM,i.deep≤12∧i.s.one=true)→s.Ec deep
 |⟨id,kind,labels,name,proc,x,has,args,aP,e⟩,h=>by
  simp only[Sm.oO]at h
  obtain⟨h1,h2⟩:=h _ (List.mem_cons_self ..)
  exact⟨h2,h1,Ip _ _ _ aP fun i m=>h i (List.mem_cons_of_mem _ (List.mem_append_left _ m)),Ip _ _ _ e fun i m=>h i (List.mem_cons_of_mem _ (List.mem_append_right _ m))⟩
theorem Ip (deep bW:Int) (aM:Bool) : ∀ l:List Sm,(∀ i∈Sm.qN deep bW aM l,i.deep≤12∧i.s.one=true)→Sm.Ed deep l
 | [],_=>trivial
 |s::l,h=>by
  simp only[Sm.qN]at h
  exact⟨amN _ _ _ s fun i m=>h i (List.mem_append_left _ m),Ip _ _ _ l fun i m=>h i (List.mem_append_right _ m)⟩
end
mutual
theorem aeS : ∀ s:Sm,s.pre.length=s.iF
 |⟨id,kind,labels,name,proc,x,has,args,aP,e⟩=>by simp only[Sm.pre,Sm.iF,List.length_cons,List.length_append,Ca aP,Ca e];omega
theorem Ca : ∀ l:List Sm,(Sm.cf l).length=Sm.gn l
 | []=>rfl
 |s::l=>by simp only[Sm.cf,Sm.gn,List.length_append,aeS s,Ca l]
end
theorem KI : ∀ {l:List Pc},Pc.gQ l=true→∀ f∈l,isName f.name=true∧f.params.length≤8∧f.vars.length≤16∧ew f.vars=true∧ew f.fin=true∧Pm.fP f.params=true
 |a::l,h,f,m=>by
  simp only[Pc.gQ]at h
  split at h
  ·cases h
  split at h
  ·cases h
  rename_i h1 h2
  simp only[Bool.or_eq_true,Bool.not_eq_true',not_or,Bool.not_eq_false,decide_eq_true_eq]at h1 h2
  rcases List.mem_cons.1 m with rfl|m
  ·exact⟨h1.1.1.1.1,by omega,by omega,h1.1.2,h1.2,h2⟩
  ·exact KI h f m
structure Pg.Oks (p:Pg):Prop where
 rF:ew p.globals=true
 Lw:(p.globals.length:Int)≤16
 procs : ∀ f∈p.procs,f.Ec
 acQ:p.procs.length≤16
 qn:Pc.qn p.procs≤200
theorem QJ : ∀ l:List Pc,(l.map fun f=>Sm.qN 1 0 false f.body).flatten.length=Pc.qn l
 | []=>rfl
 |f::l=>by
  have h:(Sm.qN 1 0 false f.body).length=Sm.gn f.body:=by rw[← Ca, ← HI 1 0 false f.body,List.length_map]
  simp only[List.map_cons,List.flatten_cons,List.length_append,QJ l,Pc.qn,h]
theorem KK : ∀ (l:List It) (n:Nat),It.fP n l=true→∀ i∈l,i.deep≤12∧i.s.one=true
 |a::l,n,h,i,m=>by
  simp only[It.fP]at h
  split at h
  ·cases h
  rename_i h1
  simp only[Bool.or_eq_true,Bool.not_eq_true',not_or,Bool.not_eq_false,decide_eq_true_eq]at h1
  rcases List.mem_cons.1 m with rfl|m
  ·exact⟨by omega,h1.2⟩
  ·exact KK l _ h i m
theorem aeT {p:Pg} (h:p.may=true):p.Oks:=by
 obtain⟨e1,e2⟩:=ael h
 obtain⟨a1,a2⟩:=uM h
 have a3:=KK _ _ a2
 have ht:Pc.qn p.procs=p.all.length:=by rw[e2,QJ]
 unfold Pg.may at h
 split at h
 ·cases h
 split at h
 ·cases h
 rename_i c1 c2
 simp only[Bool.or_eq_true,Bool.not_eq_true',not_or,Bool.not_eq_false,decide_eq_true_eq]at c1 c2
 refine⟨c1.2,by omega,fun f hf=>?_,by omega,by omega⟩
 obtain⟨g1,g2,g3,g4,g5,g6⟩:=KI c2 f hf
 refine⟨g1,⟨g6,g2⟩,⟨g4,by omega⟩,g5,Ip 1 0 false f.body fun i m=>a3 i ?_⟩
 rw[e2]
 exact List.mem_flatten.2 ⟨_,List.mem_map_of_mem hf,m⟩
theorem Pg.Oks.may {p:Pg} (h:p.Oks):p.number.may=true:=(T6 h.rF h.Lw h.procs h.acQ h.qn).1
theorem Gr : ∀ l:List Pc,Pc.qn l=Pc.Jk l
 | []=>rfl
 |f::l=>by simp only[Pc.qn,Pc.Jk,Gr l]
mutual
theorem aay (b:Bool) (n:Nat) : ∀ s:Sm,((Sm.num b n s).1).iF=s.iF
 |⟨id,kind,labels,name,proc,x,has,args,aP,e⟩=>by simp only[Sm.num,Sm.iF,zf b _ aP,zf b _ e]
theorem zf (b:Bool) (n:Nat) : ∀ l:List Sm,Sm.gn (Sm.dJ b n l).1=Sm.gn l
 | []=>rfl
 |s::l=>by simp only[Sm.dJ,Sm.gn,aay b n s,zf b _ l]
end
theorem Oy : ∀ (l:List Pc) (n:Nat),Pc.qn (Pc.dJ n l)=Pc.qn l
 | [],_=>rfl
 |f::l,n=>by simp only[Pc.dJ,Pc.qn,zf,Oy l]
mutual
theorem aaz (b:Bool) (n:Nat) : ∀ s:Sm,((Sm.num b n s).1).size=s.size
 |⟨id,kind,labels,name,proc,x,has,args,aP,e⟩=>by simp only[Sm.num,Sm.size,zh b _ aP,zh b _ e]
theorem zh (b:Bool) (n:Nat) : ∀ l:List Sm,Sm.a7 (Sm.dJ b n l).1=Sm.a7 l
 | []=>rfl
 |s::l=>by simp only[Sm.dJ,Sm.a7,aaz b n s,zh b _ l]
end
theorem Iq : ∀ (l:List Pc) (n:Nat),Pc.a7 (Pc.dJ n l)=Pc.a7 l
 | [],_=>rfl
 |f::l,n=>by simp only[Pc.dJ,Pc.a7,Pc.size,zh,Iq l]
theorem Pg.Oz (p:Pg):p.number.size=p.size:=by simp only[Pg.number,Pg.size,Iq]
mutual
theorem aje (b c:Bool) (n:Nat) : ∀ s:Sm,((Sm.num b n s).1).cp c=s.cp c
 |⟨id,kind,labels,name,proc,x,has,args,aP,e⟩=>by simp only[Sm.num,Sm.cp,EP b _ _ aP,EP b _ _ e];rfl
theorem EP (b c:Bool) (n:Nat) : ∀ l:List Sm,Sm.pg c (Sm.dJ b n l).1=Sm.pg c l
 | []=>rfl
 |s::l=>by simp only[Sm.dJ,Sm.pg,aje b c n s,EP b c _ l]
end
theorem Xn {g f:Pc} (h1:g.name=f.name) (h2:g.params=f.params) (h3:g.vars=f.vars) (h4:g.fin=f.fin) (h:g.pg=f.pg):Pc.Part g f:=
 ⟨h1,h2,h3,h4,by rw[h];exact List.Sublist.refl _,fun c _ _ m=>by rw[wW,h,h4, ← wW];exact m⟩
def x9 (n:Nat):List Pc→List (Pc×Pc)
 | []=> []
 |f::l=>({f with body:=(Sm.dJ true n f.body).1},f)::x9 (Sm.dJ true n f.body).2 l
theorem OA : ∀ (l:List Pc) (n:Nat),(x9 n l).map Prod.fst=Pc.dJ n l
 | [],_=>rfl
 |f::l,n=>by simp only[x9,List.map_cons,Pc.dJ,OA l]
theorem Ir : ∀ (l:List Pc) (n:Nat),(x9 n l).map Prod.snd=l
 | [],_=>rfl
 |f::l,n=>by simp only[x9,List.map_cons,Ir l]
theorem KM : ∀ (l:List Pc) (n:Nat),∀ x∈x9 n l,Pc.Part x.1 x.2
 |f::l,n,x,m=>by
  simp only[x9]at m
  rcases List.mem_cons.1 m with rfl|m
  ·exact Xn rfl rfl rfl rfl (EP true false n f.body)
  ·exact KM l _ x m
theorem Fv {p:Pg} (h:p.Right) (n:Nat):(p.wE n).number.Right∧Pc.Jk (p.wE n).number.procs=Pc.Jk p.procs:=by
 have ho:=aeT h.may
 have zi:(p.procs.drop n++p.procs.take n).Perm p.procs:=by
  have:=List.perm_append_comm (l₁:=p.procs.drop n) (l₂:=p.procs.take n)
  rwa [List.take_append_drop]at this
 have ajf : ∀ {l m:List Pc},l.Perm m→Pc.qn l=Pc.qn m:=by
  intro l m hp
  induction hp with
  |nil=>rfl
  |cons x _ ih=>simp only[Pc.qn,ih]
  |swap x y l=>simp only[Pc.qn];omega
  |trans _ _ ih1 ih2=>exact ih1.trans ih2
 have aub:(p.wE n).Oks:=⟨ho.rF,ho.Lw,fun f m=>ho.procs f (zi.mem_iff.1 m),by have:=zi.length_eq;have:=ho.acQ;simp only[Pg.wE];omega,by
  show Pc.qn (p.procs.drop n++p.procs.take n)≤200
  rw[ajf zi];exact ho.qn⟩
 refine⟨T8 h aub.may ⟨rfl,x9 0 (p.wE n).procs,(OA _ _).symm, ?_,KM _ _⟩, ?_⟩
 ·rw[Ir];exact zi
 ·show Pc.Jk (Pc.dJ 0 (p.procs.drop n++p.procs.take n))=_
  rw[← Gr, ← Gr,Oy,ajf zi]
def auc (id:Int) (n:Nat):List Pc→List (Pc×Pc)
 | []=> []
 |f::l=>({f with body:=(Sm.dJ true n (Sm.Gq id f.body)).1},f)::auc id (Sm.dJ true n (Sm.Gq id f.body)).2 l
theorem OB {f g:Pc} : ∀ {l:List Pc},(l.map (·.name)).Nodup→f∈l→g∈l→f.name=g.name→f=g
 | a::l,hn,hf,hg,e=>by
  rw[List.map_cons,List.nodup_cons]at hn
  rcases List.mem_cons.1 hf with rfl|JB
  ·rcases List.mem_cons.1 hg with rfl | nD
   ·rfl
   ·exact absurd (List.mem_map.2 ⟨g,nD,e.symm⟩) hn.1
  ·rcases List.mem_cons.1 hg with rfl | nD
   ·exact absurd (List.mem_map.2 ⟨f,JB,e⟩) hn.1
   ·exact OB hn.2 JB nD e
theorem Gs : ∀ (l:List Pc) (n:Nat),∀ x∈x9 n l,∃ j,x.1 = {x.2 with body:=(Sm.dJ true j x.2.body).1}
 |f::l,n,x,m=>by
  simp only[x9]at m
  rcases List.mem_cons.1 m with rfl|m
  ·exact⟨n,rfl⟩
  ·exact Gs l _ x m
theorem aeU {p:Pg} {ps:List Pc} {k id:Int} (hp:p.Right) (hq:(⟨p.globals,ps⟩:Pg).number.Right) (h1 : ∀ g∈ps,∃ f∈p.procs,g = {f with body:=Sm.kg k id f.body}) (h2 : ∀ f∈p.procs,{f with body:=Sm.kg k id f.body}∈ps)
 (ht:k=1→∀ v∈p.pre,v.id=id→v.kind=5) (hr:k=2→∀ v∈p.pre,v.id=id→v.kind=6∧Cz v.aP):Made p (⟨p.globals,ps⟩:Pg).number k id:=by
 have NU:(p.procs.map (·.name)).Nodup:=by
  have:=hp.tp
  unfold Pg.pn at this
  refine Classical.byContradiction fun h=>?_
  rw[(pe _).2 h]at this
  cases this
 have rn:(⟨p.globals,ps⟩:Pg).number.procs=(x9 0 ps).map Prod.fst:=(OA ps 0).symm
 refine⟨hp,hq,rfl,fun {i i' f f'} e1 e2 e3=>?_,fun {i f} e1=>?_,ht,hr⟩
 ·have m2:=List.mem_of_getElem? e2
  rw[rn]at m2
  obtain⟨⟨a,b⟩,mx,rfl⟩:=List.mem_map.1 m2
  obtain⟨j,ej⟩:=Gs ps 0 _ mx
  dsimp only at ej e3
  have mb:b∈ps:=by rw[← Ir ps 0];exact List.mem_map.2 ⟨_,mx,rfl⟩
  obtain⟨g,mg,rfl⟩:=h1 b mb
  rw[ej]at e3
  have:g=f:=OB NU mg (List.mem_of_getElem? e1) e3
  subst this
  dsimp only
  rw[ej]
  exact⟨rfl,rfl,rfl,B4 true j _⟩
 ·have m:=h2 f (List.mem_of_getElem? e1)
  rw[← Ir ps 0]at m
  obtain⟨⟨a,b⟩,mx,e⟩:=List.mem_map.1 m
  dsimp only at e
  subst e
  obtain⟨j,ej⟩:=Gs ps 0 _ mx
  have ma:a∈(⟨p.globals,ps⟩:Pg).number.procs:=by rw[rn];exact List.mem_map.2 ⟨_,mx,rfl⟩
  obtain⟨i',iS⟩:=List.getElem?_of_mem ma
  exact⟨i',a,iS,by dsimp only at ej;rw[ej]⟩
mutual
theorem aaA (id:Int) : ∀ s:Sm,s.Ea 0 id=s
 |⟨i,kind,labels,name,proc,x,has,args,aP,aM⟩=>by
  rw[Eb (by unfold Sp;omega)]
  dsimp only
  rw[vQ id aP,vQ id aM]
theorem vQ (id:Int) : ∀ l:List Sm,Sm.kg 0 id l=l
 | []=>by simp only[Sm.kg]
 |s::l=>by simp only[Sm.kg,aaA id s,vQ id l]
end
theorem aaB {p:Pg} (h:p.Right) (n:Nat):Made p (p.wE n).number 0 0:=by
 have zi:(p.procs.drop n++p.procs.take n).Perm p.procs:=by
  have:=List.perm_append_comm (l₁:=p.procs.drop n) (l₂:=p.procs.take n)
  rwa [List.take_append_drop]at this
 refine aeU (ps:=p.procs.drop n++p.procs.take n) h (Fv h n).1 (fun g mg=>⟨g,zi.mem_iff.1 mg, ?_⟩) (fun f mf=>?_) (fun h=>absurd h (by decide)) (fun h=>absurd h (by decide))
 ·rw[vQ]
 ·rw[vQ];exact zi.mem_iff.2 mf
mutual
theorem Ud {g:Sm→Sm} : ∀ s:Sm,(∀ v∈s.pre,g v=v)→s.gd g=s
 |⟨id,kind,labels,name,proc,x,has,args,aP,aM⟩,h=>by
  rw[Qj,h _ (by rw[Sm.lz];exact List.mem_cons_self ..)]
  dsimp only
  rw[vm aP fun v m=>h v (by rw[Sm.lz];exact List.mem_cons_of_mem _ (List.mem_append_left _ m)),vm aM fun v m=>h v (by rw[Sm.lz];exact List.mem_cons_of_mem _ (List.mem_append_right _ m))]
theorem vm {g:Sm→Sm} : ∀ l:List Sm,(∀ v∈Sm.cf l,g v=v)→Sm.kA g l=l
 | [],_=>rfl
 |s::l,h=>by
  simp only[Sm.cf,List.mem_append]at h
  simp only[Sm.kA]
  rw[Ud s fun v m=>h v (.inl m),vm l fun v m=>h v (.inr m)]
end
theorem Xo {p:Pg} {t:Sm} (h : ∀ v∈p.pre,v.id≠t.id):p.put t=p:=by
 obtain⟨globals,procs⟩:=p
 simp only[Pg.put,Pg.gd]
 congr 1
 conv=>rhs;rw[← List.map_id procs]
 refine List.map_congr_left fun f hf=>?_
 simp only[Pc.gd,id_eq]
 rw[vm f.body fun v m=>?_]
 have:v.id≠t.id:=h v (by simp only[Pg.pre,List.mem_flatten,List.mem_map];exact⟨_,⟨f,hf,rfl⟩,m⟩)
 unfold fJ
 rw[if_neg (by simpa using this)]
theorem Xp {p:Pg} (h:p.Right):p.procs≠ []:=fun e=>by
 have:=h.main
 simp[Pg.oK,Pg.find,e,iC]at this
set_option maxRecDepth 8000
open Go.Proofs
theorem Px (p:Pg) (T:List Int) (fuel n:Int) (s:St):aH Tryz.prog yA [.agg (bO p), .slice .shared 1 (T.map cR), .int .i64 fuel, .int .i64 n] s (.bool true) s:=by
 refine aH.pure ?_ (by simp[D.bM,D.ok,Tag.ok,iy,jH]) rfl s
 have h1:=fun s=>amE s
 have h2:=fun s=>aih p s
 unfold S0
 rcases Bool.eq_false_or_eq_true (decide (p.EF≤20000))with hw|hw
 case inr=>
  simp only[hw]at h2
  refine aH.go rE rfl fun B Q hB hQ=>?_
  have⟨hD,hZ,gA,gB⟩:=bX
  repeat' (first
 |simp only[go_sem,hD,hZ,gA,gB]
 |(with_reducible refine CU (h1 _) ?_)
 |(with_reducible refine CU (h2 _) ?_)
 |(with_reducible first|refine bt fun hc=>?_|refine bu fun hc=>?_|refine bx (fun hc=>?_) fun hc=>?_)<;>(try simp only[hc,bs,↓reduceIte]at h)<;>try simp only[hc]
 |(with_reducible refine aI hQ ?_;exact fS)
 |(cases h;replace h:=hr;clear hr;(try simp only[bs,↓reduceIte]at h))
 |(cases h;done))
 simp only[hw]at h2
 obtain⟨dU,amO⟩:=TA (of_decide_eq_true hw)
 have ho:p.jA:=⟨amO,by omega⟩
 have h3:=fun s=>aeP ho T fuel s
 rcases Bool.eq_false_or_eq_true (p.check.1==0 && (decide (0≤fuel) && (decide (fuel≤400) && decide ((T.length:Int)≤100))))with b1|b1
 case inr=>
  rw[b1]at h3
  refine aH.go rE rfl fun B Q hB hQ=>?_
  have⟨hD,hZ,gA,gB⟩:=bX
  repeat' (first
 |simp only[go_sem,hD,hZ,gA,gB]
 |(with_reducible refine CU (h1 _) ?_)
 |(with_reducible refine CU (h2 _) ?_)
 |(with_reducible refine CU (h3 _) ?_)
 |(with_reducible first|refine bt fun hc=>?_|refine bu fun hc=>?_|refine bx (fun hc=>?_) fun hc=>?_)<;>(try simp only[hc,bs,↓reduceIte]at h)<;>try simp only[hc]
 |(with_reducible refine aI hQ ?_;exact fS)
 |(cases h;replace h:=hr;clear hr;(try simp only[bs,↓reduceIte]at h))
 |(cases h;done))
 rw[b1]at h3
 obtain⟨hc,f0,f1,hT1⟩:=aal b1
 have hr:=Gd hc
 obtain⟨m,hm⟩:=W8 (T:=T) hc f0 (by omega)
 have yT:p.all.length≤1000:=by have:=(uM hr.may).1;omega
 have h4:=fun s=>Ia ho yT (T:=T) (by omega) fuel s
 rw[hm.whole]at h4
 have aax:p.put iK=p:=Xo fun v m e=>by
  obtain⟨i,hi⟩:=List.getElem?_of_mem m
  have h1:=xJ hr.may hi
  have h2:iK.id = -1:=rfl
  omega
 have h5:=fun s=>aaw (p:=p) (by omega) (Xp hr) aax n s
 have hq:=(Fv hr (tO n p.procs.length).toNat).1
 have hqs:(p.wE (tO n p.procs.length).toNat).number.size=p.size:=by rw[Pg.Oz,Pg.Ox]
 have xZ:=aaB hr (tO n p.procs.length).toNat
 generalize (p.wE (tO n p.procs.length).toNat).number=q at *
 have hoq:q.jA:=⟨J4 hq.may (by omega),by omega⟩
 have hcq:(q.check.1==0)=true:=by rw[hq.check];rfl
 obtain⟨m',w5⟩:=W8 (T:=T) hcq f0 (by omega)
 have hlq:q.all.length≤1000:=by have:=(uM hq.may).1;omega
 have h6:=fun s=>Ia hoq hlq (T:=T) (by omega) fuel s
 rw[w5.whole]at h6
 have h7:=fun s=>aeL (a:=m) (b:=m') hm.len s
 rw[xZ.same hm w5]at h7
 refine aH.go rE rfl fun B Q hB hQ=>?_
 have⟨hD,hZ,gA,gB⟩:=bX
 repeat' (first
 |simp only[go_sem,hD,hZ,gA,gB]
 |(with_reducible refine CU (h1 _) ?_)
 |(with_reducible refine CU (h2 _) ?_)
 |(with_reducible refine CU (h3 _) ?_)
 |(with_reducible refine CU (h4 _) ?_)
 |(with_reducible refine CU (h5 _) ?_)
 |(with_reducible refine CU (h6 _) ?_)
 |(with_reducible refine CU (h7 _) ?_)
 |(with_reducible first|refine bt fun hc=>?_|refine bu fun hc=>?_|refine bx (fun hc=>?_) fun hc=>?_)<;>(try simp only[hc,bs,↓reduceIte]at h)<;>try simp only[hc]
 |(with_reducible refine aI hQ ?_;exact fS)
 |(cases h;replace h:=hr;clear hr;(try simp only[bs,↓reduceIte]at h))
 |(cases h;done))
def M0:Map:=⟨fun _ _=>none,fun _=>(0, .any),fun _=>none⟩
def Kept (w w':World):Prop:=w.keptBut w' (fun _=>False)∧∀ a:Addr,a.block<w.heap.size→w'.frozen? a=w.frozen? a
theorem Kept.frame {w w':World} (h:Kept w w') (may:MemPlace→Prop):w.keptBut w' may:=World.keptBut_mono (fun _ f=>f.elim) h.1
theorem Ext.ajg {M M':Map} {s':St} {w w':World} (e:Ext M S0 w M' s' w'):Kept w w':=by
 have hh : ∀ b,b<w.heap.size→w'.heap[b]? = w.heap[b]? :=fun b hb=>
  e.kept b hb (fun o ho=>by simp[S0]at ho) (fun t c z hl=>by obtain⟨n,hn⟩:=hl;simp[S0]at hn)
 refine⟨⟨e.os,e.output,fun i hi=>?_⟩,fun a ha=>?_⟩
 ·rw [hh i hi]
  exact(World.keptBut_refl w (fun _=>False)).2.2 i hi
 ·simp only[World.frozen?,hh _ ha]
theorem aue (G:Nat→Nat→Option Value) (w:World) (h : ∀ b o v,G b o=some v→w.cell? ⟨b,o,none⟩=some v∧v.oneCell'=true):Rel ⟨G,fun _=>(0, .any),fun _=>none⟩ S0 w:=
 ⟨h,fun o ds e=>by simp [S0]at e,fun o ho=>by simp [S0]at ho,fun o o' ho=>by simp [S0]at ho,fun t n e=>by simp [S0]at e,
  fun t b c z o hl=>by obtain⟨n,hn⟩:=hl;simp[S0]at hn,fun t t' b c z c' z' hl=>by obtain⟨n,hn⟩:=hl;simp[S0]at hn⟩
def Ue (w:World):Prop:=∀ g cs,afe g=some cs→∃ T fr,w.heap[g]? = some (.cells cs T fr)
theorem amP (G:Nat→Nat→Option Value) {w:World} (h:Ue w):Laid ⟨G,fun _=>(0, .any),fun _=>none⟩ S0 w:=
 fun g cs hg=>⟨h g cs hg,fun o ho=>by simp[S0]at ho,fun t c z hl=>by obtain⟨n,hn⟩:=hl;simp[S0]at hn⟩
theorem Xq {P:Program} {f:FuncId} {args:List D} {gv:Array Value} {w:World} {G:Nat→Nat→Option Value} (h:bV P f args S0 fun d _=>d = .bool true)
 (hG : ∀ b o v,G b o=some v→w.cell? ⟨b,o,none⟩=some v∧v.oneCell'=true) (hl:gv.size=args.length)
 (ha : ∀ (i:Nat) (d:D) (v:Value),args[i]? = some d→gv[i]? = some v→RD ⟨G,fun _=>(0, .any),fun _=>none⟩ S0 d v) (kN:Ue w) :
 Calls P f gv w fun e w'=>e = .returned (.bool true)∧Kept w w':=by
 refine(h _ w gv (aue G w hG) (amP G kN) hl ha).mono fun e w' hw=>?_
 obtain⟨M',d,v,s',rfl,rfl,he,_,hv⟩:=hw
 rw[hv.po]
 exact⟨rfl,he.ajg⟩
section
variable {P:Program} {H:Type} {enc:TypeId×Value→H}
theorem OC {f:Func} {s:ChangeSpec} {apart fresh handsOn again:Bool} {W W':World} {args:Array Value} {v:Value} {ds gs:List (DataW H)} {before pa pv:List MemPlace}
 (hW:DataW.Whole enc P f.params.toList s.vars apart W args.toList ds gs before)
 (Uc : ∀ (b:Nat) (sp:Nat→Bool) (hd:Bool),DataW.TrodAll enc P W' b sp hd f.resultTypes.toList (v.resultList f.resultTypes.size) (s.fn H (ds++gs)).results [])
 (Be : ∀ sp:Nat→Bool,(∀ p∈before,sp p.block=true)→DataW.TrodAll enc P W' 0 sp true f.params.toList args.toList (s.fn H (ds++gs)).args pa)
 (BV : ∀ sp:Nat→Bool,(∀ p∈before,sp p.block=true)→DataW.TrodVars enc P W' sp s.vars (s.fn H (ds++gs)).vars pv)
 (rn:before=pa++pv) (hk:Kept W W')
 (qh : ∀ (j:Nat) (t:TypeId) (r:Value),f.resultTypes[j]? = some t→(v.resultList f.resultTypes.size)[j]? = some r→Value.okWide P W' .any 0 t r) :
 s.post enc P f apart fresh handsOn again W args v W':=by
 have hD : ∀ p∈before,p.block<W.heap.size:=fun p hp=>hW.lt p hp
 have hold : ∀ p∈before,(fun b=>decide (b<W.heap.size)) p.block=true:=fun p hp=>by simpa using hD p hp
 refine⟨ds,gs,before,[],pa,pv,hW,Uc _ _ _,Be _ hold,BV _ hold,World.keptBut_mono (fun p hp=>⟨hp, ?_⟩) (hk.frame (· ∈before)),fun _=>?_⟩
 ·rw [rn,List.mem_append]at hp
  exact Or.inr hp
 ·obtain⟨_,_,_,_,_,hz,hn⟩:=hW
  refine⟨qh,_,_,([]++pa)++pv,⟨[]++pa,pv,ChangeShapes.trodAll_append (Be _ (fun _ _=>rfl)) (Uc _ _ _),BV _ (fun _ _=>rfl),rfl, ?_, ?_⟩, ?_⟩
  ·intro b off hp
   have og:MemPlace.cell b off∈before:=by rw[rn];simpa using hp
   rw[hk.2 _ (hD _ og)]
   exact hz b off og
  ·intro ha
   have:=hn ha
   rw[rn]at this
   simpa using this
  ·intro p hp _
   rw[rn]
   simpa using hp
end
end Go.Abs
namespace Go.Abs
open Go.RowKit Go.ChangeShapes Go.WideShapes
def Eg (w:World) (b o:Nat):Option Value:=
 match w.cell? ⟨b,o,none⟩with
 |some v=>if v.oneCell'=true then some v else none
 |none=>none
theorem QK {w:World} (b o:Nat) (v:Value) (h:Eg w b o=some v):w.cell? ⟨b,o,none⟩=some v∧v.oneCell'=true:=by
 unfold Eg at h
 split at h
 ·split at h
  ·cases h;exact⟨‹_›, ‹_›⟩
  ·cases h
 ·cases h
def uT (w:World):Map:=⟨Eg w,fun _=>(0, .any),fun _=>none⟩
theorem Kept.sameAt {w w':World} (h:Kept w w') {p:MemPlace} (hp:p.block<w.heap.size):w.sameAt w' p:=by
 have hk:=h.1.2.2 p.block hp
 cases p with
 | cell b off=>
  simp only[MemPlace.block]at hk hp
  simp only[World.sameAt,World.cell?]
  split at hk
  ·rename_i c t fr c' t' Qr e e'
   rw[e,e']
   simp only[hk.2.2.2 off (fun f=>f)]
  ·rename_i es clock Db ajh e e'
   rw[e,e']
  ·rw[hk]
 | map b=>
  simp only[MemPlace.block]at hk hp
  simp only[World.sameAt]
  split at hk
  ·rename_i c t fr c' t' Qr e e'
   rw[e,e']
   obtain⟨rfl,rfl,hs,hc⟩:=hk
   have:c'=c:=by
    apply Array.ext_getElem?
    intro i
    exact hc i (fun f=>f)
   rw[this]
  ·rename_i es clock Db ajh e e'
   rcases hk with f|⟨rfl,rfl⟩
   ·exact f.elim
   ·rw[e,e']
  ·exact hk
section
variable {P:Program} {H:Type} {enc:TypeId×Value→H} {T:TypeId→Prop}
theorem Is (K:Kids P T) (hz : ∀ {t e:TypeId},T t→P.underlying t=some (.slice e)→0<P.cellsOf e) {W W':World} (hk:Kept W W') {sp:Nat→Bool} :
 ∀ {ts:List TypeId} {vs:List Value} {ds:List (DataW H)} {ps:List MemPlace},(∀ t∈ts,T t)→(∀ p∈ps,p.block<W.heap.size)→(∀ p∈ps,sp p.block=true)→
  DataW.TrodAll enc P W 0 (fun _=>true) true ts vs ds ps→DataW.TrodAll enc P W' 0 sp true ts vs ds ps
 | [],[],[],_,_,_,_,h=>h
 |t::ts,v::vs,d::ds,ps,hT,hD,hs,⟨p,q,⟨n,h1⟩,h2,e⟩=>by
  subst e
  refine⟨p,q,⟨n,DataW.trod_stays K hz (fun f=>by cases f) (hT t (List.mem_cons_self ..)) h1 (fun x hx=>hk.sameAt (hD x (List.mem_append_left _ hx))) (fun x hx=>hs x (List.mem_append_left _ hx))⟩, ?_,rfl⟩
  exact Is K hz hk (fun t ht=>hT t (List.mem_cons_of_mem _ ht)) (fun x hx=>hD x (List.mem_append_right _ hx)) (fun x hx=>hs x (List.mem_append_right _ hx)) h2
 | [],[],_::_,_,_,_,_,h=>h.elim
 | [],_::_,_,_,_,_,_,h=>h.elim
 |_::_,[],_,_,_,_,_,h=>h.elim
 |_::_,_::_,[],_,_,_,_,h=>h.elim
theorem aaC (K:Kids P T) (hz : ∀ {t e:TypeId},T t→P.underlying t=some (.slice e)→0<P.cellsOf e) {f:Func} {s:ChangeSpec} {apart fresh handsOn again:Bool} {tb:TypeId} {W W':World} {args:Array Value} {ds gs:List (DataW H)} {before:List MemPlace}
 (hT : ∀ t∈f.params.toList,T t) (hb:P.underlying tb=some .bool) (hr:f.resultTypes = #[tb]) (BV:s.vars = []) (hW:DataW.Whole enc P f.params.toList s.vars apart W args.toList ds gs before)
 (Cv:s.fn H (ds++gs) = {results:= [.lit (.bool true)],args:=ds}) (hk:Kept W W'):s.post enc P f apart fresh handsOn again W args (.bool true) W':=by
 have hW':=hW
 have hD : ∀ p∈before,p.block<W.heap.size:=fun p hp=>hW.lt p hp
 obtain⟨p,q,hA,hV,rfl,hfz,NU⟩:=hW
 rw[BV]at hV
 obtain⟨rfl,rfl⟩:=trodVars_none hV
 simp only[List.append_nil]at hD Cv
 refine OC (pa:=p) (pv:= []) hW' (fun b sp hd=>?_) (fun sp Au=>?_) (fun sp Au=>?_) rfl hk (ok_one hr rfl (okWide_bool_mk hb _))
 ·rw [List.append_nil,Cv,hr]
  exact trodAll_cons_mk (shut_bool hb _) trodAll_mk0
 ·rw [List.append_nil,Cv]
  simp only[List.append_nil]at Au
  exact Is K hz hk hT hD Au hA
 ·rw [List.append_nil,Cv,BV]
  rfl
theorem aeX {f:FuncId} {args:List D} {gv:Array Value} {w:World} (h:bV P f args S0 fun d _=>d = .bool true) (hl:gv.size=args.length)
 (ha : ∀ (i:Nat) (d:D) (v:Value),args[i]? = some d→gv[i]? = some v→RD (uT w) S0 d v) (kN:Ue w):Calls P f gv w fun e w'=>e = .returned (.bool true)∧Kept w w':=
 Xq (G:=Eg w) h QK hl ha kN
end
end Go.Abs
namespace Go.Abs
open Go.Proofs
def qS (n:Int):List D:= [.int .i64 n]
theorem amQ (n:Int):D.bM 0 0 (qS n)=true:=rfl
theorem ajj (n m:Nat) (l:List Int):D.lE n m (l.map qS)=l.map qS:=nj amQ n m l
attribute [go_sem] qS ajj
def amR (op:Int):aK:=
 if op=5 then [42]else if op=6 then [47]else if op=7 then [37]else if op=8 then [43]else if op=9 then [45]else if op=10 then [60]else if op=11 then [60,61]
 else if op=12 then [62]else if op=13 then [62,61]else if op=14 then [61,61]else if op=15 then [33,61]else if op=16 then [38,38]else [124,124]
def aBv (op:Int):Int:=(ahA (amR op)).1
def Xr:Nat→List aK
 | 0=> []
 |n+1=>Xr n++ [[UInt8.ofNat (97+n)]]
end Go.Abs
namespace Go.Abs
open Go.RowKit Go.ChangeShapes Go.WideShapes
theorem aeY {W:World} {a:Addr} {len cap:Nat} {zs:List Int} (hl:len≤cap) (hz:len≤zs.length) (hc : ∀ i,i<zs.length→W.cell? (a.add i)=some (.int .i64 (zs.getD i 0))) :
 RD (uT W) S0 (.slice .shared 1 ((zs.take len).map qS)) (.slice (some a) len cap):=by
 by_cases h0:len=0
 ·subst h0
  exact .mD _ _ _
 ·obtain⟨b,off,rfl,iR⟩:=Go.ints_at hc (by omega)
  have hlen:((zs.take len).map qS).length=len:=by simp;omega
  have e:((zs.take len).map qS).length=len:=hlen
  have key : ∀ (i:Nat) (row:List D) (j:Nat) (d:D),((zs.take len).map qS)[i]? = some row→row[j]? = some d→(uT W).G b (off+(i*1+j))=some (.int .i64 (zs.getD i 0))∧d = .int .i64 (zs.getD i 0):=by
   intro i row j d h1 h2
   rw[List.getElem?_map,Option.map_eq_some_iff]at h1
   obtain⟨n,h1,rfl⟩:=h1
   rw[List.getElem?_take]at h1
   split at h1
   ·rename_i hi
    have hd:zs.getD i 0=n:=by rw[List.getD_eq_getElem?_getD,h1];rfl
    have pb:i<zs.length:=(List.getElem?_eq_some_iff.1 h1).1
    cases j with
    |zero=>
     simp[qS]at h2
     subst h2
     refine⟨?_,by rw[hd]⟩
     have:=iR i pb
     show Eg W b (off+(i*1+0))=_
     unfold Eg
     rw[show off+(i*1+0)=off+i by omega,this]
     rfl
    |succ j=>simp[qS]at h2
   ·cases h1
  have:=RD.slice (M:=uT W) (s:=S0) .shared 1 ((zs.take len).map qS) b off cap (by omega) (fun row hr=>by obtain⟨n,_,rfl⟩:=List.mem_map.1 hr;rfl)
   (fun i row j d h1 h2=>⟨_,(key i row j d h1 h2).1⟩) (fun i row j d u h1 h2 hu=>by
    obtain⟨k1,k2⟩:=key i row j d h1 h2
    rw[k1]at hu
    cases hu
    rw[k2]
    exact .int _ _) trivial
  rw[hlen]at this
  exact this
end Go.Abs
namespace Go.Abs
open Go.RowKit Go.ChangeShapes Go.WideShapes
def fY (W:World) (ds:List D) (cs:List Value):Prop:=ds.length=cs.length∧(∀ (i:Nat) (d:D) (v:Value),ds[i]? = some d→cs[i]? = some v→RD (uT W) S0 d v)∧∀ v∈cs,v.oneCell'=true
theorem fY.one {W:World} {d:D} {v:Value} (h:RD (uT W) S0 d v) (hv:v.oneCell'=true):fY W [d] [v]:=by
 refine⟨rfl,fun i d' v' h1 h2=>?_,fun u hu=>by simp at hu;subst hu;exact hv⟩
 cases i with
 |zero=>simp at h1 h2;subst h1 h2;exact h
 |succ i=>simp at h1
theorem fY.app {W:World} {ds o7:List D} {cs kH:List Value} (h:fY W ds cs) (h':fY W o7 kH):fY W (ds++o7) (cs++kH):=by
 obtain⟨a1,a2,a3⟩:=h
 obtain⟨b1,b2,b3⟩:=h'
 refine⟨by simp[a1,b1],fun i d v h1 h2=>?_,fun v hv=>?_⟩
 ·by_cases hi:i<ds.length
  ·rw [List.getElem?_append_left hi]at h1
   rw[List.getElem?_append_left (by omega)]at h2
   exact a2 i d v h1 h2
  ·rw [List.getElem?_append_right (by omega)]at h1
   rw[List.getElem?_append_right (by omega), ← a1]at h2
   exact b2 _ d v h1 h2
 ·rcases List.mem_append.1 hv with hv | hv
  ·exact a3 v hv
  ·exact b3 v hv
theorem fY.at {W:World} {ds o7:List D} {cs:List Value} {o n:Nat} (h:fY W ds ((cs.drop o).take n)) (h':fY W o7 (cs.drop (o+n))):fY W (ds++o7) (cs.drop o):=by
 have e:cs.drop o=(cs.drop o).take n++cs.drop (o+n):=by rw[← List.drop_drop,List.take_append_drop]
 rw[e]
 exact h.app h'
theorem fY.end {W:World} {cs:List Value} {o:Nat} (h:cs.length=o):fY W [] (cs.drop o):=by
 rw[← h,List.drop_length]
 exact⟨rfl,fun i d v h=>by simp at h,fun v hv=>by cases hv⟩
section
variable {H:Type} {enc:TypeId×Value→H} {P:Program} {W:World} {sp:Nat→Bool}
def structOf (P:Program) (t:TypeId):List (TypeId×Nat):=
 match P.underlying t with
 |some (.struct fs)=>fs.toList.map fun f=>(f.type,f.offset)
 |_=> []
theorem nu {t:TypeId} {l:List (TypeId×Nat)} {fuel:Nat} {cs:List Value} {x:DataW H×List MemPlace} (h:structOf P t=l) (fk:l≠ []) (ht:DataW.trod enc P W 0 sp true fuel t cs=some x) :
 ∃ n,fuel=n+1∧cs.length=P.cellsOf t∧∀ (i:Nat) (f:TypeId×Nat),l[i]? = some f→∃ y,DataW.trod enc P W 0 sp true n f.1 ((cs.drop f.2).take (P.cellsOf f.1))=some y:=by
 unfold structOf at h
 split at h
 ·rename_i fs hu
  obtain⟨xs,n,e,_,hl,hlen,hf⟩:=DataW.trod_struct hu ht
  refine⟨n,e,hl,fun i f hi=>?_⟩
  subst h
  rw[List.getElem?_map,Option.map_eq_some_iff]at hi
  obtain⟨g,hg,rfl⟩:=hi
  have nD:fs[i]? = some g:=by simpa using hg
  have hi:i<xs.length:=by rw[hlen];exact(Array.getElem?_eq_some_iff.1 nD).1
  exact⟨xs[i],by rw[hf i g nD,List.getElem?_eq_getElem hi]⟩
 ·exact absurd h.symm fk
theorem Lg {t:TypeId} {l:List (TypeId×Nat)} (h:structOf P t=l) (fk:l≠ []) : ∃ fs,P.underlying t=some (.struct fs):=by
 unfold structOf at h
 split at h
 ·exact⟨_, ‹_›⟩
 ·exact absurd h.symm fk
theorem Fw {α:Type} {Q:Nat→α→Prop} : ∀ n,(∀ i,i<n→∃ y,Q i y)→∃ ys:List α,ys.length=n∧∀ i y,ys[i]? = some y→Q i y
 | 0,_=>⟨[],rfl,fun i y h=>by simp at h⟩
 | n+1,h=>by
  obtain⟨ys,h1,h2⟩:=Fw n fun i hi=>h i (by omega)
  obtain⟨y,hy⟩:=h n (by omega)
  refine⟨ys++ [y],by simp[h1],fun i z hz=>?_⟩
  by_cases hi:i<ys.length
  ·rw[List.getElem?_append_left hi]at hz;exact h2 i z hz
  ·rw [List.getElem?_append_right (by omega)]at hz
   have:i - ys.length=0:=by
    rcases Nat.eq_zero_or_pos (i - ys.length)with h|h
    ·exact h
    ·rw[List.getElem?_eq_none (by simp only[List.length_cons,List.length_nil];omega)]at hz;cases hz
   rw[this]at hz
   simp at hz
   subst hz
   have:i=n:=by omega
   subst this
   exact hy
theorem qT {α:Type} (en:α→List D) (good:α→Prop) {z:Nat} {t e:TypeId} {fuel:Nat} {cs:List Value} {x:DataW H×List MemPlace} (ht:P.underlying t=some (.slice e)) (hz:P.cellsOf e=z) (hz0:0<z) (hen : ∀ y,(en y).length=z)
 (hel : ∀ n<fuel,∀ cs x,DataW.trod enc P W 0 sp true n e cs=some x→∃ y,fY W (en y) cs∧good y) (h:DataW.trod enc P W 0 sp true fuel t cs=some x) :
 ∃ ys:List α,fY W [.slice .shared z (ys.map en)] cs∧∀ y∈ys,good y:=by
 rcases DataW.trod_slice ht h with ⟨rfl,_⟩|⟨a,len,cap,elems,rest,n,hn,rfl,_,hb,hl,hm,hlen,iR,_,_⟩
 ·exact⟨[],fY.one (.jE _ _ _ rfl trivial) rfl,fun y hy=>by cases hy⟩
 ·by_cases h0:len=0
  ·subst h0
   exact⟨[],fY.one (.mD _ _ _) rfl,fun y hy=>by cases hy⟩
  ·obtain⟨ys,hys,Bh⟩:=Fw (Q:=fun i y=>good y∧∃ kH,W.cells? 0 (a.add (i*z)) z=some kH∧fY W (en y) kH) len fun i hi=>by
    have hc:=iR i hi
    rw[List.getElem?_eq_getElem (by omega),hz,Option.bind_eq_some_iff]at hc
    obtain⟨kH,h1,h2⟩:=hc
    obtain⟨y,h3,h4⟩:=hel n (by omega) _ _ h2
    exact⟨y,h4,kH,h1,h3⟩
   have cell : ∀ i y,ys[i]? = some y→∀ (j:Nat) d,(en y)[j]? = some d→∃ v,W.cell? ((a.add (i*z)).add j)=some v∧RD (uT W) S0 d v∧v.oneCell'=true:=by
    intro i y hy j d hd
    obtain⟨_,kH,h1,h2,h3,h4⟩:=Bh i y hy
    obtain⟨_,k1,k2⟩:=World.cells?_some h1
    have hj:j<z:=by rw[← hen y];exact(List.getElem?_eq_some_iff.1 hd).1
    have hv:kH[j]? = some kH[j]:=List.getElem?_eq_getElem (by omega)
    exact⟨kH[j],by rw[k2 j hj,hv],h3 j d _ hd hv,h4 _ (List.getElem_mem _)⟩
   obtain⟨b,off,spot⟩:=a
   have amS:spot=none:=by
    have hy:ys[0]? = some (ys[0]'(by omega)):=List.getElem?_eq_getElem (by omega)
    obtain⟨d,hd⟩ : ∃ d,(en (ys[0]'(by omega)))[0]? = some d:=⟨_,List.getElem?_eq_getElem (show 0<(en (ys[0]'(by omega))).length by rw[hen];exact hz0)⟩
    obtain⟨v,hv,_⟩:=cell 0 _ hy 0 _ hd
    have:=World.cell?_spot hv
    simpa[Addr.add]using this
   subst amS
   have e:(ys.map en).length=len:=by simp[hys]
   have:=RD.slice (M:=uT W) (s:=S0) .shared z (ys.map en) b off cap (by omega) (fun row hr=>by obtain⟨y,_,rfl⟩:=List.mem_map.1 hr;exact hen y)
    (fun i row j d h1 h2=>by
     rw[List.getElem?_map,Option.map_eq_some_iff]at h1
     obtain⟨y,h1,rfl⟩:=h1
     obtain⟨v,hv,_,h4⟩:=cell i y h1 j d h2
     rw[add_plain,add_plain]at hv
     refine⟨v, ?_⟩
     show Eg W b (off+(i*z+j))=_
     unfold Eg
     rw[show off+(i*z+j)=off+i*z+j by omega,hv]
     simp[h4])
    (fun i row j d u h1 h2 hu=>by
     rw[List.getElem?_map,Option.map_eq_some_iff]at h1
     obtain⟨y,h1,rfl⟩:=h1
     obtain⟨v,hv,h3,h4⟩:=cell i y h1 j d h2
     rw[add_plain,add_plain]at hv
     obtain⟨hu,_⟩:=QK _ _ _ hu
     rw[show off+(i*z+j)=off+i*z+j by omega,hv]at hu
     cases hu
     exact h3) trivial
   rw[e]at this
   refine⟨ys,fY.one this rfl,fun y hy=>?_⟩
   obtain⟨i,hi⟩:=List.getElem?_of_mem hy
   exact(Bh i y hi).1
theorem Iu {t:TypeId} {fuel:Nat} {cs:List Value} {x:DataW H×List MemPlace} (ht:P.underlying t=some (.int .i64)) (h:DataW.trod enc P W 0 sp true fuel t cs=some x) : ∃ n:Int,fY W [.int .i64 n] cs∧n≤9223372036854775807∧ -9223372036854775808≤n:=by
 obtain⟨n,rfl,_,hw⟩:=DataW.trod_int ht h
 simp[Lit.wf,IntKind.min,IntKind.max,IntKind.signed,IntKind.bits]at hw
 exact⟨n,fY.one (.int _ _) rfl,by omega,by omega⟩
theorem Jp {t:TypeId} {fuel:Nat} {cs:List Value} {x:DataW H×List MemPlace} (ht:P.underlying t=some .bool) (h:DataW.trod enc P W 0 sp true fuel t cs=some x) : ∃ b:Bool,fY W [.bool b] cs:=by
 obtain⟨n,rfl,_⟩:=DataW.trod_bool ht h
 exact⟨n,fY.one (.bool _) rfl⟩
theorem ya {t:TypeId} {fuel:Nat} {cs:List Value} {x:DataW H×List MemPlace} (ht:P.underlying t=some .string) (h:DataW.trod enc P W 0 sp true fuel t cs=some x) : ∃ s:aK,fY W (encStr s) cs∧s.length≤maxLen:=by
 obtain⟨s,rfl,_,hm⟩:=DataW.trod_string ht h
 obtain⟨⟨l⟩⟩:=s
 exact⟨l,fY.one (.str l) rfl,hm⟩
theorem amT {tE tI tN tS tK:TypeId} (hE:structOf P tE = [(tI,0),(tN,1),(tS,2),(tK,3)]) (hEc:P.cellsOf tE=4) (hI:P.underlying tI=some (.int .i64)) (hN:P.underlying tN=some (.int .i64)) (hS:P.underlying tS=some .string) (hK:P.underlying tK=some (.slice tE))
 (cI:P.cellsOf tI=1) (cN:P.cellsOf tN=1) (cS:P.cellsOf tS=1) (cK:P.cellsOf tK=1) :
 ∀ (fuel:Nat) (cs:List Value) (x:DataW H×List MemPlace),DataW.trod enc P W 0 sp true fuel tE cs=some x→∃ y:Ex,fY W (cb y) cs∧y.tH:=by
 intro fuel
 induction fuel using Nat.strongRecOn with
 | _ fuel ih=>
  intro cs x h
  obtain⟨n,rfl,hl,hf⟩:=nu hE (by simp) h
  obtain⟨y0,h0⟩:=hf 0 _ rfl
  obtain⟨y1,h1⟩:=hf 1 _ rfl
  obtain⟨y2,h2⟩:=hf 2 _ rfl
  obtain⟨y3,h3⟩:=hf 3 _ rfl
  dsimp only at h0 h1 h2 h3
  rw[cI]at h0
  rw[cN]at h1
  rw[cS]at h2
  rw[cK]at h3
  obtain⟨op,r0,_⟩:=Iu hI h0
  obtain⟨m,r1,hm,_⟩:=Iu hN h1
  obtain⟨s,r2,_⟩:=ya hS h2
  obtain⟨ks,r3,hg⟩:=qT (W:=W) cb Ex.tH hK hEc (by decide) abb (fun k hk cs x hx=>ih k (by omega) cs x hx) h3
  refine⟨⟨op,m,s,ks⟩, ?_,hm, ?_⟩
  ·have:=r0.at (r1.at (r2.at (r3.at (fY.end (by rw [hl,hEc])))))
   rw[jh]
   simpa[encStr]using this
  ·clear r3
   induction ks with
   |nil=>exact trivial
   |cons k ks ihk=>exact⟨hg k (by simp),ihk fun y hy=>hg y (by simp[hy])⟩
theorem fY.agg {ds:List D} {v:Value} (h:fY W ds v.cells.toList) (hv : ∃ vs,v = .agg vs):RD (uT W) S0 (.agg ds) v:=by
 obtain⟨vs,rfl⟩:=hv
 obtain⟨h1,h2,h3⟩:=h
 have e:(Value.agg vs).cells=vs:=rfl
 rw[e]at h1 h2 h3
 refine .agg ds vs (by simpa using h1) (fun v hv=>h3 v (by simpa using hv)) fun i d v hd hv=>h2 i d v hd (by simpa using hv)
end
end Go.Abs
namespace Go.Abs
open Go.Proofs Go.RowKit Go.ChangeShapes Go.WideShapes
section
variable {H:Type} {enc:TypeId×Value→H} {W:World} {sp:Nat→Bool}
theorem Xs (fuel:Nat) (cs:List Value) (x:DataW H×List MemPlace) (h:DataW.trod enc Tryz.prog W 0 sp true fuel 50 cs=some x) : ∃ y:Ex,fY W (cb y) cs∧y.tH:=
 amT (tE:=50) (tI:=3) (tN:=2) (tS:=9) (tK:=48) (by kernel_rfl) (by kernel_rfl) (by kernel_rfl) (by kernel_rfl) (by kernel_rfl) (by kernel_rfl) (by kernel_rfl) (by kernel_rfl) (by kernel_rfl) (by kernel_rfl) _ _ _ h
theorem aeZ:Tryz.prog.underlying 22=some (.slice 9):=by kernel_rfl
theorem AZ:Tryz.prog.underlying 9=some .string:=by kernel_rfl
theorem Xt:Tryz.prog.underlying 3=some (.int .i64):=by kernel_rfl
theorem Jq:Tryz.prog.underlying 4=some .bool:=by kernel_rfl
theorem Eh:Tryz.prog.cellsOf 9=1:=by kernel_rfl
theorem ajm:Tryz.prog.cellsOf 3=1:=by kernel_rfl
theorem Jr:Tryz.prog.cellsOf 4=1:=by kernel_rfl
theorem Js:Tryz.prog.cellsOf 22=1:=by kernel_rfl
theorem acR:Tryz.prog.cellsOf 50=4:=by kernel_rfl
theorem Cb {fuel:Nat} {cs:List Value} {x:DataW H×List MemPlace} (h:DataW.trod enc Tryz.prog W 0 sp true fuel 22 cs=some x) : ∃ l:List aK,fY W [.slice .shared 1 (l.map encStr)] cs:=by
 obtain⟨l,h,_⟩:=qT (W:=W) encStr (fun _=>True) aeZ Eh (by decide) (fun _=>rfl) (fun k hk cs x hx=>by
  obtain⟨s,hs,_⟩:=ya AZ hx
  exact⟨s,hs,trivial⟩) h
 exact⟨l,h⟩
theorem ajn {fuel:Nat} {cs:List Value} {x:DataW H×List MemPlace} (h:DataW.trod enc Tryz.prog W 0 sp true fuel 73 cs=some x) : ∃ y:Pm,fY W (iJ y) cs:=by
 obtain⟨n,rfl,hl,hf⟩:=nu (l:= [(9,0),(4,1)]) (by kernel_rfl) (by simp) h
 have hc:Tryz.prog.cellsOf 73=2:=by kernel_rfl
 obtain⟨y0,h0⟩:=hf 0 _ rfl
 obtain⟨y1,h1⟩:=hf 1 _ rfl
 dsimp only at h0 h1
 rw[Eh]at h0
 rw[Jr]at h1
 obtain⟨s,r0,_⟩:=ya AZ h0
 obtain⟨b,r1⟩:=Jp Jq h1
 refine⟨⟨s,b⟩, ?_⟩
 have:=r0.at (r1.at (fY.end (by rw[hl,hc])))
 simpa[encStr,iJ]using this
theorem ajo {fuel:Nat} {cs:List Value} {x:DataW H×List MemPlace} (h:DataW.trod enc Tryz.prog W 0 sp true fuel 123 cs=some x) : ∃ y:Ar,fY W (fc y) cs∧y.x.tH:=by
 obtain⟨n,rfl,hl,hf⟩:=nu (l:= [(4,0),(9,1),(50,2)]) (by kernel_rfl) (by simp) h
 have hc:Tryz.prog.cellsOf 123=6:=by kernel_rfl
 obtain⟨y0,h0⟩:=hf 0 _ rfl
 obtain⟨y1,h1⟩:=hf 1 _ rfl
 obtain⟨y2,h2⟩:=hf 2 _ rfl
 dsimp only at h0 h1 h2
 rw[Jr]at h0
 rw[Eh]at h1
 rw[acR]at h2
 obtain⟨b,r0⟩:=Jp Jq h0
 obtain⟨s,r1,_⟩:=ya AZ h1
 obtain⟨e,r2,hr⟩:=Xs _ _ _ h2
 refine⟨⟨b,s,e⟩, ?_,hr⟩
 have:=r0.at (r1.at (r2.at (fY.end (by rw[hl,hc]))))
 rw[jh]at this
 simpa[encStr,fc]using this
theorem Cc : ∀ {l:List Sm},(∀ s∈l,s.tH)→Sm.zS l
 | [],_=>trivial
 |s::l,h=>⟨h s (List.mem_cons_self ..),Cc fun t m=>h t (List.mem_cons_of_mem _ m)⟩
theorem ajp : ∀ (fuel:Nat) (cs:List Value) (x:DataW H×List MemPlace),DataW.trod enc Tryz.prog W 0 sp true fuel 54 cs=some x→∃ y:Sm,fY W (bd y) cs∧y.tH:=by
 intro fuel
 induction fuel using Nat.strongRecOn with
 |_ fuel ih=>
  intro cs x h
  obtain⟨n,rfl,hl,hf⟩:=nu (l:= [(3,0),(3,1),(22,2),(9,3),(9,4),(50,5),(4,9),(51,10),(52,11),(52,12)]) (by kernel_rfl) (by simp) h
  have hc:Tryz.prog.cellsOf 54=13:=by kernel_rfl
  have ca:Tryz.prog.cellsOf 51=1:=by kernel_rfl
  have kH:Tryz.prog.cellsOf 52=1:=by kernel_rfl
  have ua:Tryz.prog.underlying 51=some (.slice 123):=by kernel_rfl
  have us:Tryz.prog.underlying 52=some (.slice 54):=by kernel_rfl
  have ca6:Tryz.prog.cellsOf 123=6:=by kernel_rfl
  obtain⟨y0,h0⟩:=hf 0 _ rfl
  obtain⟨y1,h1⟩:=hf 1 _ rfl
  obtain⟨y2,h2⟩:=hf 2 _ rfl
  obtain⟨y3,h3⟩:=hf 3 _ rfl
  obtain⟨y4,h4⟩:=hf 4 _ rfl
  obtain⟨y5,h5⟩:=hf 5 _ rfl
  obtain⟨y6,h6⟩:=hf 6 _ rfl
  obtain⟨y7,h7⟩:=hf 7 _ rfl
  obtain⟨y8,h8⟩:=hf 8 _ rfl
  obtain⟨y9,h9⟩:=hf 9 _ rfl
  dsimp only at h0 h1 h2 h3 h4 h5 h6 h7 h8 h9
  rw[ajm]at h0 h1
  rw[Js]at h2
  rw[Eh]at h3 h4
  rw[acR]at h5
  rw[Jr]at h6
  rw[ca]at h7
  rw[kH]at h8 h9
  obtain⟨id,r0,_⟩:=Iu Xt h0
  obtain⟨kind,r1,_⟩:=Iu Xt h1
  obtain⟨labels,r2⟩:=Cb h2
  obtain⟨name,r3,_⟩:=ya AZ h3
  obtain⟨proc,r4,_⟩:=ya AZ h4
  obtain⟨e,r5,hr⟩:=Xs _ _ _ h5
  obtain⟨b,r6⟩:=Jp Jq h6
  obtain⟨args,r7,ha⟩:=qT (W:=W) fc (fun a=>a.x.tH) ua ca6 (by decide) (fun _=>rfl) (fun k hk cs x hx=>ajo hx) h7
  obtain⟨aP,r8,ht⟩:=qT (W:=W) bd Sm.tH us hc (by decide) Lm (fun k hk cs x hx=>ih k (by omega) cs x hx) h8
  obtain⟨aM,r9,he⟩:=qT (W:=W) bd Sm.tH us hc (by decide) Lm (fun k hk cs x hx=>ih k (by omega) cs x hx) h9
  refine⟨⟨id,kind,labels,name,proc,e,b,args,aP,aM⟩, ?_,hr,ha,Cc ht,Cc he⟩
  have:=r0.at (r1.at (r2.at (r3.at (r4.at (r5.at (r6.at (r7.at (r8.at (r9.at (fY.end (by rw[hl,hc])))))))))))
  rw[jh]at this
  rw[dM]
  simpa[encStr]using this
theorem ajq {fuel:Nat} {cs:List Value} {x:DataW H×List MemPlace} (h:DataW.trod enc Tryz.prog W 0 sp true fuel 70 cs=some x) : ∃ y:Pc,fY W (bN y) cs∧Sm.zS y.body:=by
 obtain⟨n,rfl,hl,hf⟩:=nu (l:= [(9,0),(68,1),(22,2),(52,3),(22,4)]) (by kernel_rfl) (by simp) h
 have hc:Tryz.prog.cellsOf 70=5:=by kernel_rfl
 have cp:Tryz.prog.cellsOf 68=1:=by kernel_rfl
 have kH:Tryz.prog.cellsOf 52=1:=by kernel_rfl
 have up:Tryz.prog.underlying 68=some (.slice 73):=by kernel_rfl
 have us:Tryz.prog.underlying 52=some (.slice 54):=by kernel_rfl
 have cp2:Tryz.prog.cellsOf 73=2:=by kernel_rfl
 have auf:Tryz.prog.cellsOf 54=13:=by kernel_rfl
 obtain⟨y0,h0⟩:=hf 0 _ rfl
 obtain⟨y1,h1⟩:=hf 1 _ rfl
 obtain⟨y2,h2⟩:=hf 2 _ rfl
 obtain⟨y3,h3⟩:=hf 3 _ rfl
 obtain⟨y4,h4⟩:=hf 4 _ rfl
 dsimp only at h0 h1 h2 h3 h4
 rw[Eh]at h0
 rw[cp]at h1
 rw[Js]at h2 h4
 rw[kH]at h3
 obtain⟨name,r0,_⟩:=ya AZ h0
 obtain⟨ps,r1,_⟩:=qT (W:=W) iJ (fun _=>True) up cp2 (by decide) (fun _=>rfl) (fun k hk cs x hx=>by
  obtain⟨y,hy⟩:=ajn hx
  exact⟨y,hy,trivial⟩) h1
 obtain⟨vars,r2⟩:=Cb h2
 obtain⟨body,r3,hb⟩:=qT (W:=W) bd Sm.tH us auf (by decide) Lm (fun k hk cs x hx=>ajp k cs x hx) h3
 obtain⟨fin,r4⟩:=Cb h4
 refine⟨⟨name,ps,vars,body,fin⟩, ?_,Cc hb⟩
 have:=r0.at (r1.at (r2.at (r3.at (r4.at (fY.end (by rw[hl,hc]))))))
 simpa[encStr,bN]using this
theorem ajr {fuel:Nat} {cs:List Value} {x:DataW H×List MemPlace} (h:DataW.trod enc Tryz.prog W 0 sp true fuel 25 cs=some x) : ∃ y:Pg,fY W (bO y) cs∧y.tH:=by
 obtain⟨n,rfl,hl,hf⟩:=nu (l:= [(22,0),(23,1)]) (by kernel_rfl) (by simp) h
 have hc:Tryz.prog.cellsOf 25=2:=by kernel_rfl
 have cp:Tryz.prog.cellsOf 23=1:=by kernel_rfl
 have up:Tryz.prog.underlying 23=some (.slice 70):=by kernel_rfl
 have cp5:Tryz.prog.cellsOf 70=5:=by kernel_rfl
 obtain⟨y0,h0⟩:=hf 0 _ rfl
 obtain⟨y1,h1⟩:=hf 1 _ rfl
 dsimp only at h0 h1
 rw[Js]at h0
 rw[cp]at h1
 obtain⟨globals,r0⟩:=Cb h0
 obtain⟨procs,r1,hp⟩:=qT (W:=W) bN (fun f=>Sm.zS f.body) up cp5 (by decide) (fun _=>rfl) (fun k hk cs x hx=>ajq hx) h1
 refine⟨⟨globals,procs⟩, ?_,hp⟩
 have:=r0.at (r1.at (fY.end (by rw[hl,hc])))
 simpa[bO]using this
end
end Go.Abs
namespace Go.Abs
open Go.Proofs Go.ChangeShapes Go.WideShapes Go.ChangeAt Go.RowKit
theorem zj {H:Type} {enc:TypeId×Value→H} {P:Program} {W:World} {sp:Nat→Bool} {t:TypeId} {ts:List TypeId} {ps:List MemPlace} : ∀ {l:List Value} {ds:List (DataW H)},DataW.TrodAll enc P W 0 sp true (t::ts) l ds ps→
 ∃ v l' d o7 p q,l=v::l'∧ds=d::o7∧DataW.Trod enc P W 0 sp true t v d p∧DataW.TrodAll enc P W 0 sp true ts l' o7 q
 |v::l,d::ds,⟨p,q,h1,h2,e⟩=>⟨v,l,d,ds,p,q,rfl,rfl,h1,h2⟩
 | [],[],h=>h.elim
 | [],_::_,h=>h.elim
 |_::_,[],h=>h.elim
theorem aaD {H:Type} {enc:TypeId×Value→H} {P:Program} {W:World} {sp:Nat→Bool} {ps:List MemPlace} : ∀ {l:List Value} {ds:List (DataW H)},DataW.TrodAll enc P W 0 sp true [] l ds ps→l = []∧ds = []
 | [],[],_=>⟨rfl,rfl⟩
 | [],_::_,h=>h.elim
 |_::_,ds,h=>by cases ds<;>exact h.elim
end Go.Abs
