/-
  What is proved here: part 5 of the road to the claim (ImgR, Mk1, Mk3, ImgS, ImgF, PutP, LawRu10, Mk2, Mk4, LawRu11, Glue2, Join, Binds1, Join2, Join3, Join4, Join5).
  No conditions.
-/
import Derived.Test.YtpjadlleefgcpaaGreatRnK4
import Derived.RowKit3
import Derived.WalkKit
import Derived.ProofKit
import Derived.OpenShut
import Derived.ShutString
import Derived.ChangeMaps5
import Derived.ChangeStays
import Derived.KernelRfl

set_option linter.unusedSimpArgs false
set_option linter.unusedVariables false
namespace Go.Abs
theorem IQ {x:aK} : ∀ (l:List Ar) {o o':List aK},(∀ y∈o',y∈o)→x∈Ar.said o' l→x∈Ar.said o l
 | [],o,o',h,m=>h x m
 | a::l,o,o',h,m=>by
  simp only[Ar.said]at m ⊢
  refine IQ l (fun y hy=>?_) m
  split at hy
  ·rename_i hr
   rw[if_pos hr]
   simp only[List.mem_append]at hy ⊢
   rcases hy with (hy|hy)|hy
   ·exact .inl (.inl (h y hy))
   ·exact .inl (.inr hy)
   ·exact .inr hy
  ·rename_i hr
   rw[if_neg hr]
   simp only[List.mem_append]at hy ⊢
   rcases hy with hy|hy
   ·exact .inl (h y hy)
   ·exact .inr hy
theorem XV {x:Ex} (h:x.may=true) : ∀ n∈(⟨4,0,[],[x]⟩:Ex).names,n∈x.names:=fun n m=>by
 unfold Ex.names at m ⊢
 rw[if_pos h]
 split at m
 ·simpa[Ex.nG,Ex.mE]using m
 ·cases m
def FL (k:Int) (v:Sm):Prop:=(k=1→v.x.may=true)∧(k=2→v.kind=6∧yo v.aO∧v.aN = [])
structure UG (d c:Sm×Bool):Prop where
 cov:Cov d.1 c.1
 jump:c.1.kind=7∨c.1.kind=8→d.1.kind=c.1.kind∧d.2=c.2
 uW:c.1.kind=10→d.1.kind=10∧d.1.name=c.1.name
theorem Q6 (b:Bool) : ∀ x y:List Sm,Sm.ki b (x++y)=Sm.ki b x++Sm.ki b y
 | [],y=>by simp only[List.nil_append,Sm.ki]
 |s::x,y=>by simp only[List.cons_append,Sm.ki,Q6 b x y,List.append_assoc]
theorem Q7 {l:List Sm} (h:yo l) {b b':Bool} {c d:Sm×Bool} (hd:d∈Sm.ki b l) (hc:UG d c) : ∃ d'∈Sm.ki b' l,UG d' c:=by
 have h1:d.1∈(Sm.ki b l).map Prod.fst:=List.mem_map_of_mem hd
 rw[qe]at h1
 obtain⟨u,hu,e⟩:=List.mem_map.1 h1
 have h2:d.1∈(Sm.ki b' l).map Prod.fst:=by rw[qe];exact List.mem_map.2 ⟨u,hu,e⟩
 obtain⟨d',m',e'⟩:=List.mem_map.1 h2
 have hk:=h u hu
 have ek:d.1.kind=u.kind:=by rw[← e];rfl
 refine⟨d',m',by rw[e'];exact hc.cov,fun hj=>?_,fun hg=>?_⟩
 ·have:=(hc.jump hj).1
  omega
 ·have:=(hc.uW hg).1
  omega
mutual
theorem ajQ (k id:Int) : ∀ (s:Sm) (b:Bool),(∀ v∈s.pre,v.id=id→FL k v)→∀ c∈(s.yn k id).cp b,∃ d∈s.cp b,UG d c
 | ⟨i,kind,labels,name,proc,x,has,args,aO,aN⟩,b,H,c,m=>by
  have Ht : ∀ v∈Sm.bH aO,v.id=id→FL k v:=fun v mv=>H v (by simp[Sm.pre,mv])
  have He : ∀ v∈Sm.bH aN,v.id=id→FL k v:=fun v mv=>H v (by simp[Sm.pre,mv])
  have yr:=fun b'=>yu k id aO b' Ht
  have FM:=fun b'=>yu k id aN b' He
  have q9:=H ⟨i,kind,labels,name,proc,x,has,args,aO,aN⟩ (by simp[Sm.pre])
  by_cases hs:Sp k id ⟨i,kind,labels,name,proc,x,has,args,aO,aN⟩
  ·obtain⟨hk,hi⟩:=hs
   have nU:=q9 hi
   rcases hk with rfl|rfl
   ·rw [qY hi]at m
    simp only[Sm.cp,List.mem_cons,List.mem_append]at m ⊢
    rcases m with rfl|m|m
    ·refine⟨_, .inl rfl,⟨fun n hn=> ?_,fun h=>⟨h,rfl,rfl,rfl⟩⟩,fun _=>⟨rfl,rfl⟩,fun h=>⟨h,rfl⟩⟩
     refine IQ args (fun y hy=>?_) hn
     rcases List.mem_append.1 hy with hy|hy
     ·exact List.mem_append_left _ hy
     ·exact List.mem_append_right _ (XV (nU.1 rfl) y hy)
    ·obtain⟨d,m1,m2⟩:=FM _ c m;exact⟨d, .inr (.inr m1),m2⟩
    ·obtain⟨d,m1,m2⟩:=yr _ c m;exact⟨d, .inr (.inl m1),m2⟩
   ·obtain⟨k6,hj,xZ⟩:=nU.2 rfl
    dsimp only at k6 hj xZ
    subst k6 xZ
    rw[nu hi]at m
    dsimp only at m
    simp only[Sm.cp,Sm.dG,Sm.ki,Q6,List.mem_cons,List.mem_append,List.append_nil,List.not_mem_nil,or_false]at m ⊢
    rcases m with rfl|m|rfl|m
    ·exact⟨_, .inl rfl,⟨fun n hn=>hn,fun h=>absurd (show(5:Int)=4 from h) (by decide)⟩,fun h=>absurd (show(5:Int)=7∨(5:Int)=8 from h) (by decide),fun h=>absurd (show(5:Int)=10 from h) (by decide)⟩
    ·obtain⟨d,m1,m2⟩:=yr _ c m
     obtain⟨d',m3,m4⟩:=Q7 hj m1 m2
     exact⟨d', .inr m3,m4⟩
    ·exact⟨_, .inl rfl,⟨fun n hn=>hn,fun h=>absurd (show(6:Int)=4 from h) (by decide)⟩,fun h=>absurd (show(6:Int)=7∨(6:Int)=8 from h) (by decide),fun h=>absurd (show(6:Int)=10 from h) (by decide)⟩
    ·obtain⟨d,m1,m2⟩:=yr _ c m
     obtain⟨d',m3,m4⟩:=Q7 hj m1 m2
     exact⟨d', .inr m3,m4⟩
  ·rw [qX hs]at m
   dsimp only at m
   simp only[Sm.cp,List.mem_cons,List.mem_append]at m ⊢
   rcases m with rfl|m|m
   ·exact⟨_, .inl rfl,⟨fun n hn=>hn,fun h=>⟨h,rfl,rfl,rfl⟩⟩,fun _=>⟨rfl,rfl⟩,fun h=>⟨h,rfl⟩⟩
   ·obtain⟨d,m1,m2⟩:=yr _ c m;exact⟨d, .inr (.inl m1),m2⟩
   ·obtain⟨d,m1,m2⟩:=FM _ c m;exact⟨d, .inr (.inr m1),m2⟩
theorem yu (k id:Int) : ∀ (l:List Sm) (b:Bool),(∀ v∈Sm.bH l,v.id=id→FL k v)→∀ c∈Sm.ki b (Sm.dG k id l),∃ d∈Sm.ki b l,UG d c
 | [],b,H,c,m=>by simp[Sm.dG,Sm.ki]at m
 | s::l,b,H,c,m=>by
  simp only[Sm.dG,Sm.ki,List.mem_append]at m ⊢
  rcases m with m|m
  ·obtain⟨d,m1,m2⟩:=ajQ k id s b (fun v mv=>H v (by simp [Sm.bH,mv])) c m
   exact⟨d, .inl m1,m2⟩
  ·obtain⟨d,m1,m2⟩:=yu k id l b (fun v mv=>H v (by simp [Sm.bH,mv])) c m
   exact⟨d, .inr m1,m2⟩
end
theorem pb : ∀ x y:List Sm,dK (x++y)=dK x++dK y
 | [],y=>rfl
 |s::x,y=>by simp only[List.cons_append,dK,pb x y,List.append_assoc]
theorem FN : ∀ x y:List Sm,Sm.bH (x++y)=Sm.bH x++Sm.bH y
 | [],y=>by simp only[List.nil_append,Sm.bH]
 |s::x,y=>by simp only[List.cons_append,Sm.bH,FN x y,List.append_assoc]
theorem UH {l:List Sm} (h:yo l):dK (Sm.bH l) = []:=by
 have : ∀ m:List Sm,(∀ v∈m,v.labels = [])→dK m = []:=by
  intro m
  induction m with
  |nil=>intro _;rfl
  |cons a m ih=>intro hm;simp only[dK,hm a (List.mem_cons_self ..),ih fun v mv=>hm v (List.mem_cons_of_mem _ mv),List.append_nil]
 exact this _ fun v mv=>(h v mv).2.2.2
mutual
theorem aa4 (k id:Int) : ∀ s:Sm,(∀ v∈s.pre,v.id=id→FL k v)→(dK (s.yn k id).pre).Perm (dK s.pre)
 | ⟨i,kind,labels,name,proc,x,has,args,aO,aN⟩,H=>by
  have yr:=zz k id aO fun v mv=>H v (by simp[Sm.pre,mv])
  have FM:=zz k id aN fun v mv=>H v (by simp[Sm.pre,mv])
  have q9:=H ⟨i,kind,labels,name,proc,x,has,args,aO,aN⟩ (by simp[Sm.pre])
  by_cases hs:Sp k id ⟨i,kind,labels,name,proc,x,has,args,aO,aN⟩
  ·obtain⟨hk,hi⟩:=hs
   have nU:=q9 hi
   rcases hk with rfl|rfl
   ·rw [qY hi]
    simp only[Sm.pre,dK,pb]
    exact(((FM.append yr).trans List.perm_append_comm).append_left _)
   ·obtain⟨k6,hj,xZ⟩:=nU.2 rfl
    dsimp only at k6 hj xZ
    subst k6 xZ
    rw[nu hi]
    have e1:=UH hj
    rw[e1]at yr
    have e2:=yr.eq_nil
    simp only[Sm.pre,Sm.bH,FN,Sm.dG,dK,pb,e1,e2,List.append_nil,List.nil_append]
    exact List.Perm.refl _
  ·rw [qX hs]
   simp only[Sm.pre,dK,pb]
   exact((yr.append FM).append_left _)
theorem zz (k id:Int) : ∀ l:List Sm,(∀ v∈Sm.bH l,v.id=id→FL k v)→(dK (Sm.bH (Sm.dG k id l))).Perm (dK (Sm.bH l))
 | [],_=>by simp only[Sm.dG];exact List.Perm.refl _
 |s::l,H=>by
  simp only[Sm.dG,Sm.bH,pb]
  exact(aa4 k id s fun v mv=>H v (by simp[Sm.bH,mv])).append (zz k id l fun v mv=>H v (by simp[Sm.bH,mv]))
end
theorem aa5 {l:List aK} (h:ff l=false):l.Nodup:=by
 refine Classical.byContradiction fun hn=>?_
 rw[(pA l).2 hn]at h
 cases h
theorem UI {p:Pg} {k id:Int} (hp:p.Right) (hq:(⟨p.globals,p.procs.map fun f=> {f with body:=Sm.dG k id f.body}⟩:Pg).number.may=true) (H : ∀ v∈p.pre,v.id=id→FL k v) :
 (⟨p.globals,p.procs.map fun f=> {f with body:=Sm.dG k id f.body}⟩:Pg).number.Right:=by
 generalize p8:(p.procs.map fun f=> {f with body:=Sm.dG k id f.body})=ps at *
 have AG:(⟨p.globals,ps⟩:Pg).number.procs=(u5 0 ps).map Prod.fst:=(IN ps 0).symm
 have hl : ∃ l:List (Pc×Pc),(u5 0 ps).map Prod.fst=l.map Prod.fst∧l.map Prod.snd=p.procs∧∀ x∈l,∃ j,x.1 = {x.2 with body:=(Sm.fC true j (Sm.dG k id x.2.body)).1}:=by
  have : ∀ (m:List Pc) (n:Nat),∃ l:List (Pc×Pc),(u5 n (m.map fun f=> {f with body:=Sm.dG k id f.body})).map Prod.fst=l.map Prod.fst∧l.map Prod.snd=m∧∀ x∈l,∃ j,x.1 = {x.2 with body:=(Sm.fC true j (Sm.dG k id x.2.body)).1}:=by
   intro m
   induction m with
   |nil=>intro n;exact⟨[],rfl,rfl,fun x m=>by cases m⟩
   | cons f m ih=>
    intro n
    obtain⟨l,h1,h2,h3⟩:=ih (Sm.fC true n (Sm.dG k id f.body)).2
    refine⟨({f with body:=(Sm.fC true n (Sm.dG k id f.body)).1},f)::l, ?_,by rw[List.map_cons,h2],fun x mx=>?_⟩
    ·simp only[List.map_cons,u5,h1]
    ·rcases List.mem_cons.1 mx with rfl | mx
     ·exact⟨n,rfl⟩
     ·exact h3 x mx
  rw[← p8];exact this p.procs 0
 obtain⟨l,h1,h2,h3⟩:=hl
 refine UF hp hq rfl (AG.trans h1) (by rw[h2]) fun x mx=>?_
 obtain⟨j,e⟩:=h3 x mx
 have mg:x.1∈(⟨p.globals,ps⟩:Pg).number.procs:=by rw[AG,h1];exact List.mem_map_of_mem mx
 have mf:x.2∈p.procs:=by rw[← h2];exact List.mem_map_of_mem mx
 obtain⟨g,f⟩:=x
 dsimp only at e mg mf
 have Hf : ∀ v∈Sm.bH f.body,v.id=id→FL k v:=fun v mv=>H v (by simp only[Pg.pre,List.mem_flatten,List.mem_map];exact⟨_,⟨f,mf,rfl⟩,mv⟩)
 have Bn:g.ki=Sm.ki false (Sm.dG k id f.body):=by rw[e];exact E9 true false j _
 have Og:g.labels.Perm f.labels:=by
  rw[IE g,IE f,Bn]
  unfold Pc.ki
  rw[qe,qe,vw,vw,show g.fin=f.fin by rw[e]]
  exact(zz k id f.body Hf).append_right _
 have Ix:g.labels.Nodup:=Og.nodup_iff.2 (aa5 (hp.ln f mf))
 refine⟨by rw[e],by rw[e],by rw[e],fun v mv=>?_, ?_, ?_⟩
 ·have m1:v.core∈(Sm.ki false g.body).map Prod.fst:=by rw [qe];exact List.mem_map_of_mem mv
  rw[show Sm.ki false g.body=g.ki from rfl,Bn]at m1
  obtain⟨c,mc,ec⟩:=List.mem_map.1 m1
  obtain⟨d,md,hd⟩:=yu k id f.body false Hf c mc
  have m2:d.1∈(Sm.ki false f.body).map Prod.fst:=List.mem_map_of_mem md
  rw[qe]at m2
  obtain⟨u,mu,eu⟩:=List.mem_map.1 m2
  have hc:=hd.cov
  rw[ec, ← eu]at hc
  refine⟨u,mu,fun n hn=>?_,fun h4=>?_⟩
  ·have:=hc.said n (by rw [KX];exact hn)
   rwa [KX]at this
  ·exact hc.call h4
 ·cases c:ff g.labels with
  |false=>rfl
  |true=>exact absurd Ix ((pA _).1 c)
 ·dsimp only
  rw[Q1 (QZ hq mg)]
  have ib:=(Q1 (ln:=f.labels) (QZ hp.may mf)).1 (hp.leads f mf)
  intro c mc
  rw[Bn]at mc
  obtain⟨d,md,hd⟩:=yu k id f.body false Hf c mc
  have h2:=ib d md
  unfold kl at h2 ⊢
  by_cases hk:(c.1.kind==7 ||c.1.kind==8)=true
  ·have hj:=hd.jump (by simpa using hk)
   rw[if_pos hk]
   rw[if_pos (by rw[hj.1];exact hk),hj.2]at h2
   exact h2
  ·rw [if_neg hk]
   by_cases cd:(c.1.kind==10)=true
   ·have hg:=hd.uW (by simpa using cd)
    rw[if_pos cd]
    rw[if_neg (by rw[hg.1];decide),if_pos (by rw[hg.1];decide),hg.2,fx]at h2
    rw[fx]
    exact Og.mem_iff.2 h2
   ·rw[if_neg cd]
set_option maxRecDepth 8000
open Go.Proofs
abbrev aB4 (id:Int) (N:Nat):Prop:=∀ l:List Sm,Sm.aS l<N→∀ s:St,aH Tryz.prog K7 [.slice .shared 13 (l.map a8), .int .i64 id] s (.slice .shared 13 ((Sm.dG 1 id l).map a8)) s
theorem yv (k id:Int) : ∀ l:List Sm,(Sm.dG k id l).length=l.length
 | []=>by simp only[Sm.dG]
 |s::l=>by simp only[Sm.dG,List.length_cons,yv k id l]
set_option maxRecDepth 8000
open Go.Proofs
def Pc.kP (k id:Int) (f:Pc):Pc:= {f with body:=Sm.dG k id f.body}
def Pg.kP (p:Pg) (k id:Int):Pg:= {p with procs:=p.procs.map (Pc.kP k id)}
mutual
theorem aa6 (k id:Int) : ∀ s:Sm,(∀ v∈s.pre,v.id≠id)→s.yn k id=s
 |⟨i,kind,labels,name,proc,x,has,args,aO,aN⟩,h=>by
  have h0:i≠id:=h ⟨i,kind,labels,name,proc,x,has,args,aO,aN⟩ (by simp[Sm.pre])
  rw[qX fun e=>h0 e.2]
  dsimp only
  rw[zA k id aO fun v m=>h v (by simp[Sm.pre,m]),zA k id aN fun v m=>h v (by simp[Sm.pre,m])]
theorem zA (k id:Int) : ∀ l:List Sm,(∀ v∈Sm.bH l,v.id≠id)→Sm.dG k id l=l
 | [],_=>by simp only[Sm.dG]
 |s::l,h=>by
  simp only[Sm.dG]
  rw[aa6 k id s fun v m=>h v (by simp[Sm.bH,m]),zA k id l fun v m=>h v (by simp[Sm.bH,m])]
end
theorem K0 : ∀ a b:List Sm,Sm.aS (a++b)=Sm.aS a+Sm.aS b
 | [],b=>by simp[Sm.aS]
 |s::a,b=>by simp only[List.cons_append,Sm.aS,K0 a b];omega
mutual
theorem aa7 (k id:Int) : ∀ s:Sm,(s.pre.map (·.id)).Nodup→(s.yn k id).size≤3*s.size
 | ⟨i,kind,labels,name,proc,x,has,args,aO,aN⟩,h=>by
  simp only[Sm.pre,List.map_cons,List.map_append,List.nodup_cons,List.mem_append,not_or]at h
  obtain⟨⟨h1,h2⟩,h3⟩:=h
  obtain⟨n1,n2,_⟩:=List.nodup_append.1 h3
  have yr:=zB k id aO n1
  have FM:=zB k id aN n2
  by_cases hs:Sp k id ⟨i,kind,labels,name,proc,x,has,args,aO,aN⟩
  ·obtain⟨hk,hi⟩:=hs
   rcases hk with rfl|rfl
   ·rw [qY hi]
    simp only[Sm.size,Ex.size,Ex.aS]
    omega
   ·rw [nu hi]
    have iH:i=id:=hi
    have e:Sm.dG 2 id aO=aO:=zA 2 id aO fun v m e=>h1 (List.mem_map.2 ⟨v,m,e.trans iH.symm⟩)
    simp only[Sm.size,K0,Sm.aS,e,List.length_nil]
    omega
  ·rw [qX hs]
   simp only[Sm.size]
   omega
theorem zB (k id:Int) : ∀ l:List Sm,((Sm.bH l).map (·.id)).Nodup→Sm.aS (Sm.dG k id l)≤3*Sm.aS l
 | [],_=>by simp[Sm.dG,Sm.aS]
 |s::l,h=>by
  simp only[Sm.bH,List.map_append]at h
  obtain⟨n1,n2,_⟩:=List.nodup_append.1 h
  have:=aa7 k id s n1
  have:=zB k id l n2
  simp only[Sm.dG,Sm.aS];omega
end
theorem XW {p:Pg} (h:p.may=true):(p.pre.map (·.id)).Nodup:=by
 rw[List.nodup_iff_pairwise_ne,List.pairwise_map,List.pairwise_iff_getElem]
 intro i j hi hj Vc e
 have h1:=rY h (List.getElem?_eq_getElem hi)
 have h2:=rY h (List.getElem?_eq_getElem hj)
 omega
theorem Ez {p:Pg} (h:p.may=true) (k id:Int):(p.kP k id).size≤3*p.size:=by
 have : ∀ l:List Pc,(∀ f∈l,((Sm.bH f.body).map (·.id)).Nodup)→Pc.aS (l.map (Pc.kP k id))≤3*Pc.aS l:=by
  intro l
  induction l with
  |nil=>intro _;simp[Pc.aS]
  |cons f l ih=>
   intro hl
   have h1:=zB k id f.body (hl f (List.mem_cons_self ..))
   have h2:=ih fun g m=>hl g (List.mem_cons_of_mem _ m)
   simp only[List.map_cons,Pc.aS,Pc.size,Pc.kP]at h2 ⊢
   omega
 have:=this p.procs fun f m=>by
  have hn:=XW h
  refine hn.sublist (List.Sublist.map _ ?_)
  unfold Pg.pre
  exact List.sublist_flatten_of_mem (List.mem_map.2 ⟨f,m,rfl⟩)
 simp only[Pg.size,Pg.kP];omega
mutual
theorem aa8 (b:Bool) (n:Nat) : ∀ s:Sm,s.mD→((Sm.num b n s).1).mD
 |⟨id,kind,labels,name,proc,x,has,args,aO,aN⟩,h=>by
  simp only[Sm.mD]at h
  simp only[Sm.num,Sm.mD]
  obtain⟨h1,h2,h3⟩:=h
  exact⟨⟨h1.lL,h1.Nk,h1.name,h1.proc,h1.x,h1.xt,h1.Jq,h1.arg⟩,zC b _ aO h2,zC b _ aN h3⟩
theorem zC (b:Bool) (n:Nat) : ∀ l:List Sm,Sm.gj l→Sm.gj (Sm.fC b n l).1
 | [],_=>by simp only[Sm.fC,Sm.gj]
 |s::l,h=>by
  simp only[Sm.gj]at h
  simp only[Sm.fC,Sm.gj]
  exact⟨aa8 b n s h.1,zC b _ l h.2⟩
end
theorem K1 : ∀ {a b:List Sm},Sm.gj a→Sm.gj b→Sm.gj (a++b)
 | [],b,_,h=>h
 |s::a,b,h,k=>by
  simp only[List.cons_append,Sm.gj]at h ⊢
  exact⟨h.1,K1 h.2 k⟩
mutual
theorem aa9 (k id:Int) : ∀ s:Sm,s.mD→s.size<1000000→(s.yn k id).mD
 | ⟨i,kind,labels,name,proc,x,has,args,aO,aN⟩,h,hz=>by
  simp only[Sm.mD]at h
  simp only[Sm.size]at hz
  obtain⟨h1,h2,h3⟩:=h
  have yr:=zD k id aO h2 (by omega)
  have FM:=zD k id aN h3 (by omega)
  by_cases hs:Sp k id ⟨i,kind,labels,name,proc,x,has,args,aO,aN⟩
  ·obtain⟨hk,hi⟩:=hs
   rcases hk with rfl|rfl
   ·rw [qY hi]
    simp only[Sm.mD]
    exact⟨⟨h1.lL,h1.Nk,h1.name,h1.proc,by simp only[Ex.size,Ex.aS];omega,⟨by simp,h1.xt,trivial⟩,h1.Jq,h1.arg⟩,FM,yr⟩
   ·rw [nu hi]
    simp only[Sm.mD]
    refine⟨⟨h1.lL,h1.Nk,h1.name,h1.proc,h1.x,h1.xt,h1.Jq,h1.arg⟩,K1 yr ?_,FM⟩
    simp only[Sm.gj,Sm.mD,and_true]
    exact⟨⟨fun t m=>(by cases m),by simp,h1.name,h1.proc,h1.x,h1.xt,h1.Jq,h1.arg⟩,yr⟩
  ·rw [qX hs]
   simp only[Sm.mD]
   exact⟨⟨h1.lL,h1.Nk,h1.name,h1.proc,h1.x,h1.xt,h1.Jq,h1.arg⟩,yr,FM⟩
theorem zD (k id:Int) : ∀ l:List Sm,Sm.gj l→Sm.aS l<1000000→Sm.gj (Sm.dG k id l)
 | [],_,_=>by simp only[Sm.dG,Sm.gj]
 |s::l,h,hz=>by
  simp only[Sm.gj]at h
  simp only[Sm.aS]at hz
  simp only[Sm.dG,Sm.gj]
  exact⟨aa9 k id s h.1 (by omega),zD k id l h.2 (by omega)⟩
end
theorem XX {p:Pg} (h:p.ET) (hz:p.size<1000000) (hb:p.may=true) (k id:Int):(p.kP k id).number.ET:=by
 have hq:(p.kP k id).number.size≤3*p.size:=by rw[Pg.Ey];exact Ez hb k id
 have hf : ∀ g∈(p.kP k id).number.procs,∃ f∈p.procs,∃ j,g = {f with body:=(Sm.fC true j (Sm.dG k id f.body)).1}:=fun g m=>by
  have e:(p.kP k id).number.procs=(u5 0 (p.procs.map (Pc.kP k id))).map Prod.fst:=(IN _ 0).symm
  rw[e]at m
  obtain⟨⟨a,b⟩,mx,rfl⟩:=List.mem_map.1 m
  obtain⟨j,ej⟩:=Cv _ 0 _ mx
  have mb:b∈p.procs.map (Pc.kP k id):=by rw[← IP (p.procs.map (Pc.kP k id)) 0];exact List.mem_map.2 ⟨_,mx,rfl⟩
  obtain⟨f,mf,rfl⟩:=List.mem_map.1 mb
  exact⟨f,mf,j,ej⟩
 refine⟨by omega,h.sE,fun g m=>?_,fun g m=>?_⟩
 ·obtain⟨f,mf,j,rfl⟩:=hf g m
  exact h.ja f mf
 ·obtain⟨f,mf,j,rfl⟩:=hf g m
  have hs:=Pc.cu mf
  simp only[Pc.size]at hs
  exact zC true j _ (zD k id _ (h.body f mf) (by unfold Pg.size at hz;omega))
theorem XY {p:Pg} (h:p.Right):p.procs≠ []:=fun e=>by
 have:=h.main
 simp[Pg.oW,Pg.find,e,iE]at this
set_option maxRecDepth 8000
open Go.Proofs
theorem ajR {p:Pg} (hb:p.may=true) {k n:Int} (hk:k≠0) (hz:pP (kr k p.all) n≠0) : ∃ v∈p.pre,v.id=pP (kr k p.all) n∧v.kind=k∧p.xf (pP (kr k p.all) n)=v:=by
 obtain⟨i,g1,g2,g3⟩:=Gu.1 (Xe hz)
 have CX:i.s∈p.pre:=by rw[← (x7 hb).2];exact List.mem_map_of_mem g1
 refine⟨i.s,CX,g3,by simpa[hk]using g2, ?_⟩
 rw[← g3]
 exact KW hb CX
theorem ajS {p:Pg} (hb:p.may=true) {v w:Sm} (hv:v∈p.pre) (hw:w∈p.pre) (e:v.id=w.id):v=w:=by
 obtain⟨i,hi⟩:=List.getElem?_of_mem hv
 obtain⟨j,hj⟩:=List.getElem?_of_mem hw
 have e1:=rY hb hi
 have e2:=rY hb hj
 have:i=j:=by omega
 subst this
 rw[hi]at hj
 exact Option.some.inj hj
theorem abb {p:Pg} {k id:Int} (hp:p.Right) (hq:(p.kP k id).number.may=true) (H : ∀ v∈p.pre,v.id=id→FL k v) (ht:k=1→∀ v∈p.pre,v.id=id→v.kind=5):Made p (p.kP k id).number k id:=by
 have hr:(p.kP k id).number.Right:=UI hp hq H
 refine afp hp hr (fun g mg=>?_) (fun f mf=>List.mem_map.2 ⟨f,mf,rfl⟩) ht (fun hk v mv e=>⟨((H v mv e).2 hk).1,((H v mv e).2 hk).2.1⟩)
 obtain⟨f,mf,e⟩:=List.mem_map.1 mg
 exact⟨f,mf,e.symm⟩
set_option maxRecDepth 8000
open Go.Proofs
abbrev OM (id:Int) (N:Nat):Prop:=∀ l:List Sm,Sm.aS l<N→∀ s:St,aH Tryz.prog iX [.slice .shared 13 (l.map a8), .int .i64 id] s (.slice (.tok s.az.length) 13 ((Sm.dG 2 id l).map a8)) ⟨s.aj,s.az++ [some l.length]⟩
theorem Lx (mn:Int) {N:Nat} (hN:N<10000000) (ih:OM mn N) (l:List Sm) (hl:Sm.aS l<N+1) :
 aH Tryz.prog iX [.slice .shared 13 (l.map a8), .int .i64 mn] S0 (.slice (.tok 0) 13 ((Sm.dG 2 mn l).map a8)) ⟨[],[some l.length]⟩:=by
 have hlen:l.length<10000001:=by have:=Sm.dr l;omega
 have qH:=yv 2 mn l
 generalize hR:Sm.dG 2 mn l=R at *
 unfold S0
 refine aH.Wd 0 1 (Nat.zero_le _) (Nat.zero_le _) wN rfl fun B Q hB hQ=>?_
 have⟨hD,gA,gB,gC⟩:=bP
 repeat' (first
 |simp only[go_sem,hD,gA,gB,gC]
 |(with_reducible refine aF hQ ?_;exact aP))
 refine bo.qI 5 13 rfl ?_
 simp only[go_sem,hD,gA,gB,gC]
 refine fz 0 1 (bo.ind (ι:=List Sm×Nat×List Sm×Nat) (fun i=>l.drop i.2.1=i.1∧i.2.2.1.length≤i.2.1∧i.2.2.1++Sm.dG 2 mn i.1=R∧i.2.2.2=i.2.2.1.length) (fun i=>i.1.length)
  (fun i=> [(1, .int .i64 mn),(5, .slice (.tok 0) 13 (i.2.2.1.map a8)),(10, .slice .shared 13 (l.map a8)),(11, .int .i64 (l.length:Int)),(12, .int .i64 (i.2.1:Int))])
  (fun i=>⟨[],[some i.2.2.2]⟩) ?_ (l,0,[],0) ⟨rfl,Nat.le_refl _,hR,rfl⟩)
 rintro⟨rest,k,acc,m⟩ ⟨h1,h2,h3,h4⟩ IH
 dsimp only at h1 h2 h3 h4
 subst h4
 cases rest with
 |nil=>
  have hD:=drop_nil h1
  simp only[Sm.dG,List.append_nil]at h3
  subst h3
  rw[← qH]at hQ
  repeat' (first
 |simp only[go_sem,hD,gA,gB,gC]
 |(with_reducible refine aF hQ ?_;exact aP))
 | cons y rest=>
  obtain⟨gA,g2,hD,g4⟩:=drop_cons h1
  have hk:k<4611686018427387904:=by omega
  have dL:y.size≤N:=by have:=Sm.cu (List.mem_of_getElem? gA);omega
  obtain⟨id,kind,labels,name,proc,x,has,args,aO,aN⟩:=y
  simp only[Sm.size]at dL
  have jo:(acc.length+1)*209≤bp:=by simp only[bp];omega
  have wP:=fun s=>vZ (v:=⟨id,kind,labels,name,proc,x,has,args,aO,aN⟩) (by dsimp only;omega) s
  simp only[Sm.bare,cy,List.map_nil]at wP
  simp only[Sm.dG]at h3
  have c1:=ih aO (by omega)
  have c2:=ih aN (by omega)
  have QQ:=yv 2 mn aO
  have abd:aO.length<10000001:=by have:=Sm.dr aO;omega
  rcases Bool.eq_false_or_eq_true (id==mn)with b1|b1
  ·have Bl:id=mn:=by simpa using b1
   rw[nu Bl]at h3
   dsimp only at h3
   obtain⟨T,hT⟩ : ∃ T,Sm.dG 2 mn aO=T:=⟨_,rfl⟩
   rw[hT]at h3 c1 QQ
   obtain⟨E,hE⟩ : ∃ E,Sm.dG 2 mn aN=E:=⟨_,rfl⟩
   rw[hE]at h3 c2
   rw[← QQ]at c1 abd
   have ON:(T.length+1)*209≤bp:=by simp only[bp];omega
   repeat' (first
 |simp only[go_sem,hD,gA,gB,gC,jo,ON,b1]
 |(with_reducible refine CU (wP _) ?_)
 |(with_reducible refine CU (c1 _) ?_)
 |(with_reducible refine CU (c2 _) ?_)
 | (with_reducible refine aF hQ ?_;exact aP))
   refine eQ 0 1 ?_ ?_ (IH (rest,k+1,acc++ [⟨id,5,labels,name,proc,x,has,args,T++ [⟨id,kind,[],name,proc,x,has,args,T,[]⟩],E⟩],acc.length+1) ⟨g2,by simp;omega,by rw[← h3];simp,by simp⟩ (Nat.lt_succ_self _))
   ·(simp only[go_sem,hD,gA,gB,gC,aM hk,cy,List.map_append,List.map_cons,List.map_nil];try exact bQ)
   ·(simp only[go_sem,hD,gA,gB,gC,aM hk,cy,List.map_append,List.map_cons,List.map_nil];try exact bQ)
  ·have Bl : ¬ Sp 2 mn ⟨id,kind,labels,name,proc,x,has,args,aO,aN⟩:=fun e=>by
    have e2:id=mn:=e.2
    rw[e2]at b1
    simp at b1
   rw[qX Bl]at h3
   dsimp only at h3
   obtain⟨T,hT⟩ : ∃ T,Sm.dG 2 mn aO=T:=⟨_,rfl⟩
   rw[hT]at h3 c1
   obtain⟨E,hE⟩ : ∃ E,Sm.dG 2 mn aN=E:=⟨_,rfl⟩
   rw[hE]at h3 c2
   repeat' (first
 |simp only[go_sem,hD,gA,gB,gC,jo,b1]
 |(with_reducible refine CU (wP _) ?_)
 |(with_reducible refine CU (c1 _) ?_)
 |(with_reducible refine CU (c2 _) ?_)
 | (with_reducible refine aF hQ ?_;exact aP))
   refine eQ 0 1 ?_ ?_ (IH (rest,k+1,acc++ [⟨id,kind,labels,name,proc,x,has,args,T,E⟩],acc.length+1) ⟨g2,by simp;omega,by rw[← h3];simp,by simp⟩ (Nat.lt_succ_self _))
   ·(simp only[go_sem,hD,gA,gB,gC,aM hk,cy];try exact bQ)
   ·(simp only[go_sem,hD,gA,gB,gC,aM hk,cy];try exact bQ)
theorem OO (mn:Int) {N:Nat} (hN:N<10000000) (ih:OM mn N) (l:List Sm) (hl:Sm.aS l<N+1) :
 aH Tryz.prog iX [.slice .shared 13 (l.map a8), .int .i64 mn] S0 (.slice .shared 13 ((Sm.dG 2 mn l).map a8)) S0:=by
 have hlen:l.length<10000001:=by have:=Sm.dr l;omega
 have qH:=yv 2 mn l
 generalize hR:Sm.dG 2 mn l=R at *
 unfold S0
 refine aH.go wN rfl fun B Q hB hQ=>?_
 have⟨hD,gA,gB,gC⟩:=bP
 repeat' (first
 |simp only[go_sem,hD,gA,gB,gC]
 |(with_reducible refine aF hQ ?_;exact aP))
 refine bo.qI 5 13 rfl ?_
 simp only[go_sem,hD,gA,gB,gC]
 refine fz 0 1 (bo.ind (ι:=List Sm×Nat×List Sm×Nat) (fun i=>l.drop i.2.1=i.1∧i.2.2.1.length≤i.2.1∧i.2.2.1++Sm.dG 2 mn i.1=R∧i.2.2.2=i.2.2.1.length) (fun i=>i.1.length)
  (fun i=> [(1, .int .i64 mn),(5, .slice (.tok 0) 13 (i.2.2.1.map a8)),(10, .slice .shared 13 (l.map a8)),(11, .int .i64 (l.length:Int)),(12, .int .i64 (i.2.1:Int))])
  (fun i=>⟨[],[some i.2.2.2]⟩) ?_ (l,0,[],0) ⟨rfl,Nat.le_refl _,hR,rfl⟩)
 rintro⟨rest,k,acc,m⟩ ⟨h1,h2,h3,h4⟩ IH
 dsimp only at h1 h2 h3 h4
 subst h4
 cases rest with
 |nil=>
  have hD:=drop_nil h1
  simp only[Sm.dG,List.append_nil]at h3
  subst h3
  repeat' (first
 |simp only[go_sem,hD,gA,gB,gC]
 |(with_reducible refine aF hQ ?_;exact aP))
 | cons y rest=>
  obtain⟨gA,g2,hD,g4⟩:=drop_cons h1
  have hk:k<4611686018427387904:=by omega
  have dL:y.size≤N:=by have:=Sm.cu (List.mem_of_getElem? gA);omega
  obtain⟨id,kind,labels,name,proc,x,has,args,aO,aN⟩:=y
  simp only[Sm.size]at dL
  have jo:(acc.length+1)*209≤bp:=by simp only[bp];omega
  have wP:=fun s=>vZ (v:=⟨id,kind,labels,name,proc,x,has,args,aO,aN⟩) (by dsimp only;omega) s
  simp only[Sm.bare,cy,List.map_nil]at wP
  simp only[Sm.dG]at h3
  have c1:=ih aO (by omega)
  have c2:=ih aN (by omega)
  have QQ:=yv 2 mn aO
  have abd:aO.length<10000001:=by have:=Sm.dr aO;omega
  rcases Bool.eq_false_or_eq_true (id==mn)with b1|b1
  ·have Bl:id=mn:=by simpa using b1
   rw[nu Bl]at h3
   dsimp only at h3
   obtain⟨T,hT⟩ : ∃ T,Sm.dG 2 mn aO=T:=⟨_,rfl⟩
   rw[hT]at h3 c1 QQ
   obtain⟨E,hE⟩ : ∃ E,Sm.dG 2 mn aN=E:=⟨_,rfl⟩
   rw[hE]at h3 c2
   rw[← QQ]at c1 abd
   have ON:(T.length+1)*209≤bp:=by simp only[bp];omega
   repeat' (first
 |simp only[go_sem,hD,gA,gB,gC,jo,ON,b1]
 |(with_reducible refine CU (wP _) ?_)
 |(with_reducible refine CU (c1 _) ?_)
 |(with_reducible refine CU (c2 _) ?_)
 | (with_reducible refine aF hQ ?_;exact aP))
   refine eQ 0 1 ?_ ?_ (IH (rest,k+1,acc++ [⟨id,5,labels,name,proc,x,has,args,T++ [⟨id,kind,[],name,proc,x,has,args,T,[]⟩],E⟩],acc.length+1) ⟨g2,by simp;omega,by rw[← h3];simp,by simp⟩ (Nat.lt_succ_self _))
   ·(simp only[go_sem,hD,gA,gB,gC,aM hk,cy,List.map_append,List.map_cons,List.map_nil];try exact bQ)
   ·(simp only[go_sem,hD,gA,gB,gC,aM hk,cy,List.map_append,List.map_cons,List.map_nil];try exact bQ)
  ·have Bl : ¬ Sp 2 mn ⟨id,kind,labels,name,proc,x,has,args,aO,aN⟩:=fun e=>by
    have e2:id=mn:=e.2
    rw[e2]at b1
    simp at b1
   rw[qX Bl]at h3
   dsimp only at h3
   obtain⟨T,hT⟩ : ∃ T,Sm.dG 2 mn aO=T:=⟨_,rfl⟩
   rw[hT]at h3 c1
   obtain⟨E,hE⟩ : ∃ E,Sm.dG 2 mn aN=E:=⟨_,rfl⟩
   rw[hE]at h3 c2
   repeat' (first
 |simp only[go_sem,hD,gA,gB,gC,jo,b1]
 |(with_reducible refine CU (wP _) ?_)
 |(with_reducible refine CU (c1 _) ?_)
 |(with_reducible refine CU (c2 _) ?_)
 | (with_reducible refine aF hQ ?_;exact aP))
   refine eQ 0 1 ?_ ?_ (IH (rest,k+1,acc++ [⟨id,kind,labels,name,proc,x,has,args,T,E⟩],acc.length+1) ⟨g2,by simp;omega,by rw[← h3];simp,by simp⟩ (Nat.lt_succ_self _))
   ·(simp only[go_sem,hD,gA,gB,gC,aM hk,cy];try exact bQ)
   ·(simp only[go_sem,hD,gA,gB,gC,aM hk,cy];try exact bQ)
theorem OP (id:Int) : ∀ N,N<10000000→OM id N:=by
 intro N
 induction N with
 |zero=>intro _ l hl;exact absurd hl (Nat.not_lt_zero _)
 |succ N ih=>
  intro hN l hl s
  exact(Lx id (by omega) (ih (by omega)) l hl).ac6 (by simp[D.bF,D.ok,Tag.ok,kY]) (kY _) s
theorem PS {id:Int} {l:List Sm} (h:Sm.aS l<9000000) (s:St):aH Tryz.prog iX [.slice .shared 13 (l.map a8), .int .i64 id] s (.slice .shared 13 ((Sm.dG 2 id l).map a8)) s:=
 (OO id (N:=9999999) (by omega) (OP id 9999999 (by omega)) l (by omega)).pure (by simp[D.bF,D.ok,Tag.ok,kY]) (by simp[D.bF,D.ok,Tag.ok,kY]) s
set_option maxRecDepth 8000
open Go.Proofs
theorem PT {p:Pg} (hp:p.size<1000000) (h0:p.procs≠ []) (id:Int) (hq:(p.kP 2 id).size<1000000) (st:St):aH Tryz.prog tw [.agg (bK p), .int .i64 id] st (.agg (bK (p.kP 2 id).number)) st:=by
 refine aH.pure ?_ (by simp[D.bF,D.ok,iP]) (by simp[D.ok,iP]) st
 have Bn:=fun s=>XQ hp h0 s
 have UJ:=fun s=>XR (p:=p.kP 2 id) hq (by simpa[Pg.kP]using h0) s
 generalize hZ:(p.kP 2 id).number=Z at *
 clear hZ
 have hdp:(p.kP 2 id) = ⟨p.globals,p.procs.map (Pc.kP 2 id)⟩:=rfl
 rw[hdp]at UJ
 obtain⟨globals,procs⟩:=p
 dsimp only at UJ
 simp only[Pg.size]at hp
 have hlen:procs.length<1000000:=by have:=Pc.dr procs;omega
 have nB:((⟨globals,procs⟩:Pg).put fU).procs.length=procs.length:=List.length_map ..
 have XS:((⟨globals,procs⟩:Pg).put fU).procs=procs.map (Pc.fS (fD fU)):=rfl
 have fu:0<procs.length:=List.length_pos_iff.2 h0
 dsimp only at Bn
 obtain⟨C,hC⟩ : ∃ C,((⟨globals,procs⟩:Pg).put fU).procs=C:=⟨_,rfl⟩
 rw[hC]at Bn nB XS
 obtain⟨g,hg⟩ : ∃ g,procs.length - 1=g:=⟨_,rfl⟩
 have Q4:oz C=JH g C:=by rw[← hg, ← nB]
 have XT:bK (⟨globals,procs⟩:Pg) = [.slice .shared 1 (globals.map encStr), .slice .shared 5 (procs.map bJ)]:=rfl
 simp only[Q4,hg,XT]at Bn
 generalize hR:procs.map (Pc.kP 2 id)=R at *
 have avj:bK (⟨globals,R⟩:Pg) = [.slice .shared 1 (globals.map encStr), .slice .shared 5 (R.map bJ)]:=rfl
 simp only[avj]at UJ
 unfold S0
 refine aH.go Ff rfl fun B Q hB hQ=>?_
 have⟨hD,gA,gB,gC⟩:=bP
 have loop : ∀ (rest uj done:List Pc),procs.drop done.length=rest→uj=rest.map (Pc.fS (fD fU))→done++rest.map (Pc.kP 2 id)=R→
  bo Tryz.prog B 31 Q7R (iN 0 (lz (jU Tryz.prog B 31 Q7W Q) Q)) (ani id procs.length done.length g) ⟨[bK ⟨globals,procs⟩,[.junk, .junk],[.slice .shared 1 (globals.map encStr), .dH 5 3 g procs.length],JH g (done++uj)],[]⟩:=by
  intro rest
  induction rest with
  | nil=>
   intro uj done h1 h2 h3
   have hD:=drop_nil h1
   have:uj = []:=by simpa using h2
   subst this
   simp only[List.map_nil,List.append_nil]at h3
   subst h3
   rw[List.append_nil]
   have QU:procs.length=(done.map bJ).length:=by rw[← hR];simp
   refine bo.To 3 g 5 (done.map bJ) [(2, .ptr 0 0),(4, .ptr 1 0),(5, .ptr 2 0),(11, .int .i64 (procs.length:Int)),(12, .int .i64 (done.length:Int))] [bK ⟨globals,procs⟩,[.junk, .junk],[.slice .shared 1 (globals.map encStr), .slice .shared 5 (done.map bJ)]]
    (by rw[hB];exact Nat.zero_le _) rfl ⟨10,_, .inl rfl⟩ (fun row hr=>by obtain⟨a,_,rfl⟩:=List.mem_map.1 hr;rfl) ?_ ?_ (bo.kj ?_)
   ·simp only [go_sem]
    repeat' (first|exact Ok.out|with_reducible refine jD ?_ ?_)
   ·show iu [CI _ _ _ _ _ (bK _),CI _ _ _ _ _ [.junk, .junk],CI _ _ _ _ _ [.slice .shared 1 _, .dH _ _ _ _]] _
    simp only[go_sem,QU,and_self,if_true]
    exact Ok.out
   ·repeat' (first
 |simp only[go_sem,hD,gA,gB,gC]
 |(with_reducible refine CU (UJ _) ?_)
 | (with_reducible refine aF hQ ?_;exact aP))
  | cons y rest ih=>
   intro uj done h1 h2 h3
   obtain⟨gA,g2,hD,g4⟩:=drop_cons h1
   subst h2
   have hk:done.length<4611686018427387904:=by omega
   have Fs:=Pc.cu (List.mem_of_getElem? gA)
   simp only[Pc.size]at Fs
   have P2:=fun s=>PS (id:=id) (l:=y.body) (by omega) s
   obtain⟨b,hb⟩ : ∃ b,Sm.dG 2 id y.body=b:=⟨_,rfl⟩
   have h3':done++ {y with body:=b}::rest.map (Pc.kP 2 id)=R:=by rw[← h3, ← hb];rfl
   rw[hb]at P2
   have yS:gR (((done++Pc.fS (fD fU) y::rest.map (Pc.fS (fD fU))).map bJ).flatten) (done.length*5+3) [.slice .shared 13 (b.map a8)] =
    ((done++ {y with body:=b}::rest.map (Pc.fS (fD fU))).map bJ).flatten:=Hv bJ 5 (fun f=>rfl) done _ (Pc.fS (fD fU) y) {y with body:=b} 3 _ rfl (by simp)
   have ib:done.length*5+3+1≤(((done++Pc.fS (fD fU) y::rest.map (Pc.fS (fD fU))).map bJ).flatten).length:=by rw[OF];simp;omega
   have IH:=ih (rest.map (Pc.fS (fD fU))) (done++ [{y with body:=b}]) (by rw[List.length_append];exact g2) rfl (by rw[← h3'];simp)
   have e7:(done++ [{y with body:=b}]).length=done.length+1:=by simp
   have e8:done++ [{y with body:=b}]++rest.map (Pc.fS (fD fU))=done++ {y with body:=b}::rest.map (Pc.fS (fD fU)):=by simp
   rw[e7,e8]at IH
   generalize done++ {y with body:=b}::rest.map (Pc.fS (fD fU))=L2 at *
   rw[List.map_cons]
   generalize done++Pc.fS (fD fU) y::rest.map (Pc.fS (fD fU))=L1 at *
   clear ih
   refine bo.kj ?_
   repeat' (first
 |simp only[go_sem,hD,gA,gB,gC,g4,yS,ib]
 |(with_reducible refine CU (P2 _) ?_)
 | (with_reducible refine aF hQ ?_;exact aP))
   refine eQ 4 0 ?_ ?_ (IH)
   ·(simp only[go_sem,hD,gA,gB,gC,aM hk];try exact bQ)
   ·(simp only[go_sem,hD,gA,gB,gC,aM hk];try exact bQ)
 repeat' (first
 |simp only[go_sem,hD,gA,gB,gC]
 |(with_reducible refine CU (Bn _) ?_)
 |(with_reducible refine aF hQ ?_;exact aP))
 have AV:=bo.Tp (P:=Tryz.prog) (a:=Q7R) (Q:=iN 0 (lz (jU Tryz.prog B 31 Q7W Q) Q)) (nt:=31) (tm:= [(1, .int .i64 id),(2, .ptr 0 0),(4, .ptr 1 0),(5, .ptr 3 0),(10, .dH 5 2 g procs.length),(11, .int .i64 (procs.length:Int)),(12, .int .i64 ((0:Nat):Int))])
  (s:=⟨[bK ⟨globals,procs⟩,[.junk, .junk],JH g C,[.slice .shared 1 (globals.map encStr), .dH 5 2 g procs.length]],[]⟩)
  hB [0,1,3,2] _ _ (by decide) (by simp) (by simp[xJ,D.fc,D.cO,D.bF,D.ok,Tag.cO,Tag.ok,AW,EL,Hx,py,DM,uL,uM,xi]) (by simp[AU,Tm.get,D.cO,D.ok,Tag.cO,Tag.ok,BJ,EM])
  (loop procs C [] rfl XS (by simpa using hR))
 refine fz 4 0 (AV)
set_option maxRecDepth 8000
open Go.Proofs
mutual
def Sm.leave:Sm→Bool
 |⟨_,kind,labels,_,_,_,_,_,aO,aN⟩=>kind==7 ||(kind==8 ||(kind==10 ||(decide ((labels.length:Int) > 0) ||(Sm.leaves aO ||Sm.leaves aN))))
def Sm.leaves:List Sm→Bool
 | []=>false
 |s::l=>if s.leave then true else Sm.leaves l
end
mutual
theorem abe : ∀ s:Sm,s.leave=false→∀ v∈s.pre,v.kind≠7∧v.kind≠8∧v.kind≠10∧v.labels = []
 |⟨id,kind,labels,name,proc,x,has,args,aO,aN⟩,h,v,m=>by
  simp only[Sm.leave,Bool.or_eq_false_iff,beq_eq_false_iff_ne,ne_eq,decide_eq_false_iff_not]at h
  obtain⟨h1,h2,h3,h4,h5,h6⟩:=h
  simp only[Sm.pre,List.mem_cons,List.mem_append]at m
  rcases m with rfl|m|m
  ·exact⟨h1,h2,h3,List.eq_nil_of_length_eq_zero (by dsimp only;omega)⟩
  ·exact zE aO h5 v m
  ·exact zE aN h6 v m
theorem zE : ∀ l:List Sm,Sm.leaves l=false→∀ v∈Sm.bH l,v.kind≠7∧v.kind≠8∧v.kind≠10∧v.labels = []
 | [],_,v,m=>by simp[Sm.bH]at m
 | s::l,h,v,m=>by
  simp only[Sm.leaves]at h
  split at h
  ·cases h
  ·rename_i c
   simp only[Sm.bH,List.mem_append]at m
   rcases m with m|m
   ·exact abe s (by simpa using c) v m
   ·exact zE l h v m
end
abbrev Q8 (N:Nat):Prop:=∀ l:List Sm,Sm.aS l<N→∀ s:St,aH Tryz.prog mV [.slice .shared 13 (l.map a8)] s (.bool (Sm.leaves l)) s
theorem PU {N:Nat} (hN:N<10000000) (ih:Q8 N) (l:List Sm) (hl:Sm.aS l<N+1):aH Tryz.prog mV [.slice .shared 13 (l.map a8)] S0 (.bool (Sm.leaves l)) S0:=by
 have hlen:l.length<10000001:=by have:=Sm.dr l;omega
 generalize hR:Sm.leaves l=R
 unfold S0
 refine aH.go Gf rfl fun B Q hB hQ=>?_
 have⟨hD,gA,gB,gC⟩:=bP
 repeat' (first
 |simp only[go_sem,hD,gA,gB,gC]
 |(with_reducible refine aF hQ ?_;exact aP))
 refine fz 0 0 (bo.ind (ι:=List Sm×Nat) (fun i=>l.drop i.2=i.1∧Sm.leaves i.1=R) (fun i=>i.1.length)
  (fun i=> [(5, .slice .shared 13 (l.map a8)),(6, .int .i64 (l.length:Int)),(7, .int .i64 (i.2:Int))]) (fun i=>⟨[],[]⟩) ?_ (l,0) ⟨rfl,hR⟩)
 rintro⟨rest,k⟩ ⟨h1,h3⟩ IH
 dsimp only at h1 h3
 cases rest with
 |nil=>
  have hD:=drop_nil h1
  simp only[Sm.leaves]at h3
  subst h3
  repeat' (first
 |simp only[go_sem,hD,gA,gB,gC]
 |(with_reducible refine aF hQ ?_;exact aP))
 | cons y rest=>
  obtain⟨gA,g2,hD,g4⟩:=drop_cons h1
  have hk:k<4611686018427387904:=by omega
  have dL:y.size≤N:=by have:=Sm.cu (List.mem_of_getElem? gA);omega
  obtain⟨id,kind,labels,name,proc,x,has,args,aO,aN⟩:=y
  simp only[Sm.size]at dL
  simp only[Sm.leaves,Sm.leave]at h3
  have c1:=ih aO (by omega)
  have c2:=ih aN (by omega)
  rcases Bool.eq_false_or_eq_true (kind==7)with b1|b1
  ·simp only [b1,Bool.true_or,if_true]at h3
   subst h3
   repeat' (first
 |simp only[go_sem,hD,gA,gB,gC,b1,cy]
 | (with_reducible refine aF hQ ?_;exact aP))
  rcases Bool.eq_false_or_eq_true (kind==8)with b2|b2
  ·simp only [b1,b2,Bool.true_or,Bool.false_or,if_true]at h3
   subst h3
   repeat' (first
 |simp only[go_sem,hD,gA,gB,gC,b1,b2,cy]
 | (with_reducible refine aF hQ ?_;exact aP))
  rcases Bool.eq_false_or_eq_true (kind==10)with b3|b3
  ·simp only [b1,b2,b3,Bool.true_or,Bool.false_or,if_true]at h3
   subst h3
   repeat' (first
 |simp only[go_sem,hD,gA,gB,gC,b1,b2,b3,cy]
 | (with_reducible refine aF hQ ?_;exact aP))
  rcases Bool.eq_false_or_eq_true (decide ((labels.length:Int) > 0))with b4|b4
  ·simp only [b1,b2,b3,b4,Bool.true_or,Bool.false_or,if_true]at h3
   subst h3
   repeat' (first
 |simp only[go_sem,hD,gA,gB,gC,b1,b2,b3,b4,cy]
 | (with_reducible refine aF hQ ?_;exact aP))
  rcases Bool.eq_false_or_eq_true (Sm.leaves aO)with b5|b5
  ·simp only [b1,b2,b3,b4,b5,Bool.true_or,Bool.false_or,if_true]at h3
   subst h3
   rw[b5]at c1
   repeat' (first
 |simp only[go_sem,hD,gA,gB,gC,b1,b2,b3,b4,cy]
 |(with_reducible refine CU (c1 _) ?_)
 | (with_reducible refine aF hQ ?_;exact aP))
  rw[b5]at c1
  rcases Bool.eq_false_or_eq_true (Sm.leaves aN)with b6|b6
  ·simp only [b1,b2,b3,b4,b5,b6,Bool.true_or,Bool.false_or,if_true]at h3
   subst h3
   rw[b6]at c2
   repeat' (first
 |simp only[go_sem,hD,gA,gB,gC,b1,b2,b3,b4,cy]
 |(with_reducible refine CU (c1 _) ?_)
 |(with_reducible refine CU (c2 _) ?_)
 | (with_reducible refine aF hQ ?_;exact aP))
  ·simp only [b1,b2,b3,b4,b5,b6,Bool.false_or,Bool.false_eq_true,if_false]at h3
   rw[b6]at c2
   repeat' (first
 |simp only[go_sem,hD,gA,gB,gC,b1,b2,b3,b4,cy]
 |(with_reducible refine CU (c1 _) ?_)
 |(with_reducible refine CU (c2 _) ?_)
 | (with_reducible refine aF hQ ?_;exact aP))
   refine eQ 0 0 ?_ ?_ (IH (rest,k+1) ⟨g2,h3⟩ (Nat.lt_succ_self _))
   ·(simp only[go_sem,hD,gA,gB,gC,aM hk];try exact bQ)
   ·(simp only[go_sem,hD,gA,gB,gC,aM hk];try exact bQ)
theorem UK : ∀ N,N<10000000→Q8 N:=by
 intro N
 induction N with
 |zero=>intro _ l hl;exact absurd hl (Nat.not_lt_zero _)
 |succ N ih=>
  intro hN l hl s
  exact(PU (by omega) (ih (by omega)) l hl).pure (by simp[D.bF,D.ok,Tag.ok,kY]) rfl s
mutual
theorem XZ {v:Sm} : ∀ s:Sm,v∈s.pre→v.size≤s.size
 | ⟨id,kind,labels,name,proc,x,has,args,aO,aN⟩,m=>by
  rw[Sm.np]at m
  rcases List.mem_cons.1 m with rfl|m
  ·exact Nat.le_refl _
  ·simp only [Sm.size]
   rcases List.mem_append.1 m with m|m
   ·have:=xh aO m;omega
   ·have:=xh aN m;omega
theorem xh {v:Sm} : ∀ l:List Sm,v∈Sm.bH l→v.size≤Sm.aS l
 |s::l,m=>by
  simp only[Sm.bH]at m
  simp only[Sm.aS]
  rcases List.mem_append.1 m with m|m
  ·have:=XZ s m;omega
  ·have:=xh l m;omega
end
theorem OQ (p:Pg) (T:List Int) (fuel n:Int) (s:St):aH Tryz.prog xL [.agg (bK p), .slice .shared 1 (T.map cB), .int .i64 fuel, .int .i64 n] s (.bool true) s:=by
 refine aH.pure ?_ (by simp[D.bF,D.ok,Tag.ok,iP,jr]) rfl s
 have h1:=fun s=>am9 s
 have h2:=fun s=>aiQ p s
 unfold S0
 rcases Bool.eq_false_or_eq_true (decide (p.EY≤20000))with hw|hw
 case inr=>
  simp only[hw]at h2
  refine aH.go kh rfl fun B Q hB hQ=>?_
  have⟨hD,gA,gB,gC⟩:=bP
  repeat' (first
 |simp only[go_sem,hD,gA,gB,gC]
 |(with_reducible refine CU (h1 _) ?_)
 |(with_reducible refine CU (h2 _) ?_)
 |(with_reducible refine aF hQ ?_;exact aP))
 simp only[hw]at h2
 obtain⟨dL,ado⟩:=T4 (of_decide_eq_true hw)
 have ho:p.jE:=⟨ado,by omega⟩
 have h3:=fun s=>afn ho T fuel s
 rcases Bool.eq_false_or_eq_true (p.check.1==0 && (decide (0≤fuel) && (decide (fuel≤400) && decide ((T.length:Int)≤100))))with b1|b1
 case inr=>
  rw[b1]at h3
  refine aH.go kh rfl fun B Q hB hQ=>?_
  have⟨hD,gA,gB,gC⟩:=bP
  repeat' (first
 |simp only[go_sem,hD,gA,gB,gC]
 |(with_reducible refine CU (h1 _) ?_)
 |(with_reducible refine CU (h2 _) ?_)
 |(with_reducible refine CU (h3 _) ?_)
 |(with_reducible refine aF hQ ?_;exact aP))
 rw[b1]at h3
 obtain⟨hc,f0,f1,hT1⟩:=aaU b1
 have hr:=Gv hc
 obtain⟨td,p8,sT⟩:=ho.procs
 have Bg:p.all.length≤1000:=by have:=(Bf hr.may).1;omega
 have h4:=fun s=>ac1 (p:=p) (by omega) Bg 6 s
 have h5:=fun s=>aiI (l:=kr 6 p.all) (by have:=Cc 6 p.all;omega) n s
 by_cases hz:pP (kr 6 p.all) n=0
 ·have c1:(pP (kr 6 p.all) n==0)=true:=by simp [hz]
  refine aH.go kh rfl fun B Q hB hQ=>?_
  have⟨hD,gA,gB,gC⟩:=bP
  repeat' (first
 |simp only[go_sem,hD,gA,gB,gC,c1]
 |(with_reducible refine CU (h1 _) ?_)
 |(with_reducible refine CU (h2 _) ?_)
 |(with_reducible refine CU (h3 _) ?_)
 |(with_reducible refine CU (h4 _) ?_)
 |(with_reducible refine CU (h5 _) ?_)
 |(with_reducible refine aF hQ ?_;exact aP))
 have c1:(pP (kr 6 p.all) n==0)=false:=by simpa using hz
 obtain⟨v,hv,v1,v2,v3⟩:=ajR hr.may (by decide) hz
 generalize pP (kr 6 p.all) n=id at *
 have iL:=fun s=>aiM (p:=p) (by omega) (by omega) id s
 rw[v3]at iL
 have pW:Sm.aS v.aO<9999999:=by
  have h1:v∈p.pre:=hv
  simp only[Pg.pre,List.mem_flatten,List.mem_map]at h1
  obtain⟨_,⟨f,hf,rfl⟩,m⟩:=h1
  have h2:=xh f.body m
  have h3:=Pc.cu hf
  simp only[Pc.size]at h3
  have:Sm.aS v.aO≤v.size:=by cases v;simp only[Sm.size];omega
  omega
 have Mm:=fun s=>UK 9999999 (by omega) v.aO pW s
 have ef:(a8 v)[11]? = some (.slice .shared 13 (v.aO.map a8)):=by cases v;simp only[cy];rfl
 rcases Bool.eq_false_or_eq_true (Sm.leaves v.aO)with c3|c3
 ·rw [c3]at Mm
  refine aH.go kh rfl fun B Q hB hQ=>?_
  have⟨hD,gA,gB,gC⟩:=bP
  repeat' (first
 |simp only[go_sem,hD,gA,gB,gC,c1,ef]
 |(with_reducible refine CU (h1 _) ?_)
 |(with_reducible refine CU (h2 _) ?_)
 |(with_reducible refine CU (h3 _) ?_)
 |(with_reducible refine CU (h4 _) ?_)
 |(with_reducible refine CU (h5 _) ?_)
 |(with_reducible refine CU (iL _) ?_)
 |(with_reducible refine CU (Mm _) ?_)
 |(with_reducible refine aF hQ ?_;exact aP))
 rw[c3]at Mm
 have hqs:(p.kP 2 id).number.size≤3*p.size:=by rw[Pg.Ey];exact Ez hr.may 2 id
 have hq0:(p.kP 2 id).size≤3*p.size:=Ez hr.may 2 id
 have h6:=fun s=>PT (p:=p) (by omega) (XY hr) id (by omega) s
 have H : ∀ w∈p.pre,w.id=id→FL 2 w:=fun w hw e=>⟨fun h=>absurd h (by decide),fun _=>by
  have:w=v:=ajS hr.may hw hv (e.trans v1.symm)
  subst this
  exact⟨v2,zE _ c3,Ew (EX hr.may w hw) (by omega)⟩⟩
 have anj:=fun hq=>abb (k:=2) hr hq H (fun h=>absurd h (by decide))
 have h7:=fun s=>HR (XX ado (by omega) hr.may 2 id) s
 rw[Be]at h7
 generalize (p.kP 2 id).number=q at *
 rcases Bool.eq_false_or_eq_true q.may with c2|c2
 case inr=>
  refine aH.go kh rfl fun B Q hB hQ=>?_
  have⟨hD,gA,gB,gC⟩:=bP
  repeat' (first
 |simp only[go_sem,hD,gA,gB,gC,c1,c2,ef,Bool.not_false]
 |(with_reducible refine CU (h1 _) ?_)
 |(with_reducible refine CU (h2 _) ?_)
 |(with_reducible refine CU (h3 _) ?_)
 |(with_reducible refine CU (h4 _) ?_)
 |(with_reducible refine CU (h5 _) ?_)
 |(with_reducible refine CU (iL _) ?_)
 |(with_reducible refine CU (Mm _) ?_)
 |(with_reducible refine CU (h6 _) ?_)
 |(with_reducible refine CU (h7 _) ?_)
 |(with_reducible refine aF hQ ?_;exact aP))
 have hM:=anj c2
 have hoq:q.jE:=⟨Kn c2 (by omega),by omega⟩
 have hcq:(q.check.1==0)=true:=by rw[hM.right'.check];rfl
 have h8:=fun s=>Oh hoq s
 obtain⟨m,hm⟩:=XE (T:=T) hc f0 (by omega)
 obtain⟨m',xm⟩:=XE (T:=T) hcq f0 (by omega)
 have hlq:q.all.length≤1000:=by have:=(Bf c2).1;omega
 have h9:=fun s=>IC ho Bg (T:=T) (by omega) fuel s
 rw[hm.whole]at h9
 have OD:=fun s=>IC hoq hlq (T:=T) (by omega) fuel s
 rw[xm.whole]at OD
 have h11:=fun s=>afj (a:=m) (b:=m') hm.len s
 rw[hM.same hm xm]at h11
 rw[hcq]at h8
 refine aH.go kh rfl fun B Q hB hQ=>?_
 have⟨hD,gA,gB,gC⟩:=bP
 repeat' (first
 |simp only[go_sem,hD,gA,gB,gC,c1,c2,ef,Bool.not_true]
 |(with_reducible refine CU (h1 _) ?_)
 |(with_reducible refine CU (h2 _) ?_)
 |(with_reducible refine CU (h3 _) ?_)
 |(with_reducible refine CU (h4 _) ?_)
 |(with_reducible refine CU (h5 _) ?_)
 |(with_reducible refine CU (iL _) ?_)
 |(with_reducible refine CU (Mm _) ?_)
 |(with_reducible refine CU (h6 _) ?_)
 |(with_reducible refine CU (h7 _) ?_)
 |(with_reducible refine CU (h8 _) ?_)
 |(with_reducible refine CU (h9 _) ?_)
 |(with_reducible refine CU (OD _) ?_)
 |(with_reducible refine CU (h11 _) ?_)
 |(with_reducible refine aF hQ ?_;exact aP))
def M0:Map:=⟨fun _ _=>none,fun _=>(0, .any),fun _=>none⟩
def Kept (w w':World):Prop:=w.keptBut w' (fun _=>False)∧∀ a:Addr,a.block<w.heap.size→w'.frozen? a=w.frozen? a
theorem Kept.frame {w w':World} (h:Kept w w') (may:MemPlace→Prop):w.keptBut w' may:=World.keptBut_mono (fun _ f=>f.elim) h.1
theorem Ext.ajT {M M':Map} {s':St} {w w':World} (e:Ext M S0 w M' s' w'):Kept w w':=by
 have hh : ∀ b,b<w.heap.size→w'.heap[b]? = w.heap[b]? :=fun b hb=>
  e.kept b hb (fun o ho=>by simp[S0]at ho) (fun t c z hl=>by obtain⟨n,hn⟩:=hl;simp[S0]at hn)
 refine⟨⟨e.os,e.output,fun i hi=>?_⟩,fun a ha=>?_⟩
 ·rw [hh i hi]
  exact(World.keptBut_refl w (fun _=>False)).2.2 i hi
 ·simp only[World.frozen?,hh _ ha]
theorem avk (G:Nat→Nat→Option Value) (w:World) (h : ∀ b o v,G b o=some v→w.cell? ⟨b,o,none⟩=some v∧v.oneCell'=true):Rel ⟨G,fun _=>(0, .any),fun _=>none⟩ S0 w:=
 ⟨h,fun o ds e=>by simp [S0]at e,fun o ho=>by simp [S0]at ho,fun o o' ho=>by simp [S0]at ho,fun t n e=>by simp [S0]at e,
  fun t b c z o hl=>by obtain⟨n,hn⟩:=hl;simp[S0]at hn,fun t t' b c z c' z' hl=>by obtain⟨n,hn⟩:=hl;simp[S0]at hn⟩
def UL (w:World):Prop:=∀ g cs,afI g=some cs→∃ T fr,w.heap[g]? = some (.cells cs T fr)
theorem ank (G:Nat→Nat→Option Value) {w:World} (h:UL w):Laid ⟨G,fun _=>(0, .any),fun _=>none⟩ S0 w:=
 fun g cs hg=>⟨h g cs hg,fun o ho=>by simp[S0]at ho,fun t c z hl=>by obtain⟨n,hn⟩:=hl;simp[S0]at hn⟩
theorem X0 {P:Program} {f:FuncId} {args:List D} {gw:Array Value} {w:World} {G:Nat→Nat→Option Value} (h:bS P f args S0 fun d _=>d = .bool true)
 (hG : ∀ b o v,G b o=some v→w.cell? ⟨b,o,none⟩=some v∧v.oneCell'=true) (hl:gw.size=args.length)
 (ha : ∀ (i:Nat) (d:D) (v:Value),args[i]? = some d→gw[i]? = some v→RD ⟨G,fun _=>(0, .any),fun _=>none⟩ S0 d v) (kX:UL w) :
 Calls P f gw w fun e w'=>e = .returned (.bool true)∧Kept w w':=by
 refine(h _ w gw (avk G w hG) (ank G kX) hl ha).mono fun e w' hw=>?_
 obtain⟨M',d,v,s',rfl,rfl,he,_,hv⟩:=hw
 rw[hv.pF]
 exact⟨rfl,he.ajT⟩
section
variable {P:Program} {H:Type} {enc:TypeId×Value→H}
theorem OR {f:Func} {s:ChangeSpec} {apart fresh handsOn again:Bool} {W W':World} {args:Array Value} {v:Value} {ds gs:List (DataW H)} {before pa pv:List MemPlace}
 (hW:DataW.Whole enc P f.params.toList s.vars apart W args.toList ds gs before)
 (UE : ∀ (b:Nat) (sp:Nat→Bool) (hd:Bool),DataW.TrodAll enc P W' b sp hd f.resultTypes.toList (v.resultList f.resultTypes.size) (s.fn H (ds++gs)).results [])
 (BE : ∀ sp:Nat→Bool,(∀ p∈before,sp p.block=true)→DataW.TrodAll enc P W' 0 sp true f.params.toList args.toList (s.fn H (ds++gs)).args pa)
 (Cl : ∀ sp:Nat→Bool,(∀ p∈before,sp p.block=true)→DataW.TrodVars enc P W' sp s.vars (s.fn H (ds++gs)).vars pv)
 (p8:before=pa++pv) (hk:Kept W W')
 (nU : ∀ (j:Nat) (t:TypeId) (r:Value),f.resultTypes[j]? = some t→(v.resultList f.resultTypes.size)[j]? = some r→Value.okWide P W' .any 0 t r) :
 s.post enc P f apart fresh handsOn again W args v W':=by
 have hD : ∀ p∈before,p.block<W.heap.size:=fun p hp=>hW.lt p hp
 have hold : ∀ p∈before,(fun b=>decide (b<W.heap.size)) p.block=true:=fun p hp=>by simpa using hD p hp
 refine⟨ds,gs,before,[],pa,pv,hW,UE _ _ _,BE _ hold,Cl _ hold,World.keptBut_mono (fun p hp=>⟨hp, ?_⟩) (hk.frame (· ∈before)),fun _=>?_⟩
 ·rw [p8,List.mem_append]at hp
  exact Or.inr hp
 ·obtain⟨_,_,_,_,_,hz,hn⟩:=hW
  refine⟨nU,_,_,([]++pa)++pv,⟨[]++pa,pv,ChangeShapes.trodAll_append (BE _ (fun _ _=>rfl)) (UE _ _ _),Cl _ (fun _ _=>rfl),rfl, ?_, ?_⟩, ?_⟩
  ·intro b off hp
   have oA:MemPlace.cell b off∈before:=by rw[p8];simpa using hp
   rw[hk.2 _ (hD _ oA)]
   exact hz b off oA
  ·intro ha
   have:=hn ha
   rw[p8]at this
   simpa using this
  ·intro p hp _
   rw[p8]
   simpa using hp
end
end Go.Abs
namespace Go.Abs
open Go.RowKit Go.ChangeShapes Go.WideShapes
def EA (w:World) (b o:Nat):Option Value:=
 match w.cell? ⟨b,o,none⟩with
 |some v=>if v.oneCell'=true then some v else none
 |none=>none
theorem Q9 {w:World} (b o:Nat) (v:Value) (h:EA w b o=some v):w.cell? ⟨b,o,none⟩=some v∧v.oneCell'=true:=by
 unfold EA at h
 split at h
 ·split at h
  ·cases h;exact⟨‹_›, ‹_›⟩
  ·cases h
 ·cases h
def u6 (w:World):Map:=⟨EA w,fun _=>(0, .any),fun _=>none⟩
theorem Kept.sameAt {w w':World} (h:Kept w w') {p:MemPlace} (hp:p.block<w.heap.size):w.sameAt w' p:=by
 have hk:=h.1.2.2 p.block hp
 cases p with
 | cell b off=>
  simp only[MemPlace.block]at hk hp
  simp only[World.sameAt,World.cell?]
  split at hk
  ·rename_i c t fr c' t' QM e e'
   rw[e,e']
   simp only[hk.2.2.2 off (fun f=>f)]
  ·rename_i es clock DA ajU e e'
   rw[e,e']
  ·rw[hk]
 | map b=>
  simp only[MemPlace.block]at hk hp
  simp only[World.sameAt]
  split at hk
  ·rename_i c t fr c' t' QM e e'
   rw[e,e']
   obtain⟨rfl,rfl,hs,hc⟩:=hk
   have:c'=c:=by
    apply Array.ext_getElem?
    intro i
    exact hc i (fun f=>f)
   rw[this]
  ·rename_i es clock DA ajU e e'
   rcases hk with f|⟨rfl,rfl⟩
   ·exact f.elim
   ·rw[e,e']
  ·exact hk
section
variable {P:Program} {H:Type} {enc:TypeId×Value→H} {T:TypeId→Prop}
theorem IS (K:Kids P T) (hz : ∀ {t e:TypeId},T t→P.underlying t=some (.slice e)→0<P.cellsOf e) {W W':World} (hk:Kept W W') {sp:Nat→Bool} :
 ∀ {ts:List TypeId} {vs:List Value} {ds:List (DataW H)} {ps:List MemPlace},(∀ t∈ts,T t)→(∀ p∈ps,p.block<W.heap.size)→(∀ p∈ps,sp p.block=true)→
  DataW.TrodAll enc P W 0 (fun _=>true) true ts vs ds ps→DataW.TrodAll enc P W' 0 sp true ts vs ds ps
 | [],[],[],_,_,_,_,h=>h
 |t::ts,v::vs,d::ds,ps,hT,hD,hs,⟨p,q,⟨n,h1⟩,h2,e⟩=>by
  subst e
  refine⟨p,q,⟨n,DataW.trod_stays K hz (fun f=>by cases f) (hT t (List.mem_cons_self ..)) h1 (fun x hx=>hk.sameAt (hD x (List.mem_append_left _ hx))) (fun x hx=>hs x (List.mem_append_left _ hx))⟩, ?_,rfl⟩
  exact IS K hz hk (fun t ht=>hT t (List.mem_cons_of_mem _ ht)) (fun x hx=>hD x (List.mem_append_right _ hx)) (fun x hx=>hs x (List.mem_append_right _ hx)) h2
 | [],[],_::_,_,_,_,_,h=>h.elim
 | [],_::_,_,_,_,_,_,h=>h.elim
 |_::_,[],_,_,_,_,_,h=>h.elim
 |_::_,_::_,[],_,_,_,_,h=>h.elim
theorem abf (K:Kids P T) (hz : ∀ {t e:TypeId},T t→P.underlying t=some (.slice e)→0<P.cellsOf e) {f:Func} {s:ChangeSpec} {apart fresh handsOn again:Bool} {tb:TypeId} {W W':World} {args:Array Value} {ds gs:List (DataW H)} {before:List MemPlace}
 (hT : ∀ t∈f.params.toList,T t) (hb:P.underlying tb=some .bool) (hr:f.resultTypes = #[tb]) (Cl:s.vars = []) (hW:DataW.Whole enc P f.params.toList s.vars apart W args.toList ds gs before)
 (CW:s.fn H (ds++gs) = {results:= [.lit (.bool true)],args:=ds}) (hk:Kept W W'):s.post enc P f apart fresh handsOn again W args (.bool true) W':=by
 have hW':=hW
 have hD : ∀ p∈before,p.block<W.heap.size:=fun p hp=>hW.lt p hp
 obtain⟨p,q,hA,hV,rfl,hfz,Ix⟩:=hW
 rw[Cl]at hV
 obtain⟨rfl,rfl⟩:=trodVars_none hV
 simp only[List.append_nil]at hD CW
 refine OR (pa:=p) (pv:= []) hW' (fun b sp hd=>?_) (fun sp yS=>?_) (fun sp yS=>?_) rfl hk (ok_one hr rfl (okWide_bool_mk hb _))
 ·rw [List.append_nil,CW,hr]
  exact trodAll_cons_mk (shut_bool hb _) trodAll_mk0
 ·rw [List.append_nil,CW]
  simp only[List.append_nil]at yS
  exact IS K hz hk hT hD yS hA
 ·rw [List.append_nil,CW,Cl]
  rfl
theorem afs {f:FuncId} {args:List D} {gw:Array Value} {w:World} (h:bS P f args S0 fun d _=>d = .bool true) (hl:gw.size=args.length)
 (ha : ∀ (i:Nat) (d:D) (v:Value),args[i]? = some d→gw[i]? = some v→RD (u6 w) S0 d v) (kX:UL w):Calls P f gw w fun e w'=>e = .returned (.bool true)∧Kept w w':=
 X0 (G:=EA w) h Q9 hl ha kX
end
end Go.Abs
namespace Go.Abs
open Go.Proofs
def qZ (n:Int):List D:= [.int .i64 n]
theorem anl (n:Int):D.bF 0 0 (qZ n)=true:=rfl
theorem ajW (n m:Nat) (l:List Int):D.lR n m (l.map qZ)=l.map qZ:=nI anl n m l
attribute [go_sem] qZ ajW
def anm (op:Int):aK:=
 if op=5 then [42]else if op=6 then [47]else if op=7 then [37]else if op=8 then [43]else if op=9 then [45]else if op=10 then [60]else if op=11 then [60,61]
 else if op=12 then [62]else if op=13 then [62,61]else if op=14 then [61,61]else if op=15 then [33,61]else if op=16 then [38,38]else [124,124]
def aCv (op:Int):Int:=(ah5 (anm op)).1
def X1:Nat→List aK
 | 0=> []
 |n+1=>X1 n++ [[UInt8.ofNat (97+n)]]
end Go.Abs
namespace Go.Abs
open Go.RowKit Go.ChangeShapes Go.WideShapes
theorem aft {W:World} {a:Addr} {len cap:Nat} {zs:List Int} (hl:len≤cap) (hz:len≤zs.length) (hc : ∀ i,i<zs.length→W.cell? (a.add i)=some (.int .i64 (zs.getD i 0))) :
 RD (u6 W) S0 (.slice .shared 1 ((zs.take len).map qZ)) (.slice (some a) len cap):=by
 by_cases h0:len=0
 ·subst h0
  exact .mX _ _ _
 ·obtain⟨b,off,rfl,jA⟩:=Go.ints_at hc (by omega)
  have hlen:((zs.take len).map qZ).length=len:=by simp;omega
  have e:((zs.take len).map qZ).length=len:=hlen
  have key : ∀ (i:Nat) (row:List D) (j:Nat) (d:D),((zs.take len).map qZ)[i]? = some row→row[j]? = some d→(u6 W).G b (off+(i*1+j))=some (.int .i64 (zs.getD i 0))∧d = .int .i64 (zs.getD i 0):=by
   intro i row j d h1 h2
   rw[List.getElem?_map,Option.map_eq_some_iff]at h1
   obtain⟨n,h1,rfl⟩:=h1
   rw[List.getElem?_take]at h1
   split at h1
   ·rename_i hi
    have hd:zs.getD i 0=n:=by rw[List.getD_eq_getElem?_getD,h1];rfl
    have px:i<zs.length:=(List.getElem?_eq_some_iff.1 h1).1
    cases j with
    |zero=>
     simp[qZ]at h2
     subst h2
     refine⟨?_,by rw[hd]⟩
     have:=jA i px
     show EA W b (off+(i*1+0))=_
     unfold EA
     rw[show off+(i*1+0)=off+i by omega,this]
     rfl
    |succ j=>simp[qZ]at h2
   ·cases h1
  have:=RD.slice (M:=u6 W) (s:=S0) .shared 1 ((zs.take len).map qZ) b off cap (by omega) (fun row hr=>by obtain⟨n,_,rfl⟩:=List.mem_map.1 hr;rfl)
   (fun i row j d h1 h2=>⟨_,(key i row j d h1 h2).1⟩) (fun i row j d u h1 h2 hu=>by
    obtain⟨k1,k2⟩:=key i row j d h1 h2
    rw[k1]at hu
    cases hu
    rw[k2]
    exact .int _ _) trivial
  rw[hlen]at this
  exact this
end Go.Abs
namespace Go.Abs
open Go.RowKit Go.ChangeShapes Go.WideShapes
def fY (W:World) (ds:List D) (cs:List Value):Prop:=ds.length=cs.length∧(∀ (i:Nat) (d:D) (v:Value),ds[i]? = some d→cs[i]? = some v→RD (u6 W) S0 d v)∧∀ v∈cs,v.oneCell'=true
theorem fY.one {W:World} {d:D} {v:Value} (h:RD (u6 W) S0 d v) (hv:v.oneCell'=true):fY W [d] [v]:=by
 refine⟨rfl,fun i d' v' h1 h2=>?_,fun u hu=>by simp at hu;subst hu;exact hv⟩
 cases i with
 |zero=>simp at h1 h2;subst h1 h2;exact h
 |succ i=>simp at h1
theorem fY.app {W:World} {ds pk:List D} {cs kT:List Value} (h:fY W ds cs) (h':fY W pk kT):fY W (ds++pk) (cs++kT):=by
 obtain⟨a1,a2,a3⟩:=h
 obtain⟨b1,b2,b3⟩:=h'
 refine⟨by simp[a1,b1],fun i d v h1 h2=>?_,fun v hv=>?_⟩
 ·by_cases hi:i<ds.length
  ·rw [List.getElem?_append_left hi]at h1
   rw[List.getElem?_append_left (by omega)]at h2
   exact a2 i d v h1 h2
  ·rw [List.getElem?_append_right (by omega)]at h1
   rw[List.getElem?_append_right (by omega), ← a1]at h2
   exact b2 _ d v h1 h2
 ·rcases List.mem_append.1 hv with hv | hv
  ·exact a3 v hv
  ·exact b3 v hv
theorem fY.at {W:World} {ds pk:List D} {cs:List Value} {o n:Nat} (h:fY W ds ((cs.drop o).take n)) (h':fY W pk (cs.drop (o+n))):fY W (ds++pk) (cs.drop o):=by
 have e:cs.drop o=(cs.drop o).take n++cs.drop (o+n):=by rw[← List.drop_drop,List.take_append_drop]
 rw[e]
 exact h.app h'
theorem fY.end {W:World} {cs:List Value} {o:Nat} (h:cs.length=o):fY W [] (cs.drop o):=by
 rw[← h,List.drop_length]
 exact⟨rfl,fun i d v h=>by simp at h,fun v hv=>by cases hv⟩
section
variable {H:Type} {enc:TypeId×Value→H} {P:Program} {W:World} {sp:Nat→Bool}
def structOf (P:Program) (t:TypeId):List (TypeId×Nat):=
 match P.underlying t with
 |some (.struct fs)=>fs.toList.map fun f=>(f.type,f.offset)
 |_=> []
theorem nN {t:TypeId} {l:List (TypeId×Nat)} {fuel:Nat} {cs:List Value} {x:DataW H×List MemPlace} (h:structOf P t=l) (fu:l≠ []) (ht:DataW.trod enc P W 0 sp true fuel t cs=some x) :
 ∃ n,fuel=n+1∧cs.length=P.cellsOf t∧∀ (i:Nat) (f:TypeId×Nat),l[i]? = some f→∃ y,DataW.trod enc P W 0 sp true n f.1 ((cs.drop f.2).take (P.cellsOf f.1))=some y:=by
 unfold structOf at h
 split at h
 ·rename_i fs hu
  obtain⟨xs,n,e,_,hl,hlen,hf⟩:=DataW.trod_struct hu ht
  refine⟨n,e,hl,fun i f hi=>?_⟩
  subst h
  rw[List.getElem?_map,Option.map_eq_some_iff]at hi
  obtain⟨g,hg,rfl⟩:=hi
  have nT:fs[i]? = some g:=by simpa using hg
  have hi:i<xs.length:=by rw[hlen];exact(Array.getElem?_eq_some_iff.1 nT).1
  exact⟨xs[i],by rw[hf i g nT,List.getElem?_eq_getElem hi]⟩
 ·exact absurd h.symm fu
theorem Ly {t:TypeId} {l:List (TypeId×Nat)} (h:structOf P t=l) (fu:l≠ []) : ∃ fs,P.underlying t=some (.struct fs):=by
 unfold structOf at h
 split at h
 ·exact⟨_, ‹_›⟩
 ·exact absurd h.symm fu
theorem FP {α:Type} {Q:Nat→α→Prop} : ∀ n,(∀ i,i<n→∃ y,Q i y)→∃ ys:List α,ys.length=n∧∀ i y,ys[i]? = some y→Q i y
 | 0,_=>⟨[],rfl,fun i y h=>by simp at h⟩
 | n+1,h=>by
  obtain⟨ys,h1,h2⟩:=FP n fun i hi=>h i (by omega)
  obtain⟨y,hy⟩:=h n (by omega)
  refine⟨ys++ [y],by simp[h1],fun i z hz=>?_⟩
  by_cases hi:i<ys.length
  ·rw[List.getElem?_append_left hi]at hz;exact h2 i z hz
  ·rw [List.getElem?_append_right (by omega)]at hz
   have:i - ys.length=0:=by
    rcases Nat.eq_zero_or_pos (i - ys.length)with h|h
    ·exact h
    ·rw[List.getElem?_eq_none (by simp only[List.length_cons,List.length_nil];omega)]at hz;cases hz
   rw[this]at hz
   simp at hz
   subst hz
   have:i=n:=by omega
   subst this
   exact hy
theorem q6 {α:Type} (en:α→List D) (good:α→Prop) {z:Nat} {t e:TypeId} {fuel:Nat} {cs:List Value} {x:DataW H×List MemPlace} (ht:P.underlying t=some (.slice e)) (hz:P.cellsOf e=z) (hz0:0<z) (hen : ∀ y,(en y).length=z)
 (hel : ∀ n<fuel,∀ cs x,DataW.trod enc P W 0 sp true n e cs=some x→∃ y,fY W (en y) cs∧good y) (h:DataW.trod enc P W 0 sp true fuel t cs=some x) :
 ∃ ys:List α,fY W [.slice .shared z (ys.map en)] cs∧∀ y∈ys,good y:=by
 rcases DataW.trod_slice ht h with ⟨rfl,_⟩|⟨a,len,cap,elems,rest,n,hn,rfl,_,hb,hl,hm,hlen,jA,_,_⟩
 ·exact⟨[],fY.one (.jH _ _ _ rfl trivial) rfl,fun y hy=>by cases hy⟩
 ·by_cases h0:len=0
  ·subst h0
   exact⟨[],fY.one (.mX _ _ _) rfl,fun y hy=>by cases hy⟩
  ·obtain⟨ys,hys,BH⟩:=FP (Q:=fun i y=>good y∧∃ kT,W.cells? 0 (a.add (i*z)) z=some kT∧fY W (en y) kT) len fun i hi=>by
    have hc:=jA i hi
    rw[List.getElem?_eq_getElem (by omega),hz,Option.bind_eq_some_iff]at hc
    obtain⟨kT,h1,h2⟩:=hc
    obtain⟨y,h3,h4⟩:=hel n (by omega) _ _ h2
    exact⟨y,h4,kT,h1,h3⟩
   have cell : ∀ i y,ys[i]? = some y→∀ (j:Nat) d,(en y)[j]? = some d→∃ v,W.cell? ((a.add (i*z)).add j)=some v∧RD (u6 W) S0 d v∧v.oneCell'=true:=by
    intro i y hy j d hd
    obtain⟨_,kT,h1,h2,h3,h4⟩:=BH i y hy
    obtain⟨_,k1,k2⟩:=World.cells?_some h1
    have hj:j<z:=by rw[← hen y];exact(List.getElem?_eq_some_iff.1 hd).1
    have hv:kT[j]? = some kT[j]:=List.getElem?_eq_getElem (by omega)
    exact⟨kT[j],by rw[k2 j hj,hv],h3 j d _ hd hv,h4 _ (List.getElem_mem _)⟩
   obtain⟨b,off,spot⟩:=a
   have ann:spot=none:=by
    have hy:ys[0]? = some (ys[0]'(by omega)):=List.getElem?_eq_getElem (by omega)
    obtain⟨d,hd⟩ : ∃ d,(en (ys[0]'(by omega)))[0]? = some d:=⟨_,List.getElem?_eq_getElem (show 0<(en (ys[0]'(by omega))).length by rw[hen];exact hz0)⟩
    obtain⟨v,hv,_⟩:=cell 0 _ hy 0 _ hd
    have:=World.cell?_spot hv
    simpa[Addr.add]using this
   subst ann
   have e:(ys.map en).length=len:=by simp[hys]
   have:=RD.slice (M:=u6 W) (s:=S0) .shared z (ys.map en) b off cap (by omega) (fun row hr=>by obtain⟨y,_,rfl⟩:=List.mem_map.1 hr;exact hen y)
    (fun i row j d h1 h2=>by
     rw[List.getElem?_map,Option.map_eq_some_iff]at h1
     obtain⟨y,h1,rfl⟩:=h1
     obtain⟨v,hv,_,h4⟩:=cell i y h1 j d h2
     rw[add_plain,add_plain]at hv
     refine⟨v, ?_⟩
     show EA W b (off+(i*z+j))=_
     unfold EA
     rw[show off+(i*z+j)=off+i*z+j by omega,hv]
     simp[h4])
    (fun i row j d u h1 h2 hu=>by
     rw[List.getElem?_map,Option.map_eq_some_iff]at h1
     obtain⟨y,h1,rfl⟩:=h1
     obtain⟨v,hv,h3,h4⟩:=cell i y h1 j d h2
     rw[add_plain,add_plain]at hv
     obtain⟨hu,_⟩:=Q9 _ _ _ hu
     rw[show off+(i*z+j)=off+i*z+j by omega,hv]at hu
     cases hu
     exact h3) trivial
   rw[e]at this
   refine⟨ys,fY.one this rfl,fun y hy=>?_⟩
   obtain⟨i,hi⟩:=List.getElem?_of_mem hy
   exact(BH i y hi).1
theorem IT {t:TypeId} {fuel:Nat} {cs:List Value} {x:DataW H×List MemPlace} (ht:P.underlying t=some (.int .i64)) (h:DataW.trod enc P W 0 sp true fuel t cs=some x) : ∃ n:Int,fY W [.int .i64 n] cs∧n≤9223372036854775807∧ -9223372036854775808≤n:=by
 obtain⟨n,rfl,_,hw⟩:=DataW.trod_int ht h
 simp[Lit.wf,IntKind.min,IntKind.max,IntKind.signed,IntKind.bits]at hw
 exact⟨n,fY.one (.int _ _) rfl,by omega,by omega⟩
theorem JK {t:TypeId} {fuel:Nat} {cs:List Value} {x:DataW H×List MemPlace} (ht:P.underlying t=some .bool) (h:DataW.trod enc P W 0 sp true fuel t cs=some x) : ∃ b:Bool,fY W [.bool b] cs:=by
 obtain⟨n,rfl,_⟩:=DataW.trod_bool ht h
 exact⟨n,fY.one (.bool _) rfl⟩
theorem yw {t:TypeId} {fuel:Nat} {cs:List Value} {x:DataW H×List MemPlace} (ht:P.underlying t=some .string) (h:DataW.trod enc P W 0 sp true fuel t cs=some x) : ∃ s:aK,fY W (encStr s) cs∧s.length≤maxLen:=by
 obtain⟨s,rfl,_,hm⟩:=DataW.trod_string ht h
 obtain⟨⟨l⟩⟩:=s
 exact⟨l,fY.one (.str l) rfl,hm⟩
theorem ano {tE tI tN tS tK:TypeId} (hE:structOf P tE = [(tI,0),(tN,1),(tS,2),(tK,3)]) (hEc:P.cellsOf tE=4) (hI:P.underlying tI=some (.int .i64)) (hN:P.underlying tN=some (.int .i64)) (hS:P.underlying tS=some .string) (hK:P.underlying tK=some (.slice tE))
 (cI:P.cellsOf tI=1) (cN:P.cellsOf tN=1) (cS:P.cellsOf tS=1) (cK:P.cellsOf tK=1) :
 ∀ (fuel:Nat) (cs:List Value) (x:DataW H×List MemPlace),DataW.trod enc P W 0 sp true fuel tE cs=some x→∃ y:Ex,fY W (bW y) cs∧y.tV:=by
 intro fuel
 induction fuel using Nat.strongRecOn with
 | _ fuel ih=>
  intro cs x h
  obtain⟨n,rfl,hl,hf⟩:=nN hE (by simp) h
  obtain⟨y0,h0⟩:=hf 0 _ rfl
  obtain⟨y1,h1⟩:=hf 1 _ rfl
  obtain⟨y2,h2⟩:=hf 2 _ rfl
  obtain⟨y3,h3⟩:=hf 3 _ rfl
  dsimp only at h0 h1 h2 h3
  rw[cI]at h0
  rw[cN]at h1
  rw[cS]at h2
  rw[cK]at h3
  obtain⟨op,r0,_⟩:=IT hI h0
  obtain⟨m,r1,hm,_⟩:=IT hN h1
  obtain⟨s,r2,_⟩:=yw hS h2
  obtain⟨ks,r3,hg⟩:=q6 (W:=W) bW Ex.tV hK hEc (by decide) abL (fun k hk cs x hx=>ih k (by omega) cs x hx) h3
  refine⟨⟨op,m,s,ks⟩, ?_,hm, ?_⟩
  ·have:=r0.at (r1.at (r2.at (r3.at (fY.end (by rw [hl,hEc])))))
   rw[jl]
   simpa[encStr]using this
  ·clear r3
   induction ks with
   |nil=>exact trivial
   |cons k ks ihk=>exact⟨hg k (by simp),ihk fun y hy=>hg y (by simp[hy])⟩
theorem fY.agg {ds:List D} {v:Value} (h:fY W ds v.cells.toList) (hv : ∃ vs,v = .agg vs):RD (u6 W) S0 (.agg ds) v:=by
 obtain⟨vs,rfl⟩:=hv
 obtain⟨h1,h2,h3⟩:=h
 have e:(Value.agg vs).cells=vs:=rfl
 rw[e]at h1 h2 h3
 refine .agg ds vs (by simpa using h1) (fun v hv=>h3 v (by simpa using hv)) fun i d v hd hv=>h2 i d v hd (by simpa using hv)
end
end Go.Abs
namespace Go.Abs
open Go.Proofs Go.RowKit Go.ChangeShapes Go.WideShapes
section
variable {H:Type} {enc:TypeId×Value→H} {W:World} {sp:Nat→Bool}
theorem X2 (fuel:Nat) (cs:List Value) (x:DataW H×List MemPlace) (h:DataW.trod enc Tryz.prog W 0 sp true fuel 50 cs=some x) : ∃ y:Ex,fY W (bW y) cs∧y.tV:=
 ano (tE:=50) (tI:=3) (tN:=2) (tS:=9) (tK:=48) (by kernel_rfl) (by kernel_rfl) (by kernel_rfl) (by kernel_rfl) (by kernel_rfl) (by kernel_rfl) (by kernel_rfl) (by kernel_rfl) (by kernel_rfl) (by kernel_rfl) _ _ _ h
theorem afu:Tryz.prog.underlying 22=some (.slice 9):=by kernel_rfl
theorem Bo:Tryz.prog.underlying 9=some .string:=by kernel_rfl
theorem X3:Tryz.prog.underlying 3=some (.int .i64):=by kernel_rfl
theorem JL:Tryz.prog.underlying 4=some .bool:=by kernel_rfl
theorem EB:Tryz.prog.cellsOf 9=1:=by kernel_rfl
theorem ajZ:Tryz.prog.cellsOf 3=1:=by kernel_rfl
theorem JM:Tryz.prog.cellsOf 4=1:=by kernel_rfl
theorem JN:Tryz.prog.cellsOf 22=1:=by kernel_rfl
theorem adp:Tryz.prog.cellsOf 50=4:=by kernel_rfl
theorem Cw {fuel:Nat} {cs:List Value} {x:DataW H×List MemPlace} (h:DataW.trod enc Tryz.prog W 0 sp true fuel 22 cs=some x) : ∃ l:List aK,fY W [.slice .shared 1 (l.map encStr)] cs:=by
 obtain⟨l,h,_⟩:=q6 (W:=W) encStr (fun _=>True) afu EB (by decide) (fun _=>rfl) (fun k hk cs x hx=>by
  obtain⟨s,hs,_⟩:=yw Bo hx
  exact⟨s,hs,trivial⟩) h
 exact⟨l,h⟩
theorem aj0 {fuel:Nat} {cs:List Value} {x:DataW H×List MemPlace} (h:DataW.trod enc Tryz.prog W 0 sp true fuel 73 cs=some x) : ∃ y:Pm,fY W (iV y) cs:=by
 obtain⟨n,rfl,hl,hf⟩:=nN (l:= [(9,0),(4,1)]) (by kernel_rfl) (by simp) h
 have hc:Tryz.prog.cellsOf 73=2:=by kernel_rfl
 obtain⟨y0,h0⟩:=hf 0 _ rfl
 obtain⟨y1,h1⟩:=hf 1 _ rfl
 dsimp only at h0 h1
 rw[EB]at h0
 rw[JM]at h1
 obtain⟨s,r0,_⟩:=yw Bo h0
 obtain⟨b,r1⟩:=JK JL h1
 refine⟨⟨s,b⟩, ?_⟩
 have:=r0.at (r1.at (fY.end (by rw[hl,hc])))
 simpa[encStr,iV]using this
theorem aj1 {fuel:Nat} {cs:List Value} {x:DataW H×List MemPlace} (h:DataW.trod enc Tryz.prog W 0 sp true fuel 123 cs=some x) : ∃ y:Ar,fY W (fi y) cs∧y.x.tV:=by
 obtain⟨n,rfl,hl,hf⟩:=nN (l:= [(4,0),(9,1),(50,2)]) (by kernel_rfl) (by simp) h
 have hc:Tryz.prog.cellsOf 123=6:=by kernel_rfl
 obtain⟨y0,h0⟩:=hf 0 _ rfl
 obtain⟨y1,h1⟩:=hf 1 _ rfl
 obtain⟨y2,h2⟩:=hf 2 _ rfl
 dsimp only at h0 h1 h2
 rw[JM]at h0
 rw[EB]at h1
 rw[adp]at h2
 obtain⟨b,r0⟩:=JK JL h0
 obtain⟨s,r1,_⟩:=yw Bo h1
 obtain⟨e,r2,hr⟩:=X2 _ _ _ h2
 refine⟨⟨b,s,e⟩, ?_,hr⟩
 have:=r0.at (r1.at (r2.at (fY.end (by rw[hl,hc]))))
 rw[jl]at this
 simpa[encStr,fi]using this
theorem Cx : ∀ {l:List Sm},(∀ s∈l,s.tV)→Sm.Af l
 | [],_=>trivial
 |s::l,h=>⟨h s (List.mem_cons_self ..),Cx fun t m=>h t (List.mem_cons_of_mem _ m)⟩
theorem aj2 : ∀ (fuel:Nat) (cs:List Value) (x:DataW H×List MemPlace),DataW.trod enc Tryz.prog W 0 sp true fuel 54 cs=some x→∃ y:Sm,fY W (a8 y) cs∧y.tV:=by
 intro fuel
 induction fuel using Nat.strongRecOn with
 |_ fuel ih=>
  intro cs x h
  obtain⟨n,rfl,hl,hf⟩:=nN (l:= [(3,0),(3,1),(22,2),(9,3),(9,4),(50,5),(4,9),(51,10),(52,11),(52,12)]) (by kernel_rfl) (by simp) h
  have hc:Tryz.prog.cellsOf 54=13:=by kernel_rfl
  have ca:Tryz.prog.cellsOf 51=1:=by kernel_rfl
  have kT:Tryz.prog.cellsOf 52=1:=by kernel_rfl
  have ua:Tryz.prog.underlying 51=some (.slice 123):=by kernel_rfl
  have us:Tryz.prog.underlying 52=some (.slice 54):=by kernel_rfl
  have ca6:Tryz.prog.cellsOf 123=6:=by kernel_rfl
  obtain⟨y0,h0⟩:=hf 0 _ rfl
  obtain⟨y1,h1⟩:=hf 1 _ rfl
  obtain⟨y2,h2⟩:=hf 2 _ rfl
  obtain⟨y3,h3⟩:=hf 3 _ rfl
  obtain⟨y4,h4⟩:=hf 4 _ rfl
  obtain⟨y5,h5⟩:=hf 5 _ rfl
  obtain⟨y6,h6⟩:=hf 6 _ rfl
  obtain⟨y7,h7⟩:=hf 7 _ rfl
  obtain⟨y8,h8⟩:=hf 8 _ rfl
  obtain⟨y9,h9⟩:=hf 9 _ rfl
  dsimp only at h0 h1 h2 h3 h4 h5 h6 h7 h8 h9
  rw[ajZ]at h0 h1
  rw[JN]at h2
  rw[EB]at h3 h4
  rw[adp]at h5
  rw[JM]at h6
  rw[ca]at h7
  rw[kT]at h8 h9
  obtain⟨id,r0,_⟩:=IT X3 h0
  obtain⟨kind,r1,_⟩:=IT X3 h1
  obtain⟨labels,r2⟩:=Cw h2
  obtain⟨name,r3,_⟩:=yw Bo h3
  obtain⟨proc,r4,_⟩:=yw Bo h4
  obtain⟨e,r5,hr⟩:=X2 _ _ _ h5
  obtain⟨b,r6⟩:=JK JL h6
  obtain⟨args,r7,ha⟩:=q6 (W:=W) fi (fun a=>a.x.tV) ua ca6 (by decide) (fun _=>rfl) (fun k hk cs x hx=>aj1 hx) h7
  obtain⟨aO,r8,ht⟩:=q6 (W:=W) a8 Sm.tV us hc (by decide) LD (fun k hk cs x hx=>ih k (by omega) cs x hx) h8
  obtain⟨aN,r9,he⟩:=q6 (W:=W) a8 Sm.tV us hc (by decide) LD (fun k hk cs x hx=>ih k (by omega) cs x hx) h9
  refine⟨⟨id,kind,labels,name,proc,e,b,args,aO,aN⟩, ?_,hr,ha,Cx ht,Cx he⟩
  have:=r0.at (r1.at (r2.at (r3.at (r4.at (r5.at (r6.at (r7.at (r8.at (r9.at (fY.end (by rw[hl,hc])))))))))))
  rw[jl]at this
  rw[cy]
  simpa[encStr]using this
theorem aj3 {fuel:Nat} {cs:List Value} {x:DataW H×List MemPlace} (h:DataW.trod enc Tryz.prog W 0 sp true fuel 70 cs=some x) : ∃ y:Pc,fY W (bJ y) cs∧Sm.Af y.body:=by
 obtain⟨n,rfl,hl,hf⟩:=nN (l:= [(9,0),(68,1),(22,2),(52,3),(22,4)]) (by kernel_rfl) (by simp) h
 have hc:Tryz.prog.cellsOf 70=5:=by kernel_rfl
 have cp:Tryz.prog.cellsOf 68=1:=by kernel_rfl
 have kT:Tryz.prog.cellsOf 52=1:=by kernel_rfl
 have up:Tryz.prog.underlying 68=some (.slice 73):=by kernel_rfl
 have us:Tryz.prog.underlying 52=some (.slice 54):=by kernel_rfl
 have cp2:Tryz.prog.cellsOf 73=2:=by kernel_rfl
 have avl:Tryz.prog.cellsOf 54=13:=by kernel_rfl
 obtain⟨y0,h0⟩:=hf 0 _ rfl
 obtain⟨y1,h1⟩:=hf 1 _ rfl
 obtain⟨y2,h2⟩:=hf 2 _ rfl
 obtain⟨y3,h3⟩:=hf 3 _ rfl
 obtain⟨y4,h4⟩:=hf 4 _ rfl
 dsimp only at h0 h1 h2 h3 h4
 rw[EB]at h0
 rw[cp]at h1
 rw[JN]at h2 h4
 rw[kT]at h3
 obtain⟨name,r0,_⟩:=yw Bo h0
 obtain⟨ps,r1,_⟩:=q6 (W:=W) iV (fun _=>True) up cp2 (by decide) (fun _=>rfl) (fun k hk cs x hx=>by
  obtain⟨y,hy⟩:=aj0 hx
  exact⟨y,hy,trivial⟩) h1
 obtain⟨vars,r2⟩:=Cw h2
 obtain⟨body,r3,hb⟩:=q6 (W:=W) a8 Sm.tV us avl (by decide) LD (fun k hk cs x hx=>aj2 k cs x hx) h3
 obtain⟨fin,r4⟩:=Cw h4
 refine⟨⟨name,ps,vars,body,fin⟩, ?_,Cx hb⟩
 have:=r0.at (r1.at (r2.at (r3.at (r4.at (fY.end (by rw[hl,hc]))))))
 simpa[encStr,bJ]using this
theorem aj4 {fuel:Nat} {cs:List Value} {x:DataW H×List MemPlace} (h:DataW.trod enc Tryz.prog W 0 sp true fuel 25 cs=some x) : ∃ y:Pg,fY W (bK y) cs∧y.tV:=by
 obtain⟨n,rfl,hl,hf⟩:=nN (l:= [(22,0),(23,1)]) (by kernel_rfl) (by simp) h
 have hc:Tryz.prog.cellsOf 25=2:=by kernel_rfl
 have cp:Tryz.prog.cellsOf 23=1:=by kernel_rfl
 have up:Tryz.prog.underlying 23=some (.slice 70):=by kernel_rfl
 have cp5:Tryz.prog.cellsOf 70=5:=by kernel_rfl
 obtain⟨y0,h0⟩:=hf 0 _ rfl
 obtain⟨y1,h1⟩:=hf 1 _ rfl
 dsimp only at h0 h1
 rw[JN]at h0
 rw[cp]at h1
 obtain⟨globals,r0⟩:=Cw h0
 obtain⟨procs,r1,hp⟩:=q6 (W:=W) bJ (fun f=>Sm.Af f.body) up cp5 (by decide) (fun _=>rfl) (fun k hk cs x hx=>aj3 hx) h1
 refine⟨⟨globals,procs⟩, ?_,hp⟩
 have:=r0.at (r1.at (fY.end (by rw[hl,hc])))
 simpa[bK]using this
end
end Go.Abs
namespace Go.Abs
open Go.Proofs Go.ChangeShapes Go.WideShapes Go.ChangeAt Go.RowKit
theorem zF {H:Type} {enc:TypeId×Value→H} {P:Program} {W:World} {sp:Nat→Bool} {t:TypeId} {ts:List TypeId} {ps:List MemPlace} : ∀ {l:List Value} {ds:List (DataW H)},DataW.TrodAll enc P W 0 sp true (t::ts) l ds ps→
 ∃ v l' d pk p q,l=v::l'∧ds=d::pk∧DataW.Trod enc P W 0 sp true t v d p∧DataW.TrodAll enc P W 0 sp true ts l' pk q
 |v::l,d::ds,⟨p,q,h1,h2,e⟩=>⟨v,l,d,ds,p,q,rfl,rfl,h1,h2⟩
 | [],[],h=>h.elim
 | [],_::_,h=>h.elim
 |_::_,[],h=>h.elim
theorem abg {H:Type} {enc:TypeId×Value→H} {P:Program} {W:World} {sp:Nat→Bool} {ps:List MemPlace} : ∀ {l:List Value} {ds:List (DataW H)},DataW.TrodAll enc P W 0 sp true [] l ds ps→l = []∧ds = []
 | [],[],_=>⟨rfl,rfl⟩
 | [],_::_,h=>h.elim
 |_::_,ds,h=>by cases ds<;>exact h.elim
end Go.Abs
