/-
  What is proved here: part 3 of the road to the claim (TMay3, TMay4, MayFine, MayEq, MayEq2, Rng, FineM, Swap2p, Cnt, MirFlat, Frz, Flat1, Flat2, Flat3, Sl1, MirFlat2, Sl2, Nm1, Nm2, Nm3, Tree1, Tree2, Sc1, Sc2, Sc3, ScP, Sc4, Sc5, Ar1, Ar2, Ar3, Srt1, Shelf, SortR, SrtP, Tc1, Tc2, Tc3, Bsl, Tc4, Tc5).
  No conditions.
-/
import Derived.Test.YtiopamakecmpkaaGreatCkL2
import Derived.Shelf.Small.Bits
import Derived.Shelf.Strconv.Itoa0
import Derived.Shelf.Sort.Plain
import Derived.Shelf.Slices.Turned
import Derived.Ground.Names2Prog
import Derived.Shelf.Slices.Clone
import Derived.Shelf.Slices.CompactS
import Derived.Shelf.Slices.Cells
import Derived.Shelf.Slices.In.SortNone
import Derived.Ground.SlgnProg
import Derived.Shelf.SlicesE.Clone
import Derived.Test.YtiopamakecmpkaaGreatProg
import Derived.Sort.Walk0

set_option linter.unusedSimpArgs false
set_option linter.unusedVariables false

/-! TMay3 -/

namespace Go.Abs
set_option maxRecDepth 8000
open Go.Proofs
def gate (nest:Int) (len n:Nat) (r:Bool×Nat):Bool×Nat:=if decide (nest > 12) && decide ((len:Int) > 0)then(false,n)else r
mutual
def Sm.pF (nest:Int) (n:Nat):Sm→Bool×Nat
 | ⟨id,kind,labels,name,proc,x,has,args,aQ,aM⟩=>
  if decide (((n+1:Nat):Int) > 200) || id != ((n+1:Nat):Int) || !(dk labels) || !(Sm.fields ⟨id,kind,labels,name,proc,x,has,args,aQ,aM⟩)then(false,n+1)
  else if !(gate (nest+1) aQ.length (n+1) (Sm.fi (nest+1) (n+1) aQ)).1 then(false,(gate (nest+1) aQ.length (n+1) (Sm.fi (nest+1) (n+1) aQ)).2)
  else gate (nest+1) aM.length (gate (nest+1) aQ.length (n+1) (Sm.fi (nest+1) (n+1) aQ)).2 (Sm.fi (nest+1) (gate (nest+1) aQ.length (n+1) (Sm.fi (nest+1) (n+1) aQ)).2 aM)
def Sm.fi (nest:Int) (n:Nat):List Sm→Bool×Nat
 | []=>(true,n)
 | s::l=>if !(Sm.pF nest n s).1 then(false,(Sm.pF nest n s).2)else Sm.fi nest (Sm.pF nest n s).2 l
end
def Sm.gH (nest:Int) (n:Nat) (l:List Sm):Bool×Nat:=gate nest l.length n (Sm.fi nest n l)
theorem FR (nest:Int) (n:Nat) (s:Sm):Sm.pF nest n s =
 if decide (((n+1:Nat):Int) > 200) || s.id != ((n+1:Nat):Int) || !(dk s.labels) || !(s.fields)then(false,n+1)
 else if !(Sm.gH (nest+1) (n+1) s.aQ).1 then(false,(Sm.gH (nest+1) (n+1) s.aQ).2)
 else Sm.gH (nest+1) (Sm.gH (nest+1) (n+1) s.aQ).2 s.aM:=by
 cases s;simp only [Sm.pF,Sm.gH];rfl
mutual
def Sm.we:Sm→Prop
 | ⟨id,kind,labels,name,proc,x,has,args,aQ,aM⟩=>Sm.mX ⟨id,kind,labels,name,proc,x,has,args,aQ,aM⟩∧Sm.jY aQ∧Sm.jY aM
def Sm.jY:List Sm→Prop
 | []=>True
 | s::l=>s.we∧Sm.jY l
end
theorem C5 (s:Sm):s.we↔s.mX∧Sm.jY s.aQ∧Sm.jY s.aM:=by cases s;simp only [Sm.we]
theorem Ea {s:Sm} : ∀ {l:List Sm},Sm.jY l→s∈l→s.we
 | y::l,h,m=>by
  simp only [Sm.jY]at h
  rcases List.mem_cons.1 m with rfl | m
  ·exact h.1
  ·exact Ea h.2 m
mutual
theorem Za (nest:Int) (n:Nat) : ∀ s:Sm,n≤201→(Sm.pF nest n s).2≤202∧((Sm.pF nest n s).1=true→(Sm.pF nest n s).2≤200)
 | ⟨id,kind,labels,name,proc,x,has,args,aQ,aM⟩,hn=>by
  simp only [Sm.pF]
  split
  ·exact⟨by dsimp only;omega,fun h=>by cases h⟩
  rename_i hc
  simp only [Bool.or_eq_true,decide_eq_true_eq,not_or]at hc
  have zV:n+1≤200:=by omega
  have g1 : ∀ (nest:Int) (l:List Sm) (m:Nat),m≤200→(Sm.fi nest m l).2≤202∧((Sm.fi nest m l).1=true→(Sm.fi nest m l).2≤200)→
   (gate nest l.length m (Sm.fi nest m l)).2≤202∧((gate nest l.length m (Sm.fi nest m l)).1=true→(gate nest l.length m (Sm.fi nest m l)).2≤200):=by
   intro nest l m hm h
   unfold gate
   split
   ·exact⟨by dsimp only;omega,fun h=>by cases h⟩
   ·exact h
  have h1:=g1 (nest+1) aQ (n+1) zV (BO (nest+1) (n+1) aQ zV)
  split
  ·exact⟨h1.1,fun h=>by cases h⟩
  rename_i Iw
  have h2:=h1.2 (by simpa using Iw)
  exact g1 (nest+1) aM _ h2 (BO (nest+1) _ aM h2)
theorem BO (nest:Int) (n:Nat) : ∀ l:List Sm,n≤200→(Sm.fi nest n l).2≤202∧((Sm.fi nest n l).1=true→(Sm.fi nest n l).2≤200)
 | [],hn=>by simp only [Sm.fi];exact⟨by omega,fun _=>hn⟩
 | s::l,hn=>by
  simp only [Sm.fi]
  have h1:=Za nest n s (by omega)
  split
  ·exact⟨h1.1,fun h=>by cases h⟩
  rename_i hc
  exact BO nest _ l (h1.2 (by simpa using hc))
end
theorem FT {nest:Int} {n:Nat} {l:List Sm} (hn:n≤200):(Sm.gH nest n l).2≤202∧((Sm.gH nest n l).1=true→(Sm.gH nest n l).2≤200):=by
 unfold Sm.gH gate
 split
 ·exact⟨by dsimp only;omega,fun h=>by cases h⟩
 ·exact BO nest n l hn
theorem Zb : ∀ (m:Nat) (l:List Sm),Sm.aR l≤m→Sm.aR l<4611686018427387000→Sm.jY l→∀ (nest:Int) (n:Nat),0≤nest→nest≤13→n≤200→
 aB Tryz.prog jS [.ptr 0 0, .slice .shared 13 (l.map aU), .int .i64 nest] ⟨[[.int .i64 n]],[]⟩ (.bool (Sm.gH nest n l).1) ⟨[[.int .i64 (Sm.gH nest n l).2]],[]⟩:=by
 intro m
 induction m with
 | zero=>
  intro l h hs hf nest n h0 h13 hn
  cases l with
  | nil=>
   have d1:decide ((0:Int) > 0)=false:=rfl
   have e:Sm.gH nest n [] = (true,n):=by simp [Sm.gH,gate,Sm.fi]
   have z:decide ((0:Int)<0)=false:=rfl
   rw [e]
   refine aB.go rj rfl fun B Q hB hQ=> ?_
   have⟨hF,hP,gA,gB⟩:=bF
   repeat' (first
 | simp only [go_sem,hF,hP,gA,gB,d1,z]
 | (with_reducible refine bh.o7 ?_)
 | (with_reducible first | refine bq fun hc=> ?_ | refine br fun hc=> ?_ | refine bt (fun hc=> ?_) fun hc=> ?_) <;> (try simp only [hc,bs, ↓reduceIte]at h) <;> try simp only [hc]
 | (with_reducible refine aC hQ ?_;simp only [ay,az,bu,bw,go_sem,hF,hP,gA,gB];repeat' (first | exact Ok.out | with_reducible refine aH ?_ ?_ | (simp;done))))
  | cons s l=>simp only [Sm.aR]at h;omega
 | succ m ih=>
  intro l h hs hf nest n h0 h13 hn
  generalize hR:Sm.gH nest n l=R
  have hlen:=Sm.cM l
  unfold Sm.gH gate at hR
  have h:=hR
  refine aB.go rj rfl fun B Q hB hQ=> ?_
  have⟨hF,hP,gA,gB⟩:=bF
  repeat' (first
 | simp only [go_sem,hF,hP,gA,gB]
 | (with_reducible first | refine bq fun hc=> ?_ | refine br fun hc=> ?_ | refine bt (fun hc=> ?_) fun hc=> ?_) <;> (try simp only [hc,bs, ↓reduceIte]at h) <;> try simp only [hc]
 | (with_reducible refine aC hQ ?_;(try cases h);simp only [ay,az,bu,bw,go_sem,hF,hP,gA,gB];repeat' (first | exact Ok.out | with_reducible refine aH ?_ ?_ | (simp;done))))
  all_goals
   have agv:l≠ []→nest≤12:=by
    intro eH
    have:l.length≠0:=by simpa using eH
    simp_all <;> omega
   refine cO 1 0 (bh.ind (ι:=List Sm×Nat×Nat) (fun i=>l.drop i.2.1=i.1∧Sm.fi nest i.2.2 i.1=R∧i.2.2≤200) (fun i=>i.1.length)
    (fun i=> [(0, .ptr 0 0),(2, .int .i64 nest),(16, .slice .shared 13 (l.map aU)),(17, .int .i64 (l.length:Int)),(18, .int .i64 (i.2.1:Int))]) (fun i=>⟨[[.int .i64 (i.2.2:Int)]],[]⟩) ?_ (l,0,n) ⟨rfl,h,hn⟩)
   rintro⟨rest,k,j⟩ ⟨h1,h,hj⟩ IH
   dsimp only at h1 h hj
   cases rest with
   | nil=>
    have hF:=drop_nil h1
    simp only [Sm.fi]at h
    repeat' (first
 | simp only [go_sem,hF,hP,gA,gB]
 | (with_reducible first | refine bq fun hc=> ?_ | refine br fun hc=> ?_ | refine bt (fun hc=> ?_) fun hc=> ?_) <;> (try simp only [hc,bs, ↓reduceIte]at h) <;> try simp only [hc]
 | (with_reducible refine aC hQ ?_;(try cases h);simp only [ay,az,bu,bw,go_sem,hF,hP,gA,gB];repeat' (first | exact Ok.out | with_reducible refine aH ?_ ?_ | (simp;done))))
   | cons s rest=>
    obtain⟨hP,g2,hF,g4⟩:=drop_cons h1
    have gA:k<4611686018427387904:=by omega
    have n8:=List.mem_of_getElem? hP
    have dN:=Sm.bT n8
    have ayj:=agv (by rintro rfl;simp at n8)
    obtain⟨DA,hft,hfe⟩:=(C5 s).1 (Ea hf n8)
    have Ti:Sm.aR s.aQ<s.size∧Sm.aR s.aM<s.size:=by cases s;simp only [Sm.size];omega
    have w1:IntKind.wrap .i64 ((j:Int)+1)=((j+1:Nat):Int):=by rw [cV] <;> omega
    have w2:IntKind.wrap .i64 (nest+1)=nest+1:=cV (by omega) (by omega)
    have c1:=fun s=>yX DA.acG DA.lab s
    have c2:=fun s=>U0 DA s
    simp only [Sm.fi,FR]at h
    by_cases Rm:j+1≤200
    ·have r1:=FT (nest:=nest+1) (l:=s.aQ) Rm
     have c3:=fun s' ho=>(ih s.aQ (by omega) (by omega) hft (nest+1) (j+1) (by omega) (by omega) Rm).kl (s:=s') (o:=0) (by simp [D.bp,D.ok,iH,Tag.ok]) rfl rfl rfl ho
     by_cases vq:(Sm.gH (nest+1) (j+1) s.aQ).1=true
     ·have c4:=fun s' ho=>(ih s.aM (by omega) (by omega) hfe (nest+1) _ (by omega) (by omega) (r1.2 vq)).kl (s:=s') (o:=0) (by simp [D.bp,D.ok,iH,Tag.ok]) rfl rfl rfl ho
      have r2:=FT (nest:=nest+1) (l:=s.aM) (r1.2 vq)
      simp only [vq]at c3
      simp only [vq,Bool.not_true,Bool.false_eq_true, ↓reduceIte]at h
      repeat' (first
 | simp only [go_sem,hF,hP,gA,gB,w1,w2,vq]
 | (with_reducible refine CU (c1 _) ?_)
 | (with_reducible refine CU (c2 _) ?_)
 | (with_reducible refine CU (c3 _ rfl) ?_)
 | (with_reducible refine CU (c4 _ rfl) ?_)
 | (with_reducible first | refine bq fun hc=> ?_ | refine br fun hc=> ?_ | refine bt (fun hc=> ?_) fun hc=> ?_) <;> (try simp only [hc,bs, ↓reduceIte]at h) <;> try simp only [hc]
 | (with_reducible refine aC hQ ?_;(try cases h);simp only [ay,az,bu,bw,go_sem,hF,hP,gA,gB,w1,w2,vq];repeat' (first | exact Ok.out | with_reducible refine aH ?_ ?_ | (simp;done))))
      refine cO 1 0 (IH (rest,k+1,(Sm.gH (nest+1) (Sm.gH (nest+1) (j+1) s.aQ).2 s.aM).2) ⟨g2,h,r2.2 (by assumption)⟩ (Nat.lt_succ_self _))
     ·have vq:(Sm.gH (nest+1) (j+1) s.aQ).1=false:=by simpa using vq
      simp only [vq]at c3
      simp only [vq,Bool.not_false, ↓reduceIte]at h
      repeat' (first
 | simp only [go_sem,hF,hP,gA,gB,w1,w2,vq]
 | (with_reducible refine CU (c1 _) ?_)
 | (with_reducible refine CU (c2 _) ?_)
 | (with_reducible refine CU (c3 _ rfl) ?_)
 | (with_reducible first | refine bq fun hc=> ?_ | refine br fun hc=> ?_ | refine bt (fun hc=> ?_) fun hc=> ?_) <;> (try simp only [hc,bs, ↓reduceIte]at h) <;> try simp only [hc]
 | (with_reducible refine aC hQ ?_;(try cases h);simp only [ay,az,bu,bw,go_sem,hF,hP,gA,gB,w1,w2,vq];repeat' (first | exact Ok.out | with_reducible refine aH ?_ ?_ | (simp;done))))
    ·have d1:decide (((j+1:Nat):Int) > 200)=true:=by simp;omega
     simp only [d1,Bool.true_or,Bool.not_false, ↓reduceIte]at h
     repeat' (first
 | simp only [go_sem,hF,hP,gA,gB,w1,w2,d1]
 | (with_reducible refine CU (c1 _) ?_)
 | (with_reducible refine CU (c2 _) ?_)
 | (with_reducible first | refine bq fun hc=> ?_ | refine br fun hc=> ?_ | refine bt (fun hc=> ?_) fun hc=> ?_) <;> (try simp only [hc,bs, ↓reduceIte]at h) <;> try simp only [hc]
 | (with_reducible refine aC hQ ?_;(try cases h);simp only [ay,az,bu,bw,go_sem,hF,hP,gA,gB,w1,w2,d1];repeat' (first | exact Ok.out | with_reducible refine aH ?_ ?_ | (simp;done))))
end Go.Abs

/-! TMay4 -/

namespace Go.Abs
set_option maxRecDepth 8000
open Go.Proofs
def Pc.fi (n:Nat):List Pc→Bool
 | []=>true
 | f::l=>
  if decide ((f.params.length:Int) > 8) || decide ((f.vars.length:Int) > 16) || !(isName f.name) || !(dk f.vars) || !(dk f.fin)then false
  else if !(Pm.eA f.params)then false
  else if !(Sm.gH 1 n f.body).1 then false
  else Pc.fi (Sm.gH 1 n f.body).2 l
def Pg.FU (p:Pg):Bool:=
 if decide ((p.globals.length:Int) > 16) || decide ((p.procs.length:Int) > 16) || !(dk p.globals)then false
 else Pc.fi 0 p.procs
structure Pg.H9 (p:Pg):Prop where
 sz:p.size<4611686018427387000
 yY : ∀ t∈p.globals,t.length<4611686018427387904
 lQ : ∀ f∈p.procs,f.name.length<4611686018427387904∧(∀ t∈f.vars,t.length<4611686018427387904)∧(∀ t∈f.fin,t.length<4611686018427387904)∧∀ a∈f.params,a.name.length<4611686018427387904
 body : ∀ f∈p.procs,Sm.jY f.body
theorem Rn {p:Pg} (hf:p.H9) (s:St):aB Tryz.prog ur [.agg (bA p)] s (.bool p.FU) s:=by
 refine aB.pure ?_ (by simp only [D.bp,D.ok,gv];rfl) rfl s
 obtain⟨dN,zW,acK,MY⟩:=hf
 have ta:Pc.aR p.procs<4611686018427387000:=by simp only [Pg.size]at dN;omega
 have agw:p.globals.length<4611686018427387904:=by simp only [Pg.size]at dN;omega
 have ax0:p.procs.length<4611686018427387904:=by have:=Pc.cM p.procs;omega
 have hg:=fun s=>yX agw zW s
 unfold S0
 generalize h:p.FU=R
 unfold Pg.FU at h
 refine aB.go Js rfl fun B Q hB hQ=> ?_
 have⟨hF,hP,gA,gB⟩:=bF
 repeat' (first
 | simp only [go_sem,hF,hP,gA,gB]
 | (with_reducible refine CU (hg _) ?_)
 | (with_reducible first | refine bq fun hc=> ?_ | refine br fun hc=> ?_ | refine bt (fun hc=> ?_) fun hc=> ?_) <;> (try simp only [hc,bs, ↓reduceIte]at h) <;> try simp only [hc]
 | (with_reducible refine aC hQ ?_;(try cases h);simp only [ay,az,bu,bw,go_sem,hF,hP,gA,gB];repeat' (first | exact Ok.out | with_reducible refine aH ?_ ?_ | (simp;done))))
 refine cO 2 0 (bh.ind (ι:=List Pc×Nat×Nat) (fun i=>p.procs.drop i.2.1=i.1∧Pc.fi i.2.2 i.1=R∧i.2.2≤200) (fun i=>i.1.length)
  (fun i=> [(1, .ptr 0 0),(3, .ptr 1 0),(27, .slice .shared 5 (p.procs.map bG)),(28, .int .i64 (p.procs.length:Int)),(29, .int .i64 (i.2.1:Int))]) (fun i=>⟨[bA p,[.int .i64 (i.2.2:Int)]],[]⟩) ?_ (p.procs,0,0) ⟨rfl,h,Nat.zero_le _⟩)
 rintro⟨rest,k,n⟩ ⟨h1,h,hn⟩ IH
 dsimp only at h1 h hn
 cases rest with
 | nil=>
  have hF:=drop_nil h1
  simp only [Pc.fi]at h
  repeat' (first
 | simp only [go_sem,hF,hP,gA,gB]
 | (with_reducible first | refine bq fun hc=> ?_ | refine br fun hc=> ?_ | refine bt (fun hc=> ?_) fun hc=> ?_) <;> (try simp only [hc,bs, ↓reduceIte]at h) <;> try simp only [hc]
 | (with_reducible refine aC hQ ?_;(try cases h);simp only [ay,az,bu,bw,go_sem,hF,hP,gA,gB];repeat' (first | exact Ok.out | with_reducible refine aH ?_ ?_ | (simp;done))))
 | cons f rest=>
  obtain⟨hP,g2,hF,g4⟩:=drop_cons h1
  have bW:k<4611686018427387904:=by omega
  have n8:=List.mem_of_getElem? hP
  have zX:=Pc.bT n8
  simp only [Pc.size]at zX
  obtain⟨zY,hfv,hff,hfp⟩:=acK f n8
  have hnm:=A9 f.name zY
  have hv:=fun s=>yX (by omega) hfv s
  have he:=fun s=>yX (by omega) hff s
  have hb:=fun s' o ho=>(Zb _ f.body (Nat.le_refl _) (by omega) (MY f n8) 1 n (by omega) (by omega) hn).kl (s:=s') (o:=o) (by simp [D.bp,D.ok,iH,Tag.ok]) rfl rfl rfl ho
  have hle:=FT (nest:=1) (l:=f.body) hn
  simp only [Pc.fi]at h
  repeat' (first
 | simp only [go_sem,hF,hP,gA,gB]
 | (with_reducible refine CU (hnm _) ?_)
 | (with_reducible refine CU (hv _) ?_)
 | (with_reducible refine CU (he _) ?_)
 | (with_reducible first | refine bq fun hc=> ?_ | refine br fun hc=> ?_ | refine bt (fun hc=> ?_) fun hc=> ?_) <;> (try simp only [hc,bs, ↓reduceIte]at h) <;> try simp only [hc]
 | (with_reducible refine aC hQ ?_;exact jR)
 | (cases h;done))
  refine cO 3 0 (bh.ind (ι:=List Pm×Nat) (fun i=>f.params.drop i.2=i.1∧(if !(Pm.eA i.1)then false else if !(Sm.gH 1 n f.body).1 then false else Pc.fi (Sm.gH 1 n f.body).2 rest)=R) (fun i=>i.1.length)
   (fun i=> [(1, .ptr 0 0),(3, .ptr 1 0),(5, .ptr 2 0),(27, .slice .shared 5 (p.procs.map bG)),(28, .int .i64 (p.procs.length:Int)),(29, .int .i64 (k:Int)),(62, .slice .shared 2 (f.params.map fS)),(63, .int .i64 (f.params.length:Int)),(64, .int .i64 (i.2:Int))]) (fun i=>⟨[bA p,[.int .i64 (n:Int)],bG f],[]⟩) ?_ (f.params,0) ⟨rfl,h⟩)
  rintro⟨O3,j⟩ ⟨j1,h⟩ Bb
  dsimp only at j1 h
  cases O3 with
  | nil=>
   have hF:=drop_nil j1
   simp only [Pm.eA,Bool.not_true,Bool.false_eq_true, ↓reduceIte]at h
   repeat' (first
 | simp only [go_sem,hF,hP,gA,gB]
 | (with_reducible refine CU (hb _ _ rfl) ?_)
 | (with_reducible first | refine bq fun hc=> ?_ | refine br fun hc=> ?_ | refine bt (fun hc=> ?_) fun hc=> ?_) <;> (try simp only [hc,bs, ↓reduceIte]at h) <;> try simp only [hc]
 | (with_reducible refine aC hQ ?_;exact jR)
 | (cases h;done))
   refine dH 2 0 ?_ ?_ (IH (rest,k+1,(Sm.gH 1 n f.body).2) ⟨g2,h,hle.2 (by assumption)⟩ (Nat.lt_succ_self _))
   ·(simp only [go_sem,hF,hP,gA,gB,aJ bW];try exact bH)
   ·(simp only [go_sem,hF,hP,gA,gB,aJ bW];try exact bH)
  | cons a O3=>
   obtain⟨hP,b2,hF,b4⟩:=drop_cons j1
   have Rm:j<4611686018427387904:=by omega
   have ha:=A9 a.name (hfp a (List.mem_of_getElem? hP))
   simp only [Pm.eA]at h
   repeat' (first
 | simp only [go_sem,hF,hP,gA,gB]
 | (with_reducible refine CU (ha _) ?_)
 | (with_reducible first | refine bq fun hc=> ?_ | refine br fun hc=> ?_ | refine bt (fun hc=> ?_) fun hc=> ?_) <;> (try simp only [hc,bs, ↓reduceIte]at h) <;> try simp only [hc]
 | (with_reducible refine aC hQ ?_;exact jR)
 | (cases h;done))
   refine dH 3 0 ?_ ?_ (Bb (O3,j+1) ⟨b2,h⟩ (Nat.lt_succ_self _))
   ·(simp only [go_sem,hF,hP,gA,gB,aJ Rm];try exact bH)
   ·(simp only [go_sem,hF,hP,gA,gB,aJ Rm];try exact bH)
end Go.Abs

/-! MayFine -/

namespace Go.Abs
theorem yZ {s:aD} (h:isName s=true):s.length≤8:=by
 cases s with
 | nil=>simp
 | cons c r=>
  simp only [isName]at h
  split at h
  ·cases h
  ·rename_i hc
   simp only [Bool.or_eq_true,decide_eq_true_eq,not_or]at hc
   simp only [List.length_cons];omega
theorem oV {t:aD} : ∀ {l:List aD},dk l=true→t∈l→isName t=true
 | s::l,h,m=>by
  simp only [dk]at h
  cases hs:isName s
  ·simp [hs]at h
  ·simp [hs]at h
   rcases List.mem_cons.1 m with rfl | m
   ·exact hs
   ·exact oV h m
theorem JL {a:Ar} : ∀ {l:List Ar},Ar.eA l=true→a∈l→a.may=true
 | s::l,h,m=>by
  simp only [Ar.eA]at h
  cases hs:s.may
  ·simp [hs]at h
  ·simp [hs]at h
   rcases List.mem_cons.1 m with rfl | m
   ·exact hs
   ·exact JL h m
theorem Gw {a:Pm} : ∀ {l:List Pm},Pm.eA l=true→a∈l→isName a.name=true
 | s::l,h,m=>by
  simp only [Pm.eA]at h
  cases hs:isName s.name
  ·simp [hs]at h
  ·simp [hs]at h
   rcases List.mem_cons.1 m with rfl | m
   ·exact hs
   ·exact Gw h m
mutual
theorem Eb : ∀ x:Ex,x.form=true→x.texts
 | ⟨op,n,name,kids⟩,h=>by
  simp only [Ex.form]at h
  split at h
  ·cases h
  ·rename_i hc
   refine⟨?_,Cr kids h⟩
   simp only [Bool.or_eq_true,Bool.and_eq_true,Bool.not_eq_true',not_or,not_and,Bool.not_eq_false]at hc
   cases hn:(name == [])
   ·have:=yZ (hc.2 hn);omega
   ·simp at hn;subst hn;simp
theorem Cr : ∀ l:List Ex,Ex.o8 l=true→Ex.uZ l
 | [],_=>trivial
 | x::l,h=>by
  simp only [Ex.o8]at h
  cases hx:x.form
  ·simp [hx]at h
  ·simp [hx]at h
   exact⟨Eb x hx,Cr l h⟩
end
theorem Gx {x:Ex} (h:x.may=true):x.texts:=by
 unfold Ex.may at h
 simp only [Bool.and_eq_true]at h
 exact Eb x h.2
theorem Ec {x:Ex} (h:x.none=true):x.texts:=by
 obtain⟨op,n,name,kids⟩:=x
 simp [Ex.none]at h
 obtain⟨⟨_,h1⟩,h2⟩:=h
 subst h1 h2
 exact⟨by simp,trivial⟩
mutual
theorem Ro {deep bO:Int} {aM:Bool} {out:List It} {i:It} : ∀ s:Sm,i∈fT deep bO aM out s→i∈out∨i.s.size≤s.size
 | ⟨id,kind,labels,name,proc,x,has,args,aQ,e⟩,h=>by
  simp only [fT]at h
  have key:i∈out++ [(⟨⟨id,kind,labels,name,proc,x,has,args,aQ,e⟩,deep,bO,aM⟩:It)]→i∈out∨i.s.size≤(⟨id,kind,labels,name,proc,x,has,args,aQ,e⟩:Sm).size:=by
   intro h
   rcases List.mem_append.1 h with h | h
   ·exact .inl h
   ·simp at h;subst h;exact .inr (Nat.le_refl _)
  split at h
  ·rcases wg e h with h | h
   ·rcases wg aQ h with h | h
    ·exact key h
    ·right;simp only [Sm.size];omega
   ·right;simp only [Sm.size];omega
  ·exact key h
theorem wg {deep bO:Int} {aM:Bool} {out:List It} {i:It} : ∀ l:List Sm,i∈dw deep bO aM out l→i∈out∨i.s.size<Sm.aR l
 | [],h=>by simp only [dw]at h;exact .inl h
 | s::l,h=>by
  simp only [dw]at h
  split at h
  ·rcases wg l h with h | h
   ·rcases Ro s h with h | h
    ·exact .inl h
    ·right;simp only [Sm.aR];omega
   ·right;simp only [Sm.aR];omega
  ·exact .inl h
end
theorem JM {i:It} : ∀ (l:List Pc) (out:List It),i∈allM out l→i∈out∨i.s.size<Pc.aR l
 | [],out,h=>by simp only [allM]at h;exact .inl h
 | f::l,out,h=>by
  have key:i∈out++f.flat→i∈out∨i.s.size<Pc.aR (f::l):=by
   intro h
   rcases List.mem_append.1 h with h | h
   ·exact .inl h
   ·rcases wg _ h with h | h
    ·simp at h
    ·right;simp only [Pc.aR,Pc.size];omega
  simp only [allM]at h
  split at h
  ·exact key h
  ·rcases JM l _ h with h | h
   ·exact key h
   ·right;simp only [Pc.aR];omega
theorem Ed {i:It} : ∀ (l:List It) (n:Nat),It.eA n l=true→i∈l→i.s.one=true
 | s::l,n,h,m=>by
  simp only [It.eA]at h
  split at h
  ·cases h
  ·rename_i hc
   simp only [Bool.or_eq_true,Bool.not_eq_true',not_or,Bool.not_eq_false]at hc
   rcases List.mem_cons.1 m with rfl | m
   ·exact hc.2
   ·exact Ed l (n+1) h m
theorem JN {s:Sm} (h:s.one=true) (hs:s.size<4611686018427387000):s.mX:=by
 unfold Sm.one at h
 split at h
 ·cases h
 split at h
 ·cases h
 split at h
 ·cases h
 split at h
 ·cases h
 rename_i c1 c2 c3 c4
 simp only [Bool.or_eq_true,Bool.and_eq_true,Bool.not_eq_true',not_or,not_and,Bool.not_eq_false,decide_eq_true_eq]at c1 c2 c3 c4
 obtain⟨⟨⟨⟨⟨_,_⟩,aqi⟩,cx⟩,cn⟩,_⟩:=c1
 obtain⟨c21,c22⟩:=c2
 obtain⟨⟨c31,c32⟩,c33⟩:=c3
 have nm : ∀ {t:aD},isName t=true→t.length<4611686018427387904:=fun h=>by have:=yZ h;omega
 have dN:1+s.labels.length+s.x.size+Ar.aR s.args≤s.size:=by cases s;simp only [Sm.size];omega
 have qB:=Ar.cM s.args
 refine⟨fun t ht=>nm (oV aqi ht),by omega, ?_, ?_,by omega, ?_,by omega,fun a ha=> ?_⟩
 ·cases hn:s.hasName
  ·cases he:(s.name == [])
   ·exact nm (c22 ⟨hn,he⟩).2
   ·simp at he;rw [he];simp
  ·exact nm (c21 hn)
 ·cases qw:s.pJ
  ·rw [qw]at c31
   have:s.proc = []:=by simpa using c31
   rw [this];simp
  ·exact nm (c32 qw)
 ·cases hx:s.wS
  ·exact Ec (cn hx)
  ·exact Gx (cx hx)
 ·have hm:=JL c4 ha
  have XO:=Ar.bT ha
  unfold Ar.may at hm
  split at hm
  ·simp only [Bool.and_eq_true]at hm
   exact⟨by omega,Ec hm.2,nm hm.1⟩
  ·simp only [Bool.and_eq_true,beq_iff_eq]at hm
   exact⟨by omega,Gx hm.2,by rw [hm.1];simp⟩
theorem Gy {f:Pc} : ∀ {l:List Pc},Pc.lQ l=true→f∈l→isName f.name=true∧dk f.vars=true∧dk f.fin=true∧Pm.eA f.params=true
 | s::l,h,m=>by
  simp only [Pc.lQ]at h
  split at h
  ·cases h
  split at h
  ·cases h
  rename_i c1 c2
  simp only [Bool.or_eq_true,Bool.not_eq_true',not_or,Bool.not_eq_false]at c1 c2
  rcases List.mem_cons.1 m with rfl | m
  ·exact⟨c1.1.1.1.1,c1.1.2,c1.2,c2⟩
  ·exact Gy h m
theorem U7 {p:Pg} (h:p.may=true) (hs:p.size<4611686018427387000):p.mX:=by
 unfold Pg.may at h
 split at h
 ·cases h
 split at h
 ·cases h
 split at h
 ·cases h
 rename_i c1 c2 c3
 simp only [Bool.or_eq_true,Bool.not_eq_true',not_or,Bool.not_eq_false]at c1 c2
 have nm : ∀ {t:aD},isName t=true→t.length<4611686018427387904:=fun h=>by have:=yZ h;omega
 refine⟨hs,fun t ht=>nm (oV c1.2 ht),fun f hf=> ?_,fun i hi=> ?_⟩
 ·obtain⟨a,b,c,d⟩:=Gy c2 hf
  exact⟨nm a,fun t ht=>nm (oV b ht),fun t ht=>nm (oV c ht),fun t ht=>nm (Gw d ht)⟩
 ·refine JN (Ed _ _ h hi) ?_
  rcases JM _ _ hi with h1 | h1
  ·simp at h1
  ·simp only [Pg.size]at hs;omega
end Go.Abs

/-! MayEq -/

namespace Go.Abs
theorem Rp {t:aD} (h:isName t=true):t≠ []:=by rintro rfl;cases h
theorem U8 (op n:Int) (name:aD) (kids:List Ex):Ex.form ⟨op,n,name,kids⟩=true↔
 mN op=(kids.length:Int)∧(op=1∨n=0)∧0≤n∧(op=2↔name≠ [])∧(name = []∨isName name=true)∧Ex.o8 kids=true:=by
 simp only [Ex.form]
 split
 ·rename_i h
  simp only [Bool.or_eq_true,Bool.and_eq_true,bne_iff_ne,ne_eq,decide_eq_true_eq,Bool.not_eq_true']at h
  refine⟨fun h=>(Bool.false_ne_true h).elim,fun⟨h1,h2,h3,h4,h5,_⟩=> ?_⟩
  exfalso
  rcases h with (((h | h) | h) | h) | h
  ·exact h h1
  ·rcases h2 with h2 | h2
   ·exact h.1 h2
   ·exact h.2 h2
  ·omega
  ·by_cases h2:op=2 <;> cases name <;> simp_all
  ·rcases h5 with h5 | h5
   ·subst h5;simp at h
   ·rw [h5]at h;simp at h
 ·rename_i h
  simp only [Bool.or_eq_true,Bool.and_eq_true,bne_iff_ne,ne_eq,decide_eq_true_eq,Bool.not_eq_true',not_or,not_and,Decidable.not_not,Bool.not_eq_false]at h
  obtain⟨⟨⟨⟨h1,h2⟩,h3⟩,h4⟩,h5⟩:=h
  refine⟨fun h=>⟨h1, ?_,by omega, ?_, ?_,h⟩,fun h=>h.2.2.2.2.2⟩
  ·by_cases h:op=1
   ·exact .inl h
   ·exact .inr (h2 h)
  ·by_cases h2:op=2 <;> cases name <;> simp_all
  ·cases name with
   | nil=>exact .inl rfl
   | cons c r=>exact .inr (h5 rfl)
theorem acM (op n:Int) (name:aD) (kids:List Ex) (k:Int):Ex.dp k ⟨op,n,name,kids⟩=true↔
 1≤k∧(kids.length:Int)=mN op∧(if op=1 then 0≤n∧name = []else if op=2 then n=0∧isName name=true else n=0∧name = []∧Ex.D5 (k - 1) kids=true):=by
 simp only [Ex.dp]
 split
 ·rename_i h
  simp only [Bool.or_eq_true,decide_eq_true_eq,bne_iff_ne,ne_eq]at h
  refine⟨fun h=>(Bool.false_ne_true h).elim,fun⟨h1,h2,_⟩=> ?_⟩
  rcases h with h | h
  ·omega
  ·exact(h h2).elim
 rename_i h
 simp only [Bool.or_eq_true,decide_eq_true_eq,bne_iff_ne,ne_eq,not_or,Decidable.not_not]at h
 have h1:1≤k:=by omega
 simp only [h1,h.2,true_and]
 by_cases o1:op=1
 ·subst o1
  cases name <;> simp
 ·have o1' : ¬ (op==1)=true:=by simpa using o1
  rw [if_neg o1',if_neg o1]
  by_cases o2:op=2
  ·subst o2;simp
  ·have o2' : ¬ (op==2)=true:=by simpa using o2
   rw [if_neg o2',if_neg o2]
   by_cases hn:n=0
   ·subst hn
    cases name <;> simp
   ·simp [hn]
mutual
theorem XP : ∀ (x:Ex) (k:Int),0≤k→(x.dp k=true↔(x.depth:Int)≤k∧x.form=true)
 | ⟨op,n,name,kids⟩,k,hk=>by
  rw [acM,U8]
  have hd:Ex.depth ⟨op,n,name,kids⟩=Ex.gR kids+1:=by simp only [Ex.depth]
  rw [hd]
  by_cases h1:1≤k
  ·have ih:=Rq kids (k - 1) (by omega)
   by_cases o1:op=1
   ·subst o1
    have ha:mN 1=0:=rfl
    rw [ha,if_pos rfl]
    constructor
    ·rintro⟨_,h2,h3,h4⟩
     have:kids = []:=List.eq_nil_of_length_eq_zero (by omega)
     subst this;subst h4
     simp [Ex.gR,Ex.o8,h3];omega
    ·rintro⟨h2,h3,_,h4,h5,_⟩
     refine⟨h1,h3.symm,h4, ?_⟩
     cases name
     ·rfl
     ·simp at h5
   ·rw [if_neg o1]
    by_cases o2:op=2
    ·subst o2
     have ha:mN 2=0:=rfl
     rw [ha,if_pos rfl]
     constructor
     ·rintro⟨_,h2,h3,h4⟩
      have:kids = []:=List.eq_nil_of_length_eq_zero (by omega)
      subst this;subst h3
      have:=Rp h4
      simp [Ex.gR,Ex.o8,h4,this];omega
     ·rintro⟨h2,h3,h4,_,h5,h6,_⟩
      refine⟨h1,h3.symm,h4.resolve_left o1, ?_⟩
      exact h6.resolve_left (h5.1 rfl)
    ·rw [if_neg o2,ih]
     constructor
     ·rintro⟨_,h2,h3,h4,h5,h6⟩
      subst h3;subst h4
      exact⟨by omega,h2.symm, .inr rfl,Int.le_refl _,by simp [o2], .inl rfl,h6⟩
     ·rintro⟨h2,h3,h4,_,h5,h6,h7⟩
      refine⟨h1,h3.symm,h4.resolve_left o1, ?_,by omega,h7⟩
      exact Decidable.byContradiction fun h=>o2 (h5.2 h)
  ·constructor
   ·rintro⟨h,_⟩;exact(h1 h).elim
   ·rintro⟨h,_⟩;omega
theorem Rq : ∀ (l:List Ex) (k:Int),0≤k→(Ex.D5 k l=true↔(Ex.gR l:Int)≤k∧Ex.o8 l=true)
 | [],k,hk=>by simp [Ex.D5,Ex.gR,Ex.o8,hk]
 | x::l,k,hk=>by
  have h1:=XP x k hk
  have h2:=Rq l k hk
  have hd:Ex.gR (x::l)=max x.depth (Ex.gR l):=by simp only [Ex.gR]
  rw [hd]
  simp only [Ex.D5,Ex.o8]
  cases hx:Ex.dp k x
  ·simp only [Bool.not_false, ↓reduceIte,Bool.false_eq_true,false_iff,not_and]
   intro h3
   have : ¬ ((x.depth:Int)≤k∧x.form=true):=by rw [← h1,hx];simp
   have hf:x.form=false:=by
    cases hf:x.form
    ·rfl
    ·exact(this ⟨by omega,hf⟩).elim
   simp [hf]
  ·have:=h1.1 hx
   simp only [Bool.not_true,Bool.false_eq_true, ↓reduceIte,this.2,h2]
   have h3:=this.1
   refine and_congr_left fun _=> ?_
   omega
end
theorem Rr (x:Ex):x.dp 20=x.may:=by
 rw [Bool.eq_iff_iff,XP x 20 (by omega)]
 unfold Ex.may
 simp only [Bool.and_eq_true,decide_eq_true_eq]
 refine and_congr_left fun _=> ?_
 omega
theorem Gz (x:Ex) (b:Bool):vo x b=if b then x.may else x.none:=by
 unfold vo
 rw [Rr]
 cases b <;> simp
theorem GC (t:aD) (b:Bool):rm t b=if b then isName t else t == []:=by
 unfold rm
 cases b <;> simp
theorem Cs : ∀ l:List Ar,pf l=Ar.eA l
 | []=>rfl
 | a::l=>by
  simp only [pf,Ar.eA,Ar.may,Gz,GC,Cs l]
  grind
theorem aa0 {α:Type} (l:List α):((l.length:Int)==0) = !(decide ((l.length:Int) > 0)):=by
 cases l with
 | nil=>rfl
 | cons a l=>
  have h1:(((a::l).length:Int)==0)=false:=by simp only [List.length_cons,beq_eq_false_iff_ne];omega
  have h2:decide (((a::l).length:Int) > 0)=true:=by simp only [List.length_cons,decide_eq_true_eq];omega
  rw [h1,h2];rfl
theorem Ee (s:Sm):s.one=(dk s.labels && s.fields):=by
 have hk:s.kind=1∨s.kind=2∨s.kind=3∨s.kind=4∨s.kind=5∨s.kind=6∨s.kind=7∨s.kind=8∨s.kind=9∨s.kind=10∨s.kind<1∨s.kind > 10:=by omega
 unfold Sm.one Sm.fields Sm.flags Sm.wS Sm.hasName Sm.pJ
 have p1:isName [] = false:=rfl
 rcases hk with h | h | h | h | h | h | h | h | h | h | h | h
 all_goals
  simp only [h,aa0,Cs,Gz,GC,Sm.H8,Sm.H7]
  grind
end Go.Abs

/-! MayEq2 -/

namespace Go.Abs
theorem kJ : ∀ (a b:List It) (n:Nat),It.eA n (a++b)=(It.eA n a && It.eA (n+a.length) b)
 | [],b,n=>by simp [It.eA]
 | i::a,b,n=>by
  simp only [List.cons_append,It.eA,kJ a b (n+1),List.length_cons]
  have:n+1+a.length=n+(a.length+1):=by omega
  rw [this]
  split <;> simp
theorem Ef (n:Nat) (i:It):It.eA n [i] = true↔i.s.id=((n+1:Nat):Int)∧i.deep≤12∧i.s.one=true:=by
 simp only [It.eA]
 split
 ·rename_i h
  simp only [Bool.or_eq_true,bne_iff_ne,ne_eq,decide_eq_true_eq,Bool.not_eq_true']at h
  refine⟨fun h=>(Bool.false_ne_true h).elim,fun⟨h1,h2,h3⟩=> ?_⟩
  rcases h with (h | h) | h
  ·exact(h h1).elim
  ·omega
  ·rw [h]at h3;cases h3
 ·rename_i h
  simp only [Bool.or_eq_true,bne_iff_ne,ne_eq,decide_eq_true_eq,Bool.not_eq_true',not_or,Decidable.not_not,Bool.not_eq_false]at h
  exact⟨fun _=>⟨h.1.1,by omega,h.2⟩,fun _=>rfl⟩
mutual
theorem Bc (deep bO:Int) (aM:Bool) : ∀ (s:Sm) (out:List It),∃ new,fT deep bO aM out s=out++(⟨s,deep,bO,aM⟩::new)
 | ⟨id,kind,labels,name,proc,x,has,args,aQ,e⟩,out=>by
  simp only [fT]
  split
  ·obtain⟨n1,h1⟩:=qE (deep+1) id false aQ (out++ [⟨⟨id,kind,labels,name,proc,x,has,args,aQ,e⟩,deep,bO,aM⟩])
   obtain⟨n2,h2⟩:=qE (deep+1) id true e (dw (deep+1) id false (out++ [⟨⟨id,kind,labels,name,proc,x,has,args,aQ,e⟩,deep,bO,aM⟩]) aQ)
   rw [h2,h1]
   exact⟨n1++n2,by simp⟩
  ·exact⟨[],rfl⟩
theorem qE (deep bO:Int) (aM:Bool) : ∀ (l:List Sm) (out:List It),∃ new,dw deep bO aM out l=out++new
 | [],out=>⟨[],by simp [dw]⟩
 | s::l,out=>by
  simp only [dw]
  split
  ·obtain⟨n1,h1⟩:=Bc deep bO aM s out
   obtain⟨n2,h2⟩:=qE deep bO aM l (fT deep bO aM out s)
   rw [h2,h1]
   exact⟨⟨s,deep,bO,aM⟩::n1++n2,by simp⟩
  ·exact⟨[],by simp⟩
end
theorem GD {nest:Int} {n:Nat} {s:Sm} (h:(Sm.pF nest n s).1=true) :
 n+1≤200∧s.id=((n+1:Nat):Int)∧s.one=true∧(Sm.gH (nest+1) (n+1) s.aQ).1=true∧(Sm.gH (nest+1) (Sm.gH (nest+1) (n+1) s.aQ).2 s.aM).1=true∧
 (Sm.pF nest n s).2=(Sm.gH (nest+1) (Sm.gH (nest+1) (n+1) s.aQ).2 s.aM).2:=by
 rw [FR]at h ⊢
 split at h
 ·cases h
 rename_i h1
 simp only [Bool.or_eq_true,bne_iff_ne,ne_eq,decide_eq_true_eq,Bool.not_eq_true',not_or,Decidable.not_not,Bool.not_eq_false]at h1
 split at h
 ·cases h
 rename_i h2
 have xO:(Sm.gH (nest+1) (n+1) s.aQ).1=true:=by simpa using h2
 refine⟨by omega,h1.1.1.2, ?_,xO,h, ?_⟩
 ·rw [Ee,h1.1.2,h1.2];rfl
 ·rw [if_neg (by simp only [Bool.or_eq_true,bne_iff_ne,ne_eq,decide_eq_true_eq,Bool.not_eq_true',not_or,Decidable.not_not,Bool.not_eq_false];exact h1),if_neg h2]
theorem tc {nest:Int} {n:Nat} {l:List Sm} (h:(Sm.gH nest n l).1=true):(l = []∨nest≤12)∧Sm.gH nest n l=Sm.fi nest n l:=by
 unfold Sm.gH gate at *
 split at h
 ·cases h
 ·rename_i hc
  rw [if_neg hc]
  refine⟨?_,rfl⟩
  simp only [Bool.and_eq_true,decide_eq_true_eq,not_and]at hc
  cases l with
  | nil=>exact .inl rfl
  | cons s l=>right;simp only [List.length_cons]at hc;omega
mutual
theorem Rs : ∀ (s:Sm) (nest bO:Int) (aM:Bool) (n:Nat) (out:List It),nest≤12→out.length≤n→n≤200→(Sm.pF nest n s).1=true→
 ∃ new,fT nest bO aM out s=out++new∧It.eA n new=true∧n+new.length=(Sm.pF nest n s).2∧(Sm.pF nest n s).2≤200
 | ⟨id,kind,labels,name,proc,x,has,args,aQ,e⟩,nest,bO,aM,n,out,Rt,ho,hn,h=>by
  obtain⟨h1,h2,h3,h4,h5,h6⟩:=GD h
  dsimp only at h2 h4 h5 h6
  rw [h6]
  obtain⟨g1,e1⟩:=tc h4
  rw [e1]at h4 h5 ⊢
  obtain⟨g2,e2⟩:=tc h5
  rw [e2]at h5 ⊢
  have ye:It.eA n [(⟨⟨id,kind,labels,name,proc,x,has,args,aQ,e⟩,nest,bO,aM⟩:It)] = true:=(Ef _ _).2 ⟨h2,Rt,h3⟩
  obtain⟨n1,k1,k2,k3,k4⟩:=wh aQ (nest+1) id false (n+1) (out++ [⟨⟨id,kind,labels,name,proc,x,has,args,aQ,e⟩,nest,bO,aM⟩]) g1 (by simp;omega) h1 h4
  obtain⟨n2,j1,j2,j3,j4⟩:=wh e (nest+1) id true _ (out++ [⟨⟨id,kind,labels,name,proc,x,has,args,aQ,e⟩,nest,bO,aM⟩]++n1) g2 (by simp;omega) k4 h5
  simp only [fT]
  rw [if_pos (by simpa using Rt),k1,j1]
  refine⟨⟨⟨id,kind,labels,name,proc,x,has,args,aQ,e⟩,nest,bO,aM⟩::(n1++n2),by simp, ?_, ?_,j4⟩
  ·have:(⟨⟨id,kind,labels,name,proc,x,has,args,aQ,e⟩,nest,bO,aM⟩:It)::(n1++n2) = [⟨⟨id,kind,labels,name,proc,x,has,args,aQ,e⟩,nest,bO,aM⟩]++n1++n2:=by simp
   rw [this,kJ,kJ,ye,Bool.true_and]
   have e3:n+([(⟨⟨id,kind,labels,name,proc,x,has,args,aQ,e⟩,nest,bO,aM⟩:It)]++n1).length=(Sm.fi (nest+1) (n+1) aQ).2:=by simp;omega
   rw [e3,j2]
   have e4:n + [(⟨⟨id,kind,labels,name,proc,x,has,args,aQ,e⟩,nest,bO,aM⟩:It)].length=n+1:=rfl
   rw [e4,k2];rfl
  ·simp only [List.length_cons,List.length_append];omega
theorem wh : ∀ (l:List Sm) (nest bO:Int) (aM:Bool) (n:Nat) (out:List It),(l = []∨nest≤12)→out.length≤n→n≤200→(Sm.fi nest n l).1=true→
 ∃ new,dw nest bO aM out l=out++new∧It.eA n new=true∧n+new.length=(Sm.fi nest n l).2∧(Sm.fi nest n l).2≤200
 | [],nest,bO,aM,n,out,Rt,ho,hn,h=>⟨[],by simp [dw],rfl,by simp [Sm.fi],by simpa [Sm.fi]using hn⟩
 | s::l,nest,bO,aM,n,out,Rt,ho,hn,h=>by
  have acN:nest≤12:=Rt.resolve_left (by simp)
  simp only [Sm.fi]at h ⊢
  split at h
  ·cases h
  rename_i hc
  rw [if_neg hc]
  obtain⟨n1,k1,k2,k3,k4⟩:=Rs s nest bO aM n out acN ho hn (by simpa using hc)
  obtain⟨n2,j1,j2,j3,j4⟩:=wh l nest bO aM _ (out++n1) (.inr acN) (by simp;omega) k4 h
  simp only [dw]
  rw [if_pos (by simp only [decide_eq_true_eq];omega),k1,j1]
  refine⟨n1++n2,by simp, ?_,by simp;omega,j4⟩
  rw [kJ,k2,k3,j2];rfl
end
mutual
theorem Ru : ∀ (s:Sm) (nest bO:Int) (aM:Bool) (n:Nat) (out new:List It),fT nest bO aM out s=out++new→It.eA n new=true→out.length≤n→n+new.length≤200→
 Sm.pF nest n s=(true,n+new.length)∧nest≤12
 | ⟨id,kind,labels,name,proc,x,has,args,aQ,e⟩,nest,bO,aM,n,out,new,iU,hm,ho,hn=>by
  obtain⟨n0,h0⟩:=Bc nest bO aM ⟨id,kind,labels,name,proc,x,has,args,aQ,e⟩ out
  have e0:new = ⟨⟨id,kind,labels,name,proc,x,has,args,aQ,e⟩,nest,bO,aM⟩::n0:=List.append_cancel_left (iU.symm.trans h0)
  subst e0
  have agx:(⟨⟨id,kind,labels,name,proc,x,has,args,aQ,e⟩,nest,bO,aM⟩:It)::n0 = [⟨⟨id,kind,labels,name,proc,x,has,args,aQ,e⟩,nest,bO,aM⟩]++n0:=rfl
  rw [agx,kJ,Bool.and_eq_true]at hm
  obtain⟨JO,hm2⟩:=hm
  obtain⟨c1,c2,c3⟩:=(Ef _ _).1 JO
  dsimp only at c1 c2 c3
  simp only [List.length_cons]at hn ⊢
  have U9:dw (nest+1) id true (dw (nest+1) id false (out++ [⟨⟨id,kind,labels,name,proc,x,has,args,aQ,e⟩,nest,bO,aM⟩]) aQ) e=out++([⟨⟨id,kind,labels,name,proc,x,has,args,aQ,e⟩,nest,bO,aM⟩]++n0):=by
   simp only [fT]at iU
   rw [if_pos (by simpa using c2)]at iU
   exact iU
  obtain⟨n1,g1⟩:=qE (nest+1) id false aQ (out++ [⟨⟨id,kind,labels,name,proc,x,has,args,aQ,e⟩,nest,bO,aM⟩])
  obtain⟨n2,g2⟩:=qE (nest+1) id true e (dw (nest+1) id false (out++ [⟨⟨id,kind,labels,name,proc,x,has,args,aQ,e⟩,nest,bO,aM⟩]) aQ)
  have en:n0=n1++n2:=by
   rw [g2,g1]at U9
   simp only [List.append_assoc,List.append_cancel_left_eq]at U9
   exact U9.symm
  subst en
  have Va:It.eA (n+1) (n1++n2)=true:=hm2
  rw [kJ,Bool.and_eq_true]at Va
  simp only [List.length_append]at hn ⊢
  obtain⟨r1,r2⟩:=wi aQ (nest+1) id false (n+1) _ n1 g1 Va.1 (by simp;omega) (by omega)
  obtain⟨q1,q2⟩:=wi e (nest+1) id true (n+1+n1.length) _ n2 g2 Va.2 (by rw [g1];simp;omega) (by omega)
  refine⟨?_,c2⟩
  have gg : ∀ {l:List Sm} {m:Nat} {r:Bool×Nat},Sm.fi (nest+1) m l=r→(l = []∨nest+1≤12)→Sm.gH (nest+1) m l=r:=by
   intro l m r h1 h2
   unfold Sm.gH gate
   rw [if_neg]
   ·exact h1
   ·simp only [Bool.and_eq_true,decide_eq_true_eq,not_and]
    rcases h2 with h2 | h2
    ·subst h2;simp
    ·omega
  have t1:=gg r1 r2
  have t2:=gg q1 q2
  rw [FR]
  dsimp only
  rw [t1]
  dsimp only
  rw [t2]
  rw [Ee,Bool.and_eq_true]at c3
  rw [if_neg]
  ·simp;omega
  ·simp only [Bool.or_eq_true,bne_iff_ne,ne_eq,decide_eq_true_eq,Bool.not_eq_true',not_or,Decidable.not_not,Bool.not_eq_false]
   exact⟨⟨⟨by omega,c1⟩,c3.1⟩,c3.2⟩
theorem wi : ∀ (l:List Sm) (nest bO:Int) (aM:Bool) (n:Nat) (out new:List It),dw nest bO aM out l=out++new→It.eA n new=true→out.length≤n→n+new.length≤200→
 Sm.fi nest n l=(true,n+new.length)∧(l = []∨nest≤12)
 | [],nest,bO,aM,n,out,new,iU,hm,ho,hn=>by
  simp only [dw]at iU
  have:new = []:=by simpa using iU
  subst this
  exact⟨by simp [Sm.fi], .inl rfl⟩
 | s::l,nest,bO,aM,n,out,new,iU,hm,ho,hn=>by
  simp only [dw]at iU
  rw [if_pos (by simp only [decide_eq_true_eq];omega)]at iU
  obtain⟨n1,g1⟩:=Bc nest bO aM s out
  obtain⟨n2,g2⟩:=qE nest bO aM l (fT nest bO aM out s)
  have en:new=(⟨s,nest,bO,aM⟩::n1)++n2:=by
   rw [g2,g1,List.append_assoc,List.append_cancel_left_eq]at iU
   exact iU.symm
  subst en
  rw [kJ,Bool.and_eq_true]at hm
  rw [List.length_append]at hn ⊢
  obtain⟨r1,r2⟩:=Ru s nest bO aM n out _ g1 hm.1 ho (by omega)
  obtain⟨q1,q2⟩:=wi l nest bO aM (n+(⟨s,nest,bO,aM⟩::n1:List It).length) _ n2 g2 hm.2 (by rw [g1,List.length_append];omega) (by omega)
  refine⟨?_, .inr r2⟩
  simp only [Sm.fi,r1,Bool.not_true,Bool.false_eq_true, ↓reduceIte,q1]
  congr 1;omega
end
theorem Bd : ∀ (l:List Pc) (out:List It),out.length≤200→(Pc.fi out.length l=true↔Pc.lQ l=true∧∃ new,allM out l=out++new∧(out++new).length≤200∧It.eA out.length new=true)
 | [],out,ho=>by simp [Pc.fi,Pc.lQ,allM,It.eA];exact ho
 | f::l,out,ho=>by
  have xi : ∀ (l:List Pc) (out:List It),∃ new,allM out l=out++new:=by
   intro l
   induction l with
   | nil=>intro out;exact⟨[],by simp [allM]⟩
   | cons f l ih=>
    intro out
    simp only [allM]
    split
    ·exact⟨_,rfl⟩
    ·obtain⟨n1,h1⟩:=ih (out++f.flat)
     exact⟨f.flat++n1,by rw [h1,List.append_assoc]⟩
  simp only [Pc.fi,Pc.lQ]
  have agy:(decide ((f.params.length:Int) > 8) || decide ((f.vars.length:Int) > 16) || !(isName f.name) || !(dk f.vars) || !(dk f.fin))=(!(isName f.name) || decide ((f.params.length:Int) > 8) || decide ((f.vars.length:Int) > 16) || !(dk f.vars) || !(dk f.fin)):=by
   cases isName f.name <;> simp
  rw [agy]
  split
  ·simp
  split
  ·simp
  have hg:Sm.gH 1 out.length f.body=Sm.fi 1 out.length f.body:=by unfold Sm.gH gate;rw [if_neg (by simp)]
  rw [hg]
  constructor
  ·intro h
   split at h
   ·cases h
   rename_i hc
   obtain⟨n1,k1,k2,k3,k4⟩:=wh f.body 1 0 false out.length [] (.inr (by omega)) (by simp) ho (by simpa using hc)
   have iU:f.flat=n1:=by unfold Pc.flat;rw [k1];rfl
   rw [← k3, ← List.length_append]at h
   obtain⟨hh,n2,j1,j2,j3⟩:=(Bd l (out++n1) (by rw [List.length_append];omega)).1 h
   refine⟨hh,n1++n2, ?_,by simpa using j2, ?_⟩
   ·simp only [allM,iU]
    rw [if_neg (by simp only [List.length_append,decide_eq_true_eq];omega),j1,List.append_assoc]
   ·rw [kJ,k2, ← List.length_append,j3];rfl
  ·rintro⟨hh,new,j1,j2,j3⟩
   simp only [allM]at j1
   split at j1
   ·rename_i hc
    have:new=f.flat:=(List.append_cancel_left j1).symm
    subst this
    simp only [decide_eq_true_eq]at hc
    omega
   rename_i hc
   simp only [decide_eq_true_eq]at hc
   obtain⟨n2,g2⟩:=xi l (out++f.flat)
   have en:new=f.flat++n2:=by
    rw [g2,List.append_assoc]at j1
    exact(List.append_cancel_left j1).symm
   subst en
   rw [kJ,Bool.and_eq_true]at j3
   rw [List.length_append,List.length_append]at j2
   obtain⟨r1,_⟩:=wi f.body 1 0 false out.length [] f.flat (by unfold Pc.flat;rfl) j3.1 (by simp) (by omega)
   rw [r1]
   simp only [Bool.not_true,Bool.false_eq_true, ↓reduceIte]
   rw [← List.length_append]
   exact(Bd l (out++f.flat) (by rw [List.length_append];omega)).2 ⟨hh,n2,g2,by simp;omega,by rw [List.length_append];exact j3.2⟩
theorem FV (p:Pg):p.FU=p.may:=by
 have h:=Bd p.procs [] (by simp)
 unfold Pg.FU Pg.may
 split
 ·rfl
 ·have e:Pc.fi 0 p.procs=(if !(Pc.lQ p.procs)then false else if decide ((p.all.length:Int) > 200)then false else It.eA 0 p.all):=by
   rw [Bool.eq_iff_iff]
   have h':Pc.fi 0 p.procs=true↔_:=h
   rw [h']
   have ha:p.all=allM [] p.procs:=rfl
   constructor
   ·rintro⟨h1,new,h2,h3,h4⟩
    rw [ha,h2,h1]
    simp only [List.nil_append]at h3 ⊢
    simp only [Bool.not_true,Bool.false_eq_true, ↓reduceIte]
    rw [if_neg (by simp only [decide_eq_true_eq];omega)]
    exact h4
   ·intro h1
    cases hh:Pc.lQ p.procs
    ·rw [hh]at h1;simp at h1
    ·rw [hh]at h1
     simp only [Bool.not_true,Bool.false_eq_true, ↓reduceIte]at h1
     split at h1
     ·cases h1
     ·rename_i hc
      simp only [decide_eq_true_eq]at hc
      exact⟨rfl,p.all,by rw [ha];rfl,by simp;omega,h1⟩
  exact e
end Go.Abs

/-! Rng -/

namespace Go.Abs
mutual
def Ex.rn:Ex→Prop
 | ⟨_,n,_,kids⟩=>n≤9223372036854775807∧Ex.xj kids
def Ex.xj:List Ex→Prop
 | []=>True
 | x::l=>x.rn∧Ex.xj l
end
end Go.Abs

/-! FineM -/

namespace Go.Abs
mutual
def Sm.rn:Sm→Prop
 | ⟨_,_,_,_,_,x,_,args,aQ,aM⟩=>x.rn∧(∀ a∈args,a.x.rn)∧Sm.xj aQ∧Sm.xj aM
def Sm.xj:List Sm→Prop
 | []=>True
 | s::l=>s.rn∧Sm.xj l
end
def Pg.rn (p:Pg):Prop:=∀ f∈p.procs,Sm.xj f.body
theorem GF {f:Pc} : ∀ {l:List Pc} {n:Nat},Pc.fi n l=true→f∈l→(isName f.name=true∧dk f.vars=true∧dk f.fin=true∧Pm.eA f.params=true)∧∃ n,(Sm.gH 1 n f.body).1=true
 | g::l,n,h,m=>by
  simp only [Pc.fi]at h
  split at h
  ·cases h
  rename_i c1
  split at h
  ·cases h
  rename_i c2
  split at h
  ·cases h
  rename_i c3
  simp only [Bool.or_eq_true,Bool.not_eq_true',not_or,Bool.not_eq_false]at c1 c2 c3
  rcases List.mem_cons.1 m with rfl | m
  ·exact⟨⟨c1.1.1.2,c1.1.2,c1.2,c2⟩,n,c3⟩
  ·exact GF h m
mutual
theorem O4 : ∀ (s:Sm) (nest:Int) (n:Nat),(Sm.pF nest n s).1=true→s.size<4611686018427387000→s.we
 | ⟨id,kind,labels,name,proc,x,has,args,aQ,aM⟩,nest,n,hm,hs=>by
  obtain⟨_,_,h1,h2,h3,_⟩:=GD hm
  rw [C5]
  rw [(tc h2).2]at h2
  rw [(tc h3).2]at h3
  refine⟨JN h1 hs,uz aQ _ _ h2 ?_,uz aM _ _ h3 ?_⟩ <;> simp only [Sm.size]at hs <;> omega
theorem uz : ∀ (l:List Sm) (nest:Int) (n:Nat),(Sm.fi nest n l).1=true→Sm.aR l<4611686018427387000→Sm.jY l
 | [],_,_,_,_=>by simp only [Sm.jY]
 | s::l,nest,n,hm,hs=>by
  simp only [Sm.fi]at hm
  simp only [Sm.aR]at hs
  split at hm
  ·cases hm
  rename_i hc
  simp only [Bool.not_eq_true',Bool.not_eq_false]at hc
  exact⟨O4 s nest n hc (by omega),uz l nest _ hm (by omega)⟩
end
theorem wj {p:Pg} (h:p.may=true) (hs:p.size<4611686018427387000):p.H9:=by
 have hf:=U7 h hs
 rw [← FV]at h
 unfold Pg.FU at h
 split at h
 ·cases h
 refine⟨hf.sz,hf.yY,hf.lQ,fun f m=> ?_⟩
 obtain⟨_,n,e⟩:=GF h m
 rw [(tc e).2]at e
 have:=Pc.bT m
 simp only [Pg.size]at hs
 exact uz f.body 1 n e (by unfold Pc.size at this;omega)
end Go.Abs

/-! Swap2p -/

namespace Go.Abs
def It.swap (a b:aD) (i:It):It:=⟨i.s.swap a b,i.deep,i.bO,i.aM⟩
end Go.Abs

/-! Cnt -/

namespace Go.Abs
mutual
def Sm.fQ:Sm→Nat
 | ⟨_,_,_,_,_,_,_,_,aQ,aM⟩=>1+Sm.dA aQ+Sm.dA aM
def Sm.dA:List Sm→Nat
 | []=>0
 | s::l=>s.fQ+Sm.dA l
end
end Go.Abs

/-! MirFlat -/

namespace Go.Abs
structure Im where
 s:Sm
 proc:Int
 up:Int
 next:Int
 loop:Int
mutual
def Im.one (proc up next loop:Int) (out:List Im):Sm→List Im
 | ⟨id,kind,labels,name,pc,x,has,args,aQ,aM⟩=>
  Im.rows proc ((out.length:Int)+1) (if kind==6 then(out.length:Int)+1 else next) (if kind==6 then(out.length:Int)+1 else loop)
   (Im.rows proc ((out.length:Int)+1) (if kind==6 then(out.length:Int)+1 else next) (if kind==6 then(out.length:Int)+1 else loop) (out++ [⟨⟨id,kind,labels,name,pc,x,has,args,aQ,aM⟩,proc,up,next,loop⟩]) aQ) aM
def Im.rows (proc up next loop:Int) (out:List Im):List Sm→List Im
 | []=>out
 | s::l=>Im.rows proc up next loop (Im.one proc up (if l.length=0 then next else(out.length:Int)+1+(s.fQ:Int)) loop out s) l
end
theorem Im.acO (proc up next loop:Int) (out:List Im) (s:Sm):Im.one proc up next loop out s =
 Im.rows proc ((out.length:Int)+1) (if s.kind==6 then(out.length:Int)+1 else next) (if s.kind==6 then(out.length:Int)+1 else loop)
  (Im.rows proc ((out.length:Int)+1) (if s.kind==6 then(out.length:Int)+1 else next) (if s.kind==6 then(out.length:Int)+1 else loop) (out++ [⟨s,proc,up,next,loop⟩]) s.aQ) s.aM:=by
 cases s;simp only [Im.one]
mutual
theorem Zc (proc up next loop:Int) (out:List Im) : ∀ s:Sm,(Im.one proc up next loop out s).length=out.length+s.fQ
 | ⟨id,kind,labels,name,pc,x,has,args,aQ,aM⟩=>by
  simp only [Im.one,Sm.fQ]
  rw [gN,gN]
  simp only [List.length_append,List.length_cons,List.length_nil];omega
theorem gN (proc up next loop:Int) (out:List Im) : ∀ l:List Sm,(Im.rows proc up next loop out l).length=out.length+Sm.dA l
 | []=>rfl
 | s::l=>by
  simp only [Im.rows,Sm.dA]
  rw [gN,Zc];omega
end
mutual
theorem C6 : ∀ s:Sm,s.fQ≤s.size
 | ⟨_,_,labels,_,_,x,_,args,aQ,aM⟩=>by
  have:=kS aQ;have:=kS aM
  simp only [Sm.fQ,Sm.size];omega
theorem kS : ∀ l:List Sm,Sm.dA l≤Sm.aR l
 | []=>Nat.le_refl _
 | s::l=>by
  have:=C6 s;have:=kS l
  simp only [Sm.dA,Sm.aR];omega
end
structure Sh where
 L:List Im
 lo:List Int
 hi:List Int
def Sh.go (i:Nat) (h:Sh):List Pc→Sh
 | []=>h
 | f::l=>Sh.go (i+1) ⟨Im.rows i 0 (-1) 0 h.L f.body,h.lo++ [(h.L.length:Int)+1],h.hi++ [((Im.rows i 0 (-1) 0 h.L f.body).length:Int)+1]⟩ l
def Pg.fC (p:Pg):Sh:=Sh.go 0 ⟨[],[],[]⟩ p.procs
end Go.Abs

/-! Frz -/

namespace Go.Abs
theorem aB.Aj {P:Program} {f:Nat} {args:List D} {s0 s:St} {o off n m:Nat} {row:List D} (h:aB P f args s0 (.ptr o off) s) (ho:s.aw[o]? = some row) (hn:s0.aw.length≤n) (hno:n≤o) (hm:s0.aA.length≤m) :
 aB P f args s0 (.dG (D.gF n m row) off) (s.cut n m):=by
 intro M0 w0 gi r0 j9 Vb ha
 refine(h M0 w0 gi r0 j9 Vb ha).mono ?_
 rintro en w ⟨M,d,v0,s',rfl,⟨rfl,rfl⟩,e,r,hv⟩
 have xD:=hv.As
 have rU:v0 = .pointer (some ⟨M.mu o,off,none⟩):=hv.rR.1
 have za:o<s'.aw.length:=(List.getElem?_eq_some_iff.1 ho).1
 obtain⟨vs,T,hh,dN,⟨fW,_⟩,jd⟩:=r.obj o row ho
 replace hh:w.heap[M.mu o]? = some (.cells vs T (0,0)):=hh.cells xD
 let M':Map:= {M with G:=fun b q=>if b=M.mu o then vs[q]? else M.G b q}
 have hGo : ∀ q,M.G (M.mu o) q=none:=r.jr o za
 have le:Le M s' M' s':=⟨fun b q v hq=>by
  show(if b=M.mu o then vs[q]? else M.G b q)=some v
  by_cases hb:b=M.mu o
  ·subst hb;rw [hGo]at hq;cases hq
  ·rw [if_neg hb];exact hq,Nat.le_refl _,fun _ _=> .refl _,Nat.le_refl _,fun t n' _ e=>⟨n',e,Nat.le_refl _,fun _=>rfl⟩⟩
 have hF : ∀ q,q<(s'.cut n m).aw.length→q<s'.aw.length∧q≠o:=fun q h=>by rw [kj]at h;omega
 have sJ:w0.heap.size≤M.mu o:=e.qe o (.inl (by omega)) za
 have ec:=e.cut hn hm
 have Rv:Le M (s'.cut n m) M' (s'.cut n m):=⟨le.G,Nat.le_refl _,fun _ _=> .refl _,Nat.le_refl _,fun t n' _ e=>⟨n',e,Nat.le_refl _,fun _=>rfl⟩⟩
 have rc:=r.cut n m
 have mF : ∀ b,b≠M.mu o→∀ q,M'.G b q=M.G b q:=fun b hb q=>if_neg hb
 refine⟨M',_,v0,_,rfl,⟨rfl,rfl⟩,⟨ec.le.trans Rv,ec.kept,ec.qe,ec.pA,fun b q eH=> ?_,ec.size,ec.os,ec.tape,ec.output⟩,⟨fun b q v hq=> ?_,fun q ds hq=> ?_,fun q hq qh=> ?_,rc.inj,fun t n' Gj=> ?_,rc.eY,rc.fZ⟩, ?_⟩
 ·by_cases hb:b=M.mu o
  ·subst hb;exact .inl sJ
  ·rw [mF b hb]at eH;exact ec.qf b q eH
 ·have lA:(if b=M.mu o then vs[q]? else M.G b q)=some v:=hq
  by_cases hb:b=M.mu o
  ·rw [if_pos hb]at lA
   rw [hb,iS hh]
   exact⟨lA,fW v (Array.mem_of_getElem? lA)⟩
  ·rw [if_neg hb]at lA
   exact r.comm b q v lA
 ·obtain⟨fD,T',h3,h4,h5,h6⟩:=rc.obj q ds hq
  exact⟨fD,T',h3,h4,h5,fun i d v e1 e2=>(h6 i d v e1 e2).mono Rv⟩
 ·obtain⟨h3,h4⟩:=hF q hq
  show M'.G (M.mu q) qh=none
  rw [mF _ (fun e=>h4 (r.inj q o h3 za e))]
  exact r.jr q h3 qh
 ·rcases rc.tok t n' Gj with h3 | ⟨b,cap,z,fD,T',h3,h4,h5,h6,h7⟩
  ·exact .inl h3
  ·refine .inr ⟨b,cap,z,fD,T',h3,h4,h5,h6,fun qh yJ=> ?_,h7.2⟩
   rw [mF _ (fun e=>r.eY t b cap z o (uU ⟨n',Gj⟩) h3 za e.symm)]
   exact h7.1 qh yJ
 ·rw [rU]
  have:=RD.dG (M:=M') (s:=s'.cut n m) (D.gF n m row) off (M.mu o) 0 (fun i d e1=> ?_) (fun i d u e1 eu=> ?_)
  ·simpa using this
  ·rw [lf,List.getElem?_map,Option.map_eq_some_iff]at e1
   obtain⟨d0,e1,rfl⟩:=e1
   have hi:=(List.getElem?_eq_some_iff.1 e1).1
   refine⟨vs[i]'(by omega), ?_⟩
   show(if M.mu o=M.mu o then vs[0+i]? else _)=_
   rw [if_pos rfl,Nat.zero_add]
   exact Array.getElem?_eq_getElem _
  ·rw [lf,List.getElem?_map,Option.map_eq_some_iff]at e1
   obtain⟨d0,e1,rfl⟩:=e1
   have Ei:(if M.mu o=M.mu o then vs[0+i]? else M.G (M.mu o) (0+i))=some u:=eu
   rw [if_pos rfl,Nat.zero_add]at Ei
   exact((jd i d0 u e1 Ei).fg n m).mono Rv
theorem aB.goK {P:Program} {f:FuncId} {res:List (Nat×Option (Bool×Nat))} {body:AC} {args:List D} {s:St} {d:D} {s':St} {nt:Nat} (n m:Nat) (hn:s.aw.length≤n) (hm:s.aA.length≤m) (h0:Has P f nt res body) (hl:Nat.ble args.length nt=true)
 (h : ∀ (B:fz) (Q:Exit→Tm→St→Prop),B.s=s→iP n m res d s'=Q→gD P B nt body Q (oh 0 args) s):aB P f args s d s':=by
 obtain⟨fn,hf,hc⟩:=h0
 refine ew.Wx (ew.intro (Q:=fun d1 s1=>Wk d1 d∧hO s1.aw s'.aw∧s1.aA=s'.aA) hf hc (Nat.le_of_ble_eq_true hl) fun B hB=>(iz (h B _ hB rfl)).mono fun e tm s1 hr=> ?_) fun d1 s1 ⟨h1,h2,h3⟩=>⟨d,s',h1,h2,h3,rfl,rfl⟩
 subst hB
 cases e with
 | normal=>obtain⟨l,h1,h2,h3,h4⟩:=hr;exact⟨l,h1,_,_,hn,hm,h2,h3,h4⟩
 | ret=>obtain⟨l,h1,h2,h3,h4⟩:=hr;exact⟨l,h1,_,_,hn,hm,h2,h3,h4⟩
 | exit id=>exact hr.elim
 | goto l=>exact hr.elim
 | panic ch=>exact hr.elim
 | outgrown=>exact hr.elim
end Go.Abs

/-! Flat1 -/

namespace Go.Abs
set_option maxRecDepth 8000
open Go.Proofs
def fj (i:Im):List D:= [.int .i64 i.s.id, .int .i64 i.s.kind, .slice .shared 1 (i.s.labels.map encStr), .str i.s.name, .str i.s.proc,
 .int .i64 i.s.x.op, .int .i64 i.s.x.n, .str i.s.x.name, .slice .shared 4 (i.s.x.kids.map bx), .bool i.s.has, .slice .shared 6 (i.s.args.map ej), .slice .shared 13 (i.s.aQ.map aU), .slice .shared 13 (i.s.aM.map aU), .int .i64 i.proc, .int .i64 i.up, .int .i64 i.next, .int .i64 i.loop]
def im (n:Int):List D:= [.int .i64 n]
theorem O5 (i:Im):D.bp 0 0 (fj i)=true:=by simp [fj,D.bp,D.ok,Tag.ok,eD,WO,HZ,iH]
theorem Ia (l:List Im):D.gZ 0 0 (l.map fj)=true:=gW O5 l
theorem XQ (n m:Nat) (l:List Im):D.kx n m (l.map fj)=l.map fj:=mL O5 n m l
theorem agz (n m:Nat) (i:Im):D.gF n m (fj i)=fj i:=il n m _ (O5 i)
theorem agA (x:Im):(fj x).length=17:=nd rfl
theorem Zd (x:Im):List.take 17 (fj x)=fj x:=nd rfl
theorem acR (x:Im):List.drop 17 (fj x) = []:=nd rfl
theorem acS (x:Im):List.take 13 (fj x)=aU x.s:=by simp only [fj,cv];rfl
theorem Vc (x:Im):(fj x)[0]? = some (.int .i64 x.s.id):=nd rfl
theorem Vd (x:Im):(fj x)[1]? = some (.int .i64 x.s.kind):=nd rfl
theorem Ve (x:Im):(fj x)[4]? = some (.str x.s.proc):=nd rfl
theorem Rw (x:Im):(fj x)[13]? = some (.int .i64 x.proc):=nd rfl
theorem Rx (x:Im):(fj x)[14]? = some (.int .i64 x.up):=nd rfl
theorem Ry (x:Im):(fj x)[15]? = some (.int .i64 x.next):=nd rfl
theorem Rz (x:Im):(fj x)[16]? = some (.int .i64 x.loop):=nd rfl
theorem O6 (s:Sm) (a b c d:Int):fj ⟨s,a,b,c,d⟩ = [.int .i64 s.id, .int .i64 s.kind, .slice .shared 1 (s.labels.map encStr), .str s.name, .str s.proc,
 .int .i64 s.x.op, .int .i64 s.x.n, .str s.x.name, .slice .shared 4 (s.x.kids.map bx), .bool s.has, .slice .shared 6 (s.args.map ej), .slice .shared 13 (s.aQ.map aU), .slice .shared 13 (s.aM.map aU), .int .i64 a, .int .i64 b, .int .i64 c, .int .i64 d]:=nd rfl
theorem XR (n:Int):D.bp 0 0 (im n)=true:=rfl
theorem vr (l:List Int):D.gZ 0 0 (l.map im)=true:=gW XR l
theorem RA (n m:Nat) (l:List Int):D.kx n m (l.map im)=l.map im:=mL XR n m l
attribute [go_sem] XQ agz agA Zd acR acS Vc Vd Ve Rw Rx Ry Rz RA im
theorem acT : ∀ n,n<1000000000→∀ v:Sm,v.size≤n→aB Tryz.prog mb [.agg (aU v)] S0 (.int .i64 (v.fQ:Int)) S0:=by
 intro n
 induction n with
 | zero=>intro _ v h;obtain⟨_,_,_,_,_,_,_,_,_,_⟩:=v;simp only [Sm.size]at h;omega
 | succ n ih=>
 intro hn v hv
 have dN:Sm.aR v.aQ≤n∧Sm.aR v.aM≤n∧v.fQ=1+Sm.dA v.aQ+Sm.dA v.aM:=by
  obtain⟨_,_,_,_,_,_,_,_,_,_⟩:=v
  simp only [Sm.size]at hv;exact⟨by dsimp only;omega,by dsimp only;omega,rfl⟩
 obtain⟨h1,h2,h3⟩:=dN
 have c1:=kS v.aQ
 have c2:=kS v.aM
 have l1:=Sm.cM v.aQ
 have l2:=Sm.cM v.aM
 have hk : ∀ y,y∈v.aQ∨y∈v.aM→∀ s,aB Tryz.prog mb [.agg (aU y)] s (.int .i64 (y.fQ:Int)) s:=fun y hy s=>
  (ih (by omega) y (by rcases hy with hy | hy <;> (have:=Sm.bT hy;omega))).pure (by simp only [D.bp,D.ok,km];rfl) rfl s
 rw [h3]
 unfold S0
 refine aB.go HL rfl fun B Q hB hQ=> ?_
 have⟨hF,hP,gA,gB⟩:=bF
 repeat' (first
 | simp only [go_sem,hF,hP,gA,gB]
 | (with_reducible refine aC hQ ?_;simp only [ay,az,Option.some.injEq,exists_eq_left',go_sem,hF,hP,gA,gB];repeat' (first | exact Ok.out | with_reducible refine aH ?_ ?_ | (simp;done))))
 refine cO 1 0 (bh.ind (ι:=List Sm×Nat×Nat) (fun i=>v.aQ.drop i.2.1=i.1∧i.2.2+Sm.dA i.1=1+Sm.dA v.aQ) (fun i=>i.1.length)
  (fun i=> [(1, .ptr 0 0),(3, .int .i64 (i.2.2:Int)),(9, .slice .shared 13 (v.aQ.map aU)),(10, .int .i64 (v.aQ.length:Int)),(11, .int .i64 (i.2.1:Int))]) (fun i=>⟨[aU v],[]⟩) ?_ (v.aQ,0,1) ⟨rfl,rfl⟩)
 rintro⟨rest,k,c⟩ ⟨g1,g2⟩ IH
 dsimp only at g1 g2
 cases rest with
 | cons y rest=>
  obtain⟨hP,g3,hF,g4⟩:=drop_cons g1
  have hy:=hk y (.inl (List.mem_of_getElem? hP))
  simp only [Sm.dA]at g2
  have Be:=C6 y
  have AB:=Sm.bT (List.mem_of_getElem? hP)
  have w1:IntKind.wrap .i64 ((k:Int)+1)=((k+1:Nat):Int):=by rw [cV] <;> omega
  have w2:IntKind.wrap .i64 ((c:Int)+(y.fQ:Int))=((c+y.fQ:Nat):Int):=by rw [cV] <;> omega
  repeat' (first
 | simp only [go_sem,hF,hP,gA,gB,w1,w2]
 | (with_reducible refine CU (hy _) ?_)
 | (with_reducible refine aC hQ ?_;simp only [ay,az,Option.some.injEq,exists_eq_left',go_sem,hF,hP,gA,gB];repeat' (first | exact Ok.out | with_reducible refine aH ?_ ?_ | (simp;done))))
  refine cO 1 0 (IH (rest,k+1,c+y.fQ) ⟨g3,by dsimp only;omega⟩ (Nat.lt_succ_self _))
 | nil=>
  have hF:=drop_nil g1
  simp only [Sm.dA,Nat.add_zero]at g2
  subst g2
  repeat' (first
 | simp only [go_sem,hF,hP,gA,gB]
 | (with_reducible refine aC hQ ?_;simp only [ay,az,Option.some.injEq,exists_eq_left',go_sem,hF,hP,gA,gB];repeat' (first | exact Ok.out | with_reducible refine aH ?_ ?_ | (simp;done))))
  refine cO 1 0 (bh.ind (ι:=List Sm×Nat×Nat) (fun i=>v.aM.drop i.2.1=i.1∧i.2.2+Sm.dA i.1=1+Sm.dA v.aQ+Sm.dA v.aM) (fun i=>i.1.length)
   (fun i=> [(1, .ptr 0 0),(3, .int .i64 (i.2.2:Int)),(21, .slice .shared 13 (v.aM.map aU)),(22, .int .i64 (v.aM.length:Int)),(23, .int .i64 (i.2.1:Int))]) (fun i=>⟨[aU v],[]⟩) ?_ (v.aM,0,1+Sm.dA v.aQ) ⟨rfl,rfl⟩)
  rintro⟨rest,k,c⟩ ⟨g1,g2⟩ IH
  dsimp only at g1 g2
  cases rest with
  | cons y rest=>
   obtain⟨hP,g3,hF,g4⟩:=drop_cons g1
   have hy:=hk y (.inr (List.mem_of_getElem? hP))
   simp only [Sm.dA]at g2
   have Be:=C6 y
   have AB:=Sm.bT (List.mem_of_getElem? hP)
   have w1:IntKind.wrap .i64 ((k:Int)+1)=((k+1:Nat):Int):=by rw [cV] <;> omega
   have w2:IntKind.wrap .i64 ((c:Int)+(y.fQ:Int))=((c+y.fQ:Nat):Int):=by rw [cV] <;> omega
   repeat' (first
 | simp only [go_sem,hF,hP,gA,gB,w1,w2]
 | (with_reducible refine CU (hy _) ?_)
 | (with_reducible refine aC hQ ?_;simp only [ay,az,Option.some.injEq,exists_eq_left',go_sem,hF,hP,gA,gB];repeat' (first | exact Ok.out | with_reducible refine aH ?_ ?_ | (simp;done))))
   refine cO 1 0 (IH (rest,k+1,c+y.fQ) ⟨g3,by dsimp only;omega⟩ (Nat.lt_succ_self _))
  | nil=>
   have hF:=drop_nil g1
   simp only [Sm.dA,Nat.add_zero]at g2
   subst g2
   repeat' (first
 | simp only [go_sem,hF,hP,gA,gB]
 | (with_reducible refine aC hQ ?_;simp only [ay,az,Option.some.injEq,exists_eq_left',go_sem,hF,hP,gA,gB];repeat' (first | exact Ok.out | with_reducible refine aH ?_ ?_ | (simp;done))))
theorem acU {v:Sm} (h:v.size<1000000000) (s:St):aB Tryz.prog mb [.agg (aU v)] s (.int .i64 (v.fQ:Int)) s:=
 (acT v.size h v (Nat.le_refl _)).pure (by simp only [D.bp,D.ok,km];rfl) rfl s
end Go.Abs

/-! Flat2 -/

namespace Go.Abs
set_option maxRecDepth 8000
open Go.Proofs
abbrev iJ (g ps:D) (L:List Im) (lo hi:List Int):List D:= [g,ps, .slice (.tok 0) 17 (L.map fj), .slice (.tok 1) 1 (lo.map im), .slice (.tok 2) 1 (hi.map im)]
abbrev Vf (proc up next loop:Int):List D:= [.int .i64 0, .int .i64 0, .slice .full 0 [], .str [], .str [], .int .i64 0, .int .i64 0, .str [], .slice .full 0 [], .bool false, .slice .full 0 [], .slice .full 0 [], .slice .full 0 [], .int .i64 proc, .int .i64 up, .int .i64 next, .int .i64 loop]
theorem aB.agB {P:Program} {f:Nat} {args:List D} {g ps:D} {L L':List Im} {lo hi Gg ik:List Int} {a b c a' b' c':Option Nat}
 (h:aB P f (.ptr 0 0::args) ⟨[iJ g ps L lo hi],[a,b,c]⟩ (.tuple []) ⟨[iJ g ps L' Gg ik],[a',b',c']⟩)
 (ha:D.bp 0 0 args=true) (hg:D.ok 0 0 g=true) (hp:D.ok 0 0 ps=true)
 {s:St} {o:Nat} (ho:s.aw[o]? = some (iJ g ps L lo hi)) (ht:s.aA = [a,b,c]):aB P f (.ptr o 0::args) s (.tuple []) ⟨s.aw.set o (iJ g ps L' Gg ik),[a',b',c']⟩:=by
 have hr : ∀ (L:List Im) (lo hi:List Int),D.dY [o] [0,1,2] (iJ g ps L lo hi)=iJ g ps L lo hi:=fun L lo hi=>by
  simp [D.dY,D.cm,Tag.cm,rX _ _ _ hg,rX _ _ _ hp,iV _ _ _ (Ia L),iV _ _ _ (vr lo),iV _ _ _ (vr hi)]
 have hk : ∀ (L:List Im) (lo hi:List Int),D.bp 1 3 (iJ g ps L lo hi)=true:=fun L lo hi=>by
  simp [D.bp,D.ok,Tag.ok,Fl (Nat.zero_le 1) (Nat.zero_le 3) _ hg,Fl (Nat.zero_le 1) (Nat.zero_le 3) _ hp,l7 (Nat.zero_le 1) (Nat.zero_le 3) _ (Ia L),l7 (Nat.zero_le 1) (Nat.zero_le 3) _ (vr lo),l7 (Nat.zero_le 1) (Nat.zero_le 3) _ (vr hi)]
 refine ew.frame [o] [0,1,2] h (by simp) (by decide) (by simpa using (List.getElem?_eq_some_iff.1 ho).1) (by rw [ht];simp) rfl (fun i o' ds e1 e2=> ?_) rfl (fun i t' e1=> ?_)
  (by simp [D.dY,D.cm,eZ _ _ _ ha])
  (by simp [D.bp,D.ok,ib (Nat.zero_le 1) (Nat.zero_le 3) _ ha]) ?_
 ·cases i with
  | zero=>simp only [List.getElem?_cons_zero,Option.some.injEq]at e1 e2;subst e1;subst e2;exact⟨by rw [hr];exact ho,hk L lo hi⟩
  | succ i=>simp at e1
 ·rw [ht]
  match i,e1 with
  | 0,e1=>simp at e1;subst e1;rfl
  | 1,e1=>simp at e1;subst e1;rfl
  | 2,e1=>simp at e1;subst e1;rfl
  | i+3,e1=>simp at e1
 ·rintro _ _ ⟨rfl,rfl⟩
  refine⟨by simp [D.back,D.cm,D.dY], ?_⟩
  have:=hr L' Gg ik
  simp [St.back,jO,jn,this,ht]
abbrev XS (N:Nat):Prop:=∀ (l:List Sm) (proc up next loop:Int) (out:List Im) (g ps:D) (lo hi:List Int) (b c:Option Nat),Sm.aR l<N→out.length+Sm.dA l<1000000000→D.ok 0 0 g=true→D.ok 0 0 ps=true→
 ∀ {s:St} {o:Nat},s.aw[o]? = some (iJ g ps out lo hi)→s.aA = [some out.length,b,c]→
 aB Tryz.prog jF [.ptr o 0, .slice .shared 13 (l.map aU), .agg (Vf proc up next loop)] s (.tuple []) ⟨s.aw.set o (iJ g ps (Im.rows proc up next loop out l) lo hi),[some (Im.rows proc up next loop out l).length,b,c]⟩
theorem agC {N:Nat} (ih:XS N) {l:List Sm} {proc up next loop:Int} {out:List Im} {g ps:D} {lo hi:List Int} {b c:Option Nat} (hs:Sm.aR l<N+1) (hc:out.length+Sm.dA l<1000000000) (hg:D.ok 0 0 g=true) (hp:D.ok 0 0 ps=true) (hN:N<1000000000) :
 aB Tryz.prog jF [.ptr 0 0, .slice .shared 13 (l.map aU), .agg (Vf proc up next loop)] ⟨[iJ g ps out lo hi],[some out.length,b,c]⟩ (.tuple []) ⟨[iJ g ps (Im.rows proc up next loop out l) lo hi],[some (Im.rows proc up next loop out l).length,b,c]⟩:=by
 obtain⟨R,hR⟩ : ∃ R,R=Im.rows proc up next loop out l:=⟨_,rfl⟩
 have hlR:R.length=out.length+Sm.dA l:=by rw [hR,gN]
 rw [← hR]
 have k1 : ∀ n m,D.fg n m g=g:=fun n m=>Ox n m _ hg
 have k2 : ∀ n m,D.fg n m ps=ps:=fun n m=>Ox n m _ hp
 refine aB.go A6 rfl fun B Q hB hQ=> ?_
 have⟨hF,hP,gA,gB⟩:=bF
 repeat' (first
 | simp only [go_sem,hF,hP,gA,gB,k1,k2]
 | (with_reducible first | refine bq fun hc=> ?_ | refine br fun hc=> ?_ | refine bt (fun hc=> ?_) fun hc=> ?_) <;> (try simp only [hc,bs, ↓reduceIte]at h) <;> try simp only [hc]
 | (with_reducible refine aC hQ ?_;simp only [ay,az,bu,bw,go_sem,hF,hP,gA,gB,k1,k2];repeat' (first | exact Ok.out | with_reducible refine aH ?_ ?_ | (simp;done))))
 refine dH 2 3 ?_ ?_ (bh.ind (ι:=List Sm×Nat×List Im) (fun i=>l.drop i.2.1=i.1∧Im.rows proc up next loop i.2.2 i.1=R∧i.2.2.length+Sm.dA i.1=out.length+Sm.dA l) (fun i=>i.1.length)
  (fun i=> [(0, .ptr 0 0),(1, .slice .shared 13 (l.map aU)),(5, .ptr 1 0),(11, .slice .shared 13 (l.map aU)),(12, .int .i64 (l.length:Int)),(13, .int .i64 (i.2.1:Int))]) (fun i=>⟨[iJ g ps i.2.2 lo hi,Vf proc up next loop],[some i.2.2.length,b,c]⟩) ?_ (l,0,out) ⟨rfl,hR.symm,rfl⟩)
 ·(simp only [go_sem,hF,hP,gA,gB,k1,k2];try exact bH)
 ·(simp only [go_sem,hF,hP,gA,gB,k1,k2];try exact bH)
 rintro⟨rest,k,cB⟩ ⟨h1,h2,h3⟩ IH
 dsimp only at h1 h2 h3
 have hlen:l.length<1000000000:=by have:=Sm.cM l;omega
 cases rest with
 | nil=>
  have hF:=drop_nil h1
  simp only [Im.rows]at h2
  subst h2
  repeat' (first
 | simp only [go_sem,hF,hP,gA,gB,k1,k2]
 | (with_reducible first | refine bq fun hc=> ?_ | refine br fun hc=> ?_ | refine bt (fun hc=> ?_) fun hc=> ?_) <;> (try simp only [hc,bs, ↓reduceIte]at h) <;> try simp only [hc]
 | (with_reducible refine aC hQ ?_;simp only [ay,az,bu,bw,go_sem,hF,hP,gA,gB,k1,k2];repeat' (first | exact Ok.out | with_reducible refine aH ?_ ?_ | (simp;done))))
 | cons v rest=>
  obtain⟨hP,g2,hF,g4⟩:=drop_cons h1
  have bW:k<4611686018427387904:=by omega
  have hv:=Sm.bT (List.mem_of_getElem? hP)
  have oG:Sm.aR v.aQ<N∧Sm.aR v.aM<N∧v.fQ=1+Sm.dA v.aQ+Sm.dA v.aM:=by
   obtain⟨_,_,_,_,_,_,_,_,_,_⟩:=v
   simp only [Sm.size]at hv
   exact⟨by dsimp only;omega,by dsimp only;omega,rfl⟩
  obtain⟨DC,II,hv3⟩:=oG
  simp only [Sm.dA]at h3
  simp only [Im.rows,Im.acO]at h2
  have gA:(cB.length+1)*241≤bl:=by unfold bl;omega
  have LQ:IntKind.wrap .i64 ((cB.length:Int)+1)=(cB.length:Int)+1:=cV (by omega) (by omega)
  have wk:IntKind.wrap .i64 ((k:Int)+1)=((k+1:Nat):Int):=by rw [cV] <;> omega
  have XT:IntKind.wrap .i64 ((cB.length:Int)+1+(v.fQ:Int))=(cB.length:Int)+1+(v.fQ:Int):=cV (by omega) (by omega)
  have dN:=fun s=>acU (v:=v) (by omega) s
  simp only [cv]at dN
  have Lw:rest.length=l.length - (k+1):=by rw [← g2,List.length_drop]
  by_cases ax1:k+1<l.length
  ·have d1:decide (((k+1:Nat):Int)<(l.length:Int))=true:=by simp;omega
   have e1:(rest.length=0)=False:=by simp;intro h;rw [h]at Lw;simp at Lw;omega
   by_cases RB:v.kind=6
   ·have d2:(v.kind==6)=true:=by simp [RB]
    simp only [e1,d2, ↓reduceIte,Bool.false_eq_true]at h2
    have f1:=fun {s:St} {o:Nat}=>@ih v.aQ proc ((cB.length:Int)+1) ((cB.length:Int)+1) ((cB.length:Int)+1) (cB++ [⟨v,proc,up,((cB.length:Int)+1+(v.fQ:Int)),loop⟩]) g ps lo hi b c DC (by simp;omega) hg hp s o
    have f2:=fun {s:St} {o:Nat}=>@ih v.aM proc ((cB.length:Int)+1) ((cB.length:Int)+1) ((cB.length:Int)+1) _ g ps lo hi b c II (by rw [gN proc ((cB.length:Int)+1) ((cB.length:Int)+1) ((cB.length:Int)+1) (cB++ [⟨v,proc,up,((cB.length:Int)+1+(v.fQ:Int)),loop⟩]) v.aQ];simp;omega) hg hp s o
    have hl:(Im.rows proc ((cB.length:Int)+1) ((cB.length:Int)+1) ((cB.length:Int)+1) (Im.rows proc ((cB.length:Int)+1) ((cB.length:Int)+1) ((cB.length:Int)+1) (cB++ [⟨v,proc,up,((cB.length:Int)+1+(v.fQ:Int)),loop⟩]) v.aQ) v.aM).length=cB.length+v.fQ:=by rw [gN,gN];simp;omega
    simp only [iJ,List.map_append,List.map_cons,List.map_nil,O6,List.length_append,List.length_cons,List.length_nil]at f1
    repeat' (first
 | simp only [go_sem,hF,hP,gA,gB,k1,k2,LQ,wk,XT,d1,d2,cv]
 | (with_reducible refine CU (dN _) ?_)
 | (with_reducible refine CU (f1 (by with_unfolding_all rfl) (by with_unfolding_all rfl)) ?_)
 | (with_reducible refine CU (f2 (by with_unfolding_all rfl) (by with_unfolding_all rfl)) ?_)
 | (with_reducible refine aC hQ ?_;simp only [ay,az,bu,bw,go_sem,hF,hP,gA,gB];repeat' (first | exact Ok.out | with_reducible refine aH ?_ ?_ | (simp;done))))
    refine dH 2 3 ?_ ?_ (IH (rest,k+1,_) ⟨g2,h2,by dsimp only;rw [hl];omega⟩ (Nat.lt_succ_self _))
    ·(simp only [go_sem,hF,hP,gA,gB,wk,k1,k2];try exact bH)
    ·(simp only [go_sem,hF,hP,gA,gB,wk,k1,k2];try exact bH)
   ·have d2:(v.kind==6)=false:=by simp [RB]
    simp only [e1,d2, ↓reduceIte,Bool.false_eq_true]at h2
    have f1:=fun {s:St} {o:Nat}=>@ih v.aQ proc ((cB.length:Int)+1) ((cB.length:Int)+1+(v.fQ:Int)) loop (cB++ [⟨v,proc,up,((cB.length:Int)+1+(v.fQ:Int)),loop⟩]) g ps lo hi b c DC (by simp;omega) hg hp s o
    have f2:=fun {s:St} {o:Nat}=>@ih v.aM proc ((cB.length:Int)+1) ((cB.length:Int)+1+(v.fQ:Int)) loop _ g ps lo hi b c II (by rw [gN proc ((cB.length:Int)+1) ((cB.length:Int)+1+(v.fQ:Int)) loop (cB++ [⟨v,proc,up,((cB.length:Int)+1+(v.fQ:Int)),loop⟩]) v.aQ];simp;omega) hg hp s o
    have hl:(Im.rows proc ((cB.length:Int)+1) ((cB.length:Int)+1+(v.fQ:Int)) loop (Im.rows proc ((cB.length:Int)+1) ((cB.length:Int)+1+(v.fQ:Int)) loop (cB++ [⟨v,proc,up,((cB.length:Int)+1+(v.fQ:Int)),loop⟩]) v.aQ) v.aM).length=cB.length+v.fQ:=by rw [gN,gN];simp;omega
    simp only [iJ,List.map_append,List.map_cons,List.map_nil,O6,List.length_append,List.length_cons,List.length_nil]at f1
    repeat' (first
 | simp only [go_sem,hF,hP,gA,gB,k1,k2,LQ,wk,XT,d1,d2,cv]
 | (with_reducible refine CU (dN _) ?_)
 | (with_reducible refine CU (f1 (by with_unfolding_all rfl) (by with_unfolding_all rfl)) ?_)
 | (with_reducible refine CU (f2 (by with_unfolding_all rfl) (by with_unfolding_all rfl)) ?_)
 | (with_reducible refine aC hQ ?_;simp only [ay,az,bu,bw,go_sem,hF,hP,gA,gB];repeat' (first | exact Ok.out | with_reducible refine aH ?_ ?_ | (simp;done))))
    refine dH 2 3 ?_ ?_ (IH (rest,k+1,_) ⟨g2,h2,by dsimp only;rw [hl];omega⟩ (Nat.lt_succ_self _))
    ·(simp only [go_sem,hF,hP,gA,gB,wk,k1,k2];try exact bH)
    ·(simp only [go_sem,hF,hP,gA,gB,wk,k1,k2];try exact bH)
  ·have d1:decide (((k+1:Nat):Int)<(l.length:Int))=false:=by simp;omega
   have e1:(rest.length=0)=True:=by simp only [eq_iff_iff,iff_true];omega
   by_cases RB:v.kind=6
   ·have d2:(v.kind==6)=true:=by simp [RB]
    simp only [e1,d2, ↓reduceIte,Bool.false_eq_true]at h2
    have f1:=fun {s:St} {o:Nat}=>@ih v.aQ proc ((cB.length:Int)+1) ((cB.length:Int)+1) ((cB.length:Int)+1) (cB++ [⟨v,proc,up,next,loop⟩]) g ps lo hi b c DC (by simp;omega) hg hp s o
    have f2:=fun {s:St} {o:Nat}=>@ih v.aM proc ((cB.length:Int)+1) ((cB.length:Int)+1) ((cB.length:Int)+1) _ g ps lo hi b c II (by rw [gN proc ((cB.length:Int)+1) ((cB.length:Int)+1) ((cB.length:Int)+1) (cB++ [⟨v,proc,up,next,loop⟩]) v.aQ];simp;omega) hg hp s o
    have hl:(Im.rows proc ((cB.length:Int)+1) ((cB.length:Int)+1) ((cB.length:Int)+1) (Im.rows proc ((cB.length:Int)+1) ((cB.length:Int)+1) ((cB.length:Int)+1) (cB++ [⟨v,proc,up,next,loop⟩]) v.aQ) v.aM).length=cB.length+v.fQ:=by rw [gN,gN];simp;omega
    simp only [iJ,List.map_append,List.map_cons,List.map_nil,O6,List.length_append,List.length_cons,List.length_nil]at f1
    repeat' (first
 | simp only [go_sem,hF,hP,gA,gB,k1,k2,LQ,wk,XT,d1,d2,cv]
 | (with_reducible refine CU (dN _) ?_)
 | (with_reducible refine CU (f1 (by with_unfolding_all rfl) (by with_unfolding_all rfl)) ?_)
 | (with_reducible refine CU (f2 (by with_unfolding_all rfl) (by with_unfolding_all rfl)) ?_)
 | (with_reducible refine aC hQ ?_;simp only [ay,az,bu,bw,go_sem,hF,hP,gA,gB];repeat' (first | exact Ok.out | with_reducible refine aH ?_ ?_ | (simp;done))))
    refine dH 2 3 ?_ ?_ (IH (rest,k+1,_) ⟨g2,h2,by dsimp only;rw [hl];omega⟩ (Nat.lt_succ_self _))
    ·(simp only [go_sem,hF,hP,gA,gB,wk,k1,k2];try exact bH)
    ·(simp only [go_sem,hF,hP,gA,gB,wk,k1,k2];try exact bH)
   ·have d2:(v.kind==6)=false:=by simp [RB]
    simp only [e1,d2, ↓reduceIte,Bool.false_eq_true]at h2
    have f1:=fun {s:St} {o:Nat}=>@ih v.aQ proc ((cB.length:Int)+1) next loop (cB++ [⟨v,proc,up,next,loop⟩]) g ps lo hi b c DC (by simp;omega) hg hp s o
    have f2:=fun {s:St} {o:Nat}=>@ih v.aM proc ((cB.length:Int)+1) next loop _ g ps lo hi b c II (by rw [gN proc ((cB.length:Int)+1) next loop (cB++ [⟨v,proc,up,next,loop⟩]) v.aQ];simp;omega) hg hp s o
    have hl:(Im.rows proc ((cB.length:Int)+1) next loop (Im.rows proc ((cB.length:Int)+1) next loop (cB++ [⟨v,proc,up,next,loop⟩]) v.aQ) v.aM).length=cB.length+v.fQ:=by rw [gN,gN];simp;omega
    simp only [iJ,List.map_append,List.map_cons,List.map_nil,O6,List.length_append,List.length_cons,List.length_nil]at f1
    repeat' (first
 | simp only [go_sem,hF,hP,gA,gB,k1,k2,LQ,wk,XT,d1,d2,cv]
 | (with_reducible refine CU (dN _) ?_)
 | (with_reducible refine CU (f1 (by with_unfolding_all rfl) (by with_unfolding_all rfl)) ?_)
 | (with_reducible refine CU (f2 (by with_unfolding_all rfl) (by with_unfolding_all rfl)) ?_)
 | (with_reducible refine aC hQ ?_;simp only [ay,az,bu,bw,go_sem,hF,hP,gA,gB];repeat' (first | exact Ok.out | with_reducible refine aH ?_ ?_ | (simp;done))))
    refine dH 2 3 ?_ ?_ (IH (rest,k+1,_) ⟨g2,h2,by dsimp only;rw [hl];omega⟩ (Nat.lt_succ_self _))
    ·(simp only [go_sem,hF,hP,gA,gB,wk,k1,k2];try exact bH)
    ·(simp only [go_sem,hF,hP,gA,gB,wk,k1,k2];try exact bH)
theorem Ze : ∀ N,N<1000000000→XS N:=by
 intro N
 induction N with
 | zero=>exact fun _ l proc up next loop out g ps lo hi b c h=>absurd h (Nat.not_lt_zero _)
 | succ N ih=>
  intro h l proc up next loop out g ps lo hi b c hs hc hg hp s o ho ht
  exact(agC (ih (by omega)) hs hc hg hp (by omega)).agB (by simp [D.bp,D.ok,Tag.ok,iH,D.gZ]) hg hp ho ht
end Go.Abs

/-! Flat3 -/

namespace Go.Abs
set_option maxRecDepth 8000
open Go.Proofs
def iA (p:Pg):List D:= [.slice .shared 1 (p.globals.map encStr), .slice .shared 5 (p.procs.map bG), .slice .shared 17 (p.fC.L.map fj), .slice .shared 1 (p.fC.lo.map im), .slice .shared 1 (p.fC.hi.map im)]
theorem sd (p:Pg):iA p = [.slice .shared 1 (p.globals.map encStr), .slice .shared 5 (p.procs.map bG), .slice .shared 17 (p.fC.L.map fj), .slice .shared 1 (p.fC.lo.map im), .slice .shared 1 (p.fC.hi.map im)]:=nd rfl
theorem zc (p:Pg):D.bp 0 0 (iA p)=true:=by simp [iA,D.bp,D.ok,Tag.ok,eD,vV,Ia,vr]
theorem RC (p:Pg):bA p = [.slice .shared 1 (p.globals.map encStr), .slice .shared 5 (p.procs.map bG)]:=nd rfl
theorem agD {p:Pg} (hs:Pc.aR p.procs<1000000000):aB Tryz.prog lR [.agg (bA p)] S0 (.ptr 1 0) ⟨[bA p,iJ (.slice .shared 1 (p.globals.map encStr)) (.slice .shared 5 (p.procs.map bG)) p.fC.L p.fC.lo p.fC.hi],[some p.fC.L.length,some p.fC.lo.length,some p.fC.hi.length]⟩:=by
 have hlen:p.procs.length<1000000000:=by have:=Pc.cM p.procs;omega
 obtain⟨R,hR⟩ : ∃ R,R=p.fC:=⟨_,rfl⟩
 have hR':=hR
 unfold Pg.fC at hR'
 unfold S0
 rw [RC, ← hR]
 refine aB.goK 2 3 (Nat.zero_le _) (Nat.zero_le _) Jv rfl fun B Q hB hQ=> ?_
 have⟨hF,hP,gA,gB⟩:=bF
 repeat' (first
 | simp only [go_sem,hF,hP,gA,gB,RC]
 | (with_reducible refine aC hQ ?_;simp only [ay,az,Option.some.injEq,exists_eq_left',go_sem,hF,hP,gA,gB];repeat' (first | exact Ok.out | with_reducible refine aH ?_ ?_ | (simp;done))))
 refine bh.rY 1 2 17 rfl rfl ?_
 simp only [go_sem,hF,hP,gA,gB]
 refine bh.rY 1 3 1 rfl rfl ?_
 simp only [go_sem,hF,hP,gA,gB]
 refine bh.rY 1 4 1 rfl rfl ?_
 simp only [go_sem,hF,hP,gA,gB]
 refine dH 2 3 ?_ ?_ (bh.ind (ι:=List Pc×Nat×Sh×Nat×Nat) (fun i=>p.procs.drop i.2.1=i.1∧Sh.go i.2.1 i.2.2.1 i.1=R∧i.2.2.1.L.length+Pc.aR i.1≤Pc.aR p.procs∧i.2.2.1.lo.length=i.2.1∧i.2.2.1.hi.length=i.2.1∧i.2.2.2.1=i.2.2.1.lo.length∧i.2.2.2.2=i.2.2.1.hi.length) (fun i=>i.1.length)
  (fun i=> [(1, .ptr 0 0),(3, .ptr 1 0),(10, .slice .shared 5 (p.procs.map bG)),(11, .int .i64 (p.procs.length:Int)),(12, .int .i64 (i.2.1:Int))]) (fun i=>⟨[[.slice .shared 1 (p.globals.map encStr), .slice .shared 5 (p.procs.map bG)],iJ (.slice .shared 1 (p.globals.map encStr)) (.slice .shared 5 (p.procs.map bG)) i.2.2.1.L i.2.2.1.lo i.2.2.1.hi],[some i.2.2.1.L.length,some i.2.2.2.1,some i.2.2.2.2]⟩) ?_ (p.procs,0,⟨[],[],[]⟩,0,0) ⟨rfl,hR'.symm,by simp,rfl,rfl,rfl,rfl⟩)
 ·(simp only [go_sem,hF,hP,gA,gB,iJ];try exact bH)
 ·(simp only [go_sem,hF,hP,gA,gB,iJ];try exact bH)
 rintro⟨rest,k,h,n1,n2⟩ ⟨h1,h2,h3,h4,h5,h6,h7⟩ IH
 dsimp only at h1 h2 h3 h4 h5 h6 h7
 subst h6 h7
 cases rest with
 | nil=>
  have hF:=drop_nil h1
  simp only [Sh.go]at h2
  rw [← h2]at hQ
  repeat' (first
 | simp only [go_sem,hF,hP,gA,gB,iJ]
 | (with_reducible refine aC hQ ?_;simp only [ay,az,Option.some.injEq,exists_eq_left',go_sem,hF,hP,gA,gB];repeat' (first | exact Ok.out | with_reducible refine aH ?_ ?_ | (simp;done))))
 | cons f rest=>
  obtain⟨hP,g2,hF,g4⟩:=drop_cons h1
  have bW:k<4611686018427387904:=by omega
  simp only [Pc.aR,Pc.size]at h3
  simp only [Sh.go]at h2
  have c1:=kS f.body
  have gA:(h.lo.length+1)*9≤bl:=by unfold bl;omega
  have aqk:(h.hi.length+1)*9≤bl:=by unfold bl;omega
  have LQ:IntKind.wrap .i64 ((h.L.length:Int)+1)=(h.L.length:Int)+1:=cV (by omega) (by omega)
  have hl:(Im.rows (k:Int) 0 (-1) 0 h.L f.body).length=h.L.length+Sm.dA f.body:=gN ..
  have wk:IntKind.wrap .i64 (((Im.rows (k:Int) 0 (-1) 0 h.L f.body).length:Int)+1)=((Im.rows (k:Int) 0 (-1) 0 h.L f.body).length:Int)+1:=cV (by omega) (by omega)
  have hr:=fun {s:St} {o:Nat}=>@Ze (Sm.aR f.body+1) (by omega) f.body (k:Int) 0 (-1) 0 h.L (.slice .shared 1 (p.globals.map encStr)) (.slice .shared 5 (p.procs.map bG)) (h.lo++ [(h.L.length:Int)+1]) h.hi (some (h.lo.length+1)) (some h.hi.length) (Nat.lt_succ_self _) (by omega) (by simp [D.ok,Tag.ok,eD]) (by simp [D.ok,Tag.ok,vV]) s o
  simp only [iJ,List.map_append,List.map_cons,List.map_nil,im]at hr
  repeat' (first
 | simp only [go_sem,hF,hP,gA,gB,LQ,wk,aqk,iJ]
 | (with_reducible refine CU (hr (by with_unfolding_all rfl) (by with_unfolding_all rfl)) ?_)
 | (with_reducible refine aC hQ ?_;simp only [ay,az,Option.some.injEq,exists_eq_left',go_sem,hF,hP,gA,gB];repeat' (first | exact Ok.out | with_reducible refine aH ?_ ?_ | (simp;done))))
  refine dH 2 3 ?_ ?_ (IH (rest,k+1,⟨Im.rows (k:Int) 0 (-1) 0 h.L f.body,h.lo++ [(h.L.length:Int)+1],h.hi++ [((Im.rows (k:Int) 0 (-1) 0 h.L f.body).length:Int)+1]⟩,_,_) ⟨g2,h2,by dsimp only;rw [hl];omega,by simp [h4],by simp [h5],by simp,by simp⟩ (Nat.lt_succ_self _))
  ·(simp only [go_sem,hF,hP,gA,gB,iJ,aJ bW,List.map_append,List.map_cons,List.map_nil,im];try exact bH)
  ·(simp only [go_sem,hF,hP,gA,gB,iJ,aJ bW,List.map_append,List.map_cons,List.map_nil,im];try exact bH)
theorem Ej {p:Pg} (hs:Pc.aR p.procs<1000000000) (s:St):aB Tryz.prog lR [.agg (bA p)] s (.dG (iA p) 0) s:=by
 refine aB.pure ?_ (by simp only [D.bp,D.ok,gv];rfl) (by simp only [D.ok,zc]) s
 have h:=(agD hs).Aj (n:=0) (m:=0) rfl (Nat.le_refl _) (Nat.zero_le _) (Nat.le_refl _)
 simpa [D.gF,D.fg,Tag.fg,Jl,WQ,XQ,RA,St.cut,iA,S0]using h
end Go.Abs

/-! Sl1 -/

namespace Go.Abs
set_option maxRecDepth 8000
open Go.Proofs
def oc (x:aD) (k:Int):List aD→Int
 | []=> -1
 | s::l=>if x==s then k else oc x (k+1) l
def dX (l:List aD) (x:aD):Bool:=decide (oc x 0 l≥0)
def me {α:Type} (b:α→Bool) (k:Int):List α→Int
 | []=> -1
 | s::l=>if b s then k else me b (k+1) l
theorem LR (x:aD) : ∀ (l:List aD) (k:Int),0≤k→(oc x k l≥0↔x∈l)
 | [],k,h=>by simp [oc]
 | s::l,k,h=>by
  by_cases e:x=s
  ·simp [oc,e];omega
  ·have e':(x==s)=false:=by simp [e]
   simp only [oc,e',Bool.false_eq_true,if_false,List.mem_cons,e,false_or]
   exact LR x l (k+1) (by omega)
theorem fF (l:List aD) (x:aD):dX l x=true↔x∈l:=by
 simp only [dX,decide_eq_true_eq];exact LR x l 0 (Int.le_refl 0)
theorem FW {α:Type} (b:α→Bool) : ∀ (l:List α) (k:Int),0≤k→(me b k l≥0↔l.any b=true)
 | [],k,h=>by simp [me]
 | s::l,k,h=>by
  by_cases e:b s=true
  ·simp [me,e];omega
  ·have e':b s=false:=by simpa using e
   simp only [me,e',Bool.false_eq_true,if_false,List.any_cons,Bool.or_eq_true,false_or]
   exact FW b l (k+1) (by omega)
theorem LS {l:List aD} (hl:l.length<4611686018427387904) (x:aD) (s:St):aB Tryz.prog iX [.slice .shared 1 (l.map encStr), .str x] s (.int .i64 (oc x 0 l)) s:=by
 refine aB.pure ?_ (by simp [D.bp,D.ok,Tag.ok,eD]) rfl s
 generalize h:oc x 0 l=p
 unfold S0
 refine aB.go vD rfl fun B Q hB hQ=> ?_
 have⟨hF,hP,gA,gB⟩:=bF
 repeat' (first
 | simp only [go_sem,hF,hP,gA,gB]
 | (with_reducible first | refine bq fun hc=> ?_ | refine br fun hc=> ?_ | refine bt (fun hc=> ?_) fun hc=> ?_) <;> (try simp only [hc,bs, ↓reduceIte]at h) <;> try simp only [hc]
 | (with_reducible refine aC hQ ?_;(try cases h);simp only [ay,az,bu,bw,go_sem,hF,hP,gA,gB];repeat' (first | exact Ok.out | with_reducible refine aH ?_ ?_ | (simp;done))))
 refine cO 0 0 (bh.ind (ι:=List aD×Nat) (fun i=>l.drop i.2=i.1∧oc x (i.2:Int) i.1=p) (fun i=>i.1.length)
  (fun i=> [(0, .slice .shared 1 (l.map encStr)),(1, .str x),(7, .int .i64 (l.length:Int)),(8, .int .i64 (i.2:Int))]) (fun i=>⟨[],[]⟩) ?_ (l,0) ⟨rfl,h⟩)
 rintro⟨rest,k⟩ ⟨h1,h⟩ IH
 dsimp only at h1 h
 cases rest with
 | nil=>
  have hF:=drop_nil h1
  simp only [oc]at h
  repeat' (first
 | simp only [go_sem,hF,hP,gA,gB]
 | (with_reducible first | refine bq fun hc=> ?_ | refine br fun hc=> ?_ | refine bt (fun hc=> ?_) fun hc=> ?_) <;> (try simp only [hc,bs, ↓reduceIte]at h) <;> try simp only [hc]
 | (with_reducible refine aC hQ ?_;(try cases h);simp only [ay,az,bu,bw,go_sem,hF,hP,gA,gB];repeat' (first | exact Ok.out | with_reducible refine aH ?_ ?_ | (simp;done))))
 | cons a rest=>
  obtain⟨hP,g2,hF,g4⟩:=drop_cons h1
  have bW:k<4611686018427387904:=by omega
  simp only [oc]at h
  repeat' (first
 | simp only [go_sem,hF,hP,gA,gB]
 | (with_reducible first | refine bq fun hc=> ?_ | refine br fun hc=> ?_ | refine bt (fun hc=> ?_) fun hc=> ?_) <;> (try simp only [hc,bs, ↓reduceIte]at h) <;> try simp only [hc]
 | (with_reducible refine aC hQ ?_;(try cases h);simp only [ay,az,bu,bw,go_sem,hF,hP,gA,gB];repeat' (first | exact Ok.out | with_reducible refine aH ?_ ?_ | (simp;done))))
  refine dH 0 0 ?_ ?_ (IH (rest,k+1) ⟨g2,h⟩ (Nat.lt_succ_self _))
  ·(simp only [go_sem,hF,hP,gA,gB,aJ bW];try exact bH)
  ·(simp only [go_sem,hF,hP,gA,gB,aJ bW];try exact bH)
theorem rp {l:List aD} (hl:l.length<4611686018427387904) (x:aD) (s:St):aB Tryz.prog cr [.slice .shared 1 (l.map encStr), .str x] s (.bool (dX l x)) s:=by
 refine aB.pure ?_ (by simp [D.bp,D.ok,Tag.ok,eD]) rfl s
 have hi:=fun s=>LS hl x s
 unfold S0
 refine aB.go tF rfl fun B Q hB hQ=> ?_
 have⟨hF,hP,gA,gB⟩:=bF
 repeat' (first
 | simp only [go_sem,hF,hP,gA,gB,dX]
 | (with_reducible refine CU (hi _) ?_)
 | (with_reducible first | refine bq fun hc=> ?_ | refine br fun hc=> ?_ | refine bt (fun hc=> ?_) fun hc=> ?_) <;> (try simp only [hc,bs, ↓reduceIte]at h) <;> try simp only [hc]
 | (with_reducible refine aC hQ ?_;simp only [ay,az,bu,bw,go_sem,hF,hP,gA,gB,dX];repeat' (first | exact Ok.out | with_reducible refine aH ?_ ?_ | (simp;done))))
theorem aB.LU {P:Program} {f:Nat} {d d':D} {r:List D} {s s':St} {x:D} (h:aB P f (d'::r) s x s') (hw:Wk d d'):aB P f (d::r) s x s':=ew.AS (.cons hw (jP.refl r)) h
theorem jk {l:List aD} (hl:l.length<4611686018427387904) (x:aD) (g:Tag) (s:St):aB Tryz.prog cr [.slice g 1 (l.map encStr), .str x] s (.bool (dX l x)) s:=
 (rp hl x s).LU (Wk.shared _ _ _)
theorem JP (x:aD) (z:Nat) (g:Tag) (s:St):aB Tryz.prog cr [.slice g z [], .str x] s (.bool false) s:=
 (rp (l:= []) (by simp) x s).LU (Wk.nil _ _ _)
theorem Bf {l:List aD} (hl:l.length<4611686018427387904) {f:Nat} {row:List D} {b:aD→Bool} (ub:D.bp 0 0 row=true) (he:enters Tryz.prog f=true)
 (hb : ∀ x∈l,aB Tryz.prog f ([.str x]++ [.ptr 0 0]) ⟨[row],[]⟩ (.bool (b x)) ⟨[row],[]⟩) :
 aB Tryz.prog kF [.slice .shared 1 (l.map encStr), .gj f [.ptr 0 0]] ⟨[row],[]⟩ (.int .i64 (me b 0 l)) ⟨[row],[]⟩:=by
 generalize h:me b 0 l=p
 have k1 : ∀ n m,D.gF n m row=row:=fun n m=>il n m _ ub
 refine aB.go s8 rfl fun B Q hB hQ=> ?_
 have⟨hF,hP,gA,gB⟩:=bF
 repeat' (first
 | simp only [go_sem,hF,hP,gA,gB,k1]
 | (with_reducible first | refine bq fun hc=> ?_ | refine br fun hc=> ?_ | refine bt (fun hc=> ?_) fun hc=> ?_) <;> (try simp only [hc,bs, ↓reduceIte]at h) <;> try simp only [hc]
 | (with_reducible refine aC hQ ?_;(try cases h);simp only [ay,az,bu,bw,go_sem,hF,hP,gA,gB,k1];repeat' (first | exact Ok.out | with_reducible refine aH ?_ ?_ | (simp;done))))
 refine dH 1 0 ?_ ?_ (bh.ind (ι:=List aD×Nat) (fun i=>l.drop i.2=i.1∧me b (i.2:Int) i.1=p) (fun i=>i.1.length)
  (fun i=> [(0, .slice .shared 1 (l.map encStr)),(1, .gj f [.ptr 0 0]),(7, .int .i64 (l.length:Int)),(8, .int .i64 (i.2:Int))]) (fun i=>⟨[row],[]⟩) ?_ (l,0) ⟨rfl,h⟩)
 ·(simp only [go_sem,hF,hP,gA,gB,k1];try exact bH)
 ·(simp only [go_sem,hF,hP,gA,gB,k1];try exact bH)
 rintro⟨rest,k⟩ ⟨h1,h⟩ IH
 dsimp only at h1 h
 cases rest with
 | nil=>
  have hF:=drop_nil h1
  simp only [me]at h
  repeat' (first
 | simp only [go_sem,hF,hP,gA,gB,k1]
 | (with_reducible first | refine bq fun hc=> ?_ | refine br fun hc=> ?_ | refine bt (fun hc=> ?_) fun hc=> ?_) <;> (try simp only [hc,bs, ↓reduceIte]at h) <;> try simp only [hc]
 | (with_reducible refine aC hQ ?_;(try cases h);simp only [ay,az,bu,bw,go_sem,hF,hP,gA,gB,k1];repeat' (first | exact Ok.out | with_reducible refine aH ?_ ?_ | (simp;done))))
 | cons a rest=>
  obtain⟨hP,g2,hF,g4⟩:=drop_cons h1
  have bW:k<4611686018427387904:=by omega
  have hba:=hb a (List.mem_of_getElem? hP)
  simp only [me]at h
  repeat' (first
 | simp only [go_sem,hF,hP,gA,gB,k1]
 | (with_reducible refine CV.use (he) (hba) ?_)
 | (with_reducible first | refine bq fun hc=> ?_ | refine br fun hc=> ?_ | refine bt (fun hc=> ?_) fun hc=> ?_) <;> (try simp only [hc,bs, ↓reduceIte]at h) <;> try simp only [hc]
 | (with_reducible refine aC hQ ?_;(try cases h);simp only [ay,az,bu,bw,go_sem,hF,hP,gA,gB,k1];repeat' (first | exact Ok.out | with_reducible refine aH ?_ ?_ | (simp;done))))
  refine dH 1 0 ?_ ?_ (IH (rest,k+1) ⟨g2,h⟩ (Nat.lt_succ_self _))
  ·(simp only [go_sem,hF,hP,gA,gB,k1,aJ bW];try exact bH)
  ·(simp only [go_sem,hF,hP,gA,gB,k1,aJ bW];try exact bH)
theorem Bg {P:Program} {g f:Nat} {row:List D} {rows:List (List D)} {z:Nat} {d:D} (h:aB P g [.slice .shared z rows, .gj f [.ptr 0 0]] ⟨[row],[]⟩ d ⟨[row],[]⟩) (ub:D.bp 0 0 row=true) (hw:D.gZ 0 0 rows=true) (hd:D.ok 0 0 d=true) {s:St} {o:Nat} (ho:s.aw[o]? = some row) :
 aB P g [.slice .shared z rows, .gj f [.ptr o 0]] s d s:=by
 refine ew.frame [o] [] h (by simp) List.nodup_nil (by simpa using (List.getElem?_eq_some_iff.1 ho).1) (by simp) rfl (fun i o' ds e1 e2=> ?_) rfl (by simp) (by simp [D.dY,D.cm,Tag.cm,iV _ _ _ hw])
  (by simp [D.bp,D.ok,Tag.ok,l7 (Nat.zero_le 1) (Nat.le_refl 0) _ hw]) ?_
 ·cases i with
  | zero=>simp at e1 e2;subst e1;subst e2;exact⟨by rw [eZ _ _ _ ub];exact ho,ib (Nat.zero_le 1) (Nat.le_refl 0) _ ub⟩
  | succ i=>simp at e1
 ·rintro _ _ ⟨rfl,rfl⟩
  refine⟨rX _ _ _ hd, ?_⟩
  have:s.aw.set o row=s.aw:=by
   apply List.ext_getElem?
   intro i
   rw [List.getElem?_set]
   split
   ·rename_i e;subst e;rw [ho];split
    ·rfl
    ·rename_i hh;exact absurd (List.getElem?_eq_some_iff.1 ho).1 hh
   ·rfl
  simp [St.back,jO,eZ _ _ _ ub,this]
theorem yg {l:List aD} (hl:l.length<4611686018427387904) {f:Nat} {row:List D} {b:aD→Bool} (ub:D.bp 0 0 row=true) (he:enters Tryz.prog f=true)
 (hb : ∀ x∈l,aB Tryz.prog f ([.str x]++ [.ptr 0 0]) ⟨[row],[]⟩ (.bool (b x)) ⟨[row],[]⟩) :
 aB Tryz.prog gb [.slice .shared 1 (l.map encStr), .gj f [.ptr 0 0]] ⟨[row],[]⟩ (.bool (l.any b)) ⟨[row],[]⟩:=by
 have k1 : ∀ n m,D.gF n m row=row:=fun n m=>il n m _ ub
 have hi:=Bf hl ub he hb
 have e:decide (me b 0 l≥0)=l.any b:=by
  have:=FW b l 0 (Int.le_refl 0)
  cases hh:l.any b <;> simp_all
 refine aB.go rk rfl fun B Q hB hQ=> ?_
 have⟨hF,hP,gA,gB⟩:=bF
 repeat' (first
 | simp only [go_sem,hF,hP,gA,gB,k1,e]
 | (with_reducible refine CU (hi) ?_)
 | (with_reducible first | refine bq fun hc=> ?_ | refine br fun hc=> ?_ | refine bt (fun hc=> ?_) fun hc=> ?_) <;> (try simp only [hc,bs, ↓reduceIte]at h) <;> try simp only [hc]
 | (with_reducible refine aC hQ ?_;simp only [ay,az,bu,bw,go_sem,hF,hP,gA,gB,k1,e];repeat' (first | exact Ok.out | with_reducible refine aH ?_ ?_ | (simp;done))))
theorem yh {l:List aD} (hl:l.length<4611686018427387904) {f:Nat} {row:List D} {b:aD→Bool} (ub:D.bp 0 0 row=true) (he:enters Tryz.prog f=true)
 (hb : ∀ x∈l,aB Tryz.prog f ([.str x]++ [.ptr 0 0]) ⟨[row],[]⟩ (.bool (b x)) ⟨[row],[]⟩) {s:St} {o:Nat} (ho:s.aw[o]? = some row) :
 aB Tryz.prog gb [.slice .shared 1 (l.map encStr), .gj f [.ptr o 0]] s (.bool (l.any b)) s:=
 Bg (yg hl ub he hb) ub (eD l) rfl ho
theorem vt {l:List Pc} (hl:l.length<4611686018427387904) {f:Nat} {row:List D} {b:Pc→Bool} (ub:D.bp 0 0 row=true) (he:enters Tryz.prog f=true)
 (hb : ∀ x∈l,aB Tryz.prog f ([.agg (bG x)]++ [.ptr 0 0]) ⟨[row],[]⟩ (.bool (b x)) ⟨[row],[]⟩) :
 aB Tryz.prog gl [.slice .shared 5 (l.map bG), .gj f [.ptr 0 0]] ⟨[row],[]⟩ (.int .i64 (me b 0 l)) ⟨[row],[]⟩:=by
 generalize h:me b 0 l=p
 have k1 : ∀ n m,D.gF n m row=row:=fun n m=>il n m _ ub
 refine aB.go rI rfl fun B Q hB hQ=> ?_
 have⟨hF,hP,gA,gB⟩:=bF
 repeat' (first
 | simp only [go_sem,hF,hP,gA,gB,k1]
 | (with_reducible first | refine bq fun hc=> ?_ | refine br fun hc=> ?_ | refine bt (fun hc=> ?_) fun hc=> ?_) <;> (try simp only [hc,bs, ↓reduceIte]at h) <;> try simp only [hc]
 | (with_reducible refine aC hQ ?_;(try cases h);simp only [ay,az,bu,bw,go_sem,hF,hP,gA,gB,k1];repeat' (first | exact Ok.out | with_reducible refine aH ?_ ?_ | (simp;done))))
 refine dH 1 0 ?_ ?_ (bh.ind (ι:=List Pc×Nat) (fun i=>l.drop i.2=i.1∧me b (i.2:Int) i.1=p) (fun i=>i.1.length)
  (fun i=> [(0, .slice .shared 5 (l.map bG)),(1, .gj f [.ptr 0 0]),(7, .int .i64 (l.length:Int)),(8, .int .i64 (i.2:Int))]) (fun i=>⟨[row],[]⟩) ?_ (l,0) ⟨rfl,h⟩)
 ·(simp only [go_sem,hF,hP,gA,gB,k1];try exact bH)
 ·(simp only [go_sem,hF,hP,gA,gB,k1];try exact bH)
 rintro⟨rest,k⟩ ⟨h1,h⟩ IH
 dsimp only at h1 h
 cases rest with
 | nil=>
  have hF:=drop_nil h1
  simp only [me]at h
  repeat' (first
 | simp only [go_sem,hF,hP,gA,gB,k1]
 | (with_reducible first | refine bq fun hc=> ?_ | refine br fun hc=> ?_ | refine bt (fun hc=> ?_) fun hc=> ?_) <;> (try simp only [hc,bs, ↓reduceIte]at h) <;> try simp only [hc]
 | (with_reducible refine aC hQ ?_;(try cases h);simp only [ay,az,bu,bw,go_sem,hF,hP,gA,gB,k1];repeat' (first | exact Ok.out | with_reducible refine aH ?_ ?_ | (simp;done))))
 | cons a rest=>
  obtain⟨hP,g2,hF,g4⟩:=drop_cons h1
  have bW:k<4611686018427387904:=by omega
  have hba:=hb a (List.mem_of_getElem? hP)
  simp only [me]at h
  repeat' (first
 | simp only [go_sem,hF,hP,gA,gB,k1]
 | (with_reducible refine CV.use (he) (hba) ?_)
 | (with_reducible first | refine bq fun hc=> ?_ | refine br fun hc=> ?_ | refine bt (fun hc=> ?_) fun hc=> ?_) <;> (try simp only [hc,bs, ↓reduceIte]at h) <;> try simp only [hc]
 | (with_reducible refine aC hQ ?_;(try cases h);simp only [ay,az,bu,bw,go_sem,hF,hP,gA,gB,k1];repeat' (first | exact Ok.out | with_reducible refine aH ?_ ?_ | (simp;done))))
  refine dH 1 0 ?_ ?_ (IH (rest,k+1) ⟨g2,h⟩ (Nat.lt_succ_self _))
  ·(simp only [go_sem,hF,hP,gA,gB,k1,aJ bW];try exact bH)
  ·(simp only [go_sem,hF,hP,gA,gB,k1,aJ bW];try exact bH)
theorem Af {l:List Pc} (hl:l.length<4611686018427387904) {f:Nat} {row:List D} {b:Pc→Bool} (ub:D.bp 0 0 row=true) (he:enters Tryz.prog f=true)
 (hb : ∀ x∈l,aB Tryz.prog f ([.agg (bG x)]++ [.ptr 0 0]) ⟨[row],[]⟩ (.bool (b x)) ⟨[row],[]⟩) :
 aB Tryz.prog gT [.slice .shared 5 (l.map bG), .gj f [.ptr 0 0]] ⟨[row],[]⟩ (.bool (l.any b)) ⟨[row],[]⟩:=by
 have k1 : ∀ n m,D.gF n m row=row:=fun n m=>il n m _ ub
 have hi:=vt hl ub he hb
 have e:decide (me b 0 l≥0)=l.any b:=by
  have:=FW b l 0 (Int.le_refl 0)
  cases hh:l.any b <;> simp_all
 refine aB.go qp rfl fun B Q hB hQ=> ?_
 have⟨hF,hP,gA,gB⟩:=bF
 repeat' (first
 | simp only [go_sem,hF,hP,gA,gB,k1,e]
 | (with_reducible refine CU (hi) ?_)
 | (with_reducible first | refine bq fun hc=> ?_ | refine br fun hc=> ?_ | refine bt (fun hc=> ?_) fun hc=> ?_) <;> (try simp only [hc,bs, ↓reduceIte]at h) <;> try simp only [hc]
 | (with_reducible refine aC hQ ?_;simp only [ay,az,bu,bw,go_sem,hF,hP,gA,gB,k1,e];repeat' (first | exact Ok.out | with_reducible refine aH ?_ ?_ | (simp;done))))
end Go.Abs

/-! MirFlat2 -/

namespace Go.Abs
mutual
def Sm.pre:Sm→List Sm
 | ⟨id,kind,labels,name,pc,x,has,args,aQ,aM⟩=>⟨id,kind,labels,name,pc,x,has,args,aQ,aM⟩::(Sm.cD aQ++Sm.cD aM)
def Sm.cD:List Sm→List Sm
 | []=> []
 | s::l=>s.pre++Sm.cD l
end
def Pg.pre (p:Pg):List Sm:=(p.procs.map fun f=>Sm.cD f.body).flatten
theorem Sm.Ek (s:Sm):s.pre=s::(Sm.cD s.aQ++Sm.cD s.aM):=by cases s;simp only [Sm.pre]
mutual
theorem Zf (proc up next loop:Int) (out:List Im) : ∀ s:Sm,∃ e:List Im,Im.one proc up next loop out s=out++e∧e.map Im.s=s.pre
 | ⟨id,kind,labels,name,pc,x,has,args,aQ,aM⟩=>by
  simp only [Im.one,Sm.pre]
  obtain⟨e1,h1,k1⟩:=ze proc ((out.length:Int)+1) (if kind==6 then(out.length:Int)+1 else next) (if kind==6 then(out.length:Int)+1 else loop) (out++ [⟨⟨id,kind,labels,name,pc,x,has,args,aQ,aM⟩,proc,up,next,loop⟩]) aQ
  obtain⟨e2,h2,k2⟩:=ze proc ((out.length:Int)+1) (if kind==6 then(out.length:Int)+1 else next) (if kind==6 then(out.length:Int)+1 else loop) (Im.rows proc ((out.length:Int)+1) (if kind==6 then(out.length:Int)+1 else next) (if kind==6 then(out.length:Int)+1 else loop) (out++ [⟨⟨id,kind,labels,name,pc,x,has,args,aQ,aM⟩,proc,up,next,loop⟩]) aQ) aM
  refine⟨⟨⟨id,kind,labels,name,pc,x,has,args,aQ,aM⟩,proc,up,next,loop⟩::(e1++e2), ?_, ?_⟩
  ·rw [h2,h1];simp
  ·simp [k1,k2]
theorem ze (proc up next loop:Int) (out:List Im) : ∀ l:List Sm,∃ e:List Im,Im.rows proc up next loop out l=out++e∧e.map Im.s=Sm.cD l
 | []=>⟨[],by simp [Im.rows],rfl⟩
 | s::l=>by
  simp only [Im.rows,Sm.cD]
  obtain⟨e1,h1,k1⟩:=Zf proc up (if l.length=0 then next else(out.length:Int)+1+(s.fQ:Int)) loop out s
  obtain⟨e2,h2,k2⟩:=ze proc up next loop (Im.one proc up (if l.length=0 then next else(out.length:Int)+1+(s.fQ:Int)) loop out s) l
  refine⟨e1++e2, ?_,by simp [k1,k2]⟩
  rw [h2,h1];simp
end
theorem RE : ∀ (l:List Pc) (n:Nat) (h:Sh),h.lo.length=n→h.hi.length=n→
 ∃ e lo hi,Sh.go n h l = ⟨h.L++e,h.lo++lo,h.hi++hi⟩∧e.map Im.s=(l.map fun f=>Sm.cD f.body).flatten∧lo.length=l.length∧hi.length=l.length∧
  ∀ (i:Nat) (f:Pc),l[i]? = some f→∃ a b e' Lt:List Im,lo[i]? = some (((h.L++a).length:Int)+1)∧hi[i]? = some (((h.L++a++b).length:Int)+1)∧b.map Im.s=Sm.cD f.body∧e=a++b++e'
 | [],n,h,hl,hh=>⟨[],[],[],by simp [Sh.go],rfl,rfl,rfl,fun i f h=>by simp at h⟩
 | f::l,n,h,hl,hh=>by
  simp only [Sh.go]
  obtain⟨e1,h1,k1⟩:=ze (n:Int) 0 (-1) 0 h.L f.body
  obtain⟨e2,lo,hi,h2,k2,h3,h4,h5⟩:=RE l (n+1) ⟨Im.rows (n:Int) 0 (-1) 0 h.L f.body,h.lo++ [(h.L.length:Int)+1],h.hi++ [((Im.rows (n:Int) 0 (-1) 0 h.L f.body).length:Int)+1]⟩ (by simp [hl]) (by simp [hh])
  refine⟨e1++e2,((h.L.length:Int)+1)::lo,(((Im.rows (n:Int) 0 (-1) 0 h.L f.body).length:Int)+1)::hi, ?_,by simp [k1,k2],by simp [h3],by simp [h4],fun i g ik=> ?_⟩
  ·rw [h2,h1];simp
  ·cases i with
   | zero=>
    simp only [List.getElem?_cons_zero,Option.some.injEq]at ik
    subst ik
    exact⟨[],e1,e2,[],by simp,by rw [h1];simp,k1,by simp⟩
   | succ i=>
    simp only [List.getElem?_cons_succ]at ik
    obtain⟨a,b,e',Lt,g1,g2,g3,g4⟩:=h5 i g ik
    refine⟨e1++a,b,e',Lt, ?_, ?_,g3,by rw [g4];simp⟩
    ·rw [List.getElem?_cons_succ,g1,h1];simp
    ·rw [List.getElem?_cons_succ,g2,h1];simp
theorem qF (p:Pg):p.fC.L.map Im.s=p.pre∧∀ (i:Nat) (f:Pc),p.procs[i]? = some f→∃ a b e:List Im,p.fC.lo[i]? = some ((a.length:Int)+1)∧p.fC.hi[i]? = some (((a++b).length:Int)+1)∧b.map Im.s=Sm.cD f.body∧p.fC.L=a++b++e:=by
 obtain⟨e,lo,hi,h1,h2,h3,h4,h5⟩:=RE p.procs 0 ⟨[],[],[]⟩ rfl rfl
 unfold Pg.fC
 rw [h1]
 refine⟨by simpa [Pg.pre]using h2,fun i f hf=> ?_⟩
 obtain⟨a,b,e',_,g1,g2,g3,g4⟩:=h5 i f hf
 exact⟨a,b,e',by simpa using g1,by simpa using g2,g3,by simpa using g4⟩
end Go.Abs

/-! Sl2 -/

namespace Go.Abs
set_option maxRecDepth 8000
open Go.Proofs
def Pg.at (p:Pg) (name:aD):Int:=me (fun f:Pc=>f.name==name) 0 p.procs
theorem Zg (name:aD) (f:Pc):aB Tryz.prog lu ([.agg (bG f)]++ [.ptr 0 0]) ⟨[[.str name]],[]⟩ (.bool (f.name==name)) ⟨[[.str name]],[]⟩:=by
 show aB Tryz.prog lu [.agg (bG f), .ptr 0 0] _ _ _
 refine aB.go xV rfl fun B Q hB hQ=> ?_
 have⟨hF,hP,gA,gB⟩:=bF
 repeat' (first
 | simp only [go_sem,hF,hP,gA,gB]
 | (with_reducible refine aC hQ ?_;simp only [ay,az,Option.some.injEq,exists_eq_left',go_sem,hF,hP,gA,gB];repeat' (first | exact Ok.out | with_reducible refine aH ?_ ?_ | (simp;done))))
theorem RF {p:Pg} (hs:p.procs.length<4611686018427387904) (name:aD) (s:St):aB Tryz.prog mw [.dG (iA p) 0, .str name] s (.int .i64 (p.at name)) s:=by
 refine aB.pure ?_ (by simp [D.bp,D.ok,zc]) rfl s
 have hi:=fun {s:St} {o:Nat} (ho:s.aw[o]? = some [.str name])=>Bg (vt (l:=p.procs) (f:=lu) (row:= [.str name]) (b:=fun f:Pc=>f.name==name) hs rfl (by with_unfolding_all rfl) (fun x _=>Zg name x)) rfl (vV _) rfl ho
 have ik:=fun {s:St} {o:Nat} (ho:s.aw[o]? = some [.str name])=>(show aB Tryz.prog gl [.slice .shared 5 (p.procs.map bG), .gj 167 [.ptr o 0]] s (.int .i64 (p.at name)) s from hi ho)
 unfold S0
 rw [sd]
 refine aB.go Ac rfl fun B Q hB hQ=> ?_
 have⟨hF,hP,gA,gB⟩:=bF
 repeat' (first
 | simp only [go_sem,hF,hP,gA,gB]
 | (with_reducible refine CU (ik (by with_unfolding_all rfl)) ?_)
 | (with_reducible refine aC hQ ?_;simp only [ay,az,Option.some.injEq,exists_eq_left',go_sem,hF,hP,gA,gB];repeat' (first | exact Ok.out | with_reducible refine aH ?_ ?_ | (simp;done))))
theorem RG : ∀ (l:List Pc) (n:Nat) (h:Sh),(Sh.go n h l).L.length≤h.L.length+Pc.aR l
 | [],n,h=>by simp [Sh.go]
 | f::l,n,h=>by
  simp only [Sh.go]
  refine Nat.le_trans (RG l _ _) ?_
  have:=gN (n:Int) 0 (-1) 0 h.L f.body
  have:=kS f.body
  simp only [Pc.aR,Pc.size];omega
theorem qG (p:Pg):p.fC.L.length≤Pc.aR p.procs:=by have:=RG p.procs 0 ⟨[],[],[]⟩;simpa [Pg.fC]using this
theorem acW {p:Pg} {i:Nat} (hs:Pc.aR p.procs<1000000000) {a b e:List Im} (h1:p.fC.lo[i]? = some ((a.length:Int)+1)) (h2:p.fC.hi[i]? = some (((a++b).length:Int)+1)) (h4:p.fC.L=a++b++e) (s:St) :
 aB Tryz.prog gS [.dG (iA p) 0, .int .i64 (i:Int)] s (.slice .shared 17 (b.map fj)) s:=by
 refine aB.pure ?_ (by simp [D.bp,D.ok,zc]) (by simp [D.ok,Tag.ok,Ia]) s
 have hL:p.fC.L.length<1000000000:=Nat.lt_of_le_of_lt (qG p) hs
 have l1:(i:Int)<(p.fC.lo.length:Int):=by have:=(List.getElem?_eq_some_iff.1 h1).1;omega
 have l2:(i:Int)<(p.fC.hi.length:Int):=by have:=(List.getElem?_eq_some_iff.1 h2).1;omega
 have RH:a.length+b.length≤p.fC.L.length:=by rw [h4];simp
 have w1:IntKind.wrap .i64 ((a.length:Int)+1 - 1)=(a.length:Int):=by rw [show(a.length:Int)+1 - 1=(a.length:Int) by omega];exact cV (by omega) (by omega)
 have w2:IntKind.wrap .i64 (((a.length+b.length:Nat):Int)+1 - 1)=((a.length+b.length:Nat):Int):=by rw [show((a.length+b.length:Nat):Int)+1 - 1=((a.length+b.length:Nat):Int) by omega];exact cV (by omega) (by omega)
 have c1:((a.length:Int)≤((a.length+b.length:Nat):Int))=True:=by simp only [eq_iff_iff,iff_true];omega
 have c2:(((a.length+b.length:Nat):Int)≤(p.fC.L.length:Int))=True:=by simp only [eq_iff_iff,iff_true];omega
 have hb:List.drop a.length (List.take (a.length+b.length) (List.map fj p.fC.L))=List.map fj b:=by rw [h4];simp [List.map_append,List.take_append,List.drop_append]
 unfold S0
 rw [sd]
 refine aB.go B6 rfl fun B Q hB hQ=> ?_
 have⟨hF,hP,gA,gB⟩:=bF
 repeat' (first
 | simp only [go_sem,hF,hP,gA,gB,h1,h2,List.length_append,w1,w2,c1,c2,or_true,true_and,and_self,ite_self,Int.toNat_natCast,hb]
 | (with_reducible first | refine bq fun hc=> ?_ | refine br fun hc=> ?_ | refine bt (fun hc=> ?_) fun hc=> ?_) <;> (try simp only [hc,bs, ↓reduceIte]at h) <;> try simp only [hc]
 | (with_reducible refine aC hQ ?_;(try cases h);simp only [ay,az,bu,bw,go_sem,hF,hP,gA,gB,h1,h2,List.length_append,w1,w2,c1,c2,or_true,true_and,and_self,ite_self,Int.toNat_natCast,hb];try exact kb)
 | (cases h;done))
theorem Vg {p:Pg} {i:Nat} {f:Pc} (hf:p.procs[i]? = some f) (hs:Pc.aR p.procs<1000000000) : ∃ it:List Im,it.map Im.s=Sm.cD f.body∧∀ s,aB Tryz.prog gS [.dG (iA p) 0, .int .i64 (i:Int)] s (.slice .shared 17 (it.map fj)) s:=by
 obtain⟨a,b,e,h1,h2,h3,h4⟩:=(qF p).2 i f hf
 exact⟨b,h3,acW hs h1 h2 h4⟩
end Go.Abs

/-! Nm1 -/

namespace Go.Abs
set_option maxRecDepth 8000
open Go.Proofs
mutual
def Ex.mf (out:List aD):Ex→List aD
 | ⟨op,_,name,kids⟩=>Ex.lz (if op==2 && !(dX out name)then out++ [name]else out) kids
def Ex.lz (out:List aD):List Ex→List aD
 | []=>out
 | x::l=>Ex.lz (Ex.mf out x) l
end
def Ex.names (x:Ex):List aD:=if x.may then x.mf []else []
mutual
theorem se (out:List aD) : ∀ x:Ex,(Ex.mf out x).length≤out.length+x.size
 | ⟨op,n,name,kids⟩=>by
  simp only [Ex.mf,Ex.size]
  have h:=GG (if op==2 && !(dX out name)then out++ [name]else out) kids
  refine Nat.le_trans h ?_
  split <;> simp <;> omega
theorem GG (out:List aD) : ∀ l:List Ex,(Ex.lz out l).length≤out.length+Ex.aR l
 | []=>by simp [Ex.lz,Ex.aR]
 | x::l=>by
  simp only [Ex.lz,Ex.aR]
  have h1:=se out x
  have h2:=GG (Ex.mf out x) l
  omega
end
def sK (out:List aD) (x:aD):List aD:=if dX out x then out else out++ [x]
def zf (x:aD):List aD→Bool
 | []=>false
 | s::l=>if s==x then true else zf x l
theorem GH (x:aD) : ∀ l:List aD,zf x l=dX l x
 | []=>rfl
 | s::l=>by
  have h1:=fF (s::l) x
  have h2:=fF l x
  have h3:=GH x l
  simp only [zf]
  by_cases e:s=x
  ·subst e;simp only [beq_self_eq_true,if_true];exact(h1.2 List.mem_cons_self).symm
  ·have e':(s==x)=false:=by simp [e]
   simp only [e',Bool.false_eq_true,if_false,h3]
   cases ha:dX l x <;> cases hb:dX (s::l) x <;> simp_all [Ne.symm e]
abbrev RI (N:Nat):Prop:=∀ (x:Ex),x.size≤N→∀ out:List aD,out.length+x.size≤1000000000→∀ {s:St} {t:Nat},s.aA[t]? = some (some out.length)→
 aB Tryz.prog iI [.agg (bx x), .slice (.tok t) 1 (out.map encStr)] s (.slice (.tok t) 1 ((x.mf out).map encStr)) ⟨s.aw,s.aA.set t (some (x.mf out).length)⟩
theorem acX {N:Nat} (ih:RI N) {op m:Int} {name:aD} {kids:List Ex} (h:Ex.size ⟨op,m,name,kids⟩≤N+1) {out:List aD} (ho:out.length+Ex.size ⟨op,m,name,kids⟩≤1000000000) :
 aB Tryz.prog iI [.agg (bx ⟨op,m,name,kids⟩), .slice (.tok 0) 1 (out.map encStr)] ⟨[],[some out.length]⟩ (.slice (.tok 0) 1 ((Ex.mf out ⟨op,m,name,kids⟩).map encStr)) ⟨[],[some (Ex.mf out ⟨op,m,name,kids⟩).length]⟩:=by
 obtain⟨R,hG⟩ : ∃ R,Ex.mf out ⟨op,m,name,kids⟩=R:=⟨_,rfl⟩
 rw [hG]
 simp only [Ex.mf]at hG
 simp only [Ex.size]at h ho
 have hlen:kids.length<1000000000:=by have:=Ex.cM kids;omega
 have hk : ∀ y∈kids,∀ out:List aD,out.length+y.size≤1000000000→∀ {s:St} {t:Nat},s.aA[t]? = some (some out.length)→
  aB Tryz.prog iI [.agg (bx y), .slice (.tok t) 1 (out.map encStr)] s (.slice (.tok t) 1 ((y.mf out).map encStr)) ⟨s.aw,s.aA.set t (some (y.mf out).length)⟩:=fun y hy out ho=>
  ih y (by have:=Ex.bT hy;omega) out ho
 refine aB.go rl rfl fun B Q hB hQ=> ?_
 have⟨hF,hP,gA,gB⟩:=bF
 have gA:(out.length+1)*17≤bl:=by unfold bl;omega
 rcases Bool.eq_false_or_eq_true (op==2)with b1 | b1
 ·rcases Bool.eq_false_or_eq_true (dX out name)with b2 | b2
  ·simp only [b1,b2,Bool.not_true,Bool.and_false,Bool.false_eq_true,if_false]at hG
   repeat' (first
 | simp only [go_sem,hF,hP,gA,gB,b1,b2]
 | (with_reducible refine CU (jk (l:=out) (by omega) name _ _) ?_)
 | (with_reducible refine aC hQ ?_;simp only [ay,az,Option.some.injEq,exists_eq_left',go_sem,hF,hP,gA,gB];repeat' (first | exact Ok.out | with_reducible refine aH ?_ ?_ | (simp;done))))
   refine cO 1 1 (bh.ind (ι:=List Ex×Nat×List aD×Nat) (fun i=>kids.drop i.2.1=i.1∧Ex.lz i.2.2.1 i.1=R∧i.2.2.1.length+Ex.aR i.1≤1000000000∧i.2.2.2=i.2.2.1.length) (fun i=>i.1.length)
    (fun i=> [(1, .slice (.tok 0) 1 (i.2.2.1.map encStr)),(2, .ptr 0 0),(23, .slice .shared 4 (kids.map bx)),(24, .int .i64 (kids.length:Int)),(25, .int .i64 (i.2.1:Int))]) (fun i=>⟨[bx ⟨op,m,name,kids⟩],[some i.2.2.2]⟩) ?_ (kids,0,out,out.length) ⟨rfl,hG,by simp;omega,by simp⟩)
   rintro⟨rest,k,cB,n'⟩ ⟨h1,h2,h3,h4⟩ IH
   dsimp only at h1 h2 h3 h4
   subst h4
   cases rest with
   | nil=>
    have hF:=drop_nil h1
    simp only [Ex.lz]at h2
    subst h2
    repeat' (first
 | simp only [go_sem,hF,hP,gA,gB]
 | (with_reducible refine aC hQ ?_;simp only [ay,az,Option.some.injEq,exists_eq_left',go_sem,hF,hP,gA,gB];repeat' (first | exact Ok.out | with_reducible refine aH ?_ ?_ | (simp;done))))
   | cons y rest=>
    obtain⟨hP,g2,hF,g4⟩:=drop_cons h1
    have bW:k<4611686018427387904:=by omega
    simp only [Ex.lz]at h2
    simp only [Ex.aR]at h3
    have hy:=fun {s:St} {t:Nat} (ht:s.aA[t]? = some (some cB.length))=>hk y (List.mem_of_getElem? hP) cB (by omega) ht
    have hl:=se cB y
    repeat' (first
 | simp only [go_sem,hF,hP,gA,gB]
 | (with_reducible refine CU (hy (by with_unfolding_all rfl)) ?_)
 | (with_reducible refine aC hQ ?_;simp only [ay,az,Option.some.injEq,exists_eq_left',go_sem,hF,hP,gA,gB];repeat' (first | exact Ok.out | with_reducible refine aH ?_ ?_ | (simp;done))))
    refine dH 1 1 ?_ ?_ (IH (rest,k+1,_,_) ⟨g2,h2,by dsimp only;omega,rfl⟩ (Nat.lt_succ_self _))
    ·(simp only [go_sem,hF,hP,gA,gB,aJ bW];try exact bH)
    ·(simp only [go_sem,hF,hP,gA,gB,aJ bW];try exact bH)
  ·simp only [b1,b2,Bool.not_false,Bool.and_true,if_true]at hG
   repeat' (first
 | simp only [go_sem,hF,hP,gA,gB,b1,b2]
 | (with_reducible refine CU (jk (l:=out) (by omega) name _ _) ?_)
 | (with_reducible refine aC hQ ?_;simp only [ay,az,Option.some.injEq,exists_eq_left',go_sem,hF,hP,gA,gB];repeat' (first | exact Ok.out | with_reducible refine aH ?_ ?_ | (simp;done))))
   refine dH 1 1 ?_ ?_ (bh.ind (ι:=List Ex×Nat×List aD×Nat) (fun i=>kids.drop i.2.1=i.1∧Ex.lz i.2.2.1 i.1=R∧i.2.2.1.length+Ex.aR i.1≤1000000000∧i.2.2.2=i.2.2.1.length) (fun i=>i.1.length)
    (fun i=> [(1, .slice (.tok 0) 1 (i.2.2.1.map encStr)),(2, .ptr 0 0),(23, .slice .shared 4 (kids.map bx)),(24, .int .i64 (kids.length:Int)),(25, .int .i64 (i.2.1:Int))]) (fun i=>⟨[bx ⟨op,m,name,kids⟩],[some i.2.2.2]⟩) ?_ (kids,0,(out++ [name]),(out.length+1)) ⟨rfl,hG,by simp;omega,by simp⟩)
   ·(simp only [go_sem,hF,hP,gA,gB,List.map_append,List.map_cons,List.map_nil,List.length_append,List.length_cons,List.length_nil,encStr];try exact bH)
   ·(simp only [go_sem,hF,hP,gA,gB,List.map_append,List.map_cons,List.map_nil,List.length_append,List.length_cons,List.length_nil,encStr];try exact bH)
   rintro⟨rest,k,cB,n'⟩ ⟨h1,h2,h3,h4⟩ IH
   dsimp only at h1 h2 h3 h4
   subst h4
   cases rest with
   | nil=>
    have hF:=drop_nil h1
    simp only [Ex.lz]at h2
    subst h2
    repeat' (first
 | simp only [go_sem,hF,hP,gA,gB]
 | (with_reducible refine aC hQ ?_;simp only [ay,az,Option.some.injEq,exists_eq_left',go_sem,hF,hP,gA,gB];repeat' (first | exact Ok.out | with_reducible refine aH ?_ ?_ | (simp;done))))
   | cons y rest=>
    obtain⟨hP,g2,hF,g4⟩:=drop_cons h1
    have bW:k<4611686018427387904:=by omega
    simp only [Ex.lz]at h2
    simp only [Ex.aR]at h3
    have hy:=fun {s:St} {t:Nat} (ht:s.aA[t]? = some (some cB.length))=>hk y (List.mem_of_getElem? hP) cB (by omega) ht
    have hl:=se cB y
    repeat' (first
 | simp only [go_sem,hF,hP,gA,gB]
 | (with_reducible refine CU (hy (by with_unfolding_all rfl)) ?_)
 | (with_reducible refine aC hQ ?_;simp only [ay,az,Option.some.injEq,exists_eq_left',go_sem,hF,hP,gA,gB];repeat' (first | exact Ok.out | with_reducible refine aH ?_ ?_ | (simp;done))))
    refine dH 1 1 ?_ ?_ (IH (rest,k+1,_,_) ⟨g2,h2,by dsimp only;omega,rfl⟩ (Nat.lt_succ_self _))
    ·(simp only [go_sem,hF,hP,gA,gB,aJ bW];try exact bH)
    ·(simp only [go_sem,hF,hP,gA,gB,aJ bW];try exact bH)
 ·simp only [b1,Bool.false_and,Bool.false_eq_true,if_false]at hG
  repeat' (first
 | simp only [go_sem,hF,hP,gA,gB,b1]
 | (with_reducible refine aC hQ ?_;simp only [ay,az,Option.some.injEq,exists_eq_left',go_sem,hF,hP,gA,gB];repeat' (first | exact Ok.out | with_reducible refine aH ?_ ?_ | (simp;done))))
  refine cO 1 1 (bh.ind (ι:=List Ex×Nat×List aD×Nat) (fun i=>kids.drop i.2.1=i.1∧Ex.lz i.2.2.1 i.1=R∧i.2.2.1.length+Ex.aR i.1≤1000000000∧i.2.2.2=i.2.2.1.length) (fun i=>i.1.length)
   (fun i=> [(1, .slice (.tok 0) 1 (i.2.2.1.map encStr)),(2, .ptr 0 0),(23, .slice .shared 4 (kids.map bx)),(24, .int .i64 (kids.length:Int)),(25, .int .i64 (i.2.1:Int))]) (fun i=>⟨[bx ⟨op,m,name,kids⟩],[some i.2.2.2]⟩) ?_ (kids,0,out,out.length) ⟨rfl,hG,by simp;omega,by simp⟩)
  rintro⟨rest,k,cB,n'⟩ ⟨h1,h2,h3,h4⟩ IH
  dsimp only at h1 h2 h3 h4
  subst h4
  cases rest with
  | nil=>
   have hF:=drop_nil h1
   simp only [Ex.lz]at h2
   subst h2
   repeat' (first
 | simp only [go_sem,hF,hP,gA,gB]
 | (with_reducible refine aC hQ ?_;simp only [ay,az,Option.some.injEq,exists_eq_left',go_sem,hF,hP,gA,gB];repeat' (first | exact Ok.out | with_reducible refine aH ?_ ?_ | (simp;done))))
  | cons y rest=>
   obtain⟨hP,g2,hF,g4⟩:=drop_cons h1
   have bW:k<4611686018427387904:=by omega
   simp only [Ex.lz]at h2
   simp only [Ex.aR]at h3
   have hy:=fun {s:St} {t:Nat} (ht:s.aA[t]? = some (some cB.length))=>hk y (List.mem_of_getElem? hP) cB (by omega) ht
   have hl:=se cB y
   repeat' (first
 | simp only [go_sem,hF,hP,gA,gB]
 | (with_reducible refine CU (hy (by with_unfolding_all rfl)) ?_)
 | (with_reducible refine aC hQ ?_;simp only [ay,az,Option.some.injEq,exists_eq_left',go_sem,hF,hP,gA,gB];repeat' (first | exact Ok.out | with_reducible refine aH ?_ ?_ | (simp;done))))
   refine dH 1 1 ?_ ?_ (IH (rest,k+1,_,_) ⟨g2,h2,by dsimp only;omega,rfl⟩ (Nat.lt_succ_self _))
   ·(simp only [go_sem,hF,hP,gA,gB,aJ bW];try exact bH)
   ·(simp only [go_sem,hF,hP,gA,gB,aJ bW];try exact bH)
theorem Vh : ∀ N,RI N:=by
 intro N
 induction N with
 | zero=>rintro⟨op,m,name,kids⟩ h;simp only [Ex.size]at h;omega
 | succ N ih=>
  rintro⟨op,m,name,kids⟩ h out ho s t ht
  exact(acX ih h ho).abj (pre:= [_]) (post:= []) (by simp only [D.bp,D.ok,gL];rfl) rfl (eD out) (eD _) ht
abbrev aq0 (N:Nat):Prop:=∀ (x:Ex),x.size≤N→∀ out:List aD,out.length+x.size≤1000000000→∀ {s:St} {t:Nat},s.aA[t]? = some (some out.length)→
 aB Tryz.prog Lb [.agg (bx x), .slice (.tok t) 1 (out.map encStr)] s (.slice (.tok t) 1 ((x.mf out).map encStr)) ⟨s.aw,s.aA.set t (some (x.mf out).length)⟩
end Go.Abs

/-! Nm2 -/

namespace Go.Abs
set_option maxRecDepth 8000
open Go.Proofs
theorem RJ {op m:Int} {name:aD} {kids:List Ex} (h:Ex.form ⟨op,m,name,kids⟩=true) (h2:(op==2)=true):kids = []:=by
 have e:op=2:=by simpa using h2
 subst e
 simp only [Ex.form]at h
 split at h
 ·cases h
 ·rename_i hh
  simp only [Bool.or_eq_true,not_or,bne_iff_ne,ne_eq,Decidable.not_not]at hh
  have:=hh.1.1.1.1
  have e:mN 2=0:=rfl
  rw [e]at this
  exact List.length_eq_zero_iff.1 (by omega)
theorem Vi {op m:Int} {name:aD} {kids:List Ex} (hf:(op==2)=true→kids = []) (ho:Ex.size ⟨op,m,name,kids⟩≤1000000000) (s:St) :
 aB Tryz.prog iI [.agg (bx ⟨op,m,name,kids⟩), .slice .full 0 []] s (.slice .shared 1 ((Ex.mf [] ⟨op,m,name,kids⟩).map encStr)) s:=by
 refine aB.pure ?_ (by simp only [D.bp,D.ok,gL];rfl) (by simp only [D.ok,Tag.ok,eD];rfl) s
 obtain⟨R,hG⟩ : ∃ R,Ex.mf [] ⟨op,m,name,kids⟩=R:=⟨_,rfl⟩
 rw [hG]
 simp only [Ex.mf]at hG
 simp only [Ex.size]at ho
 have hlen:kids.length<1000000000:=by have:=Ex.cM kids;omega
 have hk : ∀ y∈kids,∀ out:List aD,out.length+y.size≤1000000000→∀ {s:St} {t:Nat},s.aA[t]? = some (some out.length)→
  aB Tryz.prog iI [.agg (bx y), .slice (.tok t) 1 (out.map encStr)] s (.slice (.tok t) 1 ((y.mf out).map encStr)) ⟨s.aw,s.aA.set t (some (y.mf out).length)⟩:=fun y hy out ho=>
  Vh y.size y (Nat.le_refl _) out ho
 unfold S0
 rcases Bool.eq_false_or_eq_true (op==2)with b1 | b1
 ·have hk0:=hf b1
  subst hk0
  have e:dX [] name=false:=rfl
  simp only [b1,e,Bool.not_false,Bool.and_true,if_true,Ex.lz,List.nil_append]at hG
  subst hG
  refine aB.go rl rfl fun B Q hB hQ=> ?_
  have⟨hF,hP,gA,gB⟩:=bF
  have gA:17≤bl:=by unfold bl;omega
  repeat' (first
 | simp only [go_sem,hF,hP,gA,gB,b1,List.map_nil,List.map_cons,List.length_nil,encStr,Int.natCast_zero,Int.lt_irrefl,decide_false]
 | (with_reducible refine CU (JP name _ _ _) ?_)
 | (with_reducible refine bh.o7 ?_)
 | (with_reducible refine aC hQ ?_;simp only [ay,az,Option.some.injEq,exists_eq_left',go_sem,hF,hP,gA,gB];repeat' (first | exact Ok.out | with_reducible refine aH ?_ ?_ | (simp;done))))
 ·simp only [b1,Bool.false_and,Bool.false_eq_true,if_false]at hG
  refine aB.go rl rfl fun B Q hB hQ=> ?_
  have⟨hF,hP,gA,gB⟩:=bF
  repeat' (first
 | simp only [go_sem,hF,hP,gA,gB,b1]
 | (with_reducible refine aC hQ ?_;simp only [ay,az,Option.some.injEq,exists_eq_left',go_sem,hF,hP,gA,gB];repeat' (first | exact Ok.out | with_reducible refine aH ?_ ?_ | (simp;done))))
  refine bh.l6 1 1 rfl ?_
  simp only [go_sem,hF,hP,gA,gB]
  refine cO 1 1 (bh.ind (ι:=List Ex×Nat×List aD×Nat) (fun i=>kids.drop i.2.1=i.1∧Ex.lz i.2.2.1 i.1=R∧i.2.2.1.length+Ex.aR i.1≤1000000000∧i.2.2.2=i.2.2.1.length) (fun i=>i.1.length)
   (fun i=> [(1, .slice (.tok 0) 1 (i.2.2.1.map encStr)),(2, .ptr 0 0),(23, .slice .shared 4 (kids.map bx)),(24, .int .i64 (kids.length:Int)),(25, .int .i64 (i.2.1:Int))]) (fun i=>⟨[bx ⟨op,m,name,kids⟩],[some i.2.2.2]⟩) ?_ (kids,0,[],0) ⟨rfl,hG,by simp;omega,by simp⟩)
  rintro⟨rest,k,cB,n'⟩ ⟨h1,h2,h3,h4⟩ IH
  dsimp only at h1 h2 h3 h4
  subst h4
  cases rest with
  | nil=>
   have hF:=drop_nil h1
   simp only [Ex.lz]at h2
   subst h2
   repeat' (first
 | simp only [go_sem,hF,hP,gA,gB]
 | (with_reducible refine aC hQ ?_;simp only [ay,az,Option.some.injEq,exists_eq_left',go_sem,hF,hP,gA,gB];repeat' (first | exact Ok.out | with_reducible refine aH ?_ ?_ | (simp;done))))
  | cons y rest=>
   obtain⟨hP,g2,hF,g4⟩:=drop_cons h1
   have bW:k<4611686018427387904:=by omega
   simp only [Ex.lz]at h2
   simp only [Ex.aR]at h3
   have hy:=fun {s:St} {t:Nat} (ht:s.aA[t]? = some (some cB.length))=>hk y (List.mem_of_getElem? hP) cB (by omega) ht
   have hl:=se cB y
   repeat' (first
 | simp only [go_sem,hF,hP,gA,gB]
 | (with_reducible refine CU (hy (by with_unfolding_all rfl)) ?_)
 | (with_reducible refine aC hQ ?_;simp only [ay,az,Option.some.injEq,exists_eq_left',go_sem,hF,hP,gA,gB];repeat' (first | exact Ok.out | with_reducible refine aH ?_ ?_ | (simp;done))))
   refine dH 1 1 ?_ ?_ (IH (rest,k+1,_,_) ⟨g2,h2,by dsimp only;omega,rfl⟩ (Nat.lt_succ_self _))
   ·(simp only [go_sem,hF,hP,gA,gB,aJ bW];try exact bH)
   ·(simp only [go_sem,hF,hP,gA,gB,aJ bW];try exact bH)
theorem mY {x:Ex} (hx:x.size≤1000000000) (ht:x.texts) (s:St):aB Tryz.prog rf [.agg (bx x)] s (.slice .shared 1 (x.names.map encStr)) s:=by
 refine aB.pure ?_ (by simp only [D.bp,D.ok,gL];rfl) (by simp only [D.ok,Tag.ok,eD];rfl) s
 have hm:=fun s=>D7 (x:=x) (by omega) ht s
 simp only [Rr]at hm
 unfold Ex.names
 unfold S0
 cases hb:x.may
 ·simp only [hb]at hm
  simp only [Bool.false_eq_true,if_false,List.map_nil]
  refine aB.go ya rfl fun B Q hB hQ=> ?_
  have⟨hF,hP,gA,gB⟩:=bF
  repeat' (first
 | simp only [go_sem,hF,hP,gA,gB]
 | (with_reducible refine CU (hm _) ?_)
 | (with_reducible refine aC hQ ?_;simp only [ay,az,Option.some.injEq,exists_eq_left',go_sem,hF,hP,gA,gB];repeat' (first | exact Ok.out | with_reducible refine aH ?_ ?_ | (simp;done))))
 ·simp only [hb]at hm
  simp only [if_true]
  have hg : ∀ s,aB Tryz.prog iI [.agg (bx x), .slice .full 0 []] s (.slice .shared 1 ((x.mf []).map encStr)) s:=by
   intro s
   obtain⟨op,m,name,kids⟩:=x
   exact Vi (fun h2=>RJ (by simp only [Ex.may,Bool.and_eq_true]at hb;exact hb.2) h2) hx s
  refine aB.go ya rfl fun B Q hB hQ=> ?_
  have⟨hF,hP,gA,gB⟩:=bF
  repeat' (first
 | simp only [go_sem,hF,hP,gA,gB]
 | (with_reducible refine CU (hm _) ?_)
 | (with_reducible refine CU (hg _) ?_)
 | (with_reducible refine aC hQ ?_;simp only [ay,az,Option.some.injEq,exists_eq_left',go_sem,hF,hP,gA,gB];repeat' (first | exact Ok.out | with_reducible refine aH ?_ ?_ | (simp;done))))
end Go.Abs

/-! Nm3 -/

namespace Go.Abs
set_option maxRecDepth 8000
open Go.Proofs
def Ar.said (out:List aD):List Ar→List aD
 | []=>out
 | a::l=>Ar.said ((if a.ref then out++ [a.name]else out)++a.x.names) l
def Sm.uA (v:Sm):List aD:=if v.kind != 10 && v.name != []then [v.name]else []
def Sm.said (v:Sm):List aD:=Ar.said (v.uA++v.x.names) v.args
theorem kT (x:Ex):x.names.length≤x.size:=by
 unfold Ex.names
 split
 ·simpa using se [] x
 ·exact Nat.zero_le _
def Ar.uZ:List Ar→Prop
 | []=>True
 | a::l=>a.x.texts∧Ar.uZ l
def Sm.pT (v:Sm):Prop:=v.x.texts∧(∀ a∈v.args,a.x.texts)∧v.x.size+Ar.aR v.args<1000000
theorem kp {l nx:List aD} {n:Nat} (hn:n=l.length) (h:l.length+nx.length≤1000000000) {g:Tag} (o:List (List D)) :
 jA 1 16 (.slice (.tok 0) 1 (l.map encStr)) (.slice g 1 (nx.map encStr)) ⟨o,[some n]⟩=some (.slice (.tok 0) 1 ((l++nx).map encStr),⟨o,[some (l++nx).length]⟩):=by
 subst hn
 have:=Je (size:=1) (bytes:=16) (t:=0) (rows:=l.map encStr) (new:=nx.map encStr) (g:=g) (s:=⟨o,[some l.length]⟩) (by simp only [List.length_map];unfold bl;omega) (by simp)
 rw [this]
 simp
theorem Bh {v:Sm} (hv:v.pT) (s:St):aB Tryz.prog q9 [.agg (aU v)] s (.slice .shared 1 (v.said.map encStr)) s:=by
 refine aB.pure ?_ (by simp only [D.bp,D.ok,km];rfl) (by simp only [D.ok,Tag.ok,eD];rfl) s
 obtain⟨ht1,RK,dN⟩:=hv
 obtain⟨R,hG⟩ : ∃ R,v.said=R:=⟨_,rfl⟩
 rw [hG]
 simp only [Sm.said]at hG
 have hlen:v.args.length<1000000000:=by have:=Ar.cM v.args;omega
 have hx:=fun s=>mY (x:=v.x) (by omega) ht1 s
 have LV:=kT v.x
 unfold S0
 refine aB.go FE rfl fun B Q hB hQ=> ?_
 have⟨hF,hP,gA,gB⟩:=bF
 have gA:17≤bl:=by unfold bl;omega
 by_cases hb:(v.kind != 10 && v.name != [])=true
 ·simp only [Sm.uA,hb,if_true]at hG
  rw [Bool.and_eq_true]at hb
  obtain⟨b1,b2⟩:=hb
  have fV:=kp (l:= [v.name]) (nx:=v.x.names) (n:=1) rfl (by simp;omega) (g:= .shared)
  simp only [List.map_append,List.map_cons,List.map_nil,encStr]at fV
  have b3:(v.name == [])=false:=by simpa using b2
  repeat' (first
 | simp only [go_sem,hF,hP,gA,gB,b1,b2,b3,fV]
 | (with_reducible refine CU (hx _) ?_)
 | (with_reducible refine aC hQ ?_;simp only [ay,az,Option.some.injEq,exists_eq_left',go_sem,hF,hP,gA,gB];repeat' (first | exact Ok.out | with_reducible refine aH ?_ ?_ | (simp;done))))
  refine dH 1 1 ?_ ?_ (bh.ind (ι:=List Ar×Nat×List aD×Nat) (fun i=>v.args.drop i.2.1=i.1∧Ar.said i.2.2.1 i.1=R∧i.2.2.1.length+Ar.aR i.1≤2000000∧i.2.2.2=i.2.2.1.length) (fun i=>i.1.length)
   (fun i=> [(3, .slice (.tok 0) 1 (i.2.2.1.map encStr)),(1, .ptr 0 0),(25, .slice .shared 6 (v.args.map ej)),(26, .int .i64 (v.args.length:Int)),(27, .int .i64 (i.2.1:Int))]) (fun i=>⟨[aU v],[some i.2.2.2]⟩) ?_ (v.args,0,([v.name]++v.x.names),(v.x.names.length+1)) ⟨rfl,hG,by simp at LV ⊢;omega,by simp⟩)
  ·(simp only [go_sem,hF,hP,gA,gB,List.map_append,List.map_cons,List.map_nil,encStr];try exact bH)
  ·(simp only [go_sem,hF,hP,gA,gB,List.map_append,List.map_cons,List.map_nil,encStr];try exact bH)
  rintro⟨rest,k,out,n'⟩ ⟨h1,h2,h3,h4⟩ IH
  dsimp only at h1 h2 h3 h4
  subst h4
  cases rest with
  | nil=>
   have hF:=drop_nil h1
   simp only [Ar.said]at h2
   subst h2
   repeat' (first
 | simp only [go_sem,hF,hP,gA,gB]
 | (with_reducible refine aC hQ ?_;simp only [ay,az,Option.some.injEq,exists_eq_left',go_sem,hF,hP,gA,gB];repeat' (first | exact Ok.out | with_reducible refine aH ?_ ?_ | (simp;done))))
  | cons a rest=>
   obtain⟨hP,g2,hF,g4⟩:=drop_cons h1
   have bW:k<4611686018427387904:=by omega
   simp only [Ar.said]at h2
   simp only [Ar.aR]at h3
   have wo:=fun s=>mY (x:=a.x) (by have:=Ar.bT (List.mem_of_getElem? hP);omega) (RK a (List.mem_of_getElem? hP)) s
   have hl:=kT a.x
   have gA:(out.length+1)*17≤bl:=by unfold bl;omega
   rcases Bool.eq_false_or_eq_true a.ref with b1 | b1
   ·simp only [b1,if_true]at h2
    have fV:=kp (l:=out++ [a.name]) (nx:=a.x.names) (n:=out.length+1) (by simp) (by simp;omega) (g:= .shared)
    simp only [List.map_append,List.map_cons,List.map_nil,encStr]at fV
    repeat' (first
 | simp only [go_sem,hF,hP,gA,gB,b1,fV]
 | (with_reducible refine CU (wo _) ?_)
 | (with_reducible refine aC hQ ?_;simp only [ay,az,Option.some.injEq,exists_eq_left',go_sem,hF,hP,gA,gB];repeat' (first | exact Ok.out | with_reducible refine aH ?_ ?_ | (simp;done))))
    refine dH 1 1 ?_ ?_ (IH (rest,k+1,out++ [a.name]++a.x.names,_) ⟨g2,h2,by simp;omega,by simp <;> omega⟩ (Nat.lt_succ_self _))
    ·(simp only [go_sem,hF,hP,gA,gB,aJ bW,List.map_append,List.map_cons,List.map_nil,encStr];try exact bH)
    ·(simp only [go_sem,hF,hP,gA,gB,aJ bW,List.map_append,List.map_cons,List.map_nil,encStr];try exact bH)
   ·simp only [b1,Bool.false_eq_true,if_false]at h2
    have fV:=kp (l:=out) (nx:=a.x.names) rfl (by omega) (g:= .shared)
    repeat' (first
 | simp only [go_sem,hF,hP,gA,gB,b1,fV]
 | (with_reducible refine CU (wo _) ?_)
 | (with_reducible refine aC hQ ?_;simp only [ay,az,Option.some.injEq,exists_eq_left',go_sem,hF,hP,gA,gB];repeat' (first | exact Ok.out | with_reducible refine aH ?_ ?_ | (simp;done))))
    refine dH 1 1 ?_ ?_ (IH (rest,k+1,out++a.x.names,_) ⟨g2,h2,by simp;omega,by simp <;> omega⟩ (Nat.lt_succ_self _))
    ·(simp only [go_sem,hF,hP,gA,gB,aJ bW];try exact bH)
    ·(simp only [go_sem,hF,hP,gA,gB,aJ bW];try exact bH)
 ·simp only [Sm.uA,hb,Bool.false_eq_true,if_false,List.nil_append]at hG
  have tQ:(v.kind != 10 && v.name != [])=false:=by simpa using hb
  obtain⟨nx,hnx⟩ : ∃ nx,nx=v.x.names:=⟨_,rfl⟩
  rw [← hnx]at hG LV
  simp only [← hnx]at hx
  by_cases IG:nx = []
  ·subst IG
   simp only [List.map_nil]at hx
   have fV : ∀ o:List (List D),jA 1 16 (.slice .full 0 []) (.slice .shared 1 []) ⟨o,[]⟩=some (.slice .full 0 [],⟨o,[]⟩):=fun o=>by simp [jA,bl]
   have HB:(v.kind != 10)=false∨(v.kind != 10)=true∧(v.name != [])=false:=by
    cases h1:(v.kind != 10)
    ·exact .inl rfl
    ·rw [h1]at tQ;exact .inr ⟨rfl,by simpa using tQ⟩
   rcases HB with b1 | ⟨b1,b2⟩
   ·rcases Bool.eq_false_or_eq_true (v.name != [])with b2 | b2
    all_goals
     have b3:(v.name == []) = !(v.name != []):=by simp only [bne,Bool.not_not]
     rw [b2]at b3
     repeat' (first
 | simp only [go_sem,hF,hP,gA,gB,b1,b2,b3,Bool.not_true,Bool.not_false,fV]
 | (with_reducible refine CU (hx _) ?_)
 | (with_reducible refine aC hQ ?_;simp only [ay,az,Option.some.injEq,exists_eq_left',go_sem,hF,hP,gA,gB];repeat' (first | exact Ok.out | with_reducible refine aH ?_ ?_ | (simp;done))))
    all_goals
     refine bh.l6 3 1 rfl ?_
     simp only [go_sem,hF,hP,gA,gB]
     refine cO 1 1 (bh.ind (ι:=List Ar×Nat×List aD×Nat) (fun i=>v.args.drop i.2.1=i.1∧Ar.said i.2.2.1 i.1=R∧i.2.2.1.length+Ar.aR i.1≤2000000∧i.2.2.2=i.2.2.1.length) (fun i=>i.1.length)
      (fun i=> [(3, .slice (.tok 0) 1 (i.2.2.1.map encStr)),(1, .ptr 0 0),(25, .slice .shared 6 (v.args.map ej)),(26, .int .i64 (v.args.length:Int)),(27, .int .i64 (i.2.1:Int))]) (fun i=>⟨[aU v],[some i.2.2.2]⟩) ?_ (v.args,0,[],0) ⟨rfl,hG,by simp at LV ⊢;omega,by simp⟩)
     rintro⟨rest,k,out,n'⟩ ⟨h1,h2,h3,h4⟩ IH
     dsimp only at h1 h2 h3 h4
     subst h4
     cases rest with
     | nil=>
      have hF:=drop_nil h1
      simp only [Ar.said]at h2
      subst h2
      repeat' (first
 | simp only [go_sem,hF,hP,gA,gB]
 | (with_reducible refine aC hQ ?_;simp only [ay,az,Option.some.injEq,exists_eq_left',go_sem,hF,hP,gA,gB];repeat' (first | exact Ok.out | with_reducible refine aH ?_ ?_ | (simp;done))))
     | cons a rest=>
      obtain⟨hP,g2,hF,g4⟩:=drop_cons h1
      have bW:k<4611686018427387904:=by omega
      simp only [Ar.said]at h2
      simp only [Ar.aR]at h3
      have wo:=fun s=>mY (x:=a.x) (by have:=Ar.bT (List.mem_of_getElem? hP);omega) (RK a (List.mem_of_getElem? hP)) s
      have hl:=kT a.x
      have gA:(out.length+1)*17≤bl:=by unfold bl;omega
      rcases Bool.eq_false_or_eq_true a.ref with b1 | b1
      ·simp only [b1,if_true]at h2
       have fV:=kp (l:=out++ [a.name]) (nx:=a.x.names) (n:=out.length+1) (by simp) (by simp;omega) (g:= .shared)
       simp only [List.map_append,List.map_cons,List.map_nil,encStr]at fV
       repeat' (first
 | simp only [go_sem,hF,hP,gA,gB,b1,fV]
 | (with_reducible refine CU (wo _) ?_)
 | (with_reducible refine aC hQ ?_;simp only [ay,az,Option.some.injEq,exists_eq_left',go_sem,hF,hP,gA,gB];repeat' (first | exact Ok.out | with_reducible refine aH ?_ ?_ | (simp;done))))
       refine dH 1 1 ?_ ?_ (IH (rest,k+1,out++ [a.name]++a.x.names,_) ⟨g2,h2,by simp;omega,by simp <;> omega⟩ (Nat.lt_succ_self _))
       ·(simp only [go_sem,hF,hP,gA,gB,aJ bW,List.map_append,List.map_cons,List.map_nil,encStr];try exact bH)
       ·(simp only [go_sem,hF,hP,gA,gB,aJ bW,List.map_append,List.map_cons,List.map_nil,encStr];try exact bH)
      ·simp only [b1,Bool.false_eq_true,if_false]at h2
       have fV:=kp (l:=out) (nx:=a.x.names) rfl (by omega) (g:= .shared)
       repeat' (first
 | simp only [go_sem,hF,hP,gA,gB,b1,fV]
 | (with_reducible refine CU (wo _) ?_)
 | (with_reducible refine aC hQ ?_;simp only [ay,az,Option.some.injEq,exists_eq_left',go_sem,hF,hP,gA,gB];repeat' (first | exact Ok.out | with_reducible refine aH ?_ ?_ | (simp;done))))
       refine dH 1 1 ?_ ?_ (IH (rest,k+1,out++a.x.names,_) ⟨g2,h2,by simp;omega,by simp <;> omega⟩ (Nat.lt_succ_self _))
       ·(simp only [go_sem,hF,hP,gA,gB,aJ bW];try exact bH)
       ·(simp only [go_sem,hF,hP,gA,gB,aJ bW];try exact bH)
   ·have b3:(v.name == [])=true:=by simpa using b2
    repeat' (first
 | simp only [go_sem,hF,hP,gA,gB,b1,b2,b3,fV]
 | (with_reducible refine CU (hx _) ?_)
 | (with_reducible refine aC hQ ?_;simp only [ay,az,Option.some.injEq,exists_eq_left',go_sem,hF,hP,gA,gB];repeat' (first | exact Ok.out | with_reducible refine aH ?_ ?_ | (simp;done))))
    refine bh.l6 3 1 rfl ?_
    simp only [go_sem,hF,hP,gA,gB]
    refine cO 1 1 (bh.ind (ι:=List Ar×Nat×List aD×Nat) (fun i=>v.args.drop i.2.1=i.1∧Ar.said i.2.2.1 i.1=R∧i.2.2.1.length+Ar.aR i.1≤2000000∧i.2.2.2=i.2.2.1.length) (fun i=>i.1.length)
     (fun i=> [(3, .slice (.tok 0) 1 (i.2.2.1.map encStr)),(1, .ptr 0 0),(25, .slice .shared 6 (v.args.map ej)),(26, .int .i64 (v.args.length:Int)),(27, .int .i64 (i.2.1:Int))]) (fun i=>⟨[aU v],[some i.2.2.2]⟩) ?_ (v.args,0,[],0) ⟨rfl,hG,by simp at LV ⊢;omega,by simp⟩)
    rintro⟨rest,k,out,n'⟩ ⟨h1,h2,h3,h4⟩ IH
    dsimp only at h1 h2 h3 h4
    subst h4
    cases rest with
    | nil=>
     have hF:=drop_nil h1
     simp only [Ar.said]at h2
     subst h2
     repeat' (first
 | simp only [go_sem,hF,hP,gA,gB]
 | (with_reducible refine aC hQ ?_;simp only [ay,az,Option.some.injEq,exists_eq_left',go_sem,hF,hP,gA,gB];repeat' (first | exact Ok.out | with_reducible refine aH ?_ ?_ | (simp;done))))
    | cons a rest=>
     obtain⟨hP,g2,hF,g4⟩:=drop_cons h1
     have bW:k<4611686018427387904:=by omega
     simp only [Ar.said]at h2
     simp only [Ar.aR]at h3
     have wo:=fun s=>mY (x:=a.x) (by have:=Ar.bT (List.mem_of_getElem? hP);omega) (RK a (List.mem_of_getElem? hP)) s
     have hl:=kT a.x
     have gA:(out.length+1)*17≤bl:=by unfold bl;omega
     rcases Bool.eq_false_or_eq_true a.ref with b1 | b1
     ·simp only [b1,if_true]at h2
      have fV:=kp (l:=out++ [a.name]) (nx:=a.x.names) (n:=out.length+1) (by simp) (by simp;omega) (g:= .shared)
      simp only [List.map_append,List.map_cons,List.map_nil,encStr]at fV
      repeat' (first
 | simp only [go_sem,hF,hP,gA,gB,b1,fV]
 | (with_reducible refine CU (wo _) ?_)
 | (with_reducible refine aC hQ ?_;simp only [ay,az,Option.some.injEq,exists_eq_left',go_sem,hF,hP,gA,gB];repeat' (first | exact Ok.out | with_reducible refine aH ?_ ?_ | (simp;done))))
      refine dH 1 1 ?_ ?_ (IH (rest,k+1,out++ [a.name]++a.x.names,_) ⟨g2,h2,by simp;omega,by simp <;> omega⟩ (Nat.lt_succ_self _))
      ·(simp only [go_sem,hF,hP,gA,gB,aJ bW,List.map_append,List.map_cons,List.map_nil,encStr];try exact bH)
      ·(simp only [go_sem,hF,hP,gA,gB,aJ bW,List.map_append,List.map_cons,List.map_nil,encStr];try exact bH)
     ·simp only [b1,Bool.false_eq_true,if_false]at h2
      have fV:=kp (l:=out) (nx:=a.x.names) rfl (by omega) (g:= .shared)
      repeat' (first
 | simp only [go_sem,hF,hP,gA,gB,b1,fV]
 | (with_reducible refine CU (wo _) ?_)
 | (with_reducible refine aC hQ ?_;simp only [ay,az,Option.some.injEq,exists_eq_left',go_sem,hF,hP,gA,gB];repeat' (first | exact Ok.out | with_reducible refine aH ?_ ?_ | (simp;done))))
      refine dH 1 1 ?_ ?_ (IH (rest,k+1,out++a.x.names,_) ⟨g2,h2,by simp;omega,by simp <;> omega⟩ (Nat.lt_succ_self _))
      ·(simp only [go_sem,hF,hP,gA,gB,aJ bW];try exact bH)
      ·(simp only [go_sem,hF,hP,gA,gB,aJ bW];try exact bH)
  ·have fV : ∀ o:List (List D),jA 1 16 (.slice .full 0 []) (.slice .shared 1 (nx.map encStr)) ⟨o,[]⟩=some (.slice (.tok 0) 1 (nx.map encStr),⟨o,[some nx.length]⟩):=fun o=>by
    have:nx.length*17≤bl:=by unfold bl;omega
    cases nx with
    | nil=>exact absurd rfl IG
    | cons a r=>simp only [List.length_cons]at this;simp [jA,this]
   have HB:(v.kind != 10)=false∨(v.kind != 10)=true∧(v.name != [])=false:=by
    cases h1:(v.kind != 10)
    ·exact .inl rfl
    ·rw [h1]at tQ;exact .inr ⟨rfl,by simpa using tQ⟩
   rcases HB with b1 | ⟨b1,b2⟩
   ·rcases Bool.eq_false_or_eq_true (v.name != [])with b2 | b2
    all_goals
     have b3:(v.name == []) = !(v.name != []):=by simp only [bne,Bool.not_not]
     rw [b2]at b3
     repeat' (first
 | simp only [go_sem,hF,hP,gA,gB,b1,b2,b3,Bool.not_true,Bool.not_false,fV]
 | (with_reducible refine CU (hx _) ?_)
 | (with_reducible refine aC hQ ?_;simp only [ay,az,Option.some.injEq,exists_eq_left',go_sem,hF,hP,gA,gB];repeat' (first | exact Ok.out | with_reducible refine aH ?_ ?_ | (simp;done))))
    all_goals
     refine cO 1 1 (bh.ind (ι:=List Ar×Nat×List aD×Nat) (fun i=>v.args.drop i.2.1=i.1∧Ar.said i.2.2.1 i.1=R∧i.2.2.1.length+Ar.aR i.1≤2000000∧i.2.2.2=i.2.2.1.length) (fun i=>i.1.length)
      (fun i=> [(3, .slice (.tok 0) 1 (i.2.2.1.map encStr)),(1, .ptr 0 0),(25, .slice .shared 6 (v.args.map ej)),(26, .int .i64 (v.args.length:Int)),(27, .int .i64 (i.2.1:Int))]) (fun i=>⟨[aU v],[some i.2.2.2]⟩) ?_ (v.args,0,nx,_) ⟨rfl,hG,by simp at LV ⊢;omega,by simp⟩)
     rintro⟨rest,k,out,n'⟩ ⟨h1,h2,h3,h4⟩ IH
     dsimp only at h1 h2 h3 h4
     subst h4
     cases rest with
     | nil=>
      have hF:=drop_nil h1
      simp only [Ar.said]at h2
      subst h2
      repeat' (first
 | simp only [go_sem,hF,hP,gA,gB]
 | (with_reducible refine aC hQ ?_;simp only [ay,az,Option.some.injEq,exists_eq_left',go_sem,hF,hP,gA,gB];repeat' (first | exact Ok.out | with_reducible refine aH ?_ ?_ | (simp;done))))
     | cons a rest=>
      obtain⟨hP,g2,hF,g4⟩:=drop_cons h1
      have bW:k<4611686018427387904:=by omega
      simp only [Ar.said]at h2
      simp only [Ar.aR]at h3
      have wo:=fun s=>mY (x:=a.x) (by have:=Ar.bT (List.mem_of_getElem? hP);omega) (RK a (List.mem_of_getElem? hP)) s
      have hl:=kT a.x
      have gA:(out.length+1)*17≤bl:=by unfold bl;omega
      rcases Bool.eq_false_or_eq_true a.ref with b1 | b1
      ·simp only [b1,if_true]at h2
       have fV:=kp (l:=out++ [a.name]) (nx:=a.x.names) (n:=out.length+1) (by simp) (by simp;omega) (g:= .shared)
       simp only [List.map_append,List.map_cons,List.map_nil,encStr]at fV
       repeat' (first
 | simp only [go_sem,hF,hP,gA,gB,b1,fV]
 | (with_reducible refine CU (wo _) ?_)
 | (with_reducible refine aC hQ ?_;simp only [ay,az,Option.some.injEq,exists_eq_left',go_sem,hF,hP,gA,gB];repeat' (first | exact Ok.out | with_reducible refine aH ?_ ?_ | (simp;done))))
       refine dH 1 1 ?_ ?_ (IH (rest,k+1,out++ [a.name]++a.x.names,_) ⟨g2,h2,by simp;omega,by simp <;> omega⟩ (Nat.lt_succ_self _))
       ·(simp only [go_sem,hF,hP,gA,gB,aJ bW,List.map_append,List.map_cons,List.map_nil,encStr];try exact bH)
       ·(simp only [go_sem,hF,hP,gA,gB,aJ bW,List.map_append,List.map_cons,List.map_nil,encStr];try exact bH)
      ·simp only [b1,Bool.false_eq_true,if_false]at h2
       have fV:=kp (l:=out) (nx:=a.x.names) rfl (by omega) (g:= .shared)
       repeat' (first
 | simp only [go_sem,hF,hP,gA,gB,b1,fV]
 | (with_reducible refine CU (wo _) ?_)
 | (with_reducible refine aC hQ ?_;simp only [ay,az,Option.some.injEq,exists_eq_left',go_sem,hF,hP,gA,gB];repeat' (first | exact Ok.out | with_reducible refine aH ?_ ?_ | (simp;done))))
       refine dH 1 1 ?_ ?_ (IH (rest,k+1,out++a.x.names,_) ⟨g2,h2,by simp;omega,by simp <;> omega⟩ (Nat.lt_succ_self _))
       ·(simp only [go_sem,hF,hP,gA,gB,aJ bW];try exact bH)
       ·(simp only [go_sem,hF,hP,gA,gB,aJ bW];try exact bH)
   ·have b3:(v.name == [])=true:=by simpa using b2
    repeat' (first
 | simp only [go_sem,hF,hP,gA,gB,b1,b2,b3,fV]
 | (with_reducible refine CU (hx _) ?_)
 | (with_reducible refine aC hQ ?_;simp only [ay,az,Option.some.injEq,exists_eq_left',go_sem,hF,hP,gA,gB];repeat' (first | exact Ok.out | with_reducible refine aH ?_ ?_ | (simp;done))))
    refine cO 1 1 (bh.ind (ι:=List Ar×Nat×List aD×Nat) (fun i=>v.args.drop i.2.1=i.1∧Ar.said i.2.2.1 i.1=R∧i.2.2.1.length+Ar.aR i.1≤2000000∧i.2.2.2=i.2.2.1.length) (fun i=>i.1.length)
     (fun i=> [(3, .slice (.tok 0) 1 (i.2.2.1.map encStr)),(1, .ptr 0 0),(25, .slice .shared 6 (v.args.map ej)),(26, .int .i64 (v.args.length:Int)),(27, .int .i64 (i.2.1:Int))]) (fun i=>⟨[aU v],[some i.2.2.2]⟩) ?_ (v.args,0,nx,_) ⟨rfl,hG,by simp at LV ⊢;omega,by simp⟩)
    rintro⟨rest,k,out,n'⟩ ⟨h1,h2,h3,h4⟩ IH
    dsimp only at h1 h2 h3 h4
    subst h4
    cases rest with
    | nil=>
     have hF:=drop_nil h1
     simp only [Ar.said]at h2
     subst h2
     repeat' (first
 | simp only [go_sem,hF,hP,gA,gB]
 | (with_reducible refine aC hQ ?_;simp only [ay,az,Option.some.injEq,exists_eq_left',go_sem,hF,hP,gA,gB];repeat' (first | exact Ok.out | with_reducible refine aH ?_ ?_ | (simp;done))))
    | cons a rest=>
     obtain⟨hP,g2,hF,g4⟩:=drop_cons h1
     have bW:k<4611686018427387904:=by omega
     simp only [Ar.said]at h2
     simp only [Ar.aR]at h3
     have wo:=fun s=>mY (x:=a.x) (by have:=Ar.bT (List.mem_of_getElem? hP);omega) (RK a (List.mem_of_getElem? hP)) s
     have hl:=kT a.x
     have gA:(out.length+1)*17≤bl:=by unfold bl;omega
     rcases Bool.eq_false_or_eq_true a.ref with b1 | b1
     ·simp only [b1,if_true]at h2
      have fV:=kp (l:=out++ [a.name]) (nx:=a.x.names) (n:=out.length+1) (by simp) (by simp;omega) (g:= .shared)
      simp only [List.map_append,List.map_cons,List.map_nil,encStr]at fV
      repeat' (first
 | simp only [go_sem,hF,hP,gA,gB,b1,fV]
 | (with_reducible refine CU (wo _) ?_)
 | (with_reducible refine aC hQ ?_;simp only [ay,az,Option.some.injEq,exists_eq_left',go_sem,hF,hP,gA,gB];repeat' (first | exact Ok.out | with_reducible refine aH ?_ ?_ | (simp;done))))
      refine dH 1 1 ?_ ?_ (IH (rest,k+1,out++ [a.name]++a.x.names,_) ⟨g2,h2,by simp;omega,by simp <;> omega⟩ (Nat.lt_succ_self _))
      ·(simp only [go_sem,hF,hP,gA,gB,aJ bW,List.map_append,List.map_cons,List.map_nil,encStr];try exact bH)
      ·(simp only [go_sem,hF,hP,gA,gB,aJ bW,List.map_append,List.map_cons,List.map_nil,encStr];try exact bH)
     ·simp only [b1,Bool.false_eq_true,if_false]at h2
      have fV:=kp (l:=out) (nx:=a.x.names) rfl (by omega) (g:= .shared)
      repeat' (first
 | simp only [go_sem,hF,hP,gA,gB,b1,fV]
 | (with_reducible refine CU (wo _) ?_)
 | (with_reducible refine aC hQ ?_;simp only [ay,az,Option.some.injEq,exists_eq_left',go_sem,hF,hP,gA,gB];repeat' (first | exact Ok.out | with_reducible refine aH ?_ ?_ | (simp;done))))
      refine dH 1 1 ?_ ?_ (IH (rest,k+1,out++a.x.names,_) ⟨g2,h2,by simp;omega,by simp <;> omega⟩ (Nat.lt_succ_self _))
      ·(simp only [go_sem,hF,hP,gA,gB,aJ bW];try exact bH)
      ·(simp only [go_sem,hF,hP,gA,gB,aJ bW];try exact bH)
end Go.Abs

/-! Tree1 -/

namespace Go.Abs
set_option maxRecDepth 8000
open Go.Proofs
theorem El {size bytes z:Nat} {g:Tag} {rows:List (List D)} {s:St} (h:rows.length*(bytes+1)≤bl) (hr:rows≠ []) :
 jA size bytes (.slice .full z []) (.slice g size rows) s=some (.slice (.tok s.aA.length) size rows,⟨s.aw,s.aA++ [some rows.length]⟩):=by
 cases rows with
 | nil=>exact absurd rfl hr
 | cons r l=>simp only [jA];simp at h ⊢;exact h
theorem wq {l:List aD} (hl:l.length<1073741824) (g:Tag) (s:St):aB Tryz.prog gX [.slice g 1 (l.map encStr)] s (.slice .shared 1 (l.map encStr)) s:=by
 refine ew.AS (.cons (Wk.shared _ _ _) .nil) (aB.pure ?_ (by simp [D.bp,D.ok,Tag.ok,eD]) (by simp [D.ok,Tag.ok,eD]) s)
 unfold S0
 refine aB.go vH rfl fun B Q hB hQ=> ?_
 have⟨hF,hP,gA,gB⟩:=bF
 cases l with
 | nil=>
  repeat' (first
 | simp only [go_sem,hF,hP,gA,gB]
 | (with_reducible refine aC hQ ?_;simp only [ay,az,Option.some.injEq,exists_eq_left',go_sem,hF,hP,gA,gB];repeat' (first | exact Ok.out | with_reducible refine aH ?_ ?_ | (simp;done))))
  refine Jf (fun _=> ?_) ?_
  ·repeat' (first
 | simp only [go_sem,hF,hP,gA,gB,jA,true_or,Nat.zero_le]
 | (with_reducible refine aC hQ ?_;simp only [ay,az,Option.some.injEq,exists_eq_left',go_sem,hF,hP,gA,gB];repeat' (first | exact Ok.out | with_reducible refine aH ?_ ?_ | (simp;done))))
  ·repeat' (first
 | simp only [go_sem,hF,hP,gA,gB,jA,true_or,Nat.zero_le]
 | (with_reducible refine aC hQ ?_;simp only [ay,az,Option.some.injEq,exists_eq_left',go_sem,hF,hP,gA,gB];repeat' (first | exact Ok.out | with_reducible refine aH ?_ ?_ | (simp;done))))
 | cons x l=>
  have e:((x::l).map encStr).length*(16+1)≤bl:=by simp only [List.length_map,bl];omega
  have e2:=fun s=>El (size:=1) (z:=1) (g:= .shared) (s:=s) e (by simp)
  simp only [List.map_cons,encStr]at e2
  repeat' (first
 | simp only [go_sem,hF,hP,gA,gB,e2]
 | (with_reducible refine aC hQ ?_;simp only [ay,az,Option.some.injEq,exists_eq_left',go_sem,hF,hP,gA,gB];repeat' (first | exact Ok.out | with_reducible refine aH ?_ ?_ | (simp;done))))
theorem Vj {l:List Pm} (hl:l.length<1073741824) (g:Tag) (s:St):aB Tryz.prog lg [.slice g 2 (l.map fS)] s (.slice .shared 2 (l.map fS)) s:=by
 refine ew.AS (.cons (Wk.shared _ _ _) .nil) (aB.pure ?_ (by simp [D.bp,D.ok,Tag.ok,OA]) (by simp [D.ok,Tag.ok,OA]) s)
 unfold S0
 refine aB.go tG rfl fun B Q hB hQ=> ?_
 have⟨hF,hP,gA,gB⟩:=bF
 cases l with
 | nil=>
  repeat' (first
 | simp only [go_sem,hF,hP,gA,gB]
 | (with_reducible refine aC hQ ?_;simp only [ay,az,Option.some.injEq,exists_eq_left',go_sem,hF,hP,gA,gB];repeat' (first | exact Ok.out | with_reducible refine aH ?_ ?_ | (simp;done))))
  refine Jf (fun _=> ?_) ?_
  ·repeat' (first
 | simp only [go_sem,hF,hP,gA,gB,jA,true_or,Nat.zero_le]
 | (with_reducible refine aC hQ ?_;simp only [ay,az,Option.some.injEq,exists_eq_left',go_sem,hF,hP,gA,gB];repeat' (first | exact Ok.out | with_reducible refine aH ?_ ?_ | (simp;done))))
  ·repeat' (first
 | simp only [go_sem,hF,hP,gA,gB,jA,true_or,Nat.zero_le]
 | (with_reducible refine aC hQ ?_;simp only [ay,az,Option.some.injEq,exists_eq_left',go_sem,hF,hP,gA,gB];repeat' (first | exact Ok.out | with_reducible refine aH ?_ ?_ | (simp;done))))
 | cons x l=>
  have e:((x::l).map fS).length*(24+1)≤bl:=by simp only [List.length_map,bl];omega
  have e2:=fun s=>El (size:=2) (z:=2) (g:= .shared) (s:=s) e (by simp)
  simp only [List.map_cons,encStr]at e2
  repeat' (first
 | simp only [go_sem,hF,hP,gA,gB,e2]
 | (with_reducible refine aC hQ ?_;simp only [ay,az,Option.some.injEq,exists_eq_left',go_sem,hF,hP,gA,gB];repeat' (first | exact Ok.out | with_reducible refine aH ?_ ?_ | (simp;done))))
theorem acZ : ∀ n,n<1073741824→∀ x:Ex,x.size≤n→aB Tryz.prog mc [.agg (bx x)] S0 (.agg (bx x)) S0:=by
 intro n
 induction n with
 | zero=>rintro _ ⟨op,m,name,kids⟩ h;simp only [Ex.size]at h;omega
 | succ n Rg=>
 rintro hn ⟨op,m,name,kids⟩ hx
 have hk : ∀ y∈kids,∀ s,aB Tryz.prog mc [.agg (bx y)] s (.agg (bx y)) s:=fun y hy s=>
  (Rg (by omega) y (by simp only [Ex.size]at hx;have:=Ex.bT hy;omega)).pure (by simp [D.bp,D.ok,gL]) (by simp [D.ok,gL]) s
 have hlen:kids.length<1073741824:=by simp only [Ex.size]at hx;have:=Ex.cM kids;omega
 unfold S0
 refine aB.go HD rfl fun B Q hB hQ=> ?_
 have⟨hF,hP,gA,gB⟩:=bF
 repeat' (first
 | simp only [go_sem,hF,hP,gA,gB]
 | (with_reducible refine aC hQ ?_;simp only [ay,az,Option.some.injEq,exists_eq_left',go_sem,hF,hP,gA,gB];repeat' (first | exact Ok.out | with_reducible refine aH ?_ ?_ | (simp;done))))
 refine bh.rY 0 3 4 rfl rfl ?_
 simp only [go_sem,hF,hP,gA,gB]
 refine cO 2 1 (bh.ind (ι:=List Ex×Nat×List Ex) (fun i=>kids.drop i.2.1=i.1∧i.2.1=i.2.2.length∧i.2.2++i.1=kids) (fun i=>i.1.length)
  (fun i=> [(1, .ptr 0 0),(2, .ptr 1 0),(9, .slice .shared 4 (kids.map bx)),(10, .int .i64 (kids.length:Int)),(11, .int .i64 (i.2.1:Int))])
  (fun i=>⟨[[.int .i64 op, .int .i64 m, .str name, .slice (.tok 0) 4 (i.2.2.map bx)],bx nu],[some i.2.1]⟩) ?_ (kids,0,[]) ⟨rfl,rfl,rfl⟩)
 rintro⟨rest,k,acc⟩ ⟨h1,h2,h3⟩ IH
 dsimp only at h1 h2 h3
 subst h2
 cases rest with
 | nil=>
  have hF:=drop_nil h1
  rw [List.append_nil]at h3
  subst h3
  repeat' (first
 | simp only [go_sem,hF,hP,gA,gB]
 | (with_reducible refine aC hQ ?_;simp only [ay,az,Option.some.injEq,exists_eq_left',go_sem,hF,hP,gA,gB];repeat' (first | exact Ok.out | with_reducible refine aH ?_ ?_ | (simp;done))))
 | cons y rest=>
  obtain⟨hP,g2,hF,g4⟩:=drop_cons h1
  have gA:acc.length<4611686018427387904:=by omega
  have dR:(acc.length+1)*57≤bl:=by simp only [bl];omega
  have hy:=hk y (List.mem_of_getElem? hP)
  repeat' (first
 | simp only [go_sem,hF,hP,gA,gB,dR]
 | (with_reducible refine CU (hy _) ?_)
 | (with_reducible refine aC hQ ?_;simp only [ay,az,Option.some.injEq,exists_eq_left',go_sem,hF,hP,gA,gB];repeat' (first | exact Ok.out | with_reducible refine aH ?_ ?_ | (simp;done))))
  refine cO 2 1 (IH (rest,acc.length+1,acc++ [y]) ⟨g2,by simp,by simp only [List.append_assoc,List.cons_append,List.nil_append];exact h3⟩ (Nat.lt_succ_self _))
theorem RL {x:Ex} (h:x.size<1073741824) (s:St):aB Tryz.prog mc [.agg (bx x)] s (.agg (bx x)) s:=
 (acZ x.size h x (Nat.le_refl _)).pure (by simp [D.bp,D.ok,gL]) (by simp [D.ok,gL]) s
end Go.Abs

/-! Tree2 -/

namespace Go.Abs
set_option maxRecDepth 8000
open Go.Proofs
abbrev XU (b:Bool) (N:Nat):Prop:=∀ l:List Sm,Sm.aR l<N→∀ n:Nat,n+Sm.aR l<1073741824→∀ s:St,
 aB Tryz.prog kn [.slice .shared 13 (l.map aU), .int .i64 (n:Int), .bool b] s (.tuple [.slice .shared 13 ((Sm.cE b n l).1.map aU), .int .i64 ((Sm.cE b n l).2:Int)]) s
theorem Vk {N:Nat} (ih:XU true N) (l:List Sm) (hl:Sm.aR l<N+1) (n:Nat) (hn:n+Sm.aR l<1073741824) :
 aB Tryz.prog kn [.slice .shared 13 (l.map aU), .int .i64 (n:Int), .bool true] S0 (.tuple [.slice .shared 13 ((Sm.cE true n l).1.map aU), .int .i64 ((Sm.cE true n l).2:Int)]) S0:=by
 unfold S0
 refine aB.go D0 rfl fun B Q hB hQ=> ?_
 have⟨hF,hP,gA,gB⟩:=bF
 repeat' (first
 | simp only [go_sem,hF,hP,gA,gB]
 | (with_reducible refine aC hQ ?_;simp only [ay,az,Option.some.injEq,exists_eq_left',go_sem,hF,hP,gA,gB];repeat' (first | exact Ok.out | with_reducible refine aH ?_ ?_ | (simp;done))))
 have hlen:l.length<1073741824:=by have:=Sm.cM l;omega
 refine bh.l6 8 13 rfl ?_
 simp only [go_sem,hF,hP,gA,gB]
 refine cO 0 1 (bh.ind (ι:=List Sm×Nat×List Sm×Nat) (fun i=>l.drop i.2.1=i.1∧i.2.1=i.2.2.1.length∧Sm.cE true n l=(i.2.2.1++(Sm.cE true i.2.2.2 i.1).1,(Sm.cE true i.2.2.2 i.1).2)∧i.2.2.2+Sm.aR i.1≤n+Sm.aR l) (fun i=>i.1.length)
  (fun i=> [(1, .int .i64 (i.2.2.2:Int)),(2, .bool true),(8, .slice (.tok 0) 13 (i.2.2.1.map aU)),(14, .slice .shared 13 (l.map aU)),(15, .int .i64 (l.length:Int)),(16, .int .i64 (i.2.1:Int))])
  (fun i=>⟨[],[some i.2.1]⟩) ?_ (l,0,[],n) ⟨rfl,rfl,rfl,Nat.le_refl _⟩)
 rintro⟨rest,k,acc,m⟩ ⟨h1,h2,h3,h4⟩ IH
 dsimp only at h1 h2 h3 h4
 subst h2
 cases rest with
 | nil=>
  have hF:=drop_nil h1
  simp only [Sm.cE,List.append_nil]at h3
  rw [h3]at hQ
  repeat' (first
 | simp only [go_sem,hF,hP,gA,gB]
 | (with_reducible refine aC hQ ?_;simp only [ay,az,Option.some.injEq,exists_eq_left',go_sem,hF,hP,gA,gB];repeat' (first | exact Ok.out | with_reducible refine aH ?_ ?_ | (simp;done))))
 | cons y rest=>
  obtain⟨hP,g2,hF,g4⟩:=drop_cons h1
  simp only [Sm.aR]at h4 hl
  have hm:m<4611686018427387904:=by omega
  have hk:acc.length<4611686018427387904:=by omega
  have dN:y.size≤N:=by have:=Sm.bT (List.mem_of_getElem? hP);omega
  obtain⟨id,kind,labels,name,proc,x,has,args,aQ,aM⟩:=y
  simp only [Sm.size]at dN h4
  have dR:(acc.length+1)*209≤bl:=by simp only [bl];omega
  have hx:=fun s=>RL (x:=x) (by omega) s
  simp only [gu]at hx
  have qw:=fun g s=>wq (l:=labels) (by omega) g s
  have qB:=Ar.cM args
  repeat' (first
 | simp only [go_sem,hF,hP,gA,gB,aJ hm]
 | (with_reducible refine CU (qw _ _) ?_)
 | (with_reducible refine CU (hx _) ?_)
 | (with_reducible refine aC hQ ?_;simp only [ay,az,Option.some.injEq,exists_eq_left',go_sem,hF,hP,gA,gB];repeat' (first | exact Ok.out | with_reducible refine aH ?_ ?_ | (simp;done))))
  refine bh.rY 1 10 6 rfl rfl ?_
  simp only [go_sem,hF,hP,gA,gB]
  refine cO 2 2 (bh.ind (ι:=List Ar×Nat×List Ar) (fun i=>args.drop i.2.1=i.1∧i.2.1=i.2.2.length∧i.2.2++i.1=args) (fun i=>i.1.length)
   (fun i=> [(1, .int .i64 ((m+1:Nat):Int)),(2, .bool true),(8, .slice (.tok 0) 13 (acc.map aU)),(10, .ptr 0 0),(11, .ptr 1 0),(14, .slice .shared 13 (l.map aU)),(15, .int .i64 (l.length:Int)),(16, .int .i64 (acc.length:Int)),
    (36, .slice .shared 6 (args.map ej)),(37, .int .i64 (args.length:Int)),(38, .int .i64 (i.2.1:Int))])
   (fun i=>⟨[aU ⟨id,kind,labels,name,proc,x,has,args,aQ,aM⟩,[.int .i64 ((m+1:Nat):Int), .int .i64 kind, .slice .shared 1 (labels.map encStr), .str name, .str proc, .int .i64 x.op, .int .i64 x.n, .str x.name, .slice .shared 4 (x.kids.map bx), .bool has, .slice (.tok 1) 6 (i.2.2.map ej), .slice .shared 13 (aQ.map aU), .slice .shared 13 (aM.map aU)]],[some acc.length,some i.2.1]⟩) ?_ (args,0,[]) ⟨rfl,rfl,rfl⟩)
  rintro⟨zg,ka,vu⟩ ⟨j1,j2,j3⟩ IHa
  dsimp only at j1 j2 j3
  subst j2
  cases zg with
  | nil=>
   have hF:=drop_nil j1
   rw [List.append_nil]at j3
   subst j3
   have b1:=Sm.n4 true (m+1) aQ
   have b2:=Sm.n4 true (Sm.cE true (m+1) aQ).2 aM
   have c1:=ih aQ (by omega) (m+1) (by omega)
   have c2:=ih aM (by omega) (Sm.cE true (m+1) aQ).2 (by omega)
   repeat' (first
 | simp only [go_sem,hF,hP,gA,gB,dR]
 | (with_reducible refine CU (c1 _) ?_)
 | (with_reducible refine CU (c2 _) ?_)
 | (with_reducible refine aC hQ ?_;simp only [ay,az,Option.some.injEq,exists_eq_left',go_sem,hF,hP,gA,gB];repeat' (first | exact Ok.out | with_reducible refine aH ?_ ?_ | (simp;done))))
   refine dH 0 1 ?_ ?_ (IH (rest,acc.length+1,acc++ [(Sm.num true m ⟨id,kind,labels,name,proc,x,has,vu,aQ,aM⟩).1],(Sm.num true m ⟨id,kind,labels,name,proc,x,has,vu,aQ,aM⟩).2) ⟨g2,by simp,by rw [h3];simp [Sm.cE],by simp only [Sm.num];omega⟩ (Nat.lt_succ_self _))
   ·(simp only [go_sem,hF,hP,gA,gB,aJ hk,Sm.num];try exact bH)
   ·(simp only [go_sem,hF,hP,gA,gB,aJ hk,Sm.num];try exact bH)
  | cons a zg=>
   obtain⟨hP,g2,hF,g4⟩:=drop_cons j1
   have ha:a.x.size<1073741824:=by have:=Ar.bT (List.mem_of_getElem? hP);omega
   have AH:vu.length<4611686018427387904:=by omega
   have Em:(vu.length+1)*81≤bl:=by simp only [bl];omega
   have RM:=fun s=>RL ha s
   simp only [gu]at RM
   obtain⟨Vl,O7,ax⟩:=a
   repeat' (first
 | simp only [go_sem,hF,hP,gA,gB,Em]
 | (with_reducible refine CU (RM _) ?_)
 | (with_reducible refine aC hQ ?_;simp only [ay,az,Option.some.injEq,exists_eq_left',go_sem,hF,hP,gA,gB];repeat' (first | exact Ok.out | with_reducible refine aH ?_ ?_ | (simp;done))))
   refine dH 2 2 ?_ ?_ (IHa (zg,vu.length+1,vu++ [⟨Vl,O7,ax⟩]) ⟨g2,by simp,by simp only [List.append_assoc,List.cons_append,List.nil_append];exact j3⟩ (Nat.lt_succ_self _))
   ·(simp only [go_sem,hF,hP,gA,gB,aJ AH];try exact bH)
   ·(simp only [go_sem,hF,hP,gA,gB,aJ AH];try exact bH)
theorem Zh : ∀ N,XU true N:=by
 intro N
 induction N with
 | zero=>intro l hl;exact absurd hl (Nat.not_lt_zero _)
 | succ N ih=>
  intro l hl n hn s
  exact(Vk ih l hl n hn).pure (by simp [D.bp,D.ok,Tag.ok,iH]) (by simp [D.bp,D.ok,Tag.ok,iH]) s
theorem agE {l:List Sm} {n:Nat} (h:n+Sm.aR l<1073741824) (s:St) :
 aB Tryz.prog kn [.slice .shared 13 (l.map aU), .int .i64 (n:Int), .bool true] s (.tuple [.slice .shared 13 ((Sm.cE true n l).1.map aU), .int .i64 ((Sm.cE true n l).2:Int)]) s:=
 Zh _ l (Nat.lt_succ_self _) n h s
theorem Vm {p:Pg} (hp:p.size<1073741824):aB Tryz.prog p9 [.agg (bA p)] S0 (.agg (bA p.number)) S0:=by
 obtain⟨globals,procs⟩:=p
 simp only [Pg.size]at hp
 have hlen:procs.length<1073741824:=by have:=Pc.cM procs;omega
 have JQ:=fun g s=>wq (l:=globals) (by omega) g s
 unfold S0
 refine aB.go DX rfl fun B Q hB hQ=> ?_
 have⟨hF,hP,gA,gB⟩:=bF
 repeat' (first
 | simp only [go_sem,hF,hP,gA,gB]
 | (with_reducible refine CU (JQ _ _) ?_)
 | (with_reducible first | refine bq fun hc=> ?_ | refine br fun hc=> ?_ | refine bt (fun hc=> ?_) fun hc=> ?_) <;> (try simp only [hc,bs, ↓reduceIte]at h) <;> try simp only [hc]
 | (with_reducible refine aC hQ ?_;simp only [ay,az,bu,bw,go_sem,hF,hP,gA,gB];repeat' (first | exact Ok.out | with_reducible refine aH ?_ ?_ | (simp;done))))
 refine bh.rY 2 1 5 rfl rfl ?_
 simp only [go_sem,hF,hP,gA,gB]
 refine cO 3 1 (bh.ind (ι:=List Pc×Nat×List Pc×Nat) (fun i=>procs.drop i.2.1=i.1∧i.2.1=i.2.2.1.length∧Pc.cE 0 procs=i.2.2.1++Pc.cE i.2.2.2 i.1∧i.2.2.2+Pc.aR i.1≤Pc.aR procs) (fun i=>i.1.length)
  (fun i=> [(2, .ptr 1 0),(3, .int .i64 (i.2.2.2:Int)),(4, .ptr 2 0),(13, .slice .shared 5 (procs.map bG)),(14, .int .i64 (procs.length:Int)),(15, .int .i64 (i.2.1:Int))])
  (fun i=>⟨[bA ⟨globals,procs⟩,bA DM,[.slice .shared 1 (globals.map encStr), .slice (.tok 0) 5 (i.2.2.1.map bG)]],[some i.2.1]⟩) ?_ (procs,0,[],0) ⟨rfl,rfl,rfl,by dsimp only;omega⟩)
 rintro⟨rest,k,acc,m⟩ ⟨h1,h2,h3,h4⟩ IH
 dsimp only at h1 h2 h3 h4
 subst h2
 cases rest with
 | nil=>
  have hF:=drop_nil h1
  simp only [Pc.cE,List.append_nil]at h3
  subst h3
  repeat' (first
 | simp only [go_sem,hF,hP,gA,gB,Pg.number]
 | (with_reducible first | refine bq fun hc=> ?_ | refine br fun hc=> ?_ | refine bt (fun hc=> ?_) fun hc=> ?_) <;> (try simp only [hc,bs, ↓reduceIte]at h) <;> try simp only [hc]
 | (with_reducible refine aC hQ ?_;simp only [ay,az,bu,bw,go_sem,hF,hP,gA,gB,Pg.number];repeat' (first | exact Ok.out | with_reducible refine aH ?_ ?_ | (simp;done))))
 | cons y rest=>
  obtain⟨hP,g2,hF,g4⟩:=drop_cons h1
  simp only [Pc.aR]at h4
  have dN:=Pc.bT (List.mem_of_getElem? hP)
  obtain⟨name,params,vars,body,fin⟩:=y
  simp only [Pc.size]at dN h4
  have hk:acc.length<4611686018427387904:=by omega
  have dR:(acc.length+1)*113≤bl:=by simp only [bl];omega
  have c1:=fun g s=>Vj (l:=params) (by omega) g s
  have c2:=fun g s=>wq (l:=vars) (by omega) g s
  have c3:=fun g s=>wq (l:=fin) (by omega) g s
  have c4:=fun s=>agE (l:=body) (n:=m) (by omega) s
  have b1:=Sm.n4 true m body
  repeat' (first
 | simp only [go_sem,hF,hP,gA,gB,dR]
 | (with_reducible refine CU (c1 _ _) ?_)
 | (with_reducible refine CU (c2 _ _) ?_)
 | (with_reducible refine CU (c3 _ _) ?_)
 | (with_reducible refine CU (c4 _) ?_)
 | (with_reducible refine aC hQ ?_;simp only [ay,az,bu,bw,go_sem,hF,hP,gA,gB];repeat' (first | exact Ok.out | with_reducible refine aH ?_ ?_ | (simp;done))))
  refine dH 3 1 ?_ ?_ (IH (rest,acc.length+1,acc++ [⟨name,params,vars,(Sm.cE true m body).1,fin⟩],(Sm.cE true m body).2) ⟨g2,by simp,by rw [h3];simp [Pc.cE],by dsimp only;omega⟩ (Nat.lt_succ_self _))
  ·(simp only [go_sem,hF,hP,gA,gB,aJ hk];try exact bH)
  ·(simp only [go_sem,hF,hP,gA,gB,aJ hk];try exact bH)
theorem Vn {p q:Pg} (h:p.Fs=some q) (s:St):aB Tryz.prog p9 [.agg (bA p)] s (.agg (bA q)) s:=by
 unfold Pg.Fs at h
 split at h
 ·cases h;exact(Vm ‹_›).pure (by simp [D.bp,D.ok,gv]) (by simp [D.ok,gv]) s
 ·cases h
end Go.Abs

/-! Sc1 -/

namespace Go.Abs
set_option maxRecDepth 8000
open Go.Proofs
def aqn (x:aD):List aD→Bool
 | []=>false
 | s::l=>if x==s then true else aqn x l
def pU (pre:List aD):List aD→Bool
 | []=>false
 | s::l=>if dX pre s then true else pU (pre++ [s]) l
def ek (l:List aD):Bool:=pU [] l
theorem RN {l:List aD} {k:Nat} {a:aD} (h:l[k]? = some a):l.take (k+1)=l.take k++ [a]:=by rw [List.take_add_one,h];rfl
theorem aqo {l:List aD} (hl:l.length<4611686018427387904) (x:aD) (g:Tag) (s:St):aB Tryz.prog AZ [.slice g 1 (l.map encStr), .str x] s (.bool (dX l x)) s:=by
 refine aB.LU (d':= .slice .shared 1 (l.map encStr)) ?_ (Wk.shared _ _ _)
 refine aB.pure ?_ (by simp [D.bp,D.ok,Tag.ok,eD]) rfl s
 rw [← GH]
 generalize h:zf x l=p
 unfold S0
 refine aB.go Ld rfl fun B Q hB hQ=> ?_
 have⟨hF,hP,gA,gB⟩:=bF
 repeat' (first
 | simp only [go_sem,hF,hP,gA,gB]
 | (with_reducible first | refine bq fun hc=> ?_ | refine br fun hc=> ?_ | refine bt (fun hc=> ?_) fun hc=> ?_) <;> (try simp only [hc,bs, ↓reduceIte]at h) <;> try simp only [hc]
 | (with_reducible refine aC hQ ?_;(try cases h);simp only [ay,az,bu,bw,go_sem,hF,hP,gA,gB];repeat' (first | exact Ok.out | with_reducible refine aH ?_ ?_ | (simp;done))))
 refine cO 0 0 (bh.ind (ι:=List aD×Nat) (fun i=>l.drop i.2=i.1∧zf x i.1=p) (fun i=>i.1.length)
  (fun i=> [(0, .slice .shared 1 (l.map encStr)),(1, .str x),(7, .int .i64 (l.length:Int)),(8, .int .i64 (i.2:Int))]) (fun i=>⟨[],[]⟩) ?_ (l,0) ⟨rfl,h⟩)
 rintro⟨rest,k⟩ ⟨h1,h⟩ IH
 dsimp only at h1 h
 cases rest with
 | nil=>
  have hF:=drop_nil h1
  simp only [zf]at h
  repeat' (first
 | simp only [go_sem,hF,hP,gA,gB]
 | (with_reducible first | refine bq fun hc=> ?_ | refine br fun hc=> ?_ | refine bt (fun hc=> ?_) fun hc=> ?_) <;> (try simp only [hc,bs, ↓reduceIte]at h) <;> try simp only [hc]
 | (with_reducible refine aC hQ ?_;(try cases h);simp only [ay,az,bu,bw,go_sem,hF,hP,gA,gB];repeat' (first | exact Ok.out | with_reducible refine aH ?_ ?_ | (simp;done))))
 | cons a rest=>
  obtain⟨hP,g2,hF,g4⟩:=drop_cons h1
  have bW:k<4611686018427387904:=by omega
  simp only [zf]at h
  repeat' (first
 | simp only [go_sem,hF,hP,gA,gB]
 | (with_reducible first | refine bq fun hc=> ?_ | refine br fun hc=> ?_ | refine bt (fun hc=> ?_) fun hc=> ?_) <;> (try simp only [hc,bs, ↓reduceIte]at h) <;> try simp only [hc]
 | (with_reducible refine aC hQ ?_;(try cases h);simp only [ay,az,bu,bw,go_sem,hF,hP,gA,gB];repeat' (first | exact Ok.out | with_reducible refine aH ?_ ?_ | (simp;done))))
  refine dH 0 0 ?_ ?_ (IH (rest,k+1) ⟨g2,h⟩ (Nat.lt_succ_self _))
  ·(simp only [go_sem,hF,hP,gA,gB,aJ bW];try exact bH)
  ·(simp only [go_sem,hF,hP,gA,gB,aJ bW];try exact bH)
theorem C7 {l:List aD} (hl:l.length<4611686018427387904) (g:Tag) (s:St):aB Tryz.prog nV [.slice g 1 (l.map encStr)] s (.bool (ek l)) s:=by
 refine aB.LU (d':= .slice .shared 1 (l.map encStr)) ?_ (Wk.shared _ _ _)
 refine aB.pure ?_ (by simp [D.bp,D.ok,Tag.ok,eD]) rfl s
 generalize h:ek l=p
 simp only [ek]at h
 unfold S0
 refine aB.go DV rfl fun B Q hB hQ=> ?_
 have⟨hF,hP,gA,gB⟩:=bF
 repeat' (first
 | simp only [go_sem,hF,hP,gA,gB]
 | (with_reducible first | refine bq fun hc=> ?_ | refine br fun hc=> ?_ | refine bt (fun hc=> ?_) fun hc=> ?_) <;> (try simp only [hc,bs, ↓reduceIte]at h) <;> try simp only [hc]
 | (with_reducible refine aC hQ ?_;(try cases h);simp only [ay,az,bu,bw,go_sem,hF,hP,gA,gB];repeat' (first | exact Ok.out | with_reducible refine aH ?_ ?_ | (simp;done))))
 refine cO 0 0 (bh.ind (ι:=List aD×Nat) (fun i=>l.drop i.2=i.1∧pU (l.take i.2) i.1=p) (fun i=>i.1.length)
  (fun i=> [(0, .slice .shared 1 (l.map encStr)),(5, .slice .shared 1 (l.map encStr)),(6, .int .i64 (l.length:Int)),(7, .int .i64 (i.2:Int))]) (fun i=>⟨[],[]⟩) ?_ (l,0) ⟨rfl,h⟩)
 rintro⟨rest,k⟩ ⟨h1,h⟩ IH
 dsimp only at h1 h
 cases rest with
 | nil=>
  have hF:=drop_nil h1
  simp only [pU]at h
  repeat' (first
 | simp only [go_sem,hF,hP,gA,gB]
 | (with_reducible first | refine bq fun hc=> ?_ | refine br fun hc=> ?_ | refine bt (fun hc=> ?_) fun hc=> ?_) <;> (try simp only [hc,bs, ↓reduceIte]at h) <;> try simp only [hc]
 | (with_reducible refine aC hQ ?_;(try cases h);simp only [ay,az,bu,bw,go_sem,hF,hP,gA,gB];repeat' (first | exact Ok.out | with_reducible refine aH ?_ ?_ | (simp;done))))
 | cons a rest=>
  obtain⟨hP,g2,hF,g4⟩:=drop_cons h1
  have bW:k<4611686018427387904:=by omega
  simp only [pU]at h
  have hc:=jk (l:=l.take k) (by rw [List.length_take];omega) a
  have e1:List.drop 0 (List.take k (l.map encStr))=(l.take k).map encStr:=by simp [List.map_take]
  have c1:((0:Int)≤(k:Int))=True:=by simp
  have c2:((k:Int)≤(l.length:Int))=True:=by simp only [eq_iff_iff,iff_true];omega
  have e2:List.take k (l.map encStr)=(l.take k).map encStr:=by simp [List.map_take]
  repeat' (first
 | simp only [go_sem,hF,hP,gA,gB,e1,e2,c1,c2,or_true,true_and,and_self,ite_self,Int.toNat_natCast,List.drop_zero]
 | (with_reducible refine CU (hc _ _) ?_)
 | (with_reducible first | refine bq fun hc=> ?_ | refine br fun hc=> ?_ | refine bt (fun hc=> ?_) fun hc=> ?_) <;> (try simp only [hc,bs, ↓reduceIte]at h) <;> try simp only [hc]
 | (with_reducible refine aC hQ ?_;(try cases h);simp only [ay,az,bu,bw,go_sem,hF,hP,gA,gB,e1,e2,c1,c2,or_true,true_and,and_self,ite_self,Int.toNat_natCast,List.drop_zero];repeat' (first | exact Ok.out | with_reducible refine aH ?_ ?_ | (simp;done))))
  refine dH 0 0 ?_ ?_ (IH (rest,k+1) ⟨g2,by dsimp only;rw [RN (by assumption)];exact h⟩ (Nat.lt_succ_self _))
  ·(simp only [go_sem,hF,hP,gA,gB,aJ bW];try exact bH)
  ·(simp only [go_sem,hF,hP,gA,gB,aJ bW];try exact bH)
end Go.Abs

/-! Sc2 -/

namespace Go.Abs
set_option maxRecDepth 8000
open Go.Proofs
def En (vars globals:List aD) (name:aD):List Pm→Int
 | []=>if dX vars name then 4 else if dX globals name then 1 else 0
 | a::l=>if a.name==name then(if a.ref then 3 else 2)else En vars globals name l
def Pc.ku (p:Pg) (f:Pc) (name:aD):Int:=En f.vars p.globals name f.params
theorem JR {p:Pg} {f:Pc} (hp:f.params.length<1000000000) (hv:f.vars.length<1000000000) (hg:p.globals.length<1000000000) (name:aD) (s:St):aB Tryz.prog va [.agg (bA p), .agg (bG f), .str name] s (.int .i64 (f.ku p name)) s:=by
 refine aB.pure ?_ (by simp [D.bp,D.ok,gv,uY]) rfl s
 have rL:=jk (l:=f.vars) (by omega) name
 have xO:=jk (l:=p.globals) (by omega) name
 generalize h:f.ku p name=q
 simp only [Pc.ku]at h
 unfold S0
 refine aB.go FJ rfl fun B Q hB hQ=> ?_
 have⟨hF,hP,gA,gB⟩:=bF
 repeat' (first
 | simp only [go_sem,hF,hP,gA,gB]
 | (with_reducible refine aC hQ ?_;simp only [ay,az,Option.some.injEq,exists_eq_left',go_sem,hF,hP,gA,gB];repeat' (first | exact Ok.out | with_reducible refine aH ?_ ?_ | (simp;done))))
 refine cO 2 0 (bh.ind (ι:=List Pm×Nat) (fun i=>f.params.drop i.2=i.1∧En f.vars p.globals name i.1=q) (fun i=>i.1.length)
  (fun i=> [(2, .str name),(3, .ptr 0 0),(4, .ptr 1 0),(10, .slice .shared 2 (f.params.map fS)),(11, .int .i64 (f.params.length:Int)),(12, .int .i64 (i.2:Int))]) (fun i=>⟨[bA p,bG f],[]⟩) ?_ (f.params,0) ⟨rfl,h⟩)
 rintro⟨rest,k⟩ ⟨h1,h⟩ IH
 dsimp only at h1 h
 cases rest with
 | nil=>
  have hF:=drop_nil h1
  simp only [En]at h
  rcases Bool.eq_false_or_eq_true (dX f.vars name)with b1 | b1
  ·simp only [b1,if_true]at h
   subst h
   repeat' (first
 | simp only [go_sem,hF,hP,gA,gB,b1]
 | (with_reducible refine CU (rL _ _) ?_)
 | (with_reducible refine CU (xO _ _) ?_)
 | (with_reducible refine aC hQ ?_;simp only [ay,az,Option.some.injEq,exists_eq_left',go_sem,hF,hP,gA,gB];repeat' (first | exact Ok.out | with_reducible refine aH ?_ ?_ | (simp;done))))
  ·simp only [b1,Bool.false_eq_true,if_false]at h
   rcases Bool.eq_false_or_eq_true (dX p.globals name)with b2 | b2
   ·simp only [b2,if_true]at h
    subst h
    repeat' (first
 | simp only [go_sem,hF,hP,gA,gB,b1,b2]
 | (with_reducible refine CU (rL _ _) ?_)
 | (with_reducible refine CU (xO _ _) ?_)
 | (with_reducible refine aC hQ ?_;simp only [ay,az,Option.some.injEq,exists_eq_left',go_sem,hF,hP,gA,gB];repeat' (first | exact Ok.out | with_reducible refine aH ?_ ?_ | (simp;done))))
   ·simp only [b2,Bool.false_eq_true,if_false]at h
    subst h
    repeat' (first
 | simp only [go_sem,hF,hP,gA,gB,b1,b2]
 | (with_reducible refine CU (rL _ _) ?_)
 | (with_reducible refine CU (xO _ _) ?_)
 | (with_reducible refine aC hQ ?_;simp only [ay,az,Option.some.injEq,exists_eq_left',go_sem,hF,hP,gA,gB];repeat' (first | exact Ok.out | with_reducible refine aH ?_ ?_ | (simp;done))))
 | cons a rest=>
  obtain⟨hP,g2,hF,g4⟩:=drop_cons h1
  have bW:k<4611686018427387904:=by omega
  simp only [En]at h
  rcases Bool.eq_false_or_eq_true (a.name==name)with b1 | b1
  ·simp only [b1,if_true]at h
   rcases Bool.eq_false_or_eq_true a.ref with b2 | b2
   ·simp only [b2,if_true]at h
    subst h
    repeat' (first
 | simp only [go_sem,hF,hP,gA,gB,b1,b2]
 | (with_reducible refine aC hQ ?_;simp only [ay,az,Option.some.injEq,exists_eq_left',go_sem,hF,hP,gA,gB];repeat' (first | exact Ok.out | with_reducible refine aH ?_ ?_ | (simp;done))))
   ·simp only [b2,Bool.false_eq_true,if_false]at h
    subst h
    repeat' (first
 | simp only [go_sem,hF,hP,gA,gB,b1,b2]
 | (with_reducible refine aC hQ ?_;simp only [ay,az,Option.some.injEq,exists_eq_left',go_sem,hF,hP,gA,gB];repeat' (first | exact Ok.out | with_reducible refine aH ?_ ?_ | (simp;done))))
  ·simp only [b1,Bool.false_eq_true,if_false]at h
   repeat' (first
 | simp only [go_sem,hF,hP,gA,gB,b1]
 | (with_reducible refine aC hQ ?_;simp only [ay,az,Option.some.injEq,exists_eq_left',go_sem,hF,hP,gA,gB];repeat' (first | exact Ok.out | with_reducible refine aH ?_ ?_ | (simp;done))))
   refine dH 2 0 ?_ ?_ (IH (rest,k+1) ⟨g2,h⟩ (Nat.lt_succ_self _))
   ·(simp only [go_sem,hF,hP,gA,gB,aJ bW];try exact bH)
   ·(simp only [go_sem,hF,hP,gA,gB,aJ bW];try exact bH)
def jl (name:aD):List Pc→Option Pc
 | []=>none
 | f::l=>if f.name==name then some f else jl name l
def Pg.find (p:Pg) (name:aD):Option Pc:=jl name p.procs
def pc0:Pc:=⟨[],[],[],[],[]⟩
def aq1 (r:Option Pc):D:= .tuple [.agg (bG (r.getD pc0)), .bool r.isSome]
end Go.Abs

/-! Sc3 -/

namespace Go.Abs
set_option maxRecDepth 8000
open Go.Proofs
def Pc.Bi (f:Pc):List aD:=f.params.map (·.name)
def Pc.own (f:Pc):List aD:=f.Bi++f.vars
theorem agF {f:Pc} (hp:f.params.length<1000000) (hv:f.vars.length<1000000) (s:St):aB Tryz.prog wY [.agg (bG f)] s (.slice .shared 1 (f.own.map encStr)) s:=by
 refine aB.pure ?_ (by simp [D.bp,D.ok,uY]) (by simp only [D.ok,Tag.ok,eD];rfl) s
 generalize hR:f.own=R
 simp only [Pc.own]at hR
 unfold S0
 refine aB.go Hx rfl fun B Q hB hQ=> ?_
 have⟨hF,hP,gA,gB⟩:=bF
 repeat' (first
 | simp only [go_sem,hF,hP,gA,gB]
 | (with_reducible refine aC hQ ?_;simp only [ay,az,Option.some.injEq,exists_eq_left',go_sem,hF,hP,gA,gB];repeat' (first | exact Ok.out | with_reducible refine aH ?_ ?_ | (simp;done))))
 refine bh.l6 3 1 rfl ?_
 simp only [go_sem,hF,hP,gA,gB]
 refine cO 1 1 (bh.ind (ι:=List Pm×Nat×List aD×Nat) (fun i=>f.params.drop i.2.1=i.1∧i.2.2.1++i.1.map (·.name)=f.Bi∧i.2.2.2=i.2.2.1.length) (fun i=>i.1.length)
  (fun i=> [(1, .ptr 0 0),(3, .slice (.tok 0) 1 (i.2.2.1.map encStr)),(7, .slice .shared 2 (f.params.map fS)),(8, .int .i64 (f.params.length:Int)),(9, .int .i64 (i.2.1:Int))]) (fun i=>⟨[bG f],[some i.2.2.2]⟩) ?_ (f.params,0,[],0) ⟨rfl,rfl,rfl⟩)
 rintro⟨rest,k,out,n⟩ ⟨h1,h2,h3⟩ IH
 dsimp only at h1 h2 h3
 subst h3
 have hlo:out.length+rest.length<1000000:=by
  have:=congrArg List.length h2
  simp only [List.length_append,List.length_map,Pc.Bi]at this
  omega
 cases rest with
 | nil=>
  have hF:=drop_nil h1
  simp only [List.map_nil,List.append_nil]at h2
  subst hR
  rw [← h2]at hQ
  have fV:=kp (l:=out) (nx:=f.vars) rfl (by omega) (g:= .shared)
  repeat' (first
 | simp only [go_sem,hF,hP,gA,gB,fV]
 | (with_reducible refine aC hQ ?_;simp only [ay,az,Option.some.injEq,exists_eq_left',go_sem,hF,hP,gA,gB];repeat' (first | exact Ok.out | with_reducible refine aH ?_ ?_ | (simp;done))))
 | cons a rest=>
  obtain⟨hP,g2,hF,g4⟩:=drop_cons h1
  have bW:k<4611686018427387904:=by omega
  have gA:(out.length+1)*17≤bl:=by unfold bl;omega
  repeat' (first
 | simp only [go_sem,hF,hP,gA,gB]
 | (with_reducible refine aC hQ ?_;simp only [ay,az,Option.some.injEq,exists_eq_left',go_sem,hF,hP,gA,gB];repeat' (first | exact Ok.out | with_reducible refine aH ?_ ?_ | (simp;done))))
  refine dH 1 1 ?_ ?_ (IH (rest,k+1,out++ [a.name],out.length+1) ⟨g2,by rw [← h2];simp,by simp⟩ (Nat.lt_succ_self _))
  ·(simp only [go_sem,hF,hP,gA,gB,aJ bW,List.map_append,List.map_cons,List.map_nil,encStr];try exact bH)
  ·(simp only [go_sem,hF,hP,gA,gB,aJ bW,List.map_append,List.map_cons,List.map_nil,encStr];try exact bH)
def qa:aD:= [109,97,105,110]
def Sm.known (p:Pg) (f:Pc) (procs:List aD) (v:Sm):Bool:=
 !(v.said.any fun n=>f.ku p n==0) && (v.kind != 4 || (v.proc != qa && dX procs v.proc))
structure Pc.Small (p:Pg) (f:Pc):Prop where
 par:f.params.length<1000000
 vars:f.vars.length<1000000
 yY:p.globals.length<1000000
def BP (p:Pg) (f:Pc):List aD→Bool
 | []=>true
 | n::l=>if f.ku p n==0 then false else BP p f l
theorem GM (p:Pg) (f:Pc) : ∀ l,BP p f l = !(l.any fun n=>f.ku p n==0)
 | []=>rfl
 | n::l=>by
  simp only [BP,List.any_cons,GM p f l]
  cases (f.ku p n==0) <;> simp
theorem JS (v:Sm) (h:v.pT):v.said.length<3000000:=by
 have : ∀ (l:List Ar) (out:List aD),(Ar.said out l).length≤out.length+2*Ar.aR l:=by
  intro l
  induction l with
  | nil=>intro out;simp [Ar.said]
  | cons a l ih=>
   intro out
   simp only [Ar.said,Ar.aR]
   refine Nat.le_trans (ih _) ?_
   have:=kT a.x
   have:1≤a.x.size:=by obtain⟨_,_,_,_⟩:=a.x;simp [Ex.size]
   simp only [List.length_append]
   split <;> simp <;> omega
 have h1:=this v.args (v.uA++v.x.names)
 have h2:=kT v.x
 have h3:=h.2.2
 have h4:v.uA.length≤1:=by unfold Sm.uA;split <;> simp
 simp only [List.length_append]at h1
 unfold Sm.said
 omega
theorem Zi {p:Pg} {f:Pc} {procs:List aD} {v:Sm} (hs:f.Small p) (Ct:procs.length<1000000) (hv:v.pT) (s:St):aB Tryz.prog p8 [.agg (bA p), .agg (bG f), .slice .shared 1 (procs.map encStr), .agg (aU v)] s (.bool (v.known p f procs)) s:=by
 refine aB.pure ?_ (by simp [D.bp,D.ok,gv,uY,km,Tag.ok,eD]) rfl s
 have hn:=fun s=>Bh hv s
 have hk:=fun n s=>JR (p:=p) (f:=f) (by have:=hs.par;omega) (by have:=hs.vars;omega) (by have:=hs.yY;omega) n s
 have ac1:=jk (l:=procs) (by omega) v.proc
 have hl:=JS v hv
 generalize h:v.known p f procs=q
 simp only [Sm.known, ← GM]at h
 unfold S0
 refine aB.go DW rfl fun B Q hB hQ=> ?_
 have⟨hF,hP,gA,gB⟩:=bF
 repeat' (first
 | simp only [go_sem,hF,hP,gA,gB]
 | (with_reducible refine CU (hn _) ?_)
 | (with_reducible refine aC hQ ?_;simp only [ay,az,Option.some.injEq,exists_eq_left',go_sem,hF,hP,gA,gB];repeat' (first | exact Ok.out | with_reducible refine aH ?_ ?_ | (simp;done))))
 refine cO 3 0 (bh.ind (ι:=List aD×Nat) (fun i=>v.said.drop i.2=i.1∧(BP p f i.1 && (v.kind != 4 || (v.proc != qa && dX procs v.proc)))=q) (fun i=>i.1.length)
  (fun i=> [(2, .slice .shared 1 (procs.map encStr)),(4, .ptr 0 0),(5, .ptr 1 0),(7, .ptr 2 0),(12, .slice .shared 1 (v.said.map encStr)),(13, .int .i64 (v.said.length:Int)),(14, .int .i64 (i.2:Int))]) (fun i=>⟨[bA p,bG f,aU v],[]⟩) ?_ (v.said,0) ⟨rfl,h⟩)
 rintro⟨rest,k⟩ ⟨h1,h⟩ IH
 dsimp only at h1 h
 cases rest with
 | nil=>
  have hF:=drop_nil h1
  simp only [BP,Bool.true_and]at h
  rcases Bool.eq_false_or_eq_true (v.kind != 4)with b1 | b1
  ·simp only [b1,Bool.true_or]at h
   subst h
   repeat' (first
 | simp only [go_sem,hF,hP,gA,gB,b1]
 | (with_reducible refine aC hQ ?_;simp only [ay,az,Option.some.injEq,exists_eq_left',go_sem,hF,hP,gA,gB];repeat' (first | exact Ok.out | with_reducible refine aH ?_ ?_ | (simp;done))))
  ·simp only [b1,Bool.false_or]at h
   rcases Bool.eq_false_or_eq_true (v.proc != qa)with b2 | b2
   ·simp only [b2,Bool.true_and]at h
    unfold qa at b2
    have b3:(v.proc == [109,97,105,110]) = !(v.proc != [109,97,105,110]):=by simp only [bne,Bool.not_not]
    rw [b2]at b3
    simp only [Bool.not_true,Bool.not_false]at b3
    subst h
    repeat' (first
 | simp only [go_sem,hF,hP,gA,gB,b1,b2,b3]
 | (with_reducible refine CU (ac1 _ _) ?_)
 | (with_reducible refine aC hQ ?_;simp only [ay,az,Option.some.injEq,exists_eq_left',go_sem,hF,hP,gA,gB];repeat' (first | exact Ok.out | with_reducible refine aH ?_ ?_ | (simp;done))))
   ·simp only [b2,Bool.false_and]at h
    unfold qa at b2
    have b3:(v.proc == [109,97,105,110]) = !(v.proc != [109,97,105,110]):=by simp only [bne,Bool.not_not]
    rw [b2]at b3
    simp only [Bool.not_true,Bool.not_false]at b3
    subst h
    repeat' (first
 | simp only [go_sem,hF,hP,gA,gB,b1,b2,b3]
 | (with_reducible refine CU (ac1 _ _) ?_)
 | (with_reducible refine aC hQ ?_;simp only [ay,az,Option.some.injEq,exists_eq_left',go_sem,hF,hP,gA,gB];repeat' (first | exact Ok.out | with_reducible refine aH ?_ ?_ | (simp;done))))
 | cons a rest=>
  obtain⟨hP,g2,hF,g4⟩:=drop_cons h1
  have bW:k<4611686018427387904:=by omega
  simp only [BP]at h
  rcases Bool.eq_false_or_eq_true (f.ku p a==0)with b1 | b1
  ·simp only [b1,if_true,Bool.false_and]at h
   subst h
   repeat' (first
 | simp only [go_sem,hF,hP,gA,gB,b1]
 | (with_reducible refine CU (hk _ _) ?_)
 | (with_reducible refine aC hQ ?_;simp only [ay,az,Option.some.injEq,exists_eq_left',go_sem,hF,hP,gA,gB];repeat' (first | exact Ok.out | with_reducible refine aH ?_ ?_ | (simp;done))))
  ·simp only [b1,Bool.false_eq_true,if_false]at h
   repeat' (first
 | simp only [go_sem,hF,hP,gA,gB,b1]
 | (with_reducible refine CU (hk _ _) ?_)
 | (with_reducible refine aC hQ ?_;simp only [ay,az,Option.some.injEq,exists_eq_left',go_sem,hF,hP,gA,gB];repeat' (first | exact Ok.out | with_reducible refine aH ?_ ?_ | (simp;done))))
   refine dH 3 0 ?_ ?_ (IH (rest,k+1) ⟨g2,h⟩ (Nat.lt_succ_self _))
   ·(simp only [go_sem,hF,hP,gA,gB,aJ bW];try exact bH)
   ·(simp only [go_sem,hF,hP,gA,gB,aJ bW];try exact bH)
end Go.Abs

/-! ScP -/

namespace Go.Abs
theorem LW : ∀ (l pre:List aD),pU pre l=true↔(∃ x∈l,x∈pre)∨¬ l.Nodup
 | [],pre=>by simp [pU]
 | s::l,pre=>by
  simp only [pU]
  by_cases h:dX pre s=true
  ·simp only [h,if_true,true_iff]
   exact .inl ⟨s,List.mem_cons_self,(fF _ _).1 h⟩
  ·have h':s∉pre:=fun m=>h ((fF _ _).2 m)
   simp only [h,if_false,Bool.false_eq_true]
   rw [LW l (pre++ [s])]
   simp only [List.mem_append,List.mem_singleton,List.mem_cons,List.nodup_cons,exists_eq_or_imp]
   constructor
   ·rintro(⟨x,m,h1 | h1⟩ | h1)
    ·exact .inl (.inr ⟨x,m,h1⟩)
    ·have h1:x=s:=by simpa using h1
     subst h1;exact .inr fun h=>h.1 m
    ·exact .inr fun h=>h1 h.2
   ·rintro((h1 | ⟨x,m,h1⟩) | h1)
    ·exact absurd h1 h'
    ·exact .inl ⟨x,m, .inl h1⟩
    ·by_cases m:s∈l
     ·exact .inl ⟨s,m, .inr (.inl rfl)⟩
     ·exact .inr fun h=>h1 ⟨m,h⟩
theorem qH (l:List aD):ek l=true↔¬ l.Nodup:=by
 unfold ek;rw [LW];simp
theorem RO (a b:List aD):ek (a++b)=(ek a || (ek b || b.any (dX a))):=by
 have h:ek (a++b)=true↔(ek a || (ek b || b.any (dX a)))=true:=by
  rw [qH,List.nodup_append]
  simp only [Bool.or_eq_true,qH,List.any_eq_true,fF]
  constructor
  ·intro h
   by_cases ha:a.Nodup
   ·by_cases hb:b.Nodup
    ·refine .inr (.inr (Classical.byContradiction fun hn=>h ⟨ha,hb,fun x hx y hy e=>hn ⟨y,hy,e ▸ hx⟩⟩))
    ·exact .inr (.inl hb)
   ·exact .inl ha
  ·rintro(h | h | ⟨x,h1,h2⟩) ⟨h3,h4,h5⟩
   ·exact h h3
   ·exact h h4
   ·exact h5 x h2 x h1 rfl
 cases h1:ek (a++b) <;> cases h2:(ek a || (ek b || b.any (dX a))) <;> simp_all
theorem JT (name:aD) : ∀ (l:List Pc) (k:Nat),(jl name l=none∧oc name (k:Int) (l.map (·.name)) = -1)∨∃ f j,jl name l=some f∧l[j]? = some f∧oc name (k:Int) (l.map (·.name))=((k+j:Nat):Int)
 | [],k=> .inl ⟨rfl,rfl⟩
 | f::l,k=>by
  by_cases h:f.name=name
  ·subst h
   refine .inr ⟨f,0,by simp [jl],rfl,by simp [oc]⟩
  ·have h1:(f.name==name)=false:=by simp [h]
   have h2:(name==f.name)=false:=by simp [Ne.symm h]
   simp only [jl,h1,Bool.false_eq_true,if_false,List.map_cons,oc,h2]
   rcases JT name l (k+1)with ⟨g1,g2⟩ | ⟨g,j,g1,g2,g3⟩
   ·exact .inl ⟨g1,by rw [← g2];rfl⟩
   ·refine .inr ⟨g,j+1,g1,by simpa using g2, ?_⟩
    rw [show((k:Int)+1)=((k+1:Nat):Int)from rfl,g3]
    congr 1;omega
theorem qs {name:aD} {f:Pc} : ∀ {l:List Pc},jl name l=some f→f∈l∧f.name=name
 | g::l,h=>by
  simp only [jl]at h
  split at h
  ·rename_i e;cases h;exact⟨List.mem_cons_self,by simpa using e⟩
  ·have:=qs h;exact⟨List.mem_cons_of_mem _ this.1,this.2⟩
mutual
theorem RP (deep bO:Int) (aM:Bool) (out:List It) : ∀ s:Sm,∃ e,fT deep bO aM out s=out++e
 | ⟨id,kind,labels,name,proc,x,has,args,aQ,e⟩=>by
  simp only [fT]
  split
  ·obtain⟨e1,h1⟩:=oW (deep+1) id false (out++ [⟨⟨id,kind,labels,name,proc,x,has,args,aQ,e⟩,deep,bO,aM⟩]) aQ
   obtain⟨e2,h2⟩:=oW (deep+1) id true (dw (deep+1) id false (out++ [⟨⟨id,kind,labels,name,proc,x,has,args,aQ,e⟩,deep,bO,aM⟩]) aQ) e
   rw [h2,h1]
   exact⟨_,by rw [List.append_assoc,List.append_assoc]⟩
  ·exact⟨_,rfl⟩
theorem oW (deep bO:Int) (aM:Bool) (out:List It) : ∀ l:List Sm,∃ e,dw deep bO aM out l=out++e
 | []=>⟨[],by simp [dw]⟩
 | s::l=>by
  simp only [dw]
  split
  ·obtain⟨e1,h1⟩:=RP deep bO aM out s
   obtain⟨e2,h2⟩:=oW deep bO aM (fT deep bO aM out s) l
   rw [h2,h1]
   exact⟨_,by rw [List.append_assoc]⟩
  ·exact⟨[],by simp⟩
end
mutual
theorem RQ (deep bO:Int) (aM:Bool) (out:List It) : ∀ s:Sm,(fT deep bO aM out s).length≤200→(∀ i∈fT deep bO aM out s,i.deep≤12)→(fT deep bO aM out s).map It.s=out.map It.s++s.pre
 | ⟨id,kind,labels,name,proc,x,has,args,aQ,e⟩,h1,h2=>by
  simp only [fT,Sm.pre]at h1 h2 ⊢
  by_cases hd:deep≤12
  ·simp only [hd,decide_true,if_true]at h1 h2 ⊢
   obtain⟨e2,g2⟩:=oW (deep+1) id true (dw (deep+1) id false (out++ [⟨⟨id,kind,labels,name,proc,x,has,args,aQ,e⟩,deep,bO,aM⟩]) aQ) e
   have k1:(dw (deep+1) id false (out++ [⟨⟨id,kind,labels,name,proc,x,has,args,aQ,e⟩,deep,bO,aM⟩]) aQ).length≤200:=by
    rw [g2,List.length_append]at h1;omega
   have k2 : ∀ i∈dw (deep+1) id false (out++ [⟨⟨id,kind,labels,name,proc,x,has,args,aQ,e⟩,deep,bO,aM⟩]) aQ,i.deep≤12:=fun i m=>h2 i (by rw [g2];exact List.mem_append_left _ m)
   rw [wu (deep+1) id true _ e h1 h2,wu (deep+1) id false _ aQ k1 k2]
   simp
  ·simp only [hd,decide_false,Bool.false_eq_true,if_false]at h1 h2
   exact absurd (h2 _ (List.mem_append_right _ (List.mem_singleton.2 rfl))) (by simpa using hd)
theorem wu (deep bO:Int) (aM:Bool) (out:List It) : ∀ l:List Sm,(dw deep bO aM out l).length≤200→(∀ i∈dw deep bO aM out l,i.deep≤12)→(dw deep bO aM out l).map It.s=out.map It.s++Sm.cD l
 | [],h1,h2=>by simp [dw,Sm.cD]
 | s::l,h1,h2=>by
  simp only [dw,Sm.cD]at h1 h2 ⊢
  by_cases hc:(out.length:Int)≤200
  ·simp only [hc,decide_true,if_true]at h1 h2 ⊢
   obtain⟨e2,g2⟩:=oW deep bO aM (fT deep bO aM out s) l
   have k1:(fT deep bO aM out s).length≤200:=by rw [g2,List.length_append]at h1;omega
   have k2 : ∀ i∈fT deep bO aM out s,i.deep≤12:=fun i m=>h2 i (by rw [g2];exact List.mem_append_left _ m)
   rw [wu deep bO aM _ l h1 h2,RQ deep bO aM out s k1 k2]
   simp
  ·simp only [hc,decide_false,Bool.false_eq_true,if_false]at h1
   omega
end
theorem JU : ∀ (l:List Pc) (out:List It),(allM out l).length≤200→(∀ i∈allM out l,i.deep≤12)→(∀ f∈l,f.flat.map It.s=Sm.cD f.body)∧(allM out l).map It.s=out.map It.s++(l.map fun f=>Sm.cD f.body).flatten
 | [],out,h1,h2=>⟨fun f m=>(by cases m),by simp [allM]⟩
 | f::l,out,h1,h2=>by
  simp only [allM]at h1 h2 ⊢
  by_cases hc:(((out++f.flat).length:Nat):Int) > 200
  ·simp only [hc,decide_true,if_true]at h1;omega
  ·simp only [hc,decide_false,Bool.false_eq_true,if_false]at h1 h2 ⊢
   obtain⟨k1,k2⟩:=JU l (out++f.flat) h1 h2
   have xi : ∀ (l:List Pc) (out:List It),∃ e,allM out l=out++e:=by
    intro l
    induction l with
    | nil=>intro out;exact⟨[],by simp [allM]⟩
    | cons g l ih=>
     intro out
     simp only [allM]
     split
     ·exact⟨_,rfl⟩
     ·obtain⟨e,h⟩:=ih (out++g.flat);exact⟨g.flat++e,by rw [h];simp⟩
   obtain⟨e,he⟩:=xi l (out++f.flat)
   have k3:f.flat.map It.s=Sm.cD f.body:=by
    have:=wu 1 0 false [] f.body (by
     have:f.flat.length≤200:=by simp only [List.length_append]at hc;omega
     exact this) (fun i m=>h2 i (by rw [he];exact List.mem_append_left _ (List.mem_append_right _ m)))
    simpa [Pc.flat]using this
   refine⟨fun g m=> ?_, ?_⟩
   ·rcases List.mem_cons.1 m with rfl | m
    ·exact k3
    ·exact k1 g m
   ·rw [k2];simp [k3]
theorem wv : ∀ (l:List It) (n:Nat),It.eA n l=true→(∀ i∈l,i.deep≤12)∧∀ (j:Nat) (i:It),l[j]? = some i→i.s.id=((n+j+1:Nat):Int)
 | [],n,h=>⟨fun i m=>(by cases m),fun j i h=>by simp at h⟩
 | a::l,n,h=>by
  simp only [It.eA]at h
  split at h
  ·cases h
  ·rename_i c
   simp only [Bool.or_eq_true,not_or,bne_iff_ne,ne_eq,Decidable.not_not,decide_eq_true_eq,Int.not_lt,gt_iff_lt]at c
   obtain⟨k1,k2⟩:=wv l (n+1) h
   refine⟨fun i m=> ?_,fun j i hj=> ?_⟩
   ·rcases List.mem_cons.1 m with rfl | m
    ·exact c.1.2
    ·exact k1 i m
   ·cases j with
    | zero=>simp at hj;subst hj;rw [c.1.1]
    | succ j=>simp at hj;rw [k2 j i hj];congr 1;omega
theorem yi {p:Pg} (h:p.may=true):p.all.length≤200∧It.eA 0 p.all=true:=by
 unfold Pg.may at h
 split at h
 ·cases h
 ·split at h
  ·cases h
  ·split at h
   ·cases h
   ·rename_i c
    exact⟨by simp only [decide_eq_true_eq,Int.not_lt,gt_iff_lt]at c;omega,h⟩
theorem zh {p:Pg} (h:p.may=true):(∀ f∈p.procs,f.flat.map It.s=Sm.cD f.body)∧p.all.map It.s=p.pre:=by
 obtain⟨h1,h2⟩:=yi h
 have:=JU p.procs [] h1 (wv _ 0 h2).1
 simpa [Pg.pre,Pg.all]using this
theorem Bj {p:Pg} (h:p.may=true) {i:Nat} {v:Sm} (hv:p.pre[i]? = some v):v.id=((i+1:Nat):Int):=by
 rw [← (zh h).2,List.getElem?_map,Option.map_eq_some_iff]at hv
 obtain⟨it,h1,rfl⟩:=hv
 have:=(wv _ 0 (yi h).2).2 i it h1
 rw [this];congr 1;omega
end Go.Abs

/-! Sc4 -/

namespace Go.Abs
set_option maxRecDepth 8000
open Go.Proofs
structure Pg.kA (p:Pg):Prop where
 Vo:p.H9
 sz:p.size≤900000
mutual
theorem ac2 : ∀ s:Sm,s.we→s.size<1000000→∀ v∈s.pre,v.pT∧v.mX
 | ⟨id,kind,labels,name,proc,x,has,args,aQ,aM⟩,h,hs,v,m=>by
  simp only [Sm.we]at h
  simp only [Sm.size]at hs
  simp only [Sm.pre,List.mem_cons,List.mem_append]at m
  rcases m with rfl | m | m
  ·exact⟨⟨h.1.xt,fun a ha=>(h.1.arg a ha).2.1,by dsimp only;omega⟩,h.1⟩
  ·exact BQ aQ h.2.1 (by omega) v m
  ·exact BQ aM h.2.2 (by omega) v m
theorem BQ : ∀ l:List Sm,Sm.jY l→Sm.aR l<1000000→∀ v∈Sm.cD l,v.pT∧v.mX
 | [],h,hs,v,m=>by simp [Sm.cD]at m
 | s::l,h,hs,v,m=>by
  simp only [Sm.jY]at h
  simp only [Sm.aR]at hs
  simp only [Sm.cD,List.mem_append]at m
  rcases m with m | m
  ·exact ac2 s h.1 (by omega) v m
  ·exact BQ l h.2 (by omega) v m
end
theorem Pg.kA.said {p:Pg} (h:p.kA) {f:Pc} (hf:f∈p.procs) : ∀ v∈Sm.cD f.body,v.pT:=fun v m=>by
 have h1:=Pc.bT hf
 have h2:=h.sz
 simp only [Pg.size]at h2
 simp only [Pc.size]at h1
 exact(BQ f.body (h.Vo.body f hf) (by omega) v m).1
theorem Pg.kA.small {p:Pg} (h:p.kA) {f:Pc} (hf:f∈p.procs):f.Small p:=by
 have h1:=Pc.bT hf
 have h2:=h.sz
 simp only [Pg.size]at h2
 simp only [Pc.size]at h1
 exact⟨by omega,by omega,by omega⟩
theorem Pg.kA.procs {p:Pg} (h:p.kA):p.procs.length≤900000∧Pc.aR p.procs≤900000∧p.globals.length≤900000:=by
 have h2:=h.sz
 have h3:=Pc.cM p.procs
 simp only [Pg.size]at h2
 omega
def Pg.pn (p:Pg):List aD:=p.procs.map (·.name)
def xk (p:Pg) (f:Pc) (procs:List aD):List Sm→Option Sm
 | []=>none
 | v::l=>if v.known p f procs then xk p f procs l else some v
def rr (p:Pg) (procs:List aD):List Pc→Int×Int
 | []=>(0,0)
 | f::l=>if ek (p.globals++f.own)then(5,0)else match xk p f procs (Sm.cD f.body)with | some v=>(5,v.id) | none=>rr p procs l
def Pg.oX (p:Pg):Bool:=match p.find qa with | none=>true | some m=>decide ((m.params.length:Int) > 0)
def Pg.scope (p:Pg):Int×Int:=
 if p.may then if ek p.globals || (ek p.pn || p.oX)then(5,0)else rr p p.pn p.procs else(1,0)
theorem Vp (p:Pg) (hl:p.globals.length<1000000) (n:aD):aB Tryz.prog oj ([.str n]++ [.ptr 0 0]) ⟨[bA p],[]⟩ (.bool (dX p.globals n)) ⟨[bA p],[]⟩:=by
 show aB Tryz.prog oj [.str n, .ptr 0 0] _ _ _
 have tO:=jk (l:=p.globals) (by omega) n
 refine aB.go B5 rfl fun B Q hB hQ=> ?_
 have⟨hF,hP,gA,gB⟩:=bF
 repeat' (first
 | simp only [go_sem,hF,hP,gA,gB]
 | (with_reducible refine CU (tO _ _) ?_)
 | (with_reducible refine aC hQ ?_;simp only [ay,az,Option.some.injEq,exists_eq_left',go_sem,hF,hP,gA,gB];repeat' (first | exact Ok.out | with_reducible refine aH ?_ ?_ | (simp;done))))
theorem agG (n m:Nat) (p:Pg):D.gF n m (iA p)=iA p:=il n m _ (zc p)
attribute [go_sem] agG
theorem Zj {p:Pg} {f:Pc} {procs:List aD} {v:Sm} (hs:f.Small p) (Ct:procs.length<1000000) (hv:v.pT) (g:Tag) (s:St):aB Tryz.prog p8 [.agg (bA p), .agg (bG f), .slice g 1 (procs.map encStr), .agg (aU v)] s (.bool (v.known p f procs)) s:=
 ew.AS (.cons (Wk.refl _) (.cons (Wk.refl _) (.cons (Wk.shared g 1 _) (jP.refl _)))) (Zi hs Ct hv s)
theorem vv {p:Pg} (h:p.kA) (s:St):aB Tryz.prog lF [.agg (bA p)] s (.agg [.int .i64 p.scope.1, .int .i64 p.scope.2]) s:=by
 refine aB.pure ?_ (by simp [D.bp,D.ok,gv]) rfl s
 have hm:=fun s=>Rn h.Vo s
 simp only [FV]at hm
 obtain⟨tP,ta,zW⟩:=h.procs
 have dI:=fun s=>Ej (p:=p) (by omega) s
 have py:=fun s=>C7 (l:=p.globals) (by omega) .shared s
 have hpn:p.pn.length=p.procs.length:=by simp [Pg.pn]
 have DB:=fun g s=>C7 (l:=p.pn) (by omega) g s
 have hix:=fun g s=>(LS (l:=p.pn) (by omega) qa s).LU (Wk.shared g 1 (p.pn.map encStr))
 have C8:=fun g s=>(show aB Tryz.prog iX [.slice g 1 (p.pn.map encStr), .str [109,97,105,110]] s (.int .i64 (oc qa 0 p.pn)) s from hix g s)
 generalize hR:p.scope=R
 simp only [Pg.scope]at hR
 unfold S0
 rcases Bool.eq_false_or_eq_true p.may with hb | hb
 case inr=>
  simp only [hb]at hm
  simp only [hb,Bool.false_eq_true,if_false]at hR
  subst hR
  refine aB.go v7 rfl fun B Q hB hQ=> ?_
  have⟨hF,hP,gA,gB⟩:=bF
  repeat' (first
 | simp only [go_sem,hF,hP,gA,gB]
 | (with_reducible refine CU (hm _) ?_)
 | (with_reducible refine aC hQ ?_;simp only [ay,az,Option.some.injEq,exists_eq_left',go_sem,hF,hP,gA,gB];repeat' (first | exact Ok.out | with_reducible refine aH ?_ ?_ | (simp;done))))
 simp only [hb]at hm
 simp only [hb,if_true]at hR
 refine aB.go v7 rfl fun B Q hB hQ=> ?_
 have⟨hF,hP,gA,gB⟩:=bF
 repeat' (first
 | simp only [go_sem,hF,hP,gA,gB]
 | (with_reducible refine CU (hm _) ?_)
 | (with_reducible refine aC hQ ?_;simp only [ay,az,Option.some.injEq,exists_eq_left',go_sem,hF,hP,gA,gB];repeat' (first | exact Ok.out | with_reducible refine aH ?_ ?_ | (simp;done))))
 refine bh.l6 3 1 rfl ?_
 simp only [go_sem,hF,hP,gA,gB]
 refine cO 2 1 (bh.ind (ι:=List Pc×Nat×List aD×Nat) (fun i=>p.procs.drop i.2.1=i.1∧i.2.2.1++i.1.map (·.name)=p.pn∧i.2.2.2=i.2.2.1.length) (fun i=>i.1.length)
  (fun i=> [(1, .ptr 0 0),(2, .ptr 1 0),(3, .slice (.tok 0) 1 (i.2.2.1.map encStr)),(18, .slice .shared 5 (p.procs.map bG)),(19, .int .i64 (p.procs.length:Int)),(20, .int .i64 (i.2.1:Int))]) (fun i=>⟨[bA p,[.int .i64 0, .int .i64 0]],[some i.2.2.2]⟩) ?_ (p.procs,0,[],0) ⟨rfl,rfl,rfl⟩)
 rintro⟨rest,k,out,n⟩ ⟨h1,h2,h3⟩ IH
 dsimp only at h1 h2 h3
 subst h3
 have hlo:out.length+rest.length≤900000:=by
  have:=congrArg List.length h2
  simp only [List.length_append,List.length_map]at this
  omega
 cases rest with
 | cons a rest=>
  obtain⟨hP,g2,hF,g4⟩:=drop_cons h1
  have bW:k<4611686018427387904:=by omega
  have gA:(out.length+1)*17≤bl:=by unfold bl;omega
  repeat' (first
 | simp only [go_sem,hF,hP,gA,gB]
 | (with_reducible refine aC hQ ?_;simp only [ay,az,Option.some.injEq,exists_eq_left',go_sem,hF,hP,gA,gB];repeat' (first | exact Ok.out | with_reducible refine aH ?_ ?_ | (simp;done))))
  refine dH 2 1 ?_ ?_ (IH (rest,k+1,out++ [a.name],out.length+1) ⟨g2,by rw [← h2];simp,by simp⟩ (Nat.lt_succ_self _))
  ·(simp only [go_sem,hF,hP,gA,gB,aJ bW,List.map_append,List.map_cons,List.map_nil,encStr];try exact bH)
  ·(simp only [go_sem,hF,hP,gA,gB,aJ bW,List.map_append,List.map_cons,List.map_nil,encStr];try exact bH)
 | nil=>
  have hF:=drop_nil h1
  simp only [List.map_nil,List.append_nil]at h2
  subst h2
  rcases Bool.eq_false_or_eq_true (ek p.globals)with b1 | b1
  ·simp only [b1,Bool.true_or,if_true]at hR
   subst hR
   repeat' (first
 | simp only [go_sem,hF,hP,gA,gB,b1]
 | (with_reducible refine CU (C8 _ _) ?_)
 | (with_reducible refine CU (py _) ?_)
 | (with_reducible refine CU (DB _ _) ?_)
 | (with_reducible refine aC hQ ?_;simp only [ay,az,Option.some.injEq,exists_eq_left',go_sem,hF,hP,gA,gB];repeat' (first | exact Ok.out | with_reducible refine aH ?_ ?_ | (simp;done))))
  rcases Bool.eq_false_or_eq_true (ek p.pn)with b2 | b2
  ·simp only [b1,b2,Bool.true_or,Bool.or_true,if_true]at hR
   subst hR
   repeat' (first
 | simp only [go_sem,hF,hP,gA,gB,b1,b2]
 | (with_reducible refine CU (C8 _ _) ?_)
 | (with_reducible refine CU (py _) ?_)
 | (with_reducible refine CU (DB _ _) ?_)
 | (with_reducible refine aC hQ ?_;simp only [ay,az,Option.some.injEq,exists_eq_left',go_sem,hF,hP,gA,gB];repeat' (first | exact Ok.out | with_reducible refine aH ?_ ?_ | (simp;done))))
  rcases JT qa p.procs 0 with ⟨e1,e2⟩ | ⟨m,j,e1,e2,e3⟩
  ·have b3:p.oX=true:=by unfold Pg.oX Pg.find;rw [e1]
   have hi:oc qa 0 p.pn = -1:=e2
   simp only [b1,b2,b3,Bool.or_true,if_true]at hR
   subst hR
   simp only [hi]at C8
   have d1:decide ((-1:Int)<0)=true:=by decide
   repeat' (first
 | simp only [go_sem,hF,hP,gA,gB,b1,b2,d1]
 | (with_reducible refine CU (C8 _ _) ?_)
 | (with_reducible refine CU (py _) ?_)
 | (with_reducible refine CU (DB _ _) ?_)
 | (with_reducible refine aC hQ ?_;simp only [ay,az,Option.some.injEq,exists_eq_left',go_sem,hF,hP,gA,gB];repeat' (first | exact Ok.out | with_reducible refine aH ?_ ?_ | (simp;done))))
  have hi:oc qa 0 p.pn=((j:Nat):Int):=by rw [show p.pn=p.procs.map (·.name)from rfl];simpa using e3
  simp only [hi]at C8
  have d1:decide (((j:Nat):Int)<0)=false:=by simp
  have hj:j<p.procs.length:=(List.getElem?_eq_some_iff.1 e2).1
  have b3:p.oX=decide ((m.params.length:Int) > 0):=by unfold Pg.oX Pg.find;rw [e1]
  rw [b3]at hR
  rcases Bool.eq_false_or_eq_true (decide ((m.params.length:Int) > 0))with b4 | b4
  ·simp only [b1,b2,b4,Bool.or_true,if_true]at hR
   subst hR
   repeat' (first
 | simp only [go_sem,hF,hP,gA,gB,b1,b2,d1,e2,b4]
 | (with_reducible refine CU (C8 _ _) ?_)
 | (with_reducible refine CU (py _) ?_)
 | (with_reducible refine CU (DB _ _) ?_)
 | (with_reducible refine aC hQ ?_;simp only [ay,az,Option.some.injEq,exists_eq_left',go_sem,hF,hP,gA,gB];repeat' (first | exact Ok.out | with_reducible refine aH ?_ ?_ | (simp;done))))
  simp only [b1,b2,b4,Bool.or_false,Bool.false_eq_true,if_false]at hR
  repeat' (first
 | simp only [go_sem,hF,hP,gA,gB,b1,b2,d1,e2,b4]
 | (with_reducible refine CU (C8 _ _) ?_)
 | (with_reducible refine CU (py _) ?_)
 | (with_reducible refine CU (DB _ _) ?_)
 | (with_reducible refine CU (dI _) ?_)
 | (with_reducible refine aC hQ ?_;simp only [ay,az,Option.some.injEq,exists_eq_left',go_sem,hF,hP,gA,gB];repeat' (first | exact Ok.out | with_reducible refine aH ?_ ?_ | (simp;done))))
  refine cO 2 1 (bh.ind (ι:=List Pc×Nat) (fun i=>p.procs.drop i.2=i.1∧rr p p.pn i.1=R) (fun i=>i.1.length)
   (fun i=> [(1, .ptr 0 0),(2, .ptr 1 0),(3, .slice (.tok 0) 1 (p.pn.map encStr)),(7, .dG (iA p) 0),(57, .slice .shared 5 (p.procs.map bG)),(58, .int .i64 (p.procs.length:Int)),(59, .int .i64 (i.2:Int))]) (fun i=>⟨[bA p,[.int .i64 0, .int .i64 0]],[some p.pn.length]⟩) ?_ (p.procs,0) ⟨rfl,hR⟩)
  clear IH h1 hF hR
  rintro⟨rest,k⟩ ⟨h1,hR⟩ IH
  dsimp only at h1 hR
  cases rest with
  | nil=>
   have hF:=drop_nil h1
   simp only [rr]at hR
   subst hR
   repeat' (first
 | simp only [go_sem,hF,hP,gA,gB]
 | (with_reducible refine aC hQ ?_;simp only [ay,az,Option.some.injEq,exists_eq_left',go_sem,hF,hP,gA,gB];repeat' (first | exact Ok.out | with_reducible refine aH ?_ ?_ | (simp;done))))
  | cons f rest=>
   obtain⟨hP,g2,hF,g4⟩:=drop_cons h1
   have bW:k<4611686018427387904:=by omega
   have zX:=List.mem_of_getElem? hP
   have GN:=h.small zX
   have RR:=fun s=>agF (f:=f) GN.par GN.vars s
   have kO:f.own.length<4611686018427387904:=by have h1:=GN.par;have h2:=GN.vars;unfold Pc.own Pc.Bi;simp;omega
   have LX:=fun s=>C7 (l:=f.own) kO .shared s
   have Cu:=fun {s:St} {o:Nat} (ho:s.aw[o]? = some (bA p))=>yh (l:=f.own) kO (f:=oj) (row:=bA p) (b:=dX p.globals) (gv p) (by with_unfolding_all rfl) (fun x _=>Vp p GN.yY x) ho
   have Vq:=fun {s:St} {o:Nat} (ho:s.aw[o]? = some (bA p))=>(show aB Tryz.prog gb [.slice .shared 1 (f.own.map encStr), .gj 63 [.ptr o 0]] s (.bool (f.own.any (dX p.globals))) s from Cu ho)
   simp only [rr,RO,b1,Bool.false_or]at hR
   rcases Bool.eq_false_or_eq_true (ek f.own)with c1 | c1
   ·simp only [c1,Bool.true_or,if_true]at hR
    subst hR
    repeat' (first
 | simp only [go_sem,hF,hP,gA,gB,c1]
 | (with_reducible refine CU (RR _) ?_)
 | (with_reducible refine CU (LX _) ?_)
 | (with_reducible refine CU (Vq (by with_unfolding_all rfl)) ?_)
 | (with_reducible refine aC hQ ?_;simp only [ay,az,Option.some.injEq,exists_eq_left',go_sem,hF,hP,gA,gB];repeat' (first | exact Ok.out | with_reducible refine aH ?_ ?_ | (simp;done))))
   rcases Bool.eq_false_or_eq_true (f.own.any (dX p.globals))with c2 | c2
   ·simp only [c1,c2,Bool.false_or,if_true]at hR
    subst hR
    repeat' (first
 | simp only [go_sem,hF,hP,gA,gB,c1,c2]
 | (with_reducible refine CU (RR _) ?_)
 | (with_reducible refine CU (LX _) ?_)
 | (with_reducible refine CU (Vq (by with_unfolding_all rfl)) ?_)
 | (with_reducible refine aC hQ ?_;simp only [ay,az,Option.some.injEq,exists_eq_left',go_sem,hF,hP,gA,gB];repeat' (first | exact Ok.out | with_reducible refine aH ?_ ?_ | (simp;done))))
   simp only [c1,c2,Bool.or_self,Bool.false_eq_true,if_false]at hR
   obtain⟨it,ye,Eo⟩:=Vg hP (by omega)
   rw [← ye]at hR
   have ac4:it.length≤900000:=by
    have e:=congrArg List.length ye
    have e2:=(qF p).2 k f hP
    obtain⟨a,b,e',_,_,e3,e4⟩:=e2
    have e5:=qG p
    have e6:=congrArg List.length e3
    rw [e4]at e5
    simp only [List.length_map,List.length_append]at e e5 e6
    omega
   repeat' (first
 | simp only [go_sem,hF,hP,gA,gB,c1,c2]
 | (with_reducible refine CU (RR _) ?_)
 | (with_reducible refine CU (LX _) ?_)
 | (with_reducible refine CU (Vq (by with_unfolding_all rfl)) ?_)
 | (with_reducible refine CU (Eo _) ?_)
 | (with_reducible refine aC hQ ?_;simp only [ay,az,Option.some.injEq,exists_eq_left',go_sem,hF,hP,gA,gB];repeat' (first | exact Ok.out | with_reducible refine aH ?_ ?_ | (simp;done))))
   obtain⟨q,hq⟩ : ∃ q,xk p f p.pn (it.map Im.s)=q:=⟨_,rfl⟩
   rw [hq]at hR
   refine cO 3 1 (bh.ind (ι:=List Im×Nat) (fun i=>it.drop i.2=i.1∧xk p f p.pn (i.1.map Im.s)=q) (fun i=>i.1.length)
    (fun i=> [(1, .ptr 0 0),(2, .ptr 1 0),(3, .slice (.tok 0) 1 (p.pn.map encStr)),(7, .dG (iA p) 0),(9, .ptr 2 0),(57, .slice .shared 5 (p.procs.map bG)),(58, .int .i64 (p.procs.length:Int)),(59, .int .i64 (k:Int)),(76, .slice .shared 17 (it.map fj)),(77, .int .i64 (it.length:Int)),(78, .int .i64 (i.2:Int))]) (fun i=>⟨[bA p,[.int .i64 0, .int .i64 0],bG f],[some p.pn.length]⟩) ?_ (it,0) ⟨rfl,hq⟩)
   rintro⟨pY,n⟩ ⟨j1,j2⟩ XV
   dsimp only at j1 j2
   have zJ:=hF
   cases pY with
   | nil=>
    have aqp:=drop_nil j1
    simp only [List.map_nil,xk]at j2
    subst j2
    simp only at hR
    repeat' (first
 | simp only [go_sem,hF,hP,gA,gB,aqp]
 | (with_reducible refine aC hQ ?_;simp only [ay,az,Option.some.injEq,exists_eq_left',go_sem,hF,hP,gA,gB];repeat' (first | exact Ok.out | with_reducible refine aH ?_ ?_ | (simp;done))))
    refine dH 2 1 ?_ ?_ (IH (rest,k+1) ⟨g2,hR⟩ (Nat.lt_succ_self _))
    ·(simp only [go_sem,hF,hP,gA,gB,aJ bW];try exact bH)
    ·(simp only [go_sem,hF,hP,gA,gB,aJ bW];try exact bH)
   | cons i pY=>
    obtain⟨mh,LY,td,jg4⟩:=drop_cons j1
    have qD:n<4611686018427387904:=by omega
    have GO:i.s∈Sm.cD f.body:=by rw [← ye];exact List.mem_map_of_mem (List.mem_of_getElem? mh)
    have hkn:=Zj (v:=i.s) GN (procs:=p.pn) (by omega) (h.said zX _ GO)
    simp only [List.map_cons,xk]at j2
    rcases Bool.eq_false_or_eq_true (i.s.known p f p.pn)with c3 | c3
    ·simp only [c3,if_true]at j2
     repeat' (first
 | simp only [go_sem,hF,hP,gA,gB,td,mh,c3]
 | (with_reducible refine CU (hkn _ _) ?_)
 | (with_reducible refine aC hQ ?_;simp only [ay,az,Option.some.injEq,exists_eq_left',go_sem,hF,hP,gA,gB];repeat' (first | exact Ok.out | with_reducible refine aH ?_ ?_ | (simp;done))))
     refine dH 3 1 ?_ ?_ (XV (pY,n+1) ⟨LY,j2⟩ (Nat.lt_succ_self _))
     ·(simp only [go_sem,hF,hP,gA,gB,aJ qD];try exact bH)
     ·(simp only [go_sem,hF,hP,gA,gB,aJ qD];try exact bH)
    ·simp only [c3,Bool.false_eq_true,if_false]at j2
     subst j2
     simp only at hR
     subst hR
     repeat' (first
 | simp only [go_sem,hF,hP,gA,gB,td,mh,c3]
 | (with_reducible refine CU (hkn _ _) ?_)
 | (with_reducible refine aC hQ ?_;simp only [ay,az,Option.some.injEq,exists_eq_left',go_sem,hF,hP,gA,gB];repeat' (first | exact Ok.out | with_reducible refine aH ?_ ?_ | (simp;done))))
end Go.Abs

/-! Sc5 -/

namespace Go.Abs
set_option maxRecDepth 8000
open Go.Proofs
theorem Vr (x:It):(fB x)[1]? = some (.int .i64 x.s.kind):=nd rfl
theorem Vs (x:It):(fB x)[3]? = some (.str x.s.name):=nd rfl
theorem Vt (x:It):(fB x)[4]? = some (.str x.s.proc):=nd rfl
theorem Zk (x:It):List.take 16 (fB x)=fB x:=nd rfl
attribute [go_sem] Vr Vs Vt Zk
end Go.Abs

/-! Ar1 -/

namespace Go.Abs
set_option maxRecDepth 8000
open Go.Proofs
def Ep:List Pm→List Ar→Bool
 | [],_=>true
 | _,[]=>true
 | a::l,b::m=>if a.ref==b.ref then Ep l m else false
def Er (l:List Pm) (m:List Ar):Bool:=if(l.length:Int)==(m.length:Int)then Ep l m else false
def Sm.my (p:Pg) (v:Sm):Bool:=v.kind==4 && match p.find v.proc with | none=>false | some q=>Er q.params v.args
theorem ac5 {l:List Pm} {m:List Ar} (hl:l.length<1000000000) (hm:m.length<1000000000) (s:St):aB Tryz.prog vb [.slice .shared 2 (l.map fS), .slice .shared 6 (m.map ej)] s (.bool (Er l m)) s:=by
 refine aB.pure ?_ (by simp [D.bp,D.ok,Tag.ok,OA,HZ]) rfl s
 generalize h:Er l m=q
 simp only [Er]at h
 unfold S0
 have b0:((l.length:Int) != (m.length:Int)) = !((l.length:Int)==(m.length:Int)):=rfl
 rcases Bool.eq_false_or_eq_true ((l.length:Int)==(m.length:Int))with b1 | b1
 case inr=>
  rw [b1]at b0
  simp only [b1,Bool.false_eq_true,if_false]at h
  subst h
  refine aB.go x4 rfl fun B Q hB hQ=> ?_
  have⟨hF,hP,gA,gB⟩:=bF
  repeat' (first
 | simp only [go_sem,hF,hP,gA,gB,b0,Bool.not_false]
 | (with_reducible refine aC hQ ?_;simp only [ay,az,Option.some.injEq,exists_eq_left',go_sem,hF,hP,gA,gB];repeat' (first | exact Ok.out | with_reducible refine aH ?_ ?_ | (simp;done))))
 rw [b1]at b0
 simp only [b1,if_true]at h
 have XW:l.length=m.length:=by have:=eq_of_beq b1;omega
 refine aB.go x4 rfl fun B Q hB hQ=> ?_
 have⟨hF,hP,gA,gB⟩:=bF
 repeat' (first
 | simp only [go_sem,hF,hP,gA,gB,b0,Bool.not_true]
 | (with_reducible refine aC hQ ?_;simp only [ay,az,Option.some.injEq,exists_eq_left',go_sem,hF,hP,gA,gB];repeat' (first | exact Ok.out | with_reducible refine aH ?_ ?_ | (simp;done))))
 refine cO 0 0 (bh.ind (ι:=List Pm×List Ar×Nat) (fun i=>l.drop i.2.2=i.1∧m.drop i.2.2=i.2.1∧Ep i.1 i.2.1=q) (fun i=>i.1.length)
  (fun i=> [(1, .slice .shared 6 (m.map ej)),(12, .slice .shared 2 (l.map fS)),(13, .int .i64 (l.length:Int)),(14, .int .i64 (i.2.2:Int))]) (fun i=>⟨[],[]⟩) ?_ (l,m,0) ⟨rfl,rfl,h⟩)
 rintro⟨r1,r2,k⟩ ⟨h1,h2,h⟩ IH
 dsimp only at h1 h2 h
 cases r1 with
 | nil=>
  have hF:=drop_nil h1
  simp only [Ep]at h
  subst h
  repeat' (first
 | simp only [go_sem,hF,hP,gA,gB]
 | (with_reducible refine aC hQ ?_;simp only [ay,az,Option.some.injEq,exists_eq_left',go_sem,hF,hP,gA,gB];repeat' (first | exact Ok.out | with_reducible refine aH ?_ ?_ | (simp;done))))
 | cons a r1=>
  obtain⟨hP,g2,hF,g4⟩:=drop_cons h1
  cases r2 with
  | nil=>have:=List.drop_eq_nil_iff.1 h2;omega
  | cons b r2=>
   obtain⟨XX,b2,O8,_⟩:=drop_cons h2
   have bW:k<4611686018427387904:=by omega
   simp only [Ep]at h
   have w1:(true==true)=true:=rfl
   have w2:(false==false)=true:=rfl
   have w3:(true==false)=false:=rfl
   have w4:(false==true)=false:=rfl
   have v1:(true != true)=false:=rfl
   have v2:(false != false)=false:=rfl
   have v3:(true != false)=true:=rfl
   have v4:(false != true)=true:=rfl
   rcases Bool.eq_false_or_eq_true a.ref with ea | ea
   ·rcases Bool.eq_false_or_eq_true b.ref with eb | eb
    ·simp only [ea,eb,w1,w2,if_true]at h
     repeat' (first
 | simp only [go_sem,hF,hP,gA,gB,XX,O8,ea,eb,w1,w2,v1,v2]
 | (with_reducible refine aC hQ ?_;simp only [ay,az,Option.some.injEq,exists_eq_left',go_sem,hF,hP,gA,gB];repeat' (first | exact Ok.out | with_reducible refine aH ?_ ?_ | (simp;done))))
     refine dH 0 0 ?_ ?_ (IH (r1,r2,k+1) ⟨g2,b2,h⟩ (Nat.lt_succ_self _))
     ·(simp only [go_sem,hF,hP,gA,gB,aJ bW];try exact bH)
     ·(simp only [go_sem,hF,hP,gA,gB,aJ bW];try exact bH)
    ·simp only [ea,eb,w3,w4,Bool.false_eq_true,if_false]at h
     subst h
     repeat' (first
 | simp only [go_sem,hF,hP,gA,gB,XX,O8,ea,eb,w3,w4,v3,v4]
 | (with_reducible refine aC hQ ?_;simp only [ay,az,Option.some.injEq,exists_eq_left',go_sem,hF,hP,gA,gB];repeat' (first | exact Ok.out | with_reducible refine aH ?_ ?_ | (simp;done))))
   ·rcases Bool.eq_false_or_eq_true b.ref with eb | eb
    ·simp only [ea,eb,w3,w4,Bool.false_eq_true,if_false]at h
     subst h
     repeat' (first
 | simp only [go_sem,hF,hP,gA,gB,XX,O8,ea,eb,w3,w4,v3,v4]
 | (with_reducible refine aC hQ ?_;simp only [ay,az,Option.some.injEq,exists_eq_left',go_sem,hF,hP,gA,gB];repeat' (first | exact Ok.out | with_reducible refine aH ?_ ?_ | (simp;done))))
    ·simp only [ea,eb,w1,w2,if_true]at h
     repeat' (first
 | simp only [go_sem,hF,hP,gA,gB,XX,O8,ea,eb,w1,w2,v1,v2]
 | (with_reducible refine aC hQ ?_;simp only [ay,az,Option.some.injEq,exists_eq_left',go_sem,hF,hP,gA,gB];repeat' (first | exact Ok.out | with_reducible refine aH ?_ ?_ | (simp;done))))
     refine dH 0 0 ?_ ?_ (IH (r1,r2,k+1) ⟨g2,b2,h⟩ (Nat.lt_succ_self _))
     ·(simp only [go_sem,hF,hP,gA,gB,aJ bW];try exact bH)
     ·(simp only [go_sem,hF,hP,gA,gB,aJ bW];try exact bH)
end Go.Abs

/-! Ar2 -/

namespace Go.Abs
set_option maxRecDepth 8000
open Go.Proofs
theorem ac6 {p:Pg} {v:Sm} (h:p.kA) (hv:v.pT) (s:St):aB Tryz.prog u7 [.agg (bA p), .agg (aU v)] s (.bool (v.my p)) s:=by
 refine aB.pure ?_ (by simp [D.bp,D.ok,gv,km]) rfl s
 obtain⟨tP,ta,zW⟩:=h.procs
 have qB:v.args.length<1000000000:=by have:=Ar.cM v.args;have:=hv.2.2;omega
 generalize hR:v.my p=R
 simp only [Sm.my]at hR
 unfold S0
 have b0:(v.kind != 4) = !(v.kind==4):=rfl
 rcases Bool.eq_false_or_eq_true (v.kind==4)with b1 | b1
 case inr=>
  rw [b1]at b0
  simp only [b1,Bool.false_and]at hR
  subst hR
  refine aB.go xT rfl fun B Q hB hQ=> ?_
  have⟨hF,hP,gA,gB⟩:=bF
  repeat' (first
 | simp only [go_sem,hF,hP,gA,gB,b0,Bool.not_false]
 | (with_reducible refine aC hQ ?_;simp only [ay,az,Option.some.injEq,exists_eq_left',go_sem,hF,hP,gA,gB];repeat' (first | exact Ok.out | with_reducible refine aH ?_ ?_ | (simp;done))))
 rw [b1]at b0
 simp only [b1,Bool.true_and,Pg.find]at hR
 refine aB.go xT rfl fun B Q hB hQ=> ?_
 have⟨hF,hP,gA,gB⟩:=bF
 repeat' (first
 | simp only [go_sem,hF,hP,gA,gB,b0,Bool.not_true]
 | (with_reducible refine aC hQ ?_;simp only [ay,az,Option.some.injEq,exists_eq_left',go_sem,hF,hP,gA,gB];repeat' (first | exact Ok.out | with_reducible refine aH ?_ ?_ | (simp;done))))
 refine cO 2 0 (bh.ind (ι:=List Pc×Nat) (fun i=>p.procs.drop i.2=i.1∧(match jl v.proc i.1 with | none=>false | some q=>Er q.params v.args)=R) (fun i=>i.1.length)
  (fun i=> [(3, .ptr 1 0),(11, .slice .shared 5 (p.procs.map bG)),(12, .int .i64 (p.procs.length:Int)),(13, .int .i64 (i.2:Int))]) (fun i=>⟨[bA p,aU v],[]⟩) ?_ (p.procs,0) ⟨rfl,hR⟩)
 clear hR
 rintro⟨rest,k⟩ ⟨h1,hR⟩ IH
 dsimp only at h1 hR
 cases rest with
 | nil=>
  have hF:=drop_nil h1
  simp only [jl]at hR
  subst hR
  repeat' (first
 | simp only [go_sem,hF,hP,gA,gB]
 | (with_reducible refine aC hQ ?_;simp only [ay,az,Option.some.injEq,exists_eq_left',go_sem,hF,hP,gA,gB];repeat' (first | exact Ok.out | with_reducible refine aH ?_ ?_ | (simp;done))))
 | cons a rest=>
  obtain⟨hP,g2,hF,g4⟩:=drop_cons h1
  have bW:k<4611686018427387904:=by omega
  have GN:=h.small (List.mem_of_getElem? hP)
  have XO:=fun s=>ac5 (l:=a.params) (m:=v.args) (by have:=GN.par;omega) qB s
  simp only [jl]at hR
  rcases Bool.eq_false_or_eq_true (a.name==v.proc)with c1 | c1
  ·simp only [c1,if_true]at hR
   subst hR
   repeat' (first
 | simp only [go_sem,hF,hP,gA,gB,c1]
 | (with_reducible refine CU (XO _) ?_)
 | (with_reducible refine aC hQ ?_;simp only [ay,az,Option.some.injEq,exists_eq_left',go_sem,hF,hP,gA,gB];repeat' (first | exact Ok.out | with_reducible refine aH ?_ ?_ | (simp;done))))
  ·simp only [c1,Bool.false_eq_true,if_false]at hR
   repeat' (first
 | simp only [go_sem,hF,hP,gA,gB,c1]
 | (with_reducible refine aC hQ ?_;simp only [ay,az,Option.some.injEq,exists_eq_left',go_sem,hF,hP,gA,gB];repeat' (first | exact Ok.out | with_reducible refine aH ?_ ?_ | (simp;done))))
   refine dH 2 0 ?_ ?_ (IH (rest,k+1) ⟨g2,hR⟩ (Nat.lt_succ_self _))
   ·(simp only [go_sem,hF,hP,gA,gB,aJ bW];try exact bH)
   ·(simp only [go_sem,hF,hP,gA,gB,aJ bW];try exact bH)
def Es (p:Pg):List Sm→Option Sm
 | []=>none
 | v::l=>if v.kind==4 && !(v.my p)then some v else Es p l
def pV (c:Int):Option Sm→Int×Int
 | some v=>(c,v.id)
 | none=>(0,0)
def Pg.arity (p:Pg):Int×Int:=if p.scope.1==0 then pV 6 (Es p p.pre)else(1,0)
theorem Pg.kA.pre {p:Pg} (h:p.kA) : ∀ v∈p.pre,v.pT:=fun v m=>by
 simp only [Pg.pre,List.mem_flatten,List.mem_map]at m
 obtain⟨l,⟨f,hf,rfl⟩,m⟩:=m
 exact h.said hf v m
theorem JV {p:Pg} (h:p.kA) (s:St):aB Tryz.prog p7 [.agg (bA p)] s (.agg [.int .i64 p.arity.1, .int .i64 p.arity.2]) s:=by
 refine aB.pure ?_ (by simp [D.bp,D.ok,gv]) rfl s
 obtain⟨tP,ta,zW⟩:=h.procs
 have tO:=fun s=>vv h s
 have dI:=fun s=>Ej (p:=p) (by omega) s
 have hL:=(qF p).1
 have XY:=qG p
 generalize hR:p.arity=R
 simp only [Pg.arity]at hR
 unfold S0
 have b0:(p.scope.1 != 0) = !(p.scope.1==0):=rfl
 rcases Bool.eq_false_or_eq_true (p.scope.1==0)with b1 | b1
 case inr=>
  rw [b1]at b0
  simp only [b1,Bool.false_eq_true,if_false]at hR
  subst hR
  refine aB.go v8 rfl fun B Q hB hQ=> ?_
  have⟨hF,hP,gA,gB⟩:=bF
  repeat' (first
 | simp only [go_sem,hF,hP,gA,gB,b0,Bool.not_false]
 | (with_reducible refine CU (tO _) ?_)
 | (with_reducible refine aC hQ ?_;simp only [ay,az,Option.some.injEq,exists_eq_left',go_sem,hF,hP,gA,gB];repeat' (first | exact Ok.out | with_reducible refine aH ?_ ?_ | (simp;done))))
 rw [b1]at b0
 simp only [b1,if_true, ← hL]at hR
 refine aB.go v8 rfl fun B Q hB hQ=> ?_
 have⟨hF,hP,gA,gB⟩:=bF
 repeat' (first
 | simp only [go_sem,hF,hP,gA,gB,b0,Bool.not_true,sd]
 | (with_reducible refine CU (tO _) ?_)
 | (with_reducible refine CU (dI _) ?_)
 | (with_reducible refine aC hQ ?_;simp only [ay,az,Option.some.injEq,exists_eq_left',go_sem,hF,hP,gA,gB];repeat' (first | exact Ok.out | with_reducible refine aH ?_ ?_ | (simp;done))))
 refine cO 2 0 (bh.ind (ι:=List Im×Nat) (fun i=>p.fC.L.drop i.2=i.1∧pV 6 (Es p (i.1.map Im.s))=R) (fun i=>i.1.length)
  (fun i=> [(1, .ptr 0 0),(2, .ptr 1 0),(14, .slice .shared 17 (p.fC.L.map fj)),(15, .int .i64 (p.fC.L.length:Int)),(16, .int .i64 (i.2:Int))]) (fun i=>⟨[bA p,[.int .i64 0, .int .i64 0]],[]⟩) ?_ (p.fC.L,0) ⟨rfl,hR⟩)
 clear hR
 rintro⟨rest,k⟩ ⟨h1,hR⟩ IH
 dsimp only at h1 hR
 cases rest with
 | nil=>
  have hF:=drop_nil h1
  simp only [List.map_nil,Es,pV]at hR
  subst hR
  repeat' (first
 | simp only [go_sem,hF,hP,gA,gB]
 | (with_reducible refine aC hQ ?_;simp only [ay,az,Option.some.injEq,exists_eq_left',go_sem,hF,hP,gA,gB];repeat' (first | exact Ok.out | with_reducible refine aH ?_ ?_ | (simp;done))))
 | cons a rest=>
  obtain⟨hP,g2,hF,g4⟩:=drop_cons h1
  have bW:k<4611686018427387904:=by omega
  have GO:a.s∈p.pre:=by rw [← hL];exact List.mem_map_of_mem (List.mem_of_getElem? hP)
  have hf1:=fun s=>ac6 h (h.pre _ GO) s
  simp only [List.map_cons,Es]at hR
  rcases Bool.eq_false_or_eq_true (a.s.kind==4)with c1 | c1
  ·rcases Bool.eq_false_or_eq_true (a.s.my p)with c2 | c2
   ·simp only [c1,c2,Bool.not_true,Bool.and_false,Bool.false_eq_true,if_false]at hR
    repeat' (first
 | simp only [go_sem,hF,hP,gA,gB,c1,c2]
 | (with_reducible refine CU (hf1 _) ?_)
 | (with_reducible refine aC hQ ?_;simp only [ay,az,Option.some.injEq,exists_eq_left',go_sem,hF,hP,gA,gB];repeat' (first | exact Ok.out | with_reducible refine aH ?_ ?_ | (simp;done))))
    refine dH 2 0 ?_ ?_ (IH (rest,k+1) ⟨g2,hR⟩ (Nat.lt_succ_self _))
    ·(simp only [go_sem,hF,hP,gA,gB,aJ bW];try exact bH)
    ·(simp only [go_sem,hF,hP,gA,gB,aJ bW];try exact bH)
   ·simp only [c1,c2,Bool.not_false,Bool.and_true,if_true,pV]at hR
    subst hR
    repeat' (first
 | simp only [go_sem,hF,hP,gA,gB,c1,c2]
 | (with_reducible refine CU (hf1 _) ?_)
 | (with_reducible refine aC hQ ?_;simp only [ay,az,Option.some.injEq,exists_eq_left',go_sem,hF,hP,gA,gB];repeat' (first | exact Ok.out | with_reducible refine aH ?_ ?_ | (simp;done))))
  ·simp only [c1,Bool.false_and,Bool.false_eq_true,if_false]at hR
   repeat' (first
 | simp only [go_sem,hF,hP,gA,gB,c1]
 | (with_reducible refine CU (hf1 _) ?_)
 | (with_reducible refine aC hQ ?_;simp only [ay,az,Option.some.injEq,exists_eq_left',go_sem,hF,hP,gA,gB];repeat' (first | exact Ok.out | with_reducible refine aH ?_ ?_ | (simp;done))))
   refine dH 2 0 ?_ ?_ (IH (rest,k+1) ⟨g2,hR⟩ (Nat.lt_succ_self _))
   ·(simp only [go_sem,hF,hP,gA,gB,aJ bW];try exact bH)
   ·(simp only [go_sem,hF,hP,gA,gB,aJ bW];try exact bH)
end Go.Abs

/-! Ar3 -/

namespace Go.Abs
set_option maxRecDepth 8000
open Go.Proofs
theorem Bk {p:Pg} (h:(p.scope.1==0)=true):p.may=true:=by
 unfold Pg.scope at h
 split at h
 ·assumption
 ·cases h
end Go.Abs

/-! Srt1 -/

namespace Go.Abs
set_option maxRecDepth 8000
open Go.Proofs
def mZ (out:List aD):List aD→aD→Bool→aD×Bool
 | [],c,a=>(c,a)
 | s::l,c,a=>if !(dX out s) && (!a || bytesLess s c)then mZ out l s true else mZ out l c a
def RS (l out:List aD):List aD:=if(mZ out l [] false).2 then out++ [(mZ out l [] false).1]else out
def pg (l:List aD):Nat→List aD→List aD
 | 0,out=>out
 | n+1,out=>pg l n (RS l out)
def jN (l:List aD):List aD:=pg l l.length []
end Go.Abs

/-! Shelf -/

namespace Go.Proofs
open Go.Shelf
def Tryz.Li:Go.Shelf.Ren:=⟨fun | 190=>126 | 125=>169 | 258=>168 | 128=>202 | 129=>203 | 302=>193 | 303=>194 | 304=>195 | 305=>196 | 306=>197 | 307=>198 | 308=>199 | 309=>200 | 310=>201 | 333=>220 | 329=>221 | 330=>222 | 334=>223 | 335=>224 | 336=>225 | 344=>238 | n=>n,fun | 31=>22 | 9=>9 | 3=>3 | 46=>177 | 0=>0 | 51=>194 | 53=>196 | 4=>4 | 183=>187 | 182=>186 | 131=>131 | 5=>5 | 218=>209 | 222=>213 | 228=>221 | 229=>218 | n=>n,fun | n=>n⟩
theorem Tryz.LZ:Go.Proofs.Lays.n190 Tryz.prog Tryz.Li:= {
 mixed:=by kernel_rfl
 f125:=Tryz.func169.trans (congrArg some (by kernel_rfl))
 f128:=Tryz.func202.trans (congrArg some (by kernel_rfl))
 f129:=Tryz.func203.trans (congrArg some (by kernel_rfl))
 f190:=Tryz.func126.trans (congrArg some (by kernel_rfl))
 f258:=Tryz.func168.trans (congrArg some (by kernel_rfl))
 f302:=Tryz.func193.trans (congrArg some (by kernel_rfl))
 f303:=Tryz.func194.trans (congrArg some (by kernel_rfl))
 f304:=Tryz.func195.trans (congrArg some (by kernel_rfl))
 f305:=Tryz.func196.trans (congrArg some (by kernel_rfl))
 f306:=Tryz.func197.trans (congrArg some (by kernel_rfl))
 f307:=Tryz.func198.trans (congrArg some (by kernel_rfl))
 f308:=Tryz.func199.trans (congrArg some (by kernel_rfl))
 f309:=Tryz.func200.trans (congrArg some (by kernel_rfl))
 f310:=Tryz.func201.trans (congrArg some (by kernel_rfl))
 f329:=Tryz.func221.trans (congrArg some (by kernel_rfl))
 f330:=Tryz.func222.trans (congrArg some (by kernel_rfl))
 f333:=Tryz.func220.trans (congrArg some (by kernel_rfl))
 f334:=Tryz.func223.trans (congrArg some (by kernel_rfl))
 f335:=Tryz.func224.trans (congrArg some (by kernel_rfl))
 f336:=Tryz.func225.trans (congrArg some (by kernel_rfl))
 f344:=Tryz.func238.trans (congrArg some (by kernel_rfl))
 t0:=Tryz.underlying0
 a0:=Tryz.isAgg0
 z0:=Tryz.sizeOf0
 v0:=Tryz.zeroValue0
 t3:=Tryz.underlying3
 a3:=Tryz.isAgg3
 z3:=Tryz.sizeOf3
 v3:=Tryz.zeroValue3
 t4:=Tryz.underlying4
 a4:=Tryz.isAgg4
 z4:=Tryz.sizeOf4
 v4:=Tryz.zeroValue4
 t5:=Tryz.underlying5
 a5:=Tryz.isAgg5
 z5:=Tryz.sizeOf5
 v5:=Tryz.zeroValue5
 t9:=Tryz.underlying9
 a9:=Tryz.isAgg9
 z9:=Tryz.sizeOf9
 v9:=Tryz.zeroValue9
 t31:=Tryz.underlying22
 a31:=Tryz.isAgg22
 z31:=Tryz.sizeOf22
 v31:=Tryz.zeroValue22
 t46:=Tryz.underlying177
 a46:=Tryz.isAgg177
 z46:=Tryz.sizeOf177
 v46:=Tryz.zeroValue177
 t51:=Tryz.underlying194
 a51:=Tryz.isAgg194
 z51:=Tryz.sizeOf194
 v51:=Tryz.zeroValue194
 t53:=Tryz.underlying196
 a53:=Tryz.isAgg196
 z53:=Tryz.sizeOf196
 v53:=Tryz.zeroValue196
 t131:=Tryz.underlying131
 a131:=Tryz.isAgg131
 z131:=Tryz.sizeOf131
 v131:=Tryz.zeroValue131
 t182:=Tryz.underlying186
 a182:=Tryz.isAgg186
 z182:=Tryz.sizeOf186
 v182:=Tryz.zeroValue186
 t183:=Tryz.underlying187
 a183:=Tryz.isAgg187
 z183:=Tryz.sizeOf187
 v183:=Tryz.zeroValue187
 t218:=Tryz.underlying209
 a218:=Tryz.isAgg209
 z218:=Tryz.sizeOf209
 v218:=Tryz.zeroValue209
 t222:=Tryz.underlying213
 a222:=Tryz.isAgg213
 z222:=Tryz.sizeOf213
 v222:=Tryz.zeroValue213
 t228:=Tryz.underlying221
 a228:=Tryz.isAgg221
 z228:=Tryz.sizeOf221
 v228:=Tryz.zeroValue221
 t229:=Tryz.underlying218
 a229:=Tryz.isAgg218
 z229:=Tryz.sizeOf218
 v229:=Tryz.zeroValue218}
open Go.Sort Go.RowKit in
theorem Tryz.slices_Sort_string (Bl off cap:Nat) (ss:List (List UInt8)) (w:World) (hH:Holds encStr w Bl off ss.toArray) (aqq:Bl<w.heap.size) (dN:ss.length<4611686018427387904) :
 Calls Tryz.prog 126 #[.slice (some ⟨Bl,off,none⟩) ss.length cap] w fun e w'=>
  e = .returned (.tuple #[])∧∃ n os,w'=grow (putRow encStr (Sort.ahead w n) Bl off (ss.mergeSort fun x y=>decide (x≤y)).toArray) os:=Any.slices_Sort_string Tryz.LZ Bl off cap ss w hH aqq dN
def Tryz.Lj:Go.Shelf.Ren:=⟨fun | 194=>127 | n=>n,fun | 31=>22 | 9=>9 | 3=>3 | 4=>4 | 0=>0 | n=>n,fun | n=>n⟩
theorem Tryz.L0:Go.Proofs.Lays.n194 Tryz.prog Tryz.Lj:= {
 mixed:=by kernel_rfl
 f194:=Tryz.func127.trans (congrArg some (by kernel_rfl))
 t0:=Tryz.underlying0
 a0:=Tryz.isAgg0
 z0:=Tryz.sizeOf0
 v0:=Tryz.zeroValue0
 t3:=Tryz.underlying3
 a3:=Tryz.isAgg3
 z3:=Tryz.sizeOf3
 v3:=Tryz.zeroValue3
 t4:=Tryz.underlying4
 a4:=Tryz.isAgg4
 z4:=Tryz.sizeOf4
 v4:=Tryz.zeroValue4
 t9:=Tryz.underlying9
 a9:=Tryz.isAgg9
 z9:=Tryz.sizeOf9
 v9:=Tryz.zeroValue9
 t31:=Tryz.underlying22
 a31:=Tryz.isAgg22
 z31:=Tryz.sizeOf22
 v31:=Tryz.zeroValue22}
open Go.RowKit Go.Lib Go.Sort in
theorem Tryz.slices_Compact_string (Bl off cap:Nat) (zs:List (List UInt8)) (w:World) (hH:Holds encStr w Bl off zs.toArray) (dN:zs.length≤9223372036854775807) (tn:zs.length≤cap) :
 Calls Tryz.prog 127 #[.slice (some ⟨Bl,off,none⟩) zs.length cap] w fun e w'=>e = .returned (.slice (some ⟨Bl,off,none⟩) (Lib.compact zs).length cap)∧∃ q,w'=putRow encStr (Sort.ahead w q) Bl off (Lib.compact zs++List.replicate (zs.length - (Lib.compact zs).length) []).toArray:=Any.slices_Compact_string Tryz.L0 Bl off cap zs w hH dN tn
open Go.RowKit Go.Lib Go.Sort in
theorem Tryz.slices_Compact_string_empty (a:Option Addr) (cap:Nat) (w:World) :
 Calls Tryz.prog 127 #[.slice a 0 cap] w fun e w'=>e = .returned (.slice a 0 cap)∧w'=w:=Any.slices_Compact_string_empty Tryz.L0 a cap w
open Go.RowKit Go.Sort in
theorem Tryz.slices_Sort_string_none (p:Option Addr) (cap:Nat) (w:World) :
 Calls Tryz.prog 126 #[.slice p 0 cap] w fun e w'=>e = .returned (.tuple #[])∧w'=w:=Any.slices_Sort_string_none Tryz.LZ p cap w
end Go.Proofs

/-! SortR -/

namespace Go.Abs
open Go.Proofs
section
variable {P:Program} {B:fz} {nt:Nat}
theorem Zl {x:Operand} {t:Nat} (h:cX x=some (.s t)):x = .tmp t:=by
 unfold cX at h
 split at h
 ·cases h;rfl
 ·obtain⟨d,_,h⟩:=map_some h;cases h
 ·cases h
 ·cases h
theorem O9 {ops:Array Oper} {o:Oper} {g g':Option (Nat×Bool)} {dst:Option Nat} {f:Nat} {xs:List X} (h:sn P ops o g=some (.call dst g' f xs)) :
 g'=g∧∃ args nR,o.op = .call ⟨.value (.func f),args,nR⟩∧enters P f=true∧xC args.toList=some xs:=by
 unfold sn at h
 split at h
 ·rename_i f' args nR mn
  split at h
  ·rename_i he
   obtain⟨xs',h1,h2⟩:=map_some h
   cases h2
   exact⟨rfl,args,nR,mn,he,h1⟩
  ·cases h
 ·obtain⟨_,_,h⟩:=map_some h;cases h
 ·split at h
  ·cases h
  ·split at h <;> cases h
theorem RT {ops:Array Oper} {o:Oper} {tmps:Array Value} (hg:uM ops o.guard=some none):Region.wanted o (yielded ops tmps)=true:=by
 have:o.guard=none:=by
  cases Gc:o.guard with
  | none=>rfl
  | some p=>
   obtain⟨j,b⟩:=p
   rw [Gc]at hg
   unfold uM at hg
   simp only at hg
   split at hg <;> cases hg
 simp [Region.wanted,this]
theorem Sem.ac9 {a k b f:Nat} {is:List AI} {Q:Exit→Tm→St→Prop} {tm:Tm} {s:St}
 (agH : ∀ act w,Holds B nt (tm.put (some a) (tm.get k)) s act w→Calls P f #[act.tmps.getD a Go.undef] w fun e w'=>∃ v,e = .returned v∧∃ bB s',Holds B nt bB s' (act.put (some b) v) w'∧iM P is (Q .normal) bB s') :
 Sem P B nt (.run (.op (some a) none (.mv (.s k)):: .call (some b) none f [.s a]::is)) Q tm s:=by
 intro c hc act w hh
 obtain⟨id,ops,rfl,hi⟩:=ld hc
 refine wp_region ?_
 have key : ∀ (l:List Nat) (ol:List Oper),l.map (ops[·]?)=ol.map some→qL P nt ops ol=some (.op (some a) none (.mv (.s k)):: .call (some b) none f [.s a]::is)→wpOps P ops (pC B nt Q) l act w:=by
  intro l ol hl wR
  match ol,l,hl with
  | [],_,_=>simp [qL]at wR
  | o0::ol,[],hl=>simp at hl
  | o0::ol,j0::l,hl=>
   simp only [List.map_cons,List.cons.injEq]at hl
   obtain⟨hj0,hl⟩:=hl
   unfold qL at wR
   split at wR
   ·rename_i i0 is0 h1 h2
    cases wR
    match ol,l,hl,h2 with
    | [],_,_,h2=>simp [qL]at h2
    | o1::ol,[],hl,_=>simp at hl
    | o1::ol,j1::l,hl,h2=>
     simp only [List.map_cons,List.cons.injEq]at hl
     obtain⟨hj1,hl⟩:=hl
     unfold qL at h2
     split at h2
     ·rename_i i1 is1 h3 h4
      cases h2
      obtain⟨M,e,r,ht,hn,hd⟩:=hh
      have Ba:=sZ h1
      have JW:=sZ h3
      simp only [AI.dst]at Ba JW
      refine wQ (K':=fun bB s'=>bB=tm.put (some a) (tm.get k)∧s'=s) hj0 h1 r (B.laid.ext e) ht (by simp only [iM,guarded,aZ,X.ev,and_self]) (fun d v s1 w1 M1 hk e1 r1 hv=> ?_)
      obtain⟨uN,rfl⟩:=hk
      have hH:=Holds.put e ht hn hd (xL h1) e1 r1 hv
      simp only [AI.dst]at uN
      rw [← Ba]at hH ⊢
      rw [uN]at hH
      obtain⟨g,hg,_,hb⟩:=AU h3
      obtain⟨rfl,args,nR,mn,yG,og⟩:=O9 hb
      simp only [wpOps,hj1,RT hg,if_true]
      left
      have UU:args.map (act.put (some a) v).eval = #[(act.put (some a) v).tmps.getD a Go.undef]:=by
       have:args.toList = [.tmp a]:=by
        match hA:args.toList with
        | []=>rw [hA]at og;simp [xC]at og
        | [x]=>
         rw [hA]at og
         simp only [xC]at og
         split at og
         ·rename_i x' r' hx hr
          cases og
          rw [Zl hx]
         ·cases og
        | x::y::z=>
         rw [hA]at og
         simp only [xC]at og
         split at og
         ·rename_i x' r' hx hr
          cases og
          split at hr
          ·cases hr
          ·cases hr
         ·cases og
       have:args = #[.tmp a]:=by rw [← Array.toArray_toList (xs:=args),this]
       rw [this]
       simp only [List.map_toArray,List.map_cons,List.map_nil]
       rfl
      have hex:(execOp (act.put (some a) v).eval o1).run P w1 = .ok (.enter f #[(act.put (some a) v).tmps.getD a Go.undef]) w1:=by
       obtain⟨dst,op,type,pos,after,guard⟩:=o1
       simp only at mn
       subst mn
       rw [← UU]
       exact wM (act.put (some a) v).eval dst f args nR type pos after guard rfl yG w1
      unfold Oper.wp
      rw [hex,Oper.upon_enter]
      refine(agH _ _ hH).mono ?_
      rintro en w' ⟨v',rfl,bB,s',hH',hvc⟩
      rw [← JW]
      exact AP (Q:=Q) l ol _ hl h4 bB s' _ w' hvc hH'
     ·cases h2
   ·cases wR
 exact key _ _ (AQ ops) hi
theorem GQ (hB:B.s = ⟨[],[]⟩) {tm:Tm} {s:St} {act:Act} {w:World} (h:Holds B nt tm s act w) {t:Nat} {l:List aD} (ht:s.aA[t]? = some (some l.length)) {k0:Nat} (hk0:tm.get k0 = .slice (.tok t) 1 (l.map encStr)) :
 (l = []∧∀ k,tm.get k = .slice (.tok t) 1 (l.map encStr)→(act.tmps.getD k Go.undef = .slice none 0 0∨∃ b q,act.tmps.getD k Go.undef = .slice (some ⟨b,q,none⟩) 0 0))∨
 ∃ (b cap:Nat) (vs:Array Value) (T:TypeId),(∀ k,tm.get k = .slice (.tok t) 1 (l.map encStr)→act.tmps.getD k Go.undef = .slice (some ⟨b,0,none⟩) l.length cap)∧l.length≤cap∧w.heap[b]? = some (.cells vs T (0,0))∧vs.size=cap∧B.w.heap.size≤b∧
  ∀ j (hj:j<l.length),vs[j]? = some (.string ⟨⟨l[j]⟩⟩):=by
 obtain⟨M,e,r,hr,_,_⟩:=h
 rcases r.tok t _ ht with ⟨h3,h4⟩ | ⟨b,cap,z,vs,T,h3,h4,h5,h6,h7⟩
 ·have hl:l = []:=List.eq_nil_of_length_eq_zero h4
  subst hl
  refine .inl ⟨rfl,fun k hk=> ?_⟩
  have hv:=hr k
  rw [hk]at hv
  generalize act.tmps.getD k Go.undef=v at hv
  cases hv with
  | iZ _ _ cap hc py=>subst hc;exact .inl rfl
  | slice _ _ _ b q cap hl hs h1 h2 py=>
   rcases(py.2 _ ht).2 rfl with ⟨_,h0,_⟩ | ⟨b',_,kv⟩
   ·subst h0;exact .inr ⟨b,q,rfl⟩
   ·rw [h3]at kv;cases kv
 ·right
  have each : ∀ k,tm.get k = .slice (.tok t) 1 (l.map encStr)→z=1∧act.tmps.getD k Go.undef = .slice (some ⟨b,0,none⟩) l.length cap∧l.length≤cap∧∀ j (hj:j<l.length),∃ u,M.G b j=some u∧RD M s (.str l[j]) u:=by
   intro k hk
   have hv:=hr k
   rw [hk]at hv
   generalize act.tmps.getD k Go.undef=v at hv
   generalize lr:l.map encStr=rows at hv
   cases hv with
   | iZ _ _ cap hc py=>
    have hl:l = []:=by cases l <;> simp at lr;rfl
    subst hl
    rcases(py.2 _ ht).2 rfl with ⟨h0,_⟩ | ⟨b',h0,_⟩
    ·rw [h3]at h0;cases h0
    ·cases h0
   | slice _ _ _ b2 q ayn hl hs h1 h2 py=>
    subst lr
    rw [List.length_map]at hl py
    rcases(py.2 _ ht).2 rfl with ⟨h0,_⟩ | ⟨b',hb,kv⟩
    ·rw [h3]at h0;cases h0
    ·cases hb
     rw [h3]at kv
     cases kv
     refine⟨rfl,by rw [List.length_map],hl,fun j hj=> ?_⟩
     have e1:(l.map encStr)[j]? = some [.str l[j]]:=by rw [List.getElem?_map,List.getElem?_eq_getElem hj];rfl
     obtain⟨u,hu⟩:=h1 j _ 0 _ e1 rfl
     refine⟨u,by simpa using hu,h2 j _ 0 _ u e1 rfl hu⟩
  obtain⟨rfl,_,tn,lO⟩:=each k0 hk0
  have dI:B.w.heap.size≤b:=by
   rcases e.pA t b cap 1 ⟨_,ht⟩ h3 with ⟨⟨n,hn⟩,_⟩ | h
   ·rw [hB]at hn;simp at hn
   ·exact h
  refine⟨b,cap,vs,T,fun k hk=>(each k hk).2.1,tn,h4,by simpa [zs]using h5,dI,fun j hj=> ?_⟩
  obtain⟨u,hu,jd⟩:=lO j hj
  have:=(r.comm _ _ _ hu).1
  rw [iS h4,jd.kY]at this
  exact this
theorem JX (hB:B.s = ⟨[],[]⟩) {tm:Tm} {s:St} {act tJ:Act} {w w':World} (h:Holds B nt tm s act w) {b cap:Nat} {vs:Array Value} {T:TypeId} (dN:vs.size=cap) (sJ:B.w.heap.size≤b)
 (lK : ∀ q,q<B.w.heap.size→w'.heap[q]? = w.heap[q]?) (eo:w'.heap[b]? = some (.cells vs T (0,0))) (eQ:w.heap.size≤w'.heap.size) (tT:w'.os=w.os) (DB:w'.tape=w.tape) (Td:w'.output=w.output)
 {l:List aD} (hl:l.length≤cap) (lO : ∀ j (hj:j<l.length),vs[j]? = some (.string ⟨⟨l[j]⟩⟩)) {k:Nat} (Pa:tJ.tmps.getD k Go.undef = .slice (some ⟨b,0,none⟩) l.length cap) (hn:tJ.tmps.size=nt) (hd:tJ.defers = []) :
 Holds B nt [(k, .slice (.tok 0) 1 (l.map encStr))] ⟨[],[some l.length]⟩ tJ w':=by
 obtain⟨M,e,r,hr,_,_⟩:=h
 let M':Map:=⟨fun q o=>if q=b then(if o<l.length then(l[o]?).map fun x=>Value.string ⟨⟨x⟩⟩else none)else B.M.G q o,B.M.loc,fun _=>some (b,cap,1)⟩
 have hGb : ∀ q o v,B.M.G q o=some v→q<B.w.heap.size∧w'.cell? ⟨q,o,none⟩=some v∧v.oneCell'=true:=by
  intro q o v hq
  obtain⟨h1,h2⟩:=r.comm q o v (e.le.G q o v hq)
  have hF:=B.old q o v hq
  refine⟨hF, ?_,h2⟩
  rw [← h1]
  simp [World.cell?,lK q hF]
 have qO : ∀ j (hj:j<l.length),w'.cell? ⟨b,j,none⟩=some (.string ⟨⟨l[j]⟩⟩):=fun j hj=>by rw [iS eo];exact lO j hj
 have hP : ∀ (j:Nat) v,(if j<l.length then(l[j]?).map fun x=>Value.string ⟨⟨x⟩⟩else none)=some v→∃ hj:j<l.length,v = .string ⟨⟨l[j]⟩⟩:=by
  intro j v hv
  split at hv
  ·rename_i hj
   rw [List.getElem?_eq_getElem hj]at hv
   exact⟨hj,by simpa using hv.symm⟩
  ·cases hv
 refine⟨M',⟨⟨fun q o v hq=> ?_,by simp [hB],fun o ho=> .refl _,by rw [hB];exact Nat.zero_le _,fun t n' ht _=>by rw [hB]at ht;exact absurd ht (Nat.not_lt_zero _)⟩,fun q hq _ _=> ?_,fun o _ h2=>absurd h2 (Nat.not_lt_zero _),fun t q c z _ hb=> ?_,fun q o eH=> ?_,Nat.le_trans e.size eQ,tT.trans e.os,DB.trans e.tape,Td.trans e.output⟩,
  ⟨fun q o v hq=> ?_,fun o ds ho=>by simp at ho,fun o ho=>absurd ho (Nat.not_lt_zero _),fun o o' ho=>absurd ho (Nat.not_lt_zero _),fun t n ht=> ?_,fun t q c z o _ _ ho=>absurd ho (Nat.not_lt_zero _),fun t t' q c z c' z' D6 ml _ _=> ?_⟩,fun u=> ?_,hn,hd⟩
 ·show(if q=b then _ else B.M.G q o)=some v
  rw [if_neg (by have:=(hGb q o v hq).1;omega)]
  exact hq
 ·rw [lK q hq]
  exact e.kept q hq (fun o ho=>by rw [hB]at ho;exact absurd ho (Nat.not_lt_zero _)) (fun t c z ml=>by rw [hB]at ml;obtain⟨n,zV⟩:=ml;simp at zV)
 ·cases hb;exact .inr sJ
 ·by_cases hq:q=b
  ·subst hq;exact .inl sJ
  ·exact absurd (show(if q=b then _ else B.M.G q o)=B.M.G q o from if_neg hq) eH
 ·have lA:(if q=b then(if o<l.length then(l[o]?).map fun x=>Value.string ⟨⟨x⟩⟩else none)else B.M.G q o)=some v:=hq
  by_cases hqb:q=b
  ·rw [if_pos hqb]at lA
   obtain⟨hj,rfl⟩:=hP o v lA
   rw [hqb]
   exact⟨qO o hj,rfl⟩
  ·rw [if_neg hqb]at lA
   exact(hGb q o v lA).2
 ·match t with
  | 0=>
   simp at ht
   subst ht
   refine .inr ⟨b,cap,1,vs,T,rfl,eo,by simp [zs,dN],hl,fun off ho=> ?_,fun h=>by cases h⟩
   show(if b=b then(if off<l.length then _ else none)else B.M.G b off)=none
   rw [if_pos rfl,if_neg (by simp [zs]at ho;omega)]
  | t+1=>simp at ht
 ·obtain⟨n1,h1⟩:=D6
  obtain⟨n2,h2⟩:=ml
  have a1:=(List.getElem?_eq_some_iff.1 h1).1
  have a2:=(List.getElem?_eq_some_iff.1 h2).1
  simp at a1 a2
  omega
 ·simp only [Tm.get]
  split
  ·rename_i hku
   subst hku
   rw [Pa]
   have:=RD.slice (M:=M') (s:=⟨[],[some l.length]⟩) (.tok 0) 1 (l.map encStr) b 0 cap (by simpa using hl) (fun row hr=>by
    obtain⟨x,_,rfl⟩:=List.mem_map.1 hr;rfl) (fun i row j d e1 e2=> ?_) (fun i row j d u e1 e2 eu=> ?_) ⟨by simp,fun n zV=>by
    simp at zV
    subst zV
    exact⟨by simp,fun _=> .inr ⟨b,rfl,rfl⟩⟩⟩
   ·simpa using this
   ·rw [List.getElem?_map]at e1
    cases zL:l[i]? with
    | none=>rw [zL]at e1;cases e1
    | some x=>
     have qz:=(List.getElem?_eq_some_iff.1 zL).1
     rw [zL]at e1
     cases e1
     have hj:j=0:=by cases j with | zero=>rfl | succ j=>simp [encStr]at e2
     subst hj
     refine⟨.string ⟨⟨x⟩⟩, ?_⟩
     show(if b=b then(if 0+(i*1+0)<l.length then _ else none)else _)=_
     rw [if_pos rfl,if_pos (by omega)]
     simp [zL]
   ·rw [List.getElem?_map]at e1
    cases zL:l[i]? with
    | none=>rw [zL]at e1;cases e1
    | some x=>
     have qz:=(List.getElem?_eq_some_iff.1 zL).1
     rw [zL]at e1
     cases e1
     have hj:j=0:=by cases j with | zero=>rfl | succ j=>simp [encStr]at e2
     subst hj
     have Ei:(if b=b then(if 0+(i*1+0)<l.length then(l[0+(i*1+0)]?).map fun x=>Value.string ⟨⟨x⟩⟩else none)else B.M.G b (0+(i*1+0)))=some u:=eu
     rw [if_pos rfl,if_pos (by omega)]at Ei
     simp [zL]at Ei
     subst Ei
     simp [encStr]at e2
     subst e2
     exact .str x
  ·exact .junk _
theorem L3 (hB:B.s = ⟨[],[]⟩) {tm:Tm} {s:St} {act tJ:Act} {w:World} (h:Holds B nt tm s act w) {k:Nat} (Pa:tJ.tmps.getD k Go.undef = .slice none 0 0∨∃ b q,tJ.tmps.getD k Go.undef = .slice (some ⟨b,q,none⟩) 0 0) (hn:tJ.tmps.size=nt) (hd:tJ.defers = []) :
 Holds B nt [(k, .slice (.tok 0) 1 (([] : List aD).map encStr))] ⟨[],[some 0]⟩ tJ w:=by
 obtain⟨M,e,r,hr,_,_⟩:=h
 let M':Map:=⟨B.M.G,B.M.loc,fun _=>none⟩
 refine⟨M',⟨⟨fun q o v hq=>hq,by simp [hB],fun o ho=> .refl _,by rw [hB];exact Nat.zero_le _,fun t n' ht _=>by rw [hB]at ht;exact absurd ht (Nat.not_lt_zero _)⟩,fun q hq _ _=> ?_,fun o _ h2=>absurd h2 (Nat.not_lt_zero _),fun t q c z _ hb=>(by cases hb),fun q o eH=>absurd rfl eH,e.size,e.os,e.tape,e.output⟩,
  ⟨fun q o v hq=>r.comm q o v (e.le.G q o v hq),fun o ds ho=>by simp at ho,fun o ho=>absurd ho (Nat.not_lt_zero _),fun o o' ho=>absurd ho (Nat.not_lt_zero _),fun t n ht=> ?_,fun t q c z o _ _ ho=>absurd ho (Nat.not_lt_zero _),fun t t' q c z c' z' D6 ml h1 _=>by cases h1⟩,fun u=> ?_,hn,hd⟩
 ·exact e.kept q hq (fun o ho=>by rw [hB]at ho;exact absurd ho (Nat.not_lt_zero _)) (fun t c z ml=>by rw [hB]at ml;obtain⟨n,zV⟩:=ml;simp at zV)
 ·match t with
  | 0=>simp at ht;subst ht;exact .inl ⟨rfl,rfl⟩
  | t+1=>simp at ht
 ·simp only [Tm.get]
  split
  ·rename_i hku
   subst hku
   have py : ∀ base,iE M' ⟨[],[some 0]⟩ (.tok 0) 1 0 base 0:=fun base=>⟨by simp,fun n zV=>by
    simp at zV
    subst zV
    exact⟨Nat.le_refl _,fun _=> .inl ⟨rfl,rfl,fun h=>by cases h⟩⟩⟩
   rcases Pa with h | ⟨b,q,h⟩
   ·rw [h];exact .iZ _ _ 0 rfl (py none)
   ·rw [h];exact .slice (.tok 0) 1 [] b q 0 (Nat.le_refl _) (by simp) (by simp) (by simp) (py _)
  ·exact .junk _
theorem JY {α:Type} [Inhabited α] (enc:α→Value) (d:Array α) (c:Array Value) (j:Nat):(Sort.putCells enc 0 d c)[j]? = if j<d.size then(c[j]?).map fun _=>enc d[j]! else c[j]? :=by
 simp only [Sort.putCells,Array.getElem?_mapIdx]
 cases h:c[j]? with
 | none=>simp
 | some x=>by_cases hj:j<d.size <;> simp [hj]
theorem GR {w:World} {b n cap:Nat} {vs:Array Value} {T:TypeId} (eo:w.heap[b]? = some (.cells vs T (0,0))) (dN:vs.size=cap) (l:List aD) (hl:l.length≤cap) (os:Array Obj) :
 (∀ q,q≠b→q<w.heap.size→(Sort.grow (Sort.putRow Go.Proofs.encStr (Sort.ahead w n) b 0 l.toArray) os).heap[q]? = w.heap[q]?)∧
 (Sort.grow (Sort.putRow Go.Proofs.encStr (Sort.ahead w n) b 0 l.toArray) os).heap[b]? = some (.cells (Sort.putCells Go.Proofs.encStr 0 l.toArray vs) T (0,0))∧w.heap.size≤(Sort.grow (Sort.putRow Go.Proofs.encStr (Sort.ahead w n) b 0 l.toArray) os).heap.size∧
 (Sort.putCells Go.Proofs.encStr 0 l.toArray vs).size=cap∧∀ j (hj:j<l.length),(Sort.putCells Go.Proofs.encStr 0 l.toArray vs)[j]? = some (.string ⟨⟨l[j]⟩⟩):=by
 have hb:b<w.heap.size:=(Array.getElem?_eq_some_iff.1 eo).1
 refine⟨fun q hq hF=> ?_, ?_, ?_, ?_,fun j hj=> ?_⟩
 ·simp only [Sort.grow,Sort.putRow,Sort.mapBlock,Sort.ahead]
  rw [Array.getElem?_append_left (by simpa using hF),Array.getElem?_modify]
  simp [Ne.symm hq]
 ·simp only [Sort.grow,Sort.putRow,Sort.mapBlock,Sort.ahead]
  rw [Array.getElem?_append_left (by simpa using hb),Array.getElem?_modify]
  simp [eo,Sort.onCells]
 ·simp [Sort.grow,Sort.putRow,Sort.mapBlock,Sort.ahead]
 ·simp [Sort.putCells,dN]
 ·rw [JY]
  have h1:j<l.toArray.size:=by simpa using hj
  have h2:vs[j]? = some vs[j]:=Array.getElem?_eq_getElem (by omega)
  rw [if_pos h1,h2]
  simp [hj]
def lT (l:List aD):List aD:=l.mergeSort fun x y=>decide (x≤y)
theorem JZ {act:Act} {b:Nat} {v:Value} {u:Nat} (h:u≠b):(act.put (some b) v).tmps.getD u Go.undef=act.tmps.getD u Go.undef:=by
 simp only [Act.put,Array.getD_eq_getD_getElem?]
 rw [Array.getElem?_setIfInBounds_ne (fun e=>h e.symm)]
theorem GU {act:Act} {b:Nat} {v:Value} (h:b<act.tmps.size):(act.put (some b) v).tmps.getD b Go.undef=v:=by
 simp only [Act.put,Array.getD_eq_getD_getElem?]
 simp [h]
theorem Sem.sort (hB:B.s = ⟨[],[]⟩) {a k b t:Nat} {l:List aD} {is:List AI} {Q:Exit→Tm→St→Prop} {tm:Tm} {s:St} (hak:a≠k) (hbk:b≠k) (RH:a≠b)
 (hk:tm.get k = .slice (.tok t) 1 (l.map encStr)) (ht:s.aA[t]? = some (some l.length)) (hl:l.length<4611686018427387904)
 (h:iM Tryz.prog is (Q .normal) [(k, .slice (.tok 0) 1 ((lT l).map encStr))] ⟨[],[some l.length]⟩) :
 Sem Tryz.prog B nt (.run (.op (some a) none (.mv (.s k)):: .call (some b) none jf [.s a]::is)) Q tm s:=by
 refine Sem.ac9 fun act w hh=> ?_
 have zH:(tm.put (some a) (tm.get k)).get k = .slice (.tok t) 1 (l.map encStr):=by rw [Tm.k7,if_neg (by simpa using hak)];exact hk
 have J0:(tm.put (some a) (tm.get k)).get a = .slice (.tok t) 1 (l.map encStr):=by rw [Tm.k7,if_pos rfl];exact hk
 have Et:(lT l).length=l.length:=List.length_mergeSort l
 have hn:(act.put (some b) (.tuple #[])).tmps.size=nt:=by obtain⟨_,_,_,_,h1,_⟩:=hh;simpa [Act.put]using h1
 have hd:(act.put (some b) (.tuple #[])).defers = []:=by obtain⟨_,_,_,_,_,h1⟩:=hh;simpa [Act.put]using h1
 have dN:(act.tmps).size=nt:=by obtain⟨_,_,_,_,h1,_⟩:=hh;exact h1
 rcases GQ hB hh ht J0 with ⟨rfl,hv⟩ | ⟨b',cap,vs,T,hv,tn,eo,oG,sJ,lO⟩
 ·rw [show lT [] = [] by simp [lT]]at h
  have call : ∀ p,act.tmps.getD a Go.undef = .slice p 0 0→Calls Tryz.prog jf #[act.tmps.getD a Go.undef] w fun e w'=>∃ v,e = .returned v∧∃ bB s',Holds B nt bB s' (act.put (some b) v) w'∧iM Tryz.prog is (Q .normal) bB s':=by
   intro p hp
   rw [hp]
   refine(Tryz.slices_Sort_string_none p 0 w).mono ?_
   rintro e w' ⟨rfl,rfl⟩
   refine⟨_,rfl,_,_,L3 hB hh (k:=k) ?_ hn hd,h⟩
   rw [JZ (Ne.symm hbk)]
   exact hv k zH
  rcases hv a J0 with h1 | ⟨b',q,h1⟩
  ·exact call _ h1
  ·exact call _ h1
 ·rw [hv a J0]
  have hF:b'<w.heap.size:=(Array.getElem?_eq_some_iff.1 eo).1
  refine(Tryz.slices_Sort_string b' 0 cap l w (fun j hj=> ?_) hF hl).mono ?_
  ·have RU:j<l.length:=by simpa using hj
   refine⟨?_,by simp [World.frozen?,eo]⟩
   rw [Nat.zero_add,iS eo,lO j RU]
   simp [RU]
  ·rintro e w' ⟨rfl,n,os,rfl⟩
   obtain⟨p1,p2,p3,p4,p5⟩:=GR (n:=n) eo oG (lT l) (by omega) os
   have hH:=JX hB hh (tJ:=act.put (some b) (.tuple #[])) (l:=lT l) (k:=k) p4 sJ (fun q hq=>p1 q (by omega) (by obtain⟨M,e,_⟩:=hh;exact Nat.lt_of_lt_of_le hq e.size)) p2 p3 rfl rfl rfl (by omega) p5 (by rw [JZ (Ne.symm hbk),hv k zH,Et]) hn hd
   rw [Et]at hH
   exact⟨_,rfl,_,_,hH,h⟩
theorem Lk (l:List aD):(Lib.compact l).length≤l.length:=by
 unfold Lib.compact Lib.compactUpTo
 rw [List.length_map]
 exact Nat.le_trans (List.length_filter_le _ _) (by simp)
theorem Sem.compact (hB:B.s = ⟨[],[]⟩) {a k b t:Nat} {l:List aD} {is:List AI} {Q:Exit→Tm→St→Prop} {tm:Tm} {s:St} (hbt:b<nt)
 (hk:tm.get k = .slice (.tok t) 1 (l.map encStr)) (ht:s.aA[t]? = some (some l.length)) (hl:l.length<4611686018427387904)
 (h:iM Tryz.prog is (Q .normal) [(b, .slice (.tok 0) 1 ((Lib.compact l).map encStr))] ⟨[],[some (Lib.compact l).length]⟩) :
 Sem Tryz.prog B nt (.run (.op (some a) none (.mv (.s k)):: .call (some b) none jw [.s a]::is)) Q tm s:=by
 refine Sem.ac9 fun act w hh=> ?_
 have J0:(tm.put (some a) (tm.get k)).get a = .slice (.tok t) 1 (l.map encStr):=by rw [Tm.k7,if_pos rfl];exact hk
 have dN:(act.tmps).size=nt:=by obtain⟨_,_,_,_,h1,_⟩:=hh;exact h1
 have hn : ∀ v,(act.put (some b) v).tmps.size=nt:=fun v=>by simpa [Act.put]using dN
 have hd : ∀ v,(act.put (some b) v).defers = []:=by obtain⟨_,_,_,_,_,h1⟩:=hh;intro v;simpa [Act.put]using h1
 rcases GQ hB hh ht J0 with ⟨rfl,hv⟩ | ⟨b',cap,vs,T,hv,tn,eo,oG,sJ,lO⟩
 ·rw [show Lib.compact ([] : List aD) = []from rfl]at h
  have call : ∀ p,act.tmps.getD a Go.undef = .slice p 0 0→(p=none∨∃ b q,p=some ⟨b,q,none⟩)→Calls Tryz.prog jw #[act.tmps.getD a Go.undef] w fun e w'=>∃ v,e = .returned v∧∃ bB s',Holds B nt bB s' (act.put (some b) v) w'∧iM Tryz.prog is (Q .normal) bB s':=by
   intro p hp hq
   rw [hp]
   refine(Tryz.slices_Compact_string_empty p 0 w).mono ?_
   rintro e w' ⟨rfl,rfl⟩
   refine⟨_,rfl,_,_,L3 hB hh (k:=b) ?_ (hn _) (hd _),h⟩
   rw [GU (by omega)]
   rcases hq with rfl | ⟨x,y,rfl⟩
   ·exact .inl rfl
   ·exact .inr ⟨x,y,rfl⟩
  rcases hv a J0 with h1 | ⟨b',q,h1⟩
  ·exact call _ h1 (.inl rfl)
  ·exact call _ h1 (.inr ⟨b',q,rfl⟩)
 ·rw [hv a J0]
  have qw:(Lib.compact l).length≤l.length:=Lk l
  refine(Tryz.slices_Compact_string b' 0 cap l w (fun j hj=> ?_) (by omega) tn).mono ?_
  ·have RU:j<l.length:=by simpa using hj
   refine⟨?_,by simp [World.frozen?,eo]⟩
   rw [Nat.zero_add,iS eo,lO j RU]
   simp [RU]
  ·rintro e w' ⟨rfl,q,rfl⟩
   obtain⟨p1,p2,p3,p4,p5⟩:=GR (n:=q) eo oG (Lib.compact l++List.replicate (l.length - (Lib.compact l).length) []) (by simp;omega) #[]
   rw [Sort.grow_empty]at p1 p2 p3
   have hH:=JX hB hh (tJ:=act.put (some b) (.slice (some ⟨b',0,none⟩) (Lib.compact l).length cap)) (l:=Lib.compact l) (k:=b) p4 sJ (fun q hq=>p1 q (by omega) (by obtain⟨M,e,_⟩:=hh;exact Nat.lt_of_lt_of_le hq e.size)) p2 p3 rfl rfl rfl (by omega)
    (fun j hj=>by
     have:=p5 j (by simp;omega)
     rw [List.getElem_append_left hj]at this
     exact this) (GU (by omega)) (hn _) (hd _)
   exact⟨_,rfl,_,_,hH,h⟩
end
end Go.Abs

/-! SrtP -/

namespace Go.Abs
theorem Eu {a b:UInt8} : a<b↔a.toNat<b.toNat:=UInt8.lt_iff_toNat_lt
theorem yj : ∀ a:aD,bytesLess a a=false
 | []=>rfl
 | x::a=>by
  show Go.Op.bytesLess (x::a) (x::a)=false
  have h:=yj a
  have h:Go.Op.bytesLess a a=false:=h
  simp [Go.Op.bytesLess,h]
theorem yk : ∀ a b:aD,bytesLess a b=true∨a=b∨bytesLess b a=true
 | [],[]=> .inr (.inl rfl)
 | [],y::b=> .inl rfl
 | x::a,[]=> .inr (.inr rfl)
 | x::a,y::b=>by
  show Go.Op.bytesLess (x::a) (y::b)=true∨_∨Go.Op.bytesLess (y::b) (x::a)=true
  have h:Go.Op.bytesLess a b=true∨a=b∨Go.Op.bytesLess b a=true:=yk a b
  simp only [Go.Op.bytesLess,Bool.or_eq_true,Bool.and_eq_true,decide_eq_true_eq,beq_iff_eq,List.cons.injEq]
  by_cases e:x=y
  ·subst e
   rcases h with h | h | h
   ·exact .inl (.inr ⟨rfl,h⟩)
   ·exact .inr (.inl ⟨rfl,h⟩)
   ·exact .inr (.inr (.inr ⟨rfl,h⟩))
  ·have:x.toNat≠y.toNat:=fun h=>e (UInt8.toNat_inj.1 h)
   rcases Nat.lt_or_gt_of_ne this with h | h
   ·exact .inl (.inl (Eu.2 h))
   ·exact .inr (.inr (.inl (Eu.2 h)))
theorem Ev : ∀ a b c:aD,bytesLess a b=true→bytesLess b c=true→bytesLess a c=true
 | a,b,[],h1,h2=>by cases b <;> cases h2
 | a,[],z::c,h1,h2=>by cases a <;> cases h1
 | [],y::b,z::c,h1,h2=>rfl
 | x::a,y::b,z::c,h1,h2=>by
  have h1:Go.Op.bytesLess (x::a) (y::b)=true:=h1
  have h2:Go.Op.bytesLess (y::b) (z::c)=true:=h2
  show Go.Op.bytesLess (x::a) (z::c)=true
  simp only [Go.Op.bytesLess,Bool.or_eq_true,Bool.and_eq_true,decide_eq_true_eq,beq_iff_eq]at h1 h2 ⊢
  rcases h1 with e1 | ⟨i1,e1⟩
  ·rcases h2 with e2 | ⟨i2,e2⟩
   ·exact .inl (Eu.2 (Nat.lt_trans (Eu.1 e1) (Eu.1 e2)))
   ·exact .inl (i2 ▸ e1)
  ·rcases h2 with e2 | ⟨i2,e2⟩
   ·exact .inl (i1 ▸ e2)
   ·exact .inr ⟨i1.trans i2,Ev a b c e1 e2⟩
def Bm (l:List aD):Prop:=l.Pairwise fun a b=>bytesLess a b=true
theorem xl : ∀ {a b:List aD},Bm a→Bm b→(∀ x,x∈a↔x∈b)→a=b
 | [],[],_,_,_=>rfl
 | [],y::b,_,_,h=>absurd ((h y).2 List.mem_cons_self) (by simp)
 | x::a,[],_,_,h=>absurd ((h x).1 List.mem_cons_self) (by simp)
 | x::a,y::b,h1,h2,h=>by
  obtain⟨g1,g2⟩:=List.pairwise_cons.1 h1
  obtain⟨g3,g4⟩:=List.pairwise_cons.1 h2
  have e:x=y:=by
   rcases List.mem_cons.1 ((h x).1 List.mem_cons_self)with e | m
   ·exact e
   ·rcases List.mem_cons.1 ((h y).2 List.mem_cons_self)with e | m'
    ·exact e.symm
    ·have:=Ev _ _ _ (g3 x m) (g1 y m');rw [yj]at this;cases this
  subst e
  rw [xl g2 g4 fun z=> ?_]
  constructor
  ·intro m
   rcases List.mem_cons.1 ((h z).1 (List.mem_cons_of_mem _ m))with e | m'
   ·subst e;have:=g1 z m;rw [yj]at this;cases this
   ·exact m'
  ·intro m
   rcases List.mem_cons.1 ((h z).2 (List.mem_cons_of_mem _ m))with e | m'
   ·subst e;have:=g3 z m;rw [yj]at this;cases this
   ·exact m'
theorem uB (out:List aD) : ∀ (l:List aD) (c:aD) (a:Bool),
 let q:=mZ out l c a
 (q.2=false↔a=false∧∀ x∈l,x∈out)∧(q.2=true→((a=true∧q.1=c)∨(q.1∈l∧q.1∉out))∧(a=true→bytesLess c q.1=false)∧∀ x∈l,x∉out→bytesLess x q.1=false)
 | [],c,a=>by
  simp only [mZ]
  refine⟨by simp,fun h=>⟨.inl ⟨h,by trivial⟩,fun _=>yj c,fun x m=>(by cases m)⟩⟩
 | s::l,c,a=>by
  simp only [mZ]
  by_cases h1:dX out s=true
  ·have m:=(fF _ _).1 h1
   simp only [h1,Bool.not_true,Bool.false_and,Bool.false_eq_true,if_false]
   obtain⟨k1,k2⟩:=uB out l c a
   refine⟨k1.trans ⟨fun h=>⟨h.1,fun x hx=> ?_⟩,fun h=>⟨h.1,fun x hx=>h.2 x (List.mem_cons_of_mem _ hx)⟩⟩,fun h=> ?_⟩
   ·rcases List.mem_cons.1 hx with rfl | hx
    ·exact m
    ·exact h.2 x hx
   ·obtain⟨g1,g2,g3⟩:=k2 h
    refine⟨g1.imp_right fun h=>⟨List.mem_cons_of_mem _ h.1,h.2⟩,g2,fun x hx hn=> ?_⟩
    rcases List.mem_cons.1 hx with rfl | hx
    ·exact absurd m hn
    ·exact g3 x hx hn
  ·have m:s∉out:=fun m=>h1 ((fF _ _).2 m)
   have rL:dX out s=false:=by simpa using h1
   by_cases h2:(!a || bytesLess s c)=true
   ·simp only [rL,h2,Bool.not_false,Bool.and_self,if_true]
    obtain⟨k1,k2⟩:=uB out l s true
    refine⟨⟨fun h=>absurd (k1.1 h).1 (by simp),fun h=>absurd (h.2 s List.mem_cons_self) m⟩,fun h=> ?_⟩
    obtain⟨g1,g2,g3⟩:=k2 h
    have g4:=g2 rfl
    refine⟨.inr ?_,fun ha=> ?_,fun x hx hn=> ?_⟩
    ·rcases g1 with ⟨_,e⟩ | g1
     ·rw [e];exact⟨List.mem_cons_self,m⟩
     ·exact⟨List.mem_cons_of_mem _ g1.1,g1.2⟩
    ·have h3:bytesLess s c=true:=by simpa [ha]using h2
     cases hh:bytesLess c (mZ out l s true).1
     ·rfl
     ·have:=Ev _ _ _ h3 hh;rw [g4]at this;cases this
    ·rcases List.mem_cons.1 hx with rfl | hx
     ·exact g4
     ·exact g3 x hx hn
   ·have xO:(!a || bytesLess s c)=false:=by simpa using h2
    have ha:a=true:=by cases a <;> simp_all
    have h3:bytesLess s c=false:=by cases a <;> simp_all
    simp only [rL,xO,Bool.not_false,Bool.and_false,Bool.false_eq_true,if_false]
    obtain⟨k1,k2⟩:=uB out l c a
    refine⟨⟨fun h=>absurd (k1.1 h).1 (by simp [ha]),fun h=>absurd h.1 (by simp [ha])⟩,fun h=> ?_⟩
    obtain⟨g1,g2,g3⟩:=k2 h
    refine⟨g1.imp_right fun h=>⟨List.mem_cons_of_mem _ h.1,h.2⟩,g2,fun x hx hn=> ?_⟩
    rcases List.mem_cons.1 hx with rfl | hx
    ·cases hh:bytesLess x (mZ out l c a).1
     ·rfl
     ·have g4:=g2 ha
      rcases yk x c with e | e | e
      ·rw [h3]at e;cases e
      ·subst e;rw [g4]at hh;cases hh
      ·have:=Ev _ _ _ e hh;rw [g4]at this;cases this
    ·exact g3 x hx hn
theorem xm (l:List aD) : ∀ (n:Nat) (out:List aD),Bm out→(∀ x∈out,x∈l)→(∀ x∈out,∀ y∈l,y∉out→bytesLess x y=true)→
 Bm (pg l n out)∧(∀ x∈pg l n out,x∈l)∧(∀ x∈out,x∈pg l n out)∧((∀ x∈l,x∈pg l n out)∨(pg l n out).length=out.length+n)
 | 0,out,h1,h2,h3=>⟨h1,h2,fun x m=>m, .inr rfl⟩
 | n+1,out,h1,h2,h3=>by
  simp only [pg,RS]
  obtain⟨k1,k2⟩:=uB out l [] false
  cases hq:(mZ out l [] false).2
  ·simp only [Bool.false_eq_true,if_false]
   obtain⟨g1,g2,g3,g4⟩:=xm l n out h1 h2 h3
   exact⟨g1,g2,g3, .inl fun x m=>g3 x ((k1.1 hq).2 x m)⟩
  ·simp only [if_true]
   obtain⟨g1,_,g3⟩:=k2 hq
   have g1:(mZ out l [] false).1∈l∧(mZ out l [] false).1∉out:=by
    rcases g1 with ⟨h,_⟩ | g1
    ·cases h
    ·exact g1
   generalize (mZ out l [] false).1=c at g1 g3
   obtain⟨r1,r2,r3,r4⟩:=xm l n (out++ [c])
    (by
     refine List.pairwise_append.2 ⟨h1,by simp,fun x hx y hy=> ?_⟩
     have:y=c:=by simpa using hy
     subst this
     exact h3 x hx y g1.1 g1.2)
    (fun x hx=>by
     rcases List.mem_append.1 hx with hx | hx
     ·exact h2 x hx
     ·have:x=c:=by simpa using hx
      subst this;exact g1.1)
    (fun x hx y hy hn=>by
     have hyo:y∉out:=fun m=>hn (List.mem_append_left _ m)
     have hyc:y≠c:=fun e=>hn (List.mem_append_right _ (by simp [e]))
     rcases List.mem_append.1 hx with hx | hx
     ·exact h3 x hx y hy hyo
     ·have:x=c:=by simpa using hx
      subst this
      rcases yk x y with h | h | h
      ·exact h
      ·exact absurd h.symm hyc
      ·rw [g3 y hy hyo]at h;cases h)
   refine⟨r1,r2,fun x m=>r3 x (List.mem_append_left _ m),r4.imp_right fun h=> ?_⟩
   rw [h];simp;omega
theorem wx : ∀ (a l:List aD),a.Nodup→(∀ x∈a,x∈l)→a.length≤l.length
 | [],l,_,_=>Nat.zero_le _
 | x::a,l,h,hm=>by
  obtain⟨h1,h2⟩:=List.nodup_cons.1 h
  have m:=hm x List.mem_cons_self
  have:=wx a (l.erase x) h2 fun y hy=>(List.mem_erase_of_ne (fun e=>h1 (by rw [← e];exact hy))).2 (hm y (List.mem_cons_of_mem _ hy))
  rw [List.length_erase_of_mem m]at this
  have:0<l.length:=List.length_pos_of_mem m
  simp only [List.length_cons];omega
theorem uC {l:List aD} (h:Bm l):l.Nodup:=h.imp fun {a b} h e=>by subst e;rw [yj]at h;cases h
theorem j7 (l:List aD):Bm (jN l)∧∀ x,x∈jN l↔x∈l:=by
 obtain⟨h1,h2,h3,h4⟩:=xm l l.length [] List.Pairwise.nil (fun x m=>(by cases m)) (fun x m=>(by cases m))
 refine⟨h1,fun x=>⟨h2 x,fun m=> ?_⟩⟩
 rcases h4 with h4 | h4
 ·exact h4 x m
 ·refine Classical.byContradiction fun hn=> ?_
  have:=wx (x::pg l l.length []) l (List.nodup_cons.2 ⟨hn,uC h1⟩) fun y hy=>by
   rcases List.mem_cons.1 hy with rfl | hy
   ·exact m
   ·exact h2 y hy
  simp only [List.length_cons,h4,List.length_nil]at this
  omega
theorem Lm (zs:List aD) (hs:zs.Pairwise fun a b=>bytesLess b a=false) : ∀ m,m≤zs.length→
 Bm (Lib.compactUpTo zs.toArray m)∧(∀ x,x∈Lib.compactUpTo zs.toArray m↔x∈zs.take m):=by
 intro m
 induction m with
 | zero=>intro _;exact⟨by simp [Lib.compactUpTo,Bm],fun x=>by simp [Lib.compactUpTo]⟩
 | succ m ih=>
  intro hm
  obtain⟨h1,h2⟩:=ih (by omega)
  have hz:zs[m]? = some zs[m]:=List.getElem?_eq_getElem (by omega)
  have e1:zs.toArray[m]! = zs[m]:=by simp [hm,Nat.lt_of_succ_le hm]
  have et:zs.take (m+1)=zs.take m++ [zs[m]]:=by rw [List.take_add_one,hz];rfl
  rw [Lib.compactUpTo_succ,e1,et]
  by_cases hk:Lib.keeps zs.toArray m=true
  ·rw [if_pos hk]
   refine⟨List.pairwise_append.2 ⟨h1,by simp,fun x hx y hy=> ?_⟩,fun x=>by rw [List.mem_append,List.mem_append,h2]⟩
   have hy:y=zs[m]:=by simpa using hy
   subst hy
   have hx:=(h2 x).1 hx
   simp only [Lib.keeps,decide_eq_true_eq]at hk
   rcases hk with rfl | hk
   ·simp at hx
   ·have JO:m - 1<zs.length:=by omega
    have e2:zs.toArray[m - 1]! = zs[m - 1]:=by simp [JO]
    rw [e1,e2]at hk
    have h0:0<m:=by
     cases m with
     | zero=>simp at hx
     | succ m=>omega
    have hle : ∀ i j (hi:i<zs.length) (hj:j<zs.length),i<j→bytesLess zs[j] zs[i] = false:=fun i j hi hj Wl=>List.pairwise_iff_getElem.1 hs i j hi hj Wl
    have g1:bytesLess zs[m] zs[m - 1] = false:=hle (m - 1) m JO (by omega) (by omega)
    have g2:bytesLess zs[m - 1] zs[m] = true:=by
     rcases yk zs[m - 1] zs[m]with h | h | h
     ·exact h
     ·exact absurd h.symm hk
     ·rw [g1]at h;cases h
    obtain⟨i,hi,rfl⟩:=List.mem_iff_getElem.1 hx
    rw [List.length_take]at hi
    rw [List.getElem_take]
    by_cases Cj:i=m - 1
    ·subst Cj;exact g2
    ·have g3:=hle i (m - 1) (by omega) JO (by omega)
     rcases yk zs[i] zs[m - 1]with h | h | h
     ·exact Ev _ _ _ h g2
     ·rw [h];exact g2
     ·rw [g3]at h;cases h
  ·rw [if_neg hk]
   simp only [List.append_nil]
   refine⟨h1,fun x=> ?_⟩
   rw [h2]
   simp only [Lib.keeps,decide_eq_true_eq,not_or,ne_eq,Decidable.not_not]at hk
   obtain⟨k1,k2⟩:=hk
   have JO:m - 1<zs.length:=by omega
   have e2:zs.toArray[m - 1]! = zs[m - 1]:=by simp [JO]
   rw [e1,e2]at k2
   simp only [List.mem_append,List.mem_singleton]
   constructor
   ·exact .inl
   ·rintro(h | rfl)
    ·exact h
    ·rw [k2]
     exact List.mem_iff_getElem.2 ⟨m - 1,by rw [List.length_take];omega,by rw [List.getElem_take]⟩
theorem GV (l:List aD):(lT l).Pairwise fun a b=>bytesLess b a=false:=by
 have h:=List.pairwise_mergeSort (le:=fun x y:aD=>decide (x≤y)) (fun a b c h1 h2=> ?_) (fun a b=> ?_) l
 ·refine h.imp fun {a b} h=> ?_
  rw [decide_eq_true_eq]at h
  show Go.Op.bytesLess b a=false
  rw [Go.Proofs.bytesLess_eq]
  simpa using h
 ·rw [decide_eq_true_eq]at h1 h2 ⊢
  exact List.le_trans h1 h2
 ·have:=List.le_total a b
  simpa using this
theorem Bn (l:List aD):Lib.compact (lT l)=jN l:=by
 obtain⟨h1,h2⟩:=Lm (lT l) (GV l) (lT l).length (Nat.le_refl _)
 obtain⟨h3,h4⟩:=j7 l
 refine xl h1 h3 fun x=> ?_
 rw [h4]
 refine(h2 x).trans ?_
 rw [List.take_length]
 exact(List.mergeSort_perm _ _).mem_iff
end Go.Abs

/-! Tc1 -/

namespace Go.Abs
set_option maxRecDepth 8000
open Go.Proofs
def lH:List Sm→List aD
 | []=> []
 | v::l=>if v.kind==4 then v.proc::lH l else lH l
theorem Cv : ∀ l:List Sm,(lH l).length≤l.length
 | []=>Nat.le_refl _
 | v::l=>by
  simp only [lH]
  have:=Cv l
  split <;> simp <;> omega
def Pc.calls (f:Pc):List aD:=jN (lH (Sm.cD f.body))
theorem Bo {name:aD} : ∀ {l:List Pc} {k:Nat} {f:Pc},jl name l=some f→∃ j,l[j]? = some f∧me (fun f:Pc=>f.name==name) (k:Int) l=((k+j:Nat):Int)
 | g::l,k,f,h=>by
  simp only [jl]at h
  cases e:(g.name==name)
  ·rw [e]at h
   simp only [Bool.false_eq_true,if_false]at h
   obtain⟨j,h1,h2⟩:=Bo (k:=k+1) h
   refine⟨j+1,by simpa using h1, ?_⟩
   simp only [me,e,Bool.false_eq_true,if_false]
   rw [show((k:Int)+1)=((k+1:Nat):Int)from rfl,h2]
   congr 1;omega
  ·rw [e]at h
   simp only [if_true,Option.some.injEq]at h
   exact⟨0,by simpa using h,by simp [me,e]⟩
theorem Zm {p:Pg} (h:p.kA) {name:aD} {f:Pc} (hf:p.find name=some f) (s:St):aB Tryz.prog tD [.dG (iA p) 0, .str name] s (.slice .shared 1 (f.calls.map encStr)) s:=by
 refine aB.pure ?_ (by simp [D.bp,D.ok,zc]) (by simp only [D.ok,Tag.ok,eD];rfl) s
 obtain⟨tP,ta,zW⟩:=h.procs
 obtain⟨j,hj,tR⟩:=Bo (k:=0) hf
 have tR:p.at name=((j:Nat):Int):=by unfold Pg.at;simpa using tR
 have Ct:=fun s=>RF (p:=p) (by omega) name s
 rw [tR]at Ct
 obtain⟨it,ye,Eo⟩:=Vg hj (by omega)
 have ac4:it.length≤900000:=by
  have e:=congrArg List.length ye
  obtain⟨a,b,e',_,_,e3,e4⟩:=(qF p).2 j f hj
  have e5:=qG p
  have e6:=congrArg List.length e3
  rw [e4]at e5
  simp only [List.length_map,List.length_append]at e e5 e6
  omega
 unfold S0
 obtain⟨fn,zY,Cu⟩:=D2
 refine aB.intro ⟨fn,zY,Cu⟩ (Nat.le_of_ble_eq_true rfl) fun B hB=> ?_
 generalize hQ:iP (⟨[],[]⟩:St).aw.length (⟨[],[]⟩:St).aA.length _ _ (⟨[],[]⟩:St)=Q
 have⟨hF,hP,gA,gB⟩:=bF
 refine Sem.kE ?_
 repeat' (first
 | simp only [go_sem,hF,hP,gA,gB]
 | (with_reducible refine aC hQ ?_;simp only [ay,az,Option.some.injEq,exists_eq_left',go_sem,hF,hP,gA,gB];repeat' (first | exact Ok.out | with_reducible refine aH ?_ ?_ | (simp;done))))
 refine Sem.kE ?_
 repeat' (first
 | simp only [go_sem,hF,hP,gA,gB]
 | (with_reducible refine aC hQ ?_;simp only [ay,az,Option.some.injEq,exists_eq_left',go_sem,hF,hP,gA,gB];repeat' (first | exact Ok.out | with_reducible refine aH ?_ ?_ | (simp;done))))
 refine Sem.kE ?_
 repeat' (first
 | simp only [go_sem,hF,hP,gA,gB]
 | (with_reducible refine CU (Ct _) ?_)
 | (with_reducible refine CU (Eo _) ?_)
 | (with_reducible refine aC hQ ?_;simp only [ay,az,Option.some.injEq,exists_eq_left',go_sem,hF,hP,gA,gB];repeat' (first | exact Ok.out | with_reducible refine aH ?_ ?_ | (simp;done))))
 refine bh.l6 5 1 rfl ?_
 simp only [go_sem,hF,hP,gA,gB]
 obtain⟨R,hR⟩ : ∃ R,R=lH (Sm.cD f.body):=⟨_,rfl⟩
 have hRl:R.length≤900000:=by rw [hR, ← ye];have:=Cv (it.map Im.s);rw [List.length_map]at this;omega
 refine cO 0 1 (bh.ind (ι:=List Im×Nat×List aD×Nat) (fun i=>it.drop i.2.1=i.1∧i.2.2.1++lH (i.1.map Im.s)=R∧i.2.2.2=i.2.2.1.length) (fun i=>i.1.length)
  (fun i=> [(5, .slice (.tok 0) 1 (i.2.2.1.map encStr)),(12, .slice .shared 17 (it.map fj)),(13, .int .i64 (it.length:Int)),(14, .int .i64 (i.2.1:Int))]) (fun i=>⟨[],[some i.2.2.2]⟩) ?_ (it,0,[],0) ⟨rfl,by rw [hR,ye];rfl,rfl⟩)
 rintro⟨rest,k,out,n⟩ ⟨h1,h2,h3⟩ IH
 dsimp only at h1 h2 h3
 subst h3
 have kO:out.length≤900000:=by have:=congrArg List.length h2;rw [List.length_append]at this;omega
 cases rest with
 | cons a rest=>
  obtain⟨hP,g2,hF,g4⟩:=drop_cons h1
  have bW:k<4611686018427387904:=by omega
  have gA:(out.length+1)*17≤bl:=by unfold bl;omega
  simp only [List.map_cons,lH]at h2
  rcases Bool.eq_false_or_eq_true (a.s.kind==4)with c1 | c1
  ·simp only [c1,if_true]at h2
   repeat' (first
 | simp only [go_sem,hF,hP,gA,gB,c1]
 | (with_reducible refine aC hQ ?_;simp only [ay,az,Option.some.injEq,exists_eq_left',go_sem,hF,hP,gA,gB];repeat' (first | exact Ok.out | with_reducible refine aH ?_ ?_ | (simp;done))))
   refine dH 0 1 ?_ ?_ (IH (rest,k+1,out++ [a.s.proc],out.length+1) ⟨g2,by rw [← h2];simp,by simp⟩ (Nat.lt_succ_self _))
   ·(simp only [go_sem,hF,hP,gA,gB,aJ bW,List.map_append,List.map_cons,List.map_nil,encStr];try exact bH)
   ·(simp only [go_sem,hF,hP,gA,gB,aJ bW,List.map_append,List.map_cons,List.map_nil,encStr];try exact bH)
  ·simp only [c1,Bool.false_eq_true,if_false]at h2
   repeat' (first
 | simp only [go_sem,hF,hP,gA,gB,c1]
 | (with_reducible refine aC hQ ?_;simp only [ay,az,Option.some.injEq,exists_eq_left',go_sem,hF,hP,gA,gB];repeat' (first | exact Ok.out | with_reducible refine aH ?_ ?_ | (simp;done))))
   refine dH 0 1 ?_ ?_ (IH (rest,k+1,out,_) ⟨g2,h2,rfl⟩ (Nat.lt_succ_self _))
   ·(simp only [go_sem,hF,hP,gA,gB,aJ bW];try exact bH)
   ·(simp only [go_sem,hF,hP,gA,gB,aJ bW];try exact bH)
 | nil=>
  have hF:=drop_nil h1
  simp only [List.map_nil,lH,List.append_nil]at h2
  subst h2
  have Et:(lT out).length=out.length:=List.length_mergeSort out
  repeat' (first
 | simp only [go_sem,hF,hP,gA,gB]
 | (with_reducible refine aC hQ ?_;simp only [ay,az,Option.some.injEq,exists_eq_left',go_sem,hF,hP,gA,gB];repeat' (first | exact Ok.out | with_reducible refine aH ?_ ?_ | (simp;done))))
  refine Sem.seq (Sem.sort (k:=5) (t:=0) (l:=out) hB (by decide) (by decide) (by decide) rfl rfl (by omega) ?_)
  show Sem _ _ _ _ _ _ _
  refine Sem.seq (Sem.compact (k:=5) (t:=0) (l:=lT out) hB (by decide) rfl (by rw [Et];rfl) (by rw [Et];omega) ?_)
  rw [Bn]
  have aqt:f.calls=jN out:=by unfold Pc.calls;rw [hR]
  rw [aqt]at hQ
  refine iz (ac:= .ret) (Q:=Q) (tm:= [(32, .slice (.tok 0) 1 ((jN out).map encStr)),(4, .slice (.tok 0) 1 ((jN out).map encStr))]) (s:=⟨[],[some (jN out).length]⟩) ?_
  repeat' (first
 | simp only [go_sem,hF,hP,gA,gB]
 | (with_reducible refine aC hQ ?_;simp only [ay,az,Option.some.injEq,exists_eq_left',go_sem,hF,hP,gA,gB];repeat' (first | exact Ok.out | with_reducible refine aH ?_ ?_ | (simp;done))))
end Go.Abs

/-! Tc2 -/

namespace Go.Abs
set_option maxRecDepth 8000
open Go.Proofs
theorem GX {name:aD} : ∀ {l:List Pc},name∈l.map (·.name)→∃ f,jl name l=some f
 | f::l,h=>by
  simp only [jl]
  cases e:(f.name==name)
  ·simp only [Bool.false_eq_true,if_false]
   refine GX ?_
   rcases List.mem_cons.1 h with h | h
   ·rw [h]at e;simp at e
   ·exact h
  ·exact⟨f,rfl⟩
theorem GY {p:Pg} {f:Pc} {procs:List aD} : ∀ {l:List Sm},xk p f procs l=none→∀ v∈l,v.known p f procs=true
 | v::l,h,w,m=>by
  simp only [xk]at h
  split at h
  ·rename_i e
   rcases List.mem_cons.1 m with rfl | m
   ·exact e
   ·exact GY h w m
  ·cases h
theorem GZ {p:Pg} {procs:List aD} : ∀ {l:List Pc},((rr p procs l).1==0)=true→∀ f∈l,ek (p.globals++f.own)=false∧∀ v∈Sm.cD f.body,v.known p f procs=true
 | g::l,h,f,m=>by
  simp only [rr]at h
  split at h
  ·cases h
  ·rename_i e
   split at h
   ·cases h
   ·rename_i e2
    rcases List.mem_cons.1 m with rfl | m
    ·exact⟨by simpa using e,GY e2⟩
    ·exact GZ h f m
theorem C9 {p:Pg} (h:(p.scope.1==0)=true):ek p.globals=false∧ek p.pn=false∧p.oX=false∧∀ f∈p.procs,ek (p.globals++f.own)=false∧∀ v∈Sm.cD f.body,v.known p f p.pn=true:=by
 unfold Pg.scope at h
 split at h
 ·split at h
  ·cases h
  ·rename_i e
   simp only [Bool.or_eq_true,not_or,Bool.not_eq_true]at e
   exact⟨e.1,e.2.1,e.2.2,GZ h⟩
 ·cases h
theorem xn {x:aD} : ∀ {l:List Sm},x∈lH l↔∃ v∈l,v.kind=4∧v.proc=x
 | []=>by simp [lH]
 | v::l=>by
  simp only [lH]
  cases e:(v.kind==4)
  ·have:v.kind≠4:=by simpa using e
   simp [this,xn (l:=l)]
  ·have:v.kind=4:=by simpa using e
   simp only [if_true,List.mem_cons,xn (l:=l),exists_eq_or_imp,this,true_and]
   constructor
   ·rintro(h | h)
    ·exact .inl h.symm
    ·exact .inr h
   ·rintro(h | h)
    ·exact .inl h.symm
    ·exact .inr h
theorem Bp {f:Pc} {x:aD} : x∈f.calls↔∃ v∈Sm.cD f.body,v.kind=4∧v.proc=x:=by
 unfold Pc.calls;rw [(j7 _).2,xn]
theorem xo {p:Pg} (h:(p.scope.1==0)=true) {f:Pc} (hf:f∈p.procs) {x:aD} (m:x∈f.calls) : ∃ g,p.find x=some g:=by
 obtain⟨v,hv,h4,rfl⟩:=Bp.1 m
 have hk:=((C9 h).2.2.2 f hf).2 v hv
 simp only [Sm.known,h4,Bool.and_eq_true,Bool.or_eq_true]at hk
 rcases hk.2 with h | ⟨_,h⟩
 ·simp at h
 ·exact GX ((fF _ _).1 h)
def nY (p:Pg) (x:aD):List aD:=match p.find x with | some f=>f.calls | none=> []
def sf (out:List aD):List aD→List aD
 | []=>out
 | x::l=>sf (sK out x) l
def mz (p:Pg):Nat→Nat→List aD→List aD
 | 0,_,out=>out
 | n+1,i,out=>match out[i]? with
  | some x=>mz p n (i+1) (sf out (nY p x))
  | none=>out
def Pg.work (p:Pg) (name:aD):List aD:=mz p (p.procs.length+1) 0 [name]
def Good (p:Pg) (out:List aD):Prop:=out.Nodup∧∀ x∈out,∃ f,p.find x=some f
theorem Good.len {p:Pg} {out:List aD} (h:Good p out):out.length≤p.procs.length:=by
 have:=wx out p.pn h.1 fun x m=>by
  obtain⟨f,hf⟩:=h.2 x m
  obtain⟨h1,h2⟩:=qs hf
  rw [← h2];exact List.mem_map_of_mem h1
 simpa [Pg.pn]using this
theorem Good.spk {p:Pg} {out:List aD} (h:Good p out) {x:aD} (hx : ∃ f,p.find x=some f):Good p (sK out x):=by
 unfold sK
 split
 ·exact h
 ·rename_i e
  have:x∉out:=fun m=>e ((fF _ _).2 m)
  refine⟨List.nodup_append.2 ⟨h.1,by simp,fun a ha b hb e'=> ?_⟩,fun y hy=> ?_⟩
  ·have hbx:b=x:=by simpa using hb
   rw [e',hbx]at ha;exact this ha
  ·rcases List.mem_append.1 hy with hy | hy
   ·exact h.2 y hy
   ·have:y=x:=by simpa using hy
    subst this;exact hx
theorem Good.add {p:Pg} : ∀ {l out:List aD},Good p out→(∀ x∈l,∃ f,p.find x=some f)→Good p (sf out l)
 | [],out,h,_=>h
 | x::l,out,h,hx=>Good.add (l:=l) (out:=sK out x) (Good.spk h (hx x List.mem_cons_self)) fun y m=>hx y (List.mem_cons_of_mem _ m)
end Go.Abs

/-! Tc3 -/

namespace Go.Abs
set_option maxRecDepth 8000
open Go.Proofs
def tgB:Bool→Tag
 | true=> .tok 0
 | false=> .full
def tkB:Bool→Nat→List (Option Nat)
 | true,n=> [some n]
 | false,_=> []
end Go.Abs

/-! Bsl -/

namespace Go.Abs
def zi:AI→AI
 | .op d g (.cQ z k n ps)=> .op d g (.uK z k n ps)
 | a=>a
section
variable {P:Program}
theorem Ln {nt:Nat} {ops:Array Oper} {i:Nat} {o:Oper} {ai:AI} (hi:ops[i]? = some o) (hc:cI P nt ops o=some ai)
 {M:Map} {s:St} {w:World} {tm:Tm} {act:Act} (r:Rel M s w) (j9:Laid M s w) (ht:lL M s tm act.tmps) {K':Tm→St→Prop} (h:iM P [zi ai] K' tm s)
 {K:Act→World→Prop} {Q:Exit→Act→World→Prop}
 (hK : ∀ d v s1 w1 M1,K' (tm.put ai.dst d) s1→Ext M s w M1 s1 w1→Rel M1 s1 w1→RD M1 s1 d v→K (act.put o.dst v) w1):wpOp P ops Q i K act w:=by
 by_cases hb : ∃ d g z k n ps,ai = .op d g (.cQ z k n ps)
 ·obtain⟨d0,g0,z,k,n,ps,rfl⟩:=hb
  obtain⟨g,hg,_,hb⟩:=AU hc
  rw [sY hb]at hK
  simp only [wpOp,hi]
  have skip:K' (tm.put o.dst (.tuple [])) s→K (act.put o.dst Go.undef) w:=fun hk=>hK _ _ _ _ _ hk (Ext.refl M s w) r .undef
  have hd:=sY hb
  simp only [AI.dst]at hd
  subst hd
  have nS:Dq P o=some (.cQ z k n ps)∧g0=g:=by
   unfold sn at hb
   split at hb
   ·split at hb
    ·obtain⟨xs,_,h⟩:=map_some hb;cases h
    ·cases hb
   ·obtain⟨xs,_,h⟩:=map_some hb;cases h
   ·split at hb
    ·cases hb
    ·split at hb
     ·rename_i nS
      simp only [Option.some.injEq,AI.op.injEq,true_and]at hb
      obtain⟨h1,h2⟩:=hb
      split at h2
      ·cases h2
      ·cases h2;exact⟨nS,h1.symm⟩
     ·rename_i ao eH nS
      simp only [Option.some.injEq,AI.op.injEq,true_and]at hb
      obtain⟨h1,h2⟩:=hb
      subst h2
      exact⟨nS,h1.symm⟩
     ·cases hb
  obtain⟨nS,rfl⟩:=nS
  simp only [zi,iM]at h
  rcases jL hg ht h with ⟨hw,hA⟩ | ⟨hw,hB⟩
  ·simp only [hw,if_true]
   left
   split at hA
   ·rename_i d s' qy
    obtain⟨v,w',M',du,r',hv,e'⟩:=yF nS r ht qy
    unfold Oper.wp
    rcases du with du | ⟨du,rfl⟩
    ·rw [du,Oper.upon_value]
     exact hK _ _ _ _ _ hA e' r' hv
    ·rw [du,Oper.upon_skip]
     exact hK _ _ _ _ _ hA e' r' hv
   ·exact hA.elim
  ·simp only [hw]
   exact skip hB
 ·have hs:zi ai=ai:=by
   unfold zi
   split
   ·rename_i d g z k n ps;exact absurd ⟨d,g,z,k,n,ps,rfl⟩ hb
   ·rfl
  rw [hs]at h
  exact wQ hi hc r j9 ht h hK
theorem Zn {a:AI} {r:List AI} {K:Tm→St→Prop} {tm:Tm} {s:St} (h:iM P (a::r) K tm s):iM P [a] (iM P r K) tm s:=by
 cases a <;> exact h
theorem G0 {B:fz} {nt:Nat} {ops:Array Oper} {Q:Exit→Tm→St→Prop} : ∀ (l:List Nat) (ol:List Oper) (is:List AI),l.map (ops[·]?)=ol.map some→qL P nt ops ol=some is→
 ∀ (tm:Tm) (s:St) (act:Act) (w:World),iM P (is.map zi) (Q .normal) tm s→Holds B nt tm s act w→wpOps P ops (pC B nt Q) l act w
 | [],[],is,_,hc,tm,s,act,w,h,hh=>by cases hc;exact⟨tm,s,h,hh⟩
 | [],_::_,_,hl,_,_,_,_,_,_,_=>by simp at hl
 | _::_,[],_,hl,_,_,_,_,_,_,_=>by simp at hl
 | i::l,o::ol,is,hl,hc,tm,s,act,w,h,hh=>by
  simp only [List.map_cons,List.cons.injEq]at hl
  obtain⟨hi,hl⟩:=hl
  unfold qL at hc
  split at hc
  ·rename_i ai Qa h1 h2
   cases hc
   obtain⟨M,e,r,ht,hn,hd⟩:=hh
   have qk:=xL h1
   have hdd:=sZ h1
   rw [List.map_cons]at h
   have key:=Ln (K:=fun act w=>wpOps P ops (pC B nt Q) l act w) (Q:=pC B nt Q) hi h1 r (B.laid.ext e) ht (Zn h) (fun d v s1 w1 M1 hk e1 r1 hv=>
    G0 (Q:=Q) l ol Qa hl h2 _ _ _ _ hk (hdd ▸ Holds.put e ht hn hd qk e1 r1 hv))
   simpa only [wpOps,wpOp,hi]using key
  ·cases hc
theorem Sem.swap {B:fz} {nt:Nat} {is:List AI} {Q:Exit→Tm→St→Prop} {tm:Tm} {s:St} (h:gD P B nt (.run (is.map zi)) Q tm s):Sem P B nt (.run is) Q tm s:=by
 intro c hc act w hh
 obtain⟨id,ops,rfl,hi⟩:=ld hc
 refine wp_region ?_
 exact G0 _ _ is (AQ ops) hi tm s act w (n3 h) hh
end
end Go.Abs

/-! Tc4 -/

namespace Go.Abs
set_option maxRecDepth 8000
open Go.Proofs
theorem Pb {l:List aD} (h:l.Nodup):lT l=jN l:=by
 refine xl ?_ (j7 l).1 fun x=> ?_
 ·have h1:=GV l
  have h2:(lT l).Nodup:=(List.mergeSort_perm l _).nodup_iff.2 h
  refine(List.pairwise_and_iff.2 ⟨h1,h2⟩).imp fun {a b} RH=> ?_
  rcases yk a b with e | e | e
  ·exact e
  ·exact absurd e RH.2
  ·rw [RH.1]at e;cases e
 ·rw [(j7 l).2];exact(List.mergeSort_perm l _).mem_iff
theorem Bq {p:Pg} (ll:(p.scope.1==0)=true) : ∀ (n i:Nat) (out:List aD),Good p out→Good p (mz p n i out)
 | 0,i,out,h=>h
 | n+1,i,out,h=>by
  simp only [mz]
  split
  ·rename_i x hx
   obtain⟨g,hg⟩:=h.2 x (List.mem_of_getElem? hx)
   refine Bq ll n _ _ (h.add fun y m=> ?_)
   unfold nY at m
   rw [hg]at m
   exact xo ll (qs hg).1 m
  ·exact h
theorem zj {p:Pg} {name:aD} {f:Pc} (hf:p.find name=some f):Good p [name]:=
 ⟨by simp,fun x m=>by
  have:x=name:=by simpa using m
  subst this;exact⟨f,hf⟩⟩
theorem Zo {p:Pg} (h:p.kA) (ll:(p.scope.1==0)=true) {name:aD} {f:Pc} (hf:p.find name=some f) (s:St):aB Tryz.prog w7 [.dG (iA p) 0, .str name] s (.slice .shared 1 ((jN (p.work name)).map encStr)) s:=by
 refine aB.pure ?_ (by simp [D.bp,D.ok,zc]) (by simp only [D.ok,Tag.ok,eD];rfl) s
 obtain⟨tP,ta,zW⟩:=h.procs
 obtain⟨R,hR⟩ : ∃ R,p.work name=R:=⟨_,rfl⟩
 have hgR:Good p R:=hR ▸ Bq ll _ _ _ (zj hf)
 rw [hR, ← Pb hgR.1]
 unfold Pg.work at hR
 have hg0:Good p [name]:=zj hf
 have hRl:=hgR.len
 unfold S0
 obtain⟨fn,zY,Cu⟩:=HJ
 refine aB.intro ⟨fn,zY,Cu⟩ (Nat.le_of_ble_eq_true rfl) fun B hB=> ?_
 generalize hQ:iP (⟨[],[]⟩:St).aw.length (⟨[],[]⟩:St).aA.length _ _ (⟨[],[]⟩:St)=Q
 have⟨hF,hP,gA,gB⟩:=bF
 refine Sem.kE ?_
 repeat' (first
 | simp only [go_sem,hF,hP,gA,gB]
 | (with_reducible first | refine bq fun hc=> ?_ | refine br fun hc=> ?_ | refine bt (fun hc=> ?_) fun hc=> ?_) <;> (try simp only [hc,bs, ↓reduceIte]at h) <;> try simp only [hc]
 | (with_reducible refine aC hQ ?_;exact jR)
 | (cases h;done))
 refine Sem.seq (Sem.swap ?_)
 simp only [List.map_cons,List.map_nil,zi]
 repeat' (first
 | simp only [go_sem,hF,hP,gA,gB]
 | (with_reducible first | refine bq fun hc=> ?_ | refine br fun hc=> ?_ | refine bt (fun hc=> ?_) fun hc=> ?_) <;> (try simp only [hc,bs, ↓reduceIte]at h) <;> try simp only [hc]
 | (with_reducible refine aC hQ ?_;exact jR)
 | (cases h;done))
 refine Sem.kE ?_
 repeat' (first
 | simp only [go_sem,hF,hP,gA,gB]
 | (with_reducible first | refine bq fun hc=> ?_ | refine br fun hc=> ?_ | refine bt (fun hc=> ?_) fun hc=> ?_) <;> (try simp only [hc,bs, ↓reduceIte]at h) <;> try simp only [hc]
 | (with_reducible refine aC hQ ?_;exact jR)
 | (cases h;done))
 refine cO 0 1 (bh.ind (ι:=Nat×Nat×List aD×Nat) (fun i=>mz p i.1 i.2.1 i.2.2.1=R∧Good p i.2.2.1∧i.1+i.2.1=p.procs.length+1∧i.2.2.2=i.2.2.1.length) (fun i=>i.1)
  (fun i=> [(0, .dG (iA p) 0),(5, .slice (.tok 0) 1 (i.2.2.1.map encStr)),(6, .int .i64 (i.2.1:Int))]) (fun i=>⟨[],[some i.2.2.2]⟩) ?_ (p.procs.length+1,0,[name],1) ⟨hR,hg0,rfl,rfl⟩)
 rintro⟨n,i,out,no⟩ ⟨h1,h2,h3,h4⟩ IH
 dsimp only at h1 h2 h3 h4
 subst h4
 have kO:=h2.len
 cases hx:out[i]? with
 | none=>
  have hF:decide ((i:Int)<(out.length:Int))=false:=by have:=List.getElem?_eq_none_iff.1 hx;simp;omega
  have:R=out:=by
   cases n with
   | zero=>simpa [mz]using h1.symm
   | succ n=>simp only [mz,hx]at h1;exact h1.symm
  subst this
  repeat' (first
 | simp only [go_sem,hF,hP,gA,gB]
 | (with_reducible first | refine bq fun hc=> ?_ | refine br fun hc=> ?_ | refine bt (fun hc=> ?_) fun hc=> ?_) <;> (try simp only [hc,bs, ↓reduceIte]at h) <;> try simp only [hc]
 | (with_reducible refine aC hQ ?_;exact jR)
 | (cases h;done))
  refine Sem.seq (Sem.sort (k:=5) (t:=0) (l:=R) hB (by decide) (by decide) (by decide) rfl rfl (by omega) ?_)
  refine iz (ac:=ack) (Q:=Q) (tm:= [(5, .slice (.tok 0) 1 ((lT R).map encStr))]) (s:=⟨[],[some R.length]⟩) ?_
  repeat' (first
 | simp only [go_sem,hF,hP,gA,gB]
 | (with_reducible first | refine bq fun hc=> ?_ | refine br fun hc=> ?_ | refine bt (fun hc=> ?_) fun hc=> ?_) <;> (try simp only [hc,bs, ↓reduceIte]at h) <;> try simp only [hc]
 | (with_reducible refine aC hQ ?_;exact jR)
 | (cases h;done))
 | some x=>
  have qz:=(List.getElem?_eq_some_iff.1 hx).1
  have hF:decide ((i:Int)<(out.length:Int))=true:=by simp;omega
  have Cj:i<4611686018427387904:=by omega
  cases n with
  | zero=>omega
  | succ n=>
  simp only [mz,hx]at h1
  obtain⟨g,Ew⟩:=h2.2 x (List.mem_of_getElem? hx)
  have hgm:=(qs Ew).1
  have XZ:=fun s=>Zm h Ew s
  have hcn:nY p x=g.calls:=by unfold nY;rw [Ew]
  rw [hcn]at h1
  have hth : ∀ y∈g.calls,∃ f,p.find y=some f:=fun y m=>xo ll hgm m
  have ayo:g.calls.length≤p.procs.length:=Good.len ⟨uC (j7 _).1,hth⟩
  obtain⟨W,hW⟩ : ∃ W,sf out g.calls=W:=⟨_,rfl⟩
  rw [hW]at h1
  repeat' (first
 | simp only [go_sem,hF,hP,gA,gB,hx]
 | (with_reducible refine CU (XZ _) ?_)
 | (with_reducible first | refine bq fun hc=> ?_ | refine br fun hc=> ?_ | refine bt (fun hc=> ?_) fun hc=> ?_) <;> (try simp only [hc,bs, ↓reduceIte]at h) <;> try simp only [hc]
 | (with_reducible refine aC hQ ?_;(try cases h);simp only [ay,az,bu,bw,go_sem,hF,hP,gA,gB,hx];try exact kb)
 | (cases h;done))
  refine cO 0 1 (bh.ind (ι:=List aD×Nat×List aD×Nat) (fun j=>g.calls.drop j.2.1=j.1∧sf j.2.2.1 j.1=W∧Good p j.2.2.1∧j.2.2.2=j.2.2.1.length) (fun j=>j.1.length)
   (fun j=> [(0, .dG (iA p) 0),(5, .slice (.tok 0) 1 (j.2.2.1.map encStr)),(6, .int .i64 (i:Int)),(22, .slice .shared 1 (g.calls.map encStr)),(23, .int .i64 (g.calls.length:Int)),(24, .int .i64 (j.2.1:Int))]) (fun j=>⟨[],[some j.2.2.2]⟩) ?_ (g.calls,0,out,out.length) ⟨rfl,hW,h2,rfl⟩)
  clear hW
  rintro⟨rest,k,cB,n'⟩ ⟨j1,j2,j3,j4⟩ XV
  dsimp only at j1 j2 j3 j4
  subst j4
  have ayp:=j3.len
  cases rest with
  | nil=>
   have adi:=drop_nil j1
   simp only [sf]at j2
   subst j2
   repeat' (first
 | simp only [go_sem,hF,hP,gA,gB,adi]
 | (with_reducible first | refine bq fun hc=> ?_ | refine br fun hc=> ?_ | refine bt (fun hc=> ?_) fun hc=> ?_) <;> (try simp only [hc,bs, ↓reduceIte]at h) <;> try simp only [hc]
 | (with_reducible refine aC hQ ?_;(try cases h);simp only [ay,az,bu,bw,go_sem,hF,hP,gA,gB,adi];try exact kb)
 | (cases h;done))
   refine dH 0 1 ?_ ?_ (IH (n,i+1,cB,cB.length) ⟨h1,j3,by dsimp only;omega,rfl⟩ (Nat.lt_succ_self _))
   ·(simp only [go_sem,hF,hP,gA,gB,aJ Cj];try exact bH)
   ·(simp only [go_sem,hF,hP,gA,gB,aJ Cj];try exact bH)
  | cons y rest=>
   obtain⟨mh,LY,td,jg4⟩:=drop_cons j1
   have qD:k<4611686018427387904:=by omega
   have gA:(cB.length+1)*17≤bl:=by unfold bl;omega
   have zZ:=fun g s=>jk (l:=cB) (by omega) y g s
   have hy:=hth y (List.mem_of_getElem? mh)
   have tW:=j3.spk hy
   simp only [sf]at j2
   rcases Bool.eq_false_or_eq_true (dX cB y)with c1 | c1
   ·simp only [sK,c1,if_true]at j2
    repeat' (first
 | simp only [go_sem,hF,hP,gA,gB,td,mh,c1]
 | (with_reducible refine CU (zZ _ _) ?_)
 | (with_reducible first | refine bq fun hc=> ?_ | refine br fun hc=> ?_ | refine bt (fun hc=> ?_) fun hc=> ?_) <;> (try simp only [hc,bs, ↓reduceIte]at h) <;> try simp only [hc]
 | (with_reducible refine aC hQ ?_;(try cases h);simp only [ay,az,bu,bw,go_sem,hF,hP,gA,gB,td,mh,c1];try exact kb)
 | (cases h;done))
    refine dH 0 1 ?_ ?_ (XV (rest,k+1,cB,cB.length) ⟨LY,j2,j3,rfl⟩ (Nat.lt_succ_self _))
    ·(simp only [go_sem,hF,hP,gA,gB,aJ qD];try exact bH)
    ·(simp only [go_sem,hF,hP,gA,gB,aJ qD];try exact bH)
   ·simp only [sK,c1,Bool.false_eq_true,if_false]at j2 tW
    repeat' (first
 | simp only [go_sem,hF,hP,gA,gB,td,mh,c1]
 | (with_reducible refine CU (zZ _ _) ?_)
 | (with_reducible first | refine bq fun hc=> ?_ | refine br fun hc=> ?_ | refine bt (fun hc=> ?_) fun hc=> ?_) <;> (try simp only [hc,bs, ↓reduceIte]at h) <;> try simp only [hc]
 | (with_reducible refine aC hQ ?_;(try cases h);simp only [ay,az,bu,bw,go_sem,hF,hP,gA,gB,td,mh,c1];try exact kb)
 | (cases h;done))
    refine dH 0 1 ?_ ?_ (XV (rest,k+1,cB++ [y],cB.length+1) ⟨LY,j2,tW,by simp⟩ (Nat.lt_succ_self _))
    ·(simp only [go_sem,hF,hP,gA,gB,aJ qD,List.map_append,List.map_cons,List.map_nil,encStr];try exact bH)
    ·(simp only [go_sem,hF,hP,gA,gB,aJ qD,List.map_append,List.map_cons,List.map_nil,encStr];try exact bH)
end Go.Abs

/-! Tc5 -/

namespace Go.Abs
set_option maxRecDepth 8000
open Go.Proofs
theorem J1 (name:aD) : ∀ l:List Pc,l.any (fun f=>f.name==name)=(jl name l).isSome
 | []=>rfl
 | f::l=>by
  simp only [List.any_cons,jl]
  cases e:(f.name==name)
  ·simp [J1 name l]
  ·simp
theorem Vu (name:aD) (f:Pc):aB Tryz.prog om ([.agg (bG f)]++ [.ptr 0 0]) ⟨[[.str name]],[]⟩ (.bool (f.name==name)) ⟨[[.str name]],[]⟩:=by
 show aB Tryz.prog om [.agg (bG f), .ptr 0 0] _ _ _
 refine aB.go Ca rfl fun B Q hB hQ=> ?_
 have⟨hF,hP,gA,gB⟩:=bF
 repeat' (first
 | simp only [go_sem,hF,hP,gA,gB]
 | (with_reducible refine aC hQ ?_;simp only [ay,az,Option.some.injEq,exists_eq_left',go_sem,hF,hP,gA,gB];repeat' (first | exact Ok.out | with_reducible refine aH ?_ ?_ | (simp;done))))
def Pg.sg (p:Pg) (name:aD):Option Pc:=if p.scope.1==0 then p.find name else none
theorem Vv {p:Pg} (h:p.kA) (name:aD) (s:St):aB Tryz.prog tB [.agg (bA p), .str name] s (.bool (p.sg name).isSome) s:=by
 refine aB.pure ?_ (by simp [D.bp,D.ok,gv]) rfl s
 obtain⟨tP,ta,zW⟩:=h.procs
 have tO:=fun s=>vv h s
 have hi:=fun {s:St} {o:Nat} (ho:s.aw[o]? = some [.str name])=>Bg (Af (l:=p.procs) (f:=om) (row:= [.str name]) (b:=fun f:Pc=>f.name==name) (by omega) rfl (by with_unfolding_all rfl) (fun x _=>Vu name x)) rfl (vV _) rfl ho
 have ik:=fun {s:St} {o:Nat} (ho:s.aw[o]? = some [.str name])=>(show aB Tryz.prog gT [.slice .shared 5 (p.procs.map bG), .gj 164 [.ptr o 0]] s (.bool (p.procs.any fun f:Pc=>f.name==name)) s from hi ho)
 simp only [J1]at ik
 unfold Pg.sg Pg.find
 unfold S0
 rcases Bool.eq_false_or_eq_true (p.scope.1==0)with b1 | b1
 ·simp only [b1,if_true]
  refine aB.go wb rfl fun B Q hB hQ=> ?_
  have⟨hF,hP,gA,gB⟩:=bF
  repeat' (first
 | simp only [go_sem,hF,hP,gA,gB,b1]
 | (with_reducible refine CU (tO _) ?_)
 | (with_reducible refine CU (ik (by with_unfolding_all rfl)) ?_)
 | (with_reducible refine aC hQ ?_;simp only [ay,az,Option.some.injEq,exists_eq_left',go_sem,hF,hP,gA,gB];repeat' (first | exact Ok.out | with_reducible refine aH ?_ ?_ | (simp;done))))
 ·simp only [b1,Bool.false_eq_true,if_false,Option.isSome_none]
  refine aB.go wb rfl fun B Q hB hQ=> ?_
  have⟨hF,hP,gA,gB⟩:=bF
  repeat' (first
 | simp only [go_sem,hF,hP,gA,gB,b1]
 | (with_reducible refine CU (tO _) ?_)
 | (with_reducible refine CU (ik (by with_unfolding_all rfl)) ?_)
 | (with_reducible refine aC hQ ?_;simp only [ay,az,Option.some.injEq,exists_eq_left',go_sem,hF,hP,gA,gB];repeat' (first | exact Ok.out | with_reducible refine aH ?_ ?_ | (simp;done))))
def Pg.aw4 (p:Pg) (name:aD):List aD:=match p.sg name with | some f=>f.calls | none=> []
def Pg.aqu (p:Pg) (name:aD):List aD:=match p.sg name with | some _=>jN (p.work name) | none=> []
theorem Br {p:Pg} {name:aD} {f:Pc} (h:p.sg name=some f):(p.scope.1==0)=true∧p.find name=some f:=by
 unfold Pg.sg at h
 split at h
 ·exact⟨by assumption,h⟩
 ·cases h
end Go.Abs
