/-
  What is proved here: part 3 of the road to the claim (TMay3, TMay4, MayFine, MayEq, Nm1, Nm2, Nm3, MayEq2, Tree1, Tree2, Sc1, Sc2, Sc3, ScP, Sc4, Rng, FineM, Sc5, Ar1, Ar2, Ar3, Srt1, Shelf, SortR, SrtP, Tc1).
  No conditions.
-/
import Derived.Test.YtiopamakecmpkaaGreatCkA2
import Derived.Shelf.Small.Bits
import Derived.Shelf.Strconv.Itoa0
import Derived.Shelf.Sort.Plain
import Derived.Shelf.Slices.Turned
import Derived.Ground.Names2Prog
import Derived.Shelf.Slices.Clone
import Derived.Shelf.Slices.CompactS
import Derived.Shelf.Slices.Cells
import Derived.Shelf.Slices.In.SortNone
import Derived.Ground.SlgnProg
import Derived.Shelf.SlicesE.Clone
import Derived.Test.YtiopamakecmpkaaGreatProg
import Derived.Sort.Walk0

set_option linter.unusedSimpArgs false
set_option linter.unusedVariables false

/-! TMay3 -/

namespace Go.Abs
set_option maxRecDepth 8000
open Go.Proofs
def gate (nest:Int) (len n:Nat) (r:Bool×Nat):Bool×Nat:=if decide (nest > 12) && decide ((len:Int) > 0)then(false,n)else r
mutual
def Sm.pN (nest:Int) (n:Nat):Sm→Bool×Nat
 | ⟨id,kind,labels,name,proc,x,has,args,aZ,aP⟩=>
  if decide (((n+1:Nat):Int) > 200) || id != ((n+1:Nat):Int) || !(dG labels) || !(Sm.fields ⟨id,kind,labels,name,proc,x,has,args,aZ,aP⟩)then(false,n+1)
  else if !(gate (nest+1) aZ.length (n+1) (Sm.fp (nest+1) (n+1) aZ)).1 then(false,(gate (nest+1) aZ.length (n+1) (Sm.fp (nest+1) (n+1) aZ)).2)
  else gate (nest+1) aP.length (gate (nest+1) aZ.length (n+1) (Sm.fp (nest+1) (n+1) aZ)).2 (Sm.fp (nest+1) (gate (nest+1) aZ.length (n+1) (Sm.fp (nest+1) (n+1) aZ)).2 aP)
def Sm.fp (nest:Int) (n:Nat):List Sm→Bool×Nat
 | []=>(true,n)
 | s::l=>if !(Sm.pN nest n s).1 then(false,(Sm.pN nest n s).2)else Sm.fp nest (Sm.pN nest n s).2 l
end
def Sm.gu (nest:Int) (n:Nat) (l:List Sm):Bool×Nat:=gate nest l.length n (Sm.fp nest n l)
theorem E6 (nest:Int) (n:Nat) (s:Sm):Sm.pN nest n s =
 if decide (((n+1:Nat):Int) > 200) || s.id != ((n+1:Nat):Int) || !(dG s.labels) || !(s.fields)then(false,n+1)
 else if !(Sm.gu (nest+1) (n+1) s.aZ).1 then(false,(Sm.gu (nest+1) (n+1) s.aZ).2)
 else Sm.gu (nest+1) (Sm.gu (nest+1) (n+1) s.aZ).2 s.aP:=by
 cases s;simp only [Sm.pN,Sm.gu];rfl
mutual
def Sm.sw:Sm→Prop
 | ⟨id,kind,labels,name,proc,x,has,args,aZ,aP⟩=>Sm.jE ⟨id,kind,labels,name,proc,x,has,args,aZ,aP⟩∧Sm.iZ aZ∧Sm.iZ aP
def Sm.iZ:List Sm→Prop
 | []=>True
 | s::l=>s.sw∧Sm.iZ l
end
theorem Cv (s:Sm):s.sw↔s.jE∧Sm.iZ s.aZ∧Sm.iZ s.aP:=by cases s;simp only [Sm.sw]
theorem DC {s:Sm} : ∀ {l:List Sm},Sm.iZ l→s∈l→s.sw
 | y::l,h,m=>by
  simp only [Sm.iZ]at h
  rcases List.mem_cons.1 m with rfl | m
  ·exact h.1
  ·exact DC h.2 m
mutual
theorem XL (nest:Int) (n:Nat) : ∀ s:Sm,n≤201→(Sm.pN nest n s).2≤202∧((Sm.pN nest n s).1=true→(Sm.pN nest n s).2≤200)
 | ⟨id,kind,labels,name,proc,x,has,args,aZ,aP⟩,hn=>by
  simp only [Sm.pN]
  split
  ·exact⟨by dsimp only;omega,fun h=>by cases h⟩
  rename_i hc
  simp only [Bool.or_eq_true,decide_eq_true_eq,not_or]at hc
  have zt:n+1≤200:=by omega
  have g1 : ∀ (nest:Int) (l:List Sm) (m:Nat),m≤200→(Sm.fp nest m l).2≤202∧((Sm.fp nest m l).1=true→(Sm.fp nest m l).2≤200)→
   (gate nest l.length m (Sm.fp nest m l)).2≤202∧((gate nest l.length m (Sm.fp nest m l)).1=true→(gate nest l.length m (Sm.fp nest m l)).2≤200):=by
   intro nest l m hm h
   unfold gate
   split
   ·exact⟨by dsimp only;omega,fun h=>by cases h⟩
   ·exact h
  have h1:=g1 (nest+1) aZ (n+1) zt (Bo (nest+1) (n+1) aZ zt)
  split
  ·exact⟨h1.1,fun h=>by cases h⟩
  rename_i U6
  have h2:=h1.2 (by simpa using U6)
  exact g1 (nest+1) aP _ h2 (Bo (nest+1) _ aP h2)
theorem Bo (nest:Int) (n:Nat) : ∀ l:List Sm,n≤200→(Sm.fp nest n l).2≤202∧((Sm.fp nest n l).1=true→(Sm.fp nest n l).2≤200)
 | [],hn=>by simp only [Sm.fp];exact⟨by omega,fun _=>hn⟩
 | s::l,hn=>by
  simp only [Sm.fp]
  have h1:=XL nest n s (by omega)
  split
  ·exact⟨h1.1,fun h=>by cases h⟩
  rename_i hc
  exact Bo nest _ l (h1.2 (by simpa using hc))
end
theorem E7 {nest:Int} {n:Nat} {l:List Sm} (hn:n≤200):(Sm.gu nest n l).2≤202∧((Sm.gu nest n l).1=true→(Sm.gu nest n l).2≤200):=by
 unfold Sm.gu gate
 split
 ·exact⟨by dsimp only;omega,fun h=>by cases h⟩
 ·exact Bo nest n l hn
theorem XM : ∀ (m:Nat) (l:List Sm),Sm.aS l≤m→Sm.aS l<4611686018427387000→Sm.iZ l→∀ (nest:Int) (n:Nat),0≤nest→nest≤13→n≤200→
 aE Tryz.prog kh [.ptr 0 0, .slice .shared 13 (l.map bd), .int .i64 nest] ⟨[[.int .i64 n]],[]⟩ (.bool (Sm.gu nest n l).1) ⟨[[.int .i64 (Sm.gu nest n l).2]],[]⟩:=by
 intro m
 induction m with
 | zero=>
  intro l h hs hf nest n h0 h13 hn
  cases l with
  | nil=>
   have d1:decide ((0:Int) > 0)=false:=rfl
   have e:Sm.gu nest n [] = (true,n):=by simp [Sm.gu,gate,Sm.fp]
   have z:decide ((0:Int)<0)=false:=rfl
   rw [e]
   refine aE.go q4 rfl fun B Q hB hQ=> ?_
   have⟨hF,hP,hY,hZ⟩:=bq
   repeat' (first
 | simp only [go_sem,hF,hP,hY,hZ,d1,z]
 | (with_reducible refine a8.sj ?_)
 | (with_reducible first | refine bK fun hc=> ?_ | refine bL fun hc=> ?_ | refine bM (fun hc=> ?_) fun hc=> ?_) <;> (try simp only [hc,bs, ↓reduceIte]at h) <;> try simp only [hc]
 | (with_reducible refine aC hQ ?_;simp only [au,aw,bu,bw,go_sem,hF,hP,hY,hZ];repeat' (first | exact Ok.out | with_reducible refine aB ?_ ?_ | (simp;done))))
  | cons s l=>simp only [Sm.aS]at h;omega
 | succ m ih=>
  intro l h hs hf nest n h0 h13 hn
  generalize hR:Sm.gu nest n l=R
  have hlen:=Sm.cZ l
  unfold Sm.gu gate at hR
  have h:=hR
  refine aE.go q4 rfl fun B Q hB hQ=> ?_
  have⟨hF,hP,hY,hZ⟩:=bq
  repeat' (first
 | simp only [go_sem,hF,hP,hY,hZ]
 | (with_reducible first | refine bK fun hc=> ?_ | refine bL fun hc=> ?_ | refine bM (fun hc=> ?_) fun hc=> ?_) <;> (try simp only [hc,bs, ↓reduceIte]at h) <;> try simp only [hc]
 | (with_reducible refine aC hQ ?_;(try cases h);simp only [au,aw,bu,bw,go_sem,hF,hP,hY,hZ];repeat' (first | exact Ok.out | with_reducible refine aB ?_ ?_ | (simp;done))))
  all_goals
   have ad9:l≠ []→nest≤12:=by
    intro fE
    have:l.length≠0:=by simpa using fE
    simp_all <;> omega
   refine cd 1 0 (a8.ind (ι:=List Sm×Nat×Nat) (fun i=>l.drop i.2.1=i.1∧Sm.fp nest i.2.2 i.1=R∧i.2.2≤200) (fun i=>i.1.length)
    (fun i=> [(0, .ptr 0 0),(2, .int .i64 nest),(16, .slice .shared 13 (l.map bd)),(17, .int .i64 (l.length:Int)),(18, .int .i64 (i.2.1:Int))]) (fun i=>⟨[[.int .i64 (i.2.2:Int)]],[]⟩) ?_ (l,0,n) ⟨rfl,h,hn⟩)
   rintro⟨rest,k,j⟩ ⟨h1,h,hj⟩ IH
   dsimp only at h1 h hj
   cases rest with
   | nil=>
    have hF:=drop_nil h1
    simp only [Sm.fp]at h
    repeat' (first
 | simp only [go_sem,hF,hP,hY,hZ]
 | (with_reducible first | refine bK fun hc=> ?_ | refine bL fun hc=> ?_ | refine bM (fun hc=> ?_) fun hc=> ?_) <;> (try simp only [hc,bs, ↓reduceIte]at h) <;> try simp only [hc]
 | (with_reducible refine aC hQ ?_;(try cases h);simp only [au,aw,bu,bw,go_sem,hF,hP,hY,hZ];repeat' (first | exact Ok.out | with_reducible refine aB ?_ ?_ | (simp;done))))
   | cons s rest=>
    obtain⟨hP,g2,hF,g4⟩:=drop_cons h1
    have hY:k<4611686018427387904:=by omega
    have oe:=List.mem_of_getElem? hP
    have e9:=Sm.bV oe
    have axh:=ad9 (by rintro rfl;simp at oe)
    obtain⟨uH,AG,hfe⟩:=(Cv s).1 (DC hf oe)
    have ao3:Sm.aS s.aZ<s.size∧Sm.aS s.aP<s.size:=by cases s;simp only [Sm.size];omega
    have w1:IntKind.wrap .i64 ((j:Int)+1)=((j+1:Nat):Int):=by rw [dc] <;> omega
    have w2:IntKind.wrap .i64 (nest+1)=nest+1:=dc (by omega) (by omega)
    have c1:=fun s=>yK uH.aak uH.Wf s
    have c2:=fun s=>TK uH s
    simp only [Sm.fp,E6]at h
    by_cases FR:j+1≤200
    ·have r1:=E7 (nest:=nest+1) (l:=s.aZ) FR
     have c3:=fun s' ho=>(ih s.aZ (by omega) (by omega) AG (nest+1) (j+1) (by omega) (by omega) FR).kz (s:=s') (o:=0) (by simp [D.bR,D.ok,mF,Tag.ok]) rfl rfl rfl ho
     by_cases zu:(Sm.gu (nest+1) (j+1) s.aZ).1=true
     ·have c4:=fun s' ho=>(ih s.aP (by omega) (by omega) hfe (nest+1) _ (by omega) (by omega) (r1.2 zu)).kz (s:=s') (o:=0) (by simp [D.bR,D.ok,mF,Tag.ok]) rfl rfl rfl ho
      have r2:=E7 (nest:=nest+1) (l:=s.aP) (r1.2 zu)
      simp only [zu]at c3
      simp only [zu,Bool.not_true,Bool.false_eq_true, ↓reduceIte]at h
      repeat' (first
 | simp only [go_sem,hF,hP,hY,hZ,w1,w2,zu]
 | (with_reducible refine CU (c1 _) ?_)
 | (with_reducible refine CU (c2 _) ?_)
 | (with_reducible refine CU (c3 _ rfl) ?_)
 | (with_reducible refine CU (c4 _ rfl) ?_)
 | (with_reducible first | refine bK fun hc=> ?_ | refine bL fun hc=> ?_ | refine bM (fun hc=> ?_) fun hc=> ?_) <;> (try simp only [hc,bs, ↓reduceIte]at h) <;> try simp only [hc]
 | (with_reducible refine aC hQ ?_;(try cases h);simp only [au,aw,bu,bw,go_sem,hF,hP,hY,hZ,w1,w2,zu];repeat' (first | exact Ok.out | with_reducible refine aB ?_ ?_ | (simp;done))))
      refine cd 1 0 (IH (rest,k+1,(Sm.gu (nest+1) (Sm.gu (nest+1) (j+1) s.aZ).2 s.aP).2) ⟨g2,h,r2.2 (by assumption)⟩ (Nat.lt_succ_self _))
     ·have zu:(Sm.gu (nest+1) (j+1) s.aZ).1=false:=by simpa using zu
      simp only [zu]at c3
      simp only [zu,Bool.not_false, ↓reduceIte]at h
      repeat' (first
 | simp only [go_sem,hF,hP,hY,hZ,w1,w2,zu]
 | (with_reducible refine CU (c1 _) ?_)
 | (with_reducible refine CU (c2 _) ?_)
 | (with_reducible refine CU (c3 _ rfl) ?_)
 | (with_reducible first | refine bK fun hc=> ?_ | refine bL fun hc=> ?_ | refine bM (fun hc=> ?_) fun hc=> ?_) <;> (try simp only [hc,bs, ↓reduceIte]at h) <;> try simp only [hc]
 | (with_reducible refine aC hQ ?_;(try cases h);simp only [au,aw,bu,bw,go_sem,hF,hP,hY,hZ,w1,w2,zu];repeat' (first | exact Ok.out | with_reducible refine aB ?_ ?_ | (simp;done))))
    ·have d1:decide (((j+1:Nat):Int) > 200)=true:=by simp;omega
     simp only [d1,Bool.true_or,Bool.not_false, ↓reduceIte]at h
     repeat' (first
 | simp only [go_sem,hF,hP,hY,hZ,w1,w2,d1]
 | (with_reducible refine CU (c1 _) ?_)
 | (with_reducible refine CU (c2 _) ?_)
 | (with_reducible first | refine bK fun hc=> ?_ | refine bL fun hc=> ?_ | refine bM (fun hc=> ?_) fun hc=> ?_) <;> (try simp only [hc,bs, ↓reduceIte]at h) <;> try simp only [hc]
 | (with_reducible refine aC hQ ?_;(try cases h);simp only [au,aw,bu,bw,go_sem,hF,hP,hY,hZ,w1,w2,d1];repeat' (first | exact Ok.out | with_reducible refine aB ?_ ?_ | (simp;done))))
end Go.Abs

/-! TMay4 -/

namespace Go.Abs
set_option maxRecDepth 8000
open Go.Proofs
def Pc.fp (n:Nat):List Pc→Bool
 | []=>true
 | f::l=>
  if decide ((f.params.length:Int) > 8) || decide ((f.vars.length:Int) > 16) || !(isName f.name) || !(dG f.vars) || !(dG f.fin)then false
  else if !(Pm.dZ f.params)then false
  else if !(Sm.gu 1 n f.body).1 then false
  else Pc.fp (Sm.gu 1 n f.body).2 l
def Pg.E8 (p:Pg):Bool:=
 if decide ((p.globals.length:Int) > 16) || decide ((p.procs.length:Int) > 16) || !(dG p.globals)then false
 else Pc.fp 0 p.procs
structure Pg.DD (p:Pg):Prop where
 sz:p.size<4611686018427387000
 E5 : ∀ t∈p.globals,t.length<4611686018427387904
 lU : ∀ f∈p.procs,f.name.length<4611686018427387904∧(∀ t∈f.vars,t.length<4611686018427387904)∧(∀ t∈f.fin,t.length<4611686018427387904)∧∀ a∈f.params,a.name.length<4611686018427387904
 body : ∀ f∈p.procs,Sm.iZ f.body
theorem Qx {p:Pg} (hf:p.DD) (s:St):aE Tryz.prog uc [.agg (bH p)] s (.bool p.E8) s:=by
 refine aE.pure ?_ (by simp only [D.bR,D.ok,fX];rfl) rfl s
 obtain⟨e9,pG,I2,LO⟩:=hf
 have nq:Pc.aS p.procs<4611686018427387000:=by simp only [Pg.size]at e9;omega
 have NR:p.globals.length<4611686018427387904:=by simp only [Pg.size]at e9;omega
 have ad8:p.procs.length<4611686018427387904:=by have:=Pc.cZ p.procs;omega
 have hg:=fun s=>yK NR pG s
 unfold S0
 generalize h:p.E8=R
 unfold Pg.E8 at h
 refine aE.go II rfl fun B Q hB hQ=> ?_
 have⟨hF,hP,hY,hZ⟩:=bq
 repeat' (first
 | simp only [go_sem,hF,hP,hY,hZ]
 | (with_reducible refine CU (hg _) ?_)
 | (with_reducible first | refine bK fun hc=> ?_ | refine bL fun hc=> ?_ | refine bM (fun hc=> ?_) fun hc=> ?_) <;> (try simp only [hc,bs, ↓reduceIte]at h) <;> try simp only [hc]
 | (with_reducible refine aC hQ ?_;(try cases h);simp only [au,aw,bu,bw,go_sem,hF,hP,hY,hZ];repeat' (first | exact Ok.out | with_reducible refine aB ?_ ?_ | (simp;done))))
 refine cd 2 0 (a8.ind (ι:=List Pc×Nat×Nat) (fun i=>p.procs.drop i.2.1=i.1∧Pc.fp i.2.2 i.1=R∧i.2.2≤200) (fun i=>i.1.length)
  (fun i=> [(1, .ptr 0 0),(3, .ptr 1 0),(27, .slice .shared 5 (p.procs.map cb)),(28, .int .i64 (p.procs.length:Int)),(29, .int .i64 (i.2.1:Int))]) (fun i=>⟨[bH p,[.int .i64 (i.2.2:Int)]],[]⟩) ?_ (p.procs,0,0) ⟨rfl,h,Nat.zero_le _⟩)
 rintro⟨rest,k,n⟩ ⟨h1,h,hn⟩ IH
 dsimp only at h1 h hn
 cases rest with
 | nil=>
  have hF:=drop_nil h1
  simp only [Pc.fp]at h
  repeat' (first
 | simp only [go_sem,hF,hP,hY,hZ]
 | (with_reducible first | refine bK fun hc=> ?_ | refine bL fun hc=> ?_ | refine bM (fun hc=> ?_) fun hc=> ?_) <;> (try simp only [hc,bs, ↓reduceIte]at h) <;> try simp only [hc]
 | (with_reducible refine aC hQ ?_;(try cases h);simp only [au,aw,bu,bw,go_sem,hF,hP,hY,hZ];repeat' (first | exact Ok.out | with_reducible refine aB ?_ ?_ | (simp;done))))
 | cons f rest=>
  obtain⟨hP,g2,hF,g4⟩:=drop_cons h1
  have bl:k<4611686018427387904:=by omega
  have oe:=List.mem_of_getElem? hP
  have mZ:=Pc.bV oe
  simp only [Pc.size]at mZ
  obtain⟨we,hfv,hff,hfp⟩:=I2 f oe
  have ra:=AE f.name we
  have hv:=fun s=>yK (by omega) hfv s
  have he:=fun s=>yK (by omega) hff s
  have hb:=fun s' o ho=>(XM _ f.body (Nat.le_refl _) (by omega) (LO f oe) 1 n (by omega) (by omega) hn).kz (s:=s') (o:=o) (by simp [D.bR,D.ok,mF,Tag.ok]) rfl rfl rfl ho
  have hle:=E7 (nest:=1) (l:=f.body) hn
  simp only [Pc.fp]at h
  repeat' (first
 | simp only [go_sem,hF,hP,hY,hZ]
 | (with_reducible refine CU (ra _) ?_)
 | (with_reducible refine CU (hv _) ?_)
 | (with_reducible refine CU (he _) ?_)
 | (with_reducible first | refine bK fun hc=> ?_ | refine bL fun hc=> ?_ | refine bM (fun hc=> ?_) fun hc=> ?_) <;> (try simp only [hc,bs, ↓reduceIte]at h) <;> try simp only [hc]
 | (with_reducible refine aC hQ ?_;exact nX)
 | (cases h;done))
  refine cd 3 0 (a8.ind (ι:=List Pm×Nat) (fun i=>f.params.drop i.2=i.1∧(if !(Pm.dZ i.1)then false else if !(Sm.gu 1 n f.body).1 then false else Pc.fp (Sm.gu 1 n f.body).2 rest)=R) (fun i=>i.1.length)
   (fun i=> [(1, .ptr 0 0),(3, .ptr 1 0),(5, .ptr 2 0),(27, .slice .shared 5 (p.procs.map cb)),(28, .int .i64 (p.procs.length:Int)),(29, .int .i64 (k:Int)),(62, .slice .shared 2 (f.params.map fQ)),(63, .int .i64 (f.params.length:Int)),(64, .int .i64 (i.2:Int))]) (fun i=>⟨[bH p,[.int .i64 (n:Int)],cb f],[]⟩) ?_ (f.params,0) ⟨rfl,h⟩)
  rintro⟨yL,j⟩ ⟨j1,h⟩ p7
  dsimp only at j1 h
  cases yL with
  | nil=>
   have hF:=drop_nil j1
   simp only [Pm.dZ,Bool.not_true,Bool.false_eq_true, ↓reduceIte]at h
   repeat' (first
 | simp only [go_sem,hF,hP,hY,hZ]
 | (with_reducible refine CU (hb _ _ rfl) ?_)
 | (with_reducible first | refine bK fun hc=> ?_ | refine bL fun hc=> ?_ | refine bM (fun hc=> ?_) fun hc=> ?_) <;> (try simp only [hc,bs, ↓reduceIte]at h) <;> try simp only [hc]
 | (with_reducible refine aC hQ ?_;exact nX)
 | (cases h;done))
   refine ct 2 0 ?_ ?_ (IH (rest,k+1,(Sm.gu 1 n f.body).2) ⟨g2,h,hle.2 (by assumption)⟩ (Nat.lt_succ_self _))
   ·(simp only [go_sem,hF,hP,hY,hZ,az bl];try exact aU)
   ·(simp only [go_sem,hF,hP,hY,hZ,az bl];try exact aU)
  | cons a yL=>
   obtain⟨hP,b2,hF,b4⟩:=drop_cons j1
   have FR:j<4611686018427387904:=by omega
   have ha:=AE a.name (hfp a (List.mem_of_getElem? hP))
   simp only [Pm.dZ]at h
   repeat' (first
 | simp only [go_sem,hF,hP,hY,hZ]
 | (with_reducible refine CU (ha _) ?_)
 | (with_reducible first | refine bK fun hc=> ?_ | refine bL fun hc=> ?_ | refine bM (fun hc=> ?_) fun hc=> ?_) <;> (try simp only [hc,bs, ↓reduceIte]at h) <;> try simp only [hc]
 | (with_reducible refine aC hQ ?_;exact nX)
 | (cases h;done))
   refine ct 3 0 ?_ ?_ (p7 (yL,j+1) ⟨b2,h⟩ (Nat.lt_succ_self _))
   ·(simp only [go_sem,hF,hP,hY,hZ,az FR];try exact aU)
   ·(simp only [go_sem,hF,hP,hY,hZ,az FR];try exact aU)
end Go.Abs

/-! MayFine -/

namespace Go.Abs
theorem yN {s:aF} (h:isName s=true):s.length≤8:=by
 cases s with
 | nil=>simp
 | cons c r=>
  simp only [isName]at h
  split at h
  ·cases h
  ·rename_i hc
   simp only [Bool.or_eq_true,decide_eq_true_eq,not_or]at hc
   simp only [List.length_cons];omega
theorem o9 {t:aF} : ∀ {l:List aF},dG l=true→t∈l→isName t=true
 | s::l,h,m=>by
  simp only [dG]at h
  cases hs:isName s
  ·simp [hs]at h
  ·simp [hs]at h
   rcases List.mem_cons.1 m with rfl | m
   ·exact hs
   ·exact o9 h m
theorem I3 {a:Ar} : ∀ {l:List Ar},Ar.dZ l=true→a∈l→a.may=true
 | s::l,h,m=>by
  simp only [Ar.dZ]at h
  cases hs:s.may
  ·simp [hs]at h
  ·simp [hs]at h
   rcases List.mem_cons.1 m with rfl | m
   ·exact hs
   ·exact I3 h m
theorem FT {a:Pm} : ∀ {l:List Pm},Pm.dZ l=true→a∈l→isName a.name=true
 | s::l,h,m=>by
  simp only [Pm.dZ]at h
  cases hs:isName s.name
  ·simp [hs]at h
  ·simp [hs]at h
   rcases List.mem_cons.1 m with rfl | m
   ·exact hs
   ·exact FT h m
mutual
theorem DE : ∀ x:Ex,x.form=true→x.texts
 | ⟨op,n,name,kids⟩,h=>by
  simp only [Ex.form]at h
  split at h
  ·cases h
  ·rename_i hc
   refine⟨?_,BU kids h⟩
   simp only [Bool.or_eq_true,Bool.and_eq_true,Bool.not_eq_true',not_or,not_and,Bool.not_eq_false]at hc
   cases hn:(name == [])
   ·have:=yN (hc.2 hn);omega
   ·simp at hn;subst hn;simp
theorem BU : ∀ l:List Ex,Ex.pz l=true→Ex.vk l
 | [],_=>trivial
 | x::l,h=>by
  simp only [Ex.pz]at h
  cases hx:x.form
  ·simp [hx]at h
  ·simp [hx]at h
   exact⟨DE x hx,BU l h⟩
end
theorem FU {x:Ex} (h:x.may=true):x.texts:=by
 unfold Ex.may at h
 simp only [Bool.and_eq_true]at h
 exact DE x h.2
theorem DF {x:Ex} (h:x.none=true):x.texts:=by
 obtain⟨op,n,name,kids⟩:=x
 simp [Ex.none]at h
 obtain⟨⟨_,h1⟩,h2⟩:=h
 subst h1 h2
 exact⟨by simp,trivial⟩
mutual
theorem Qy {deep bo:Int} {aP:Bool} {out:List It} {i:It} : ∀ s:Sm,i∈fV deep bo aP out s→i∈out∨i.s.size≤s.size
 | ⟨id,kind,labels,name,proc,x,has,args,aZ,e⟩,h=>by
  simp only [fV]at h
  have key:i∈out++ [(⟨⟨id,kind,labels,name,proc,x,has,args,aZ,e⟩,deep,bo,aP⟩:It)]→i∈out∨i.s.size≤(⟨id,kind,labels,name,proc,x,has,args,aZ,e⟩:Sm).size:=by
   intro h
   rcases List.mem_append.1 h with h | h
   ·exact .inl h
   ·simp at h;subst h;exact .inr (Nat.le_refl _)
  split at h
  ·rcases wg e h with h | h
   ·rcases wg aZ h with h | h
    ·exact key h
    ·right;simp only [Sm.size];omega
   ·right;simp only [Sm.size];omega
  ·exact key h
theorem wg {deep bo:Int} {aP:Bool} {out:List It} {i:It} : ∀ l:List Sm,i∈dt deep bo aP out l→i∈out∨i.s.size<Sm.aS l
 | [],h=>by simp only [dt]at h;exact .inl h
 | s::l,h=>by
  simp only [dt]at h
  split at h
  ·rcases wg l h with h | h
   ·rcases Qy s h with h | h
    ·exact .inl h
    ·right;simp only [Sm.aS];omega
   ·right;simp only [Sm.aS];omega
  ·exact .inl h
end
theorem I4 {i:It} : ∀ (l:List Pc) (out:List It),i∈allM out l→i∈out∨i.s.size<Pc.aS l
 | [],out,h=>by simp only [allM]at h;exact .inl h
 | f::l,out,h=>by
  have key:i∈out++f.flat→i∈out∨i.s.size<Pc.aS (f::l):=by
   intro h
   rcases List.mem_append.1 h with h | h
   ·exact .inl h
   ·rcases wg _ h with h | h
    ·simp at h
    ·right;simp only [Pc.aS,Pc.size];omega
  simp only [allM]at h
  split at h
  ·exact key h
  ·rcases I4 l _ h with h | h
   ·exact key h
   ·right;simp only [Pc.aS];omega
theorem DG {i:It} : ∀ (l:List It) (n:Nat),It.dZ n l=true→i∈l→i.s.one=true
 | s::l,n,h,m=>by
  simp only [It.dZ]at h
  split at h
  ·cases h
  ·rename_i hc
   simp only [Bool.or_eq_true,Bool.not_eq_true',not_or,Bool.not_eq_false]at hc
   rcases List.mem_cons.1 m with rfl | m
   ·exact hc.2
   ·exact DG l (n+1) h m
theorem I5 {s:Sm} (h:s.one=true) (hs:s.size<4611686018427387000):s.jE:=by
 unfold Sm.one at h
 split at h
 ·cases h
 split at h
 ·cases h
 split at h
 ·cases h
 split at h
 ·cases h
 rename_i c1 c2 c3 c4
 simp only [Bool.or_eq_true,Bool.and_eq_true,Bool.not_eq_true',not_or,not_and,Bool.not_eq_false,decide_eq_true_eq]at c1 c2 c3 c4
 obtain⟨⟨⟨⟨⟨_,_⟩,ao4⟩,cx⟩,cn⟩,_⟩:=c1
 obtain⟨c21,c22⟩:=c2
 obtain⟨⟨c31,c32⟩,c33⟩:=c3
 have nm : ∀ {t:aF},isName t=true→t.length<4611686018427387904:=fun h=>by have:=yN h;omega
 have e9:1+s.labels.length+s.x.size+Ar.aS s.args≤s.size:=by cases s;simp only [Sm.size];omega
 have sO:=Ar.cZ s.args
 refine⟨fun t ht=>nm (o9 ao4 ht),by omega, ?_, ?_,by omega, ?_,by omega,fun a ha=> ?_⟩
 ·cases hn:s.hasName
  ·cases he:(s.name == [])
   ·exact nm (c22 ⟨hn,he⟩).2
   ·simp at he;rw [he];simp
  ·exact nm (c21 hn)
 ·cases zj:s.o6
  ·rw [zj]at c31
   have:s.proc = []:=by simpa using c31
   rw [this];simp
  ·exact nm (c32 zj)
 ·cases hx:s.vl
  ·exact DF (cn hx)
  ·exact FU (cx hx)
 ·have hm:=I3 c4 ha
  have FV:=Ar.bV ha
  unfold Ar.may at hm
  split at hm
  ·simp only [Bool.and_eq_true]at hm
   exact⟨by omega,DF hm.2,nm hm.1⟩
  ·simp only [Bool.and_eq_true,beq_iff_eq]at hm
   exact⟨by omega,FU hm.2,by rw [hm.1];simp⟩
theorem FW {f:Pc} : ∀ {l:List Pc},Pc.lU l=true→f∈l→isName f.name=true∧dG f.vars=true∧dG f.fin=true∧Pm.dZ f.params=true
 | s::l,h,m=>by
  simp only [Pc.lU]at h
  split at h
  ·cases h
  split at h
  ·cases h
  rename_i c1 c2
  simp only [Bool.or_eq_true,Bool.not_eq_true',not_or,Bool.not_eq_false]at c1 c2
  rcases List.mem_cons.1 m with rfl | m
  ·exact⟨c1.1.1.1.1,c1.1.2,c1.2,c2⟩
  ·exact FW h m
theorem TS {p:Pg} (h:p.may=true) (hs:p.size<4611686018427387000):p.jE:=by
 unfold Pg.may at h
 split at h
 ·cases h
 split at h
 ·cases h
 split at h
 ·cases h
 rename_i c1 c2 c3
 simp only [Bool.or_eq_true,Bool.not_eq_true',not_or,Bool.not_eq_false]at c1 c2
 have nm : ∀ {t:aF},isName t=true→t.length<4611686018427387904:=fun h=>by have:=yN h;omega
 refine⟨hs,fun t ht=>nm (o9 c1.2 ht),fun f hf=> ?_,fun i hi=> ?_⟩
 ·obtain⟨a,b,c,d⟩:=FW c2 hf
  exact⟨nm a,fun t ht=>nm (o9 b ht),fun t ht=>nm (o9 c ht),fun t ht=>nm (FT d ht)⟩
 ·refine I5 (DG _ _ h hi) ?_
  rcases I4 _ _ hi with h1 | h1
  ·simp at h1
  ·simp only [Pg.size]at hs;omega
end Go.Abs

/-! MayEq -/

namespace Go.Abs
theorem Qz {t:aF} (h:isName t=true):t≠ []:=by rintro rfl;cases h
theorem TT (op n:Int) (name:aF) (kids:List Ex):Ex.form ⟨op,n,name,kids⟩=true↔
 lT op=(kids.length:Int)∧(op=1∨n=0)∧0≤n∧(op=2↔name≠ [])∧(name = []∨isName name=true)∧Ex.pz kids=true:=by
 simp only [Ex.form]
 split
 ·rename_i h
  simp only [Bool.or_eq_true,Bool.and_eq_true,bne_iff_ne,ne_eq,decide_eq_true_eq,Bool.not_eq_true']at h
  refine⟨fun h=>(Bool.false_ne_true h).elim,fun⟨h1,h2,h3,h4,h5,_⟩=> ?_⟩
  exfalso
  rcases h with (((h | h) | h) | h) | h
  ·exact h h1
  ·rcases h2 with h2 | h2
   ·exact h.1 h2
   ·exact h.2 h2
  ·omega
  ·by_cases h2:op=2 <;> cases name <;> simp_all
  ·rcases h5 with h5 | h5
   ·subst h5;simp at h
   ·rw [h5]at h;simp at h
 ·rename_i h
  simp only [Bool.or_eq_true,Bool.and_eq_true,bne_iff_ne,ne_eq,decide_eq_true_eq,Bool.not_eq_true',not_or,not_and,Decidable.not_not,Bool.not_eq_false]at h
  obtain⟨⟨⟨⟨h1,h2⟩,h3⟩,h4⟩,h5⟩:=h
  refine⟨fun h=>⟨h1, ?_,by omega, ?_, ?_,h⟩,fun h=>h.2.2.2.2.2⟩
  ·by_cases h:op=1
   ·exact .inl h
   ·exact .inr (h2 h)
  ·by_cases h2:op=2 <;> cases name <;> simp_all
  ·cases name with
   | nil=>exact .inl rfl
   | cons c r=>exact .inr (h5 rfl)
theorem aaz (op n:Int) (name:aF) (kids:List Ex) (k:Int):Ex.dp k ⟨op,n,name,kids⟩=true↔
 1≤k∧(kids.length:Int)=lT op∧(if op=1 then 0≤n∧name = []else if op=2 then n=0∧isName name=true else n=0∧name = []∧Ex.Dz (k - 1) kids=true):=by
 simp only [Ex.dp]
 split
 ·rename_i h
  simp only [Bool.or_eq_true,decide_eq_true_eq,bne_iff_ne,ne_eq]at h
  refine⟨fun h=>(Bool.false_ne_true h).elim,fun⟨h1,h2,_⟩=> ?_⟩
  rcases h with h | h
  ·omega
  ·exact(h h2).elim
 rename_i h
 simp only [Bool.or_eq_true,decide_eq_true_eq,bne_iff_ne,ne_eq,not_or,Decidable.not_not]at h
 have h1:1≤k:=by omega
 simp only [h1,h.2,true_and]
 by_cases o1:op=1
 ·subst o1
  cases name <;> simp
 ·have o1' : ¬ (op==1)=true:=by simpa using o1
  rw [if_neg o1',if_neg o1]
  by_cases o2:op=2
  ·subst o2;simp
  ·have o2' : ¬ (op==2)=true:=by simpa using o2
   rw [if_neg o2',if_neg o2]
   by_cases hn:n=0
   ·subst hn
    cases name <;> simp
   ·simp [hn]
mutual
theorem Wl : ∀ (x:Ex) (k:Int),0≤k→(x.dp k=true↔(x.depth:Int)≤k∧x.form=true)
 | ⟨op,n,name,kids⟩,k,hk=>by
  rw [aaz,TT]
  have hd:Ex.depth ⟨op,n,name,kids⟩=Ex.gI kids+1:=by simp only [Ex.depth]
  rw [hd]
  by_cases h1:1≤k
  ·have ih:=QA kids (k - 1) (by omega)
   by_cases o1:op=1
   ·subst o1
    have ha:lT 1=0:=rfl
    rw [ha,if_pos rfl]
    constructor
    ·rintro⟨_,h2,h3,h4⟩
     have:kids = []:=List.eq_nil_of_length_eq_zero (by omega)
     subst this;subst h4
     simp [Ex.gI,Ex.pz,h3];omega
    ·rintro⟨h2,h3,_,h4,h5,_⟩
     refine⟨h1,h3.symm,h4, ?_⟩
     cases name
     ·rfl
     ·simp at h5
   ·rw [if_neg o1]
    by_cases o2:op=2
    ·subst o2
     have ha:lT 2=0:=rfl
     rw [ha,if_pos rfl]
     constructor
     ·rintro⟨_,h2,h3,h4⟩
      have:kids = []:=List.eq_nil_of_length_eq_zero (by omega)
      subst this;subst h3
      have:=Qz h4
      simp [Ex.gI,Ex.pz,h4,this];omega
     ·rintro⟨h2,h3,h4,_,h5,h6,_⟩
      refine⟨h1,h3.symm,h4.resolve_left o1, ?_⟩
      exact h6.resolve_left (h5.1 rfl)
    ·rw [if_neg o2,ih]
     constructor
     ·rintro⟨_,h2,h3,h4,h5,h6⟩
      subst h3;subst h4
      exact⟨by omega,h2.symm, .inr rfl,Int.le_refl _,by simp [o2], .inl rfl,h6⟩
     ·rintro⟨h2,h3,h4,_,h5,h6,h7⟩
      refine⟨h1,h3.symm,h4.resolve_left o1, ?_,by omega,h7⟩
      exact Decidable.byContradiction fun h=>o2 (h5.2 h)
  ·constructor
   ·rintro⟨h,_⟩;exact(h1 h).elim
   ·rintro⟨h,_⟩;omega
theorem QA : ∀ (l:List Ex) (k:Int),0≤k→(Ex.Dz k l=true↔(Ex.gI l:Int)≤k∧Ex.pz l=true)
 | [],k,hk=>by simp [Ex.Dz,Ex.gI,Ex.pz,hk]
 | x::l,k,hk=>by
  have h1:=Wl x k hk
  have h2:=QA l k hk
  have hd:Ex.gI (x::l)=max x.depth (Ex.gI l):=by simp only [Ex.gI]
  rw [hd]
  simp only [Ex.Dz,Ex.pz]
  cases hx:Ex.dp k x
  ·simp only [Bool.not_false, ↓reduceIte,Bool.false_eq_true,false_iff,not_and]
   intro h3
   have : ¬ ((x.depth:Int)≤k∧x.form=true):=by rw [← h1,hx];simp
   have hf:x.form=false:=by
    cases hf:x.form
    ·rfl
    ·exact(this ⟨by omega,hf⟩).elim
   simp [hf]
  ·have:=h1.1 hx
   simp only [Bool.not_true,Bool.false_eq_true, ↓reduceIte,this.2,h2]
   have h3:=this.1
   refine and_congr_left fun _=> ?_
   omega
end
theorem QB (x:Ex):x.dp 20=x.may:=by
 rw [Bool.eq_iff_iff,Wl x 20 (by omega)]
 unfold Ex.may
 simp only [Bool.and_eq_true,decide_eq_true_eq]
 refine and_congr_left fun _=> ?_
 omega
theorem FX (x:Ex) (b:Bool):vo x b=if b then x.may else x.none:=by
 unfold vo
 rw [QB]
 cases b <;> simp
theorem FY (t:aF) (b:Bool):q9 t b=if b then isName t else t == []:=by
 unfold q9
 cases b <;> simp
theorem BV : ∀ l:List Ar,pB l=Ar.dZ l
 | []=>rfl
 | a::l=>by
  simp only [pB,Ar.dZ,Ar.may,FX,FY,BV l]
  grind
theorem ao5 {α:Type} (l:List α):((l.length:Int)==0) = !(decide ((l.length:Int) > 0)):=by
 cases l with
 | nil=>rfl
 | cons a l=>
  have h1:(((a::l).length:Int)==0)=false:=by simp only [List.length_cons,beq_eq_false_iff_ne];omega
  have h2:decide (((a::l).length:Int) > 0)=true:=by simp only [List.length_cons,decide_eq_true_eq];omega
  rw [h1,h2];rfl
theorem DH (s:Sm):s.one=(dG s.labels && s.fields):=by
 have hk:s.kind=1∨s.kind=2∨s.kind=3∨s.kind=4∨s.kind=5∨s.kind=6∨s.kind=7∨s.kind=8∨s.kind=9∨s.kind=10∨s.kind<1∨s.kind > 10:=by omega
 unfold Sm.one Sm.fields Sm.flags Sm.vl Sm.hasName Sm.o6
 have p1:isName [] = false:=rfl
 rcases hk with h | h | h | h | h | h | h | h | h | h | h | h
 all_goals
  simp only [h,ao5,BV,FX,FY,Sm.Hy,Sm.Hx]
  grind
end Go.Abs

/-! Nm1 -/

namespace Go.Abs
set_option maxRecDepth 8000
open Go.Proofs
mutual
def Ex.iy (out:List aF):Ex→List aF
 | ⟨op,_,name,kids⟩=>Ex.gm (if op==2 && !(dL out name)then out++ [name]else out) kids
def Ex.gm (out:List aF):List Ex→List aF
 | []=>out
 | x::l=>Ex.gm (Ex.iy out x) l
end
def Ex.names (x:Ex):List aF:=if x.may then x.iy []else []
mutual
theorem mg (out:List aF) : ∀ x:Ex,(Ex.iy out x).length≤out.length+x.size
 | ⟨op,n,name,kids⟩=>by
  simp only [Ex.iy,Ex.size]
  have h:=FZ (if op==2 && !(dL out name)then out++ [name]else out) kids
  refine Nat.le_trans h ?_
  split <;> simp <;> omega
theorem FZ (out:List aF) : ∀ l:List Ex,(Ex.gm out l).length≤out.length+Ex.aS l
 | []=>by simp [Ex.gm,Ex.aS]
 | x::l=>by
  simp only [Ex.gm,Ex.aS]
  have h1:=mg out x
  have h2:=FZ (Ex.iy out x) l
  omega
end
def lW (out:List aF) (x:aF):List aF:=if dL out x then out else out++ [x]
def rb (x:aF):List aF→Bool
 | []=>false
 | s::l=>if s==x then true else rb x l
theorem AH (x:aF) : ∀ l:List aF,rb x l=dL l x
 | []=>rfl
 | s::l=>by
  have h1:=gl (s::l) x
  have h2:=gl l x
  have h3:=AH x l
  simp only [rb]
  by_cases e:s=x
  ·subst e;simp only [beq_self_eq_true,if_true];exact(h1.2 List.mem_cons_self).symm
  ·have e':(s==x)=false:=by simp [e]
   simp only [e',Bool.false_eq_true,if_false,h3]
   cases ha:dL l x <;> cases hb:dL (s::l) x <;> simp_all [Ne.symm e]
theorem TU {out:List aF} (hl:out.length<1000000000) (x:aF):aE Tryz.prog n3 [.slice (.tok 0) 1 (out.map encStr), .str x] ⟨[],[some out.length]⟩ (.slice (.tok 0) 1 ((lW out x).map encStr)) ⟨[],[some (lW out x).length]⟩:=by
 rw [lW, ← AH]
 cases h:rb x out
 all_goals
  simp only [Bool.false_eq_true,if_false,if_true]
  refine aE.go v7 rfl fun B Q hB hQ=> ?_
  have⟨hF,hP,hY,hZ⟩:=bq
  have hY:(out.length+1)*17≤bc:=by unfold bc;omega
  repeat' (first
 | simp only [go_sem,hF,hP,hY,hZ]
 | (with_reducible first | refine bK fun hc=> ?_ | refine bL fun hc=> ?_ | refine bM (fun hc=> ?_) fun hc=> ?_) <;> (try simp only [hc,bs, ↓reduceIte]at h) <;> try simp only [hc]
 | (with_reducible refine aC hQ ?_;exact nX)
 | (cases h;done))
  refine cd 0 1 (a8.ind (ι:=List aF×Nat) (fun i=>out.drop i.2=i.1∧rb x i.1=_) (fun i=>i.1.length)
   (fun i=> [(0, .slice (.tok 0) 1 (out.map encStr)),(1, .str x),(7, .slice (.tok 0) 1 (out.map encStr)),(8, .int .i64 (out.length:Int)),(9, .int .i64 (i.2:Int))]) (fun i=>⟨[],[some out.length]⟩) ?_ (out,0) ⟨rfl,h⟩)
  rintro⟨rest,k⟩ ⟨h1,h⟩ IH
  dsimp only at h1 h
  cases rest with
  | nil=>
   have hF:=drop_nil h1
   simp only [rb]at h
   repeat' (first
 | simp only [go_sem,hF,hP,hY,hZ,List.map_append,List.map_cons,List.map_nil,List.length_append,List.length_cons,List.length_nil,encStr]
 | (with_reducible first | refine bK fun hc=> ?_ | refine bL fun hc=> ?_ | refine bM (fun hc=> ?_) fun hc=> ?_) <;> (try simp only [hc,bs, ↓reduceIte]at h) <;> try simp only [hc]
 | (with_reducible refine aC hQ ?_;(try cases h);simp only [au,aw,bu,bw,go_sem,hF,hP,hY,hZ,List.map_append,List.map_cons,List.map_nil,List.length_append,List.length_cons,List.length_nil,encStr];try exact Ai)
 | (cases h;done))
  | cons a rest=>
   obtain⟨hP,g2,hF,g4⟩:=drop_cons h1
   have bl:k<4611686018427387904:=by omega
   simp only [rb]at h
   repeat' (first
 | simp only [go_sem,hF,hP,hY,hZ]
 | (with_reducible first | refine bK fun hc=> ?_ | refine bL fun hc=> ?_ | refine bM (fun hc=> ?_) fun hc=> ?_) <;> (try simp only [hc,bs, ↓reduceIte]at h) <;> try simp only [hc]
 | (with_reducible refine aC hQ ?_;exact nX)
 | (cases h;done))
   refine ct 0 1 ?_ ?_ (IH (rest,k+1) ⟨g2,h⟩ (Nat.lt_succ_self _))
   ·(simp only [go_sem,hF,hP,hY,hZ,az bl];try exact aU)
   ·(simp only [go_sem,hF,hP,hY,hZ,az bl];try exact aU)
theorem TV {out:List aF} (hl:out.length<1000000000) (x:aF) {s:St} {t:Nat} (ht:s.aH[t]? = some (some out.length)):aE Tryz.prog n3 [.slice (.tok t) 1 (out.map encStr), .str x] s (.slice (.tok t) 1 ((lW out x).map encStr)) ⟨s.aG,s.aH.set t (some (lW out x).length)⟩:=
 (TU hl x).L9 (pre:= []) (post:= [_]) rfl rfl (dJ out) (dJ _) ht
abbrev QC (N:Nat):Prop:=∀ (x:Ex),x.size≤N→∀ out:List aF,out.length+x.size≤1000000000→∀ {s:St} {t:Nat},s.aH[t]? = some (some out.length)→
 aE Tryz.prog iO [.agg (bE x), .slice (.tok t) 1 (out.map encStr)] s (.slice (.tok t) 1 ((x.iy out).map encStr)) ⟨s.aG,s.aH.set t (some (x.iy out).length)⟩
theorem aaA {N:Nat} (ih:QC N) {op m:Int} {name:aF} {kids:List Ex} (h:Ex.size ⟨op,m,name,kids⟩≤N+1) {out:List aF} (ho:out.length+Ex.size ⟨op,m,name,kids⟩≤1000000000) :
 aE Tryz.prog iO [.agg (bE ⟨op,m,name,kids⟩), .slice (.tok 0) 1 (out.map encStr)] ⟨[],[some out.length]⟩ (.slice (.tok 0) 1 ((Ex.iy out ⟨op,m,name,kids⟩).map encStr)) ⟨[],[some (Ex.iy out ⟨op,m,name,kids⟩).length]⟩:=by
 obtain⟨R,hG⟩ : ∃ R,Ex.iy out ⟨op,m,name,kids⟩=R:=⟨_,rfl⟩
 rw [hG]
 simp only [Ex.iy]at hG
 simp only [Ex.size]at h ho
 have hlen:kids.length<1000000000:=by have:=Ex.cZ kids;omega
 have hk : ∀ y∈kids,∀ out:List aF,out.length+y.size≤1000000000→∀ {s:St} {t:Nat},s.aH[t]? = some (some out.length)→
  aE Tryz.prog iO [.agg (bE y), .slice (.tok t) 1 (out.map encStr)] s (.slice (.tok t) 1 ((y.iy out).map encStr)) ⟨s.aG,s.aH.set t (some (y.iy out).length)⟩:=fun y hy out ho=>
  ih y (by have:=Ex.bV hy;omega) out ho
 refine aE.go q6 rfl fun B Q hB hQ=> ?_
 have⟨hF,hP,hY,hZ⟩:=bq
 have hY:(out.length+1)*17≤bc:=by unfold bc;omega
 rcases Bool.eq_false_or_eq_true (op==2)with b1 | b1
 ·rcases Bool.eq_false_or_eq_true (dL out name)with b2 | b2
  ·simp only [b1,b2,Bool.not_true,Bool.and_false,Bool.false_eq_true,if_false]at hG
   repeat' (first
 | simp only [go_sem,hF,hP,hY,hZ,b1,b2]
 | (with_reducible refine CU (jq (l:=out) (by omega) name _ _) ?_)
 | (with_reducible refine aC hQ ?_;simp only [au,aw,Option.some.injEq,exists_eq_left',go_sem,hF,hP,hY,hZ];repeat' (first | exact Ok.out | with_reducible refine aB ?_ ?_ | (simp;done))))
   refine cd 1 1 (a8.ind (ι:=List Ex×Nat×List aF×Nat) (fun i=>kids.drop i.2.1=i.1∧Ex.gm i.2.2.1 i.1=R∧i.2.2.1.length+Ex.aS i.1≤1000000000∧i.2.2.2=i.2.2.1.length) (fun i=>i.1.length)
    (fun i=> [(1, .slice (.tok 0) 1 (i.2.2.1.map encStr)),(2, .ptr 0 0),(23, .slice .shared 4 (kids.map bE)),(24, .int .i64 (kids.length:Int)),(25, .int .i64 (i.2.1:Int))]) (fun i=>⟨[bE ⟨op,m,name,kids⟩],[some i.2.2.2]⟩) ?_ (kids,0,out,out.length) ⟨rfl,hG,by simp;omega,by simp⟩)
   rintro⟨rest,k,bC,n'⟩ ⟨h1,h2,h3,h4⟩ IH
   dsimp only at h1 h2 h3 h4
   subst h4
   cases rest with
   | nil=>
    have hF:=drop_nil h1
    simp only [Ex.gm]at h2
    subst h2
    repeat' (first
 | simp only [go_sem,hF,hP,hY,hZ]
 | (with_reducible refine aC hQ ?_;simp only [au,aw,Option.some.injEq,exists_eq_left',go_sem,hF,hP,hY,hZ];repeat' (first | exact Ok.out | with_reducible refine aB ?_ ?_ | (simp;done))))
   | cons y rest=>
    obtain⟨hP,g2,hF,g4⟩:=drop_cons h1
    have bl:k<4611686018427387904:=by omega
    simp only [Ex.gm]at h2
    simp only [Ex.aS]at h3
    have hy:=fun {s:St} {t:Nat} (ht:s.aH[t]? = some (some bC.length))=>hk y (List.mem_of_getElem? hP) bC (by omega) ht
    have hl:=mg bC y
    repeat' (first
 | simp only [go_sem,hF,hP,hY,hZ]
 | (with_reducible refine CU (hy (by with_unfolding_all rfl)) ?_)
 | (with_reducible refine aC hQ ?_;simp only [au,aw,Option.some.injEq,exists_eq_left',go_sem,hF,hP,hY,hZ];repeat' (first | exact Ok.out | with_reducible refine aB ?_ ?_ | (simp;done))))
    refine ct 1 1 ?_ ?_ (IH (rest,k+1,_,_) ⟨g2,h2,by dsimp only;omega,rfl⟩ (Nat.lt_succ_self _))
    ·(simp only [go_sem,hF,hP,hY,hZ,az bl];try exact aU)
    ·(simp only [go_sem,hF,hP,hY,hZ,az bl];try exact aU)
  ·simp only [b1,b2,Bool.not_false,Bool.and_true,if_true]at hG
   repeat' (first
 | simp only [go_sem,hF,hP,hY,hZ,b1,b2]
 | (with_reducible refine CU (jq (l:=out) (by omega) name _ _) ?_)
 | (with_reducible refine aC hQ ?_;simp only [au,aw,Option.some.injEq,exists_eq_left',go_sem,hF,hP,hY,hZ];repeat' (first | exact Ok.out | with_reducible refine aB ?_ ?_ | (simp;done))))
   refine ct 1 1 ?_ ?_ (a8.ind (ι:=List Ex×Nat×List aF×Nat) (fun i=>kids.drop i.2.1=i.1∧Ex.gm i.2.2.1 i.1=R∧i.2.2.1.length+Ex.aS i.1≤1000000000∧i.2.2.2=i.2.2.1.length) (fun i=>i.1.length)
    (fun i=> [(1, .slice (.tok 0) 1 (i.2.2.1.map encStr)),(2, .ptr 0 0),(23, .slice .shared 4 (kids.map bE)),(24, .int .i64 (kids.length:Int)),(25, .int .i64 (i.2.1:Int))]) (fun i=>⟨[bE ⟨op,m,name,kids⟩],[some i.2.2.2]⟩) ?_ (kids,0,(out++ [name]),(out.length+1)) ⟨rfl,hG,by simp;omega,by simp⟩)
   ·(simp only [go_sem,hF,hP,hY,hZ,List.map_append,List.map_cons,List.map_nil,List.length_append,List.length_cons,List.length_nil,encStr];try exact aU)
   ·(simp only [go_sem,hF,hP,hY,hZ,List.map_append,List.map_cons,List.map_nil,List.length_append,List.length_cons,List.length_nil,encStr];try exact aU)
   rintro⟨rest,k,bC,n'⟩ ⟨h1,h2,h3,h4⟩ IH
   dsimp only at h1 h2 h3 h4
   subst h4
   cases rest with
   | nil=>
    have hF:=drop_nil h1
    simp only [Ex.gm]at h2
    subst h2
    repeat' (first
 | simp only [go_sem,hF,hP,hY,hZ]
 | (with_reducible refine aC hQ ?_;simp only [au,aw,Option.some.injEq,exists_eq_left',go_sem,hF,hP,hY,hZ];repeat' (first | exact Ok.out | with_reducible refine aB ?_ ?_ | (simp;done))))
   | cons y rest=>
    obtain⟨hP,g2,hF,g4⟩:=drop_cons h1
    have bl:k<4611686018427387904:=by omega
    simp only [Ex.gm]at h2
    simp only [Ex.aS]at h3
    have hy:=fun {s:St} {t:Nat} (ht:s.aH[t]? = some (some bC.length))=>hk y (List.mem_of_getElem? hP) bC (by omega) ht
    have hl:=mg bC y
    repeat' (first
 | simp only [go_sem,hF,hP,hY,hZ]
 | (with_reducible refine CU (hy (by with_unfolding_all rfl)) ?_)
 | (with_reducible refine aC hQ ?_;simp only [au,aw,Option.some.injEq,exists_eq_left',go_sem,hF,hP,hY,hZ];repeat' (first | exact Ok.out | with_reducible refine aB ?_ ?_ | (simp;done))))
    refine ct 1 1 ?_ ?_ (IH (rest,k+1,_,_) ⟨g2,h2,by dsimp only;omega,rfl⟩ (Nat.lt_succ_self _))
    ·(simp only [go_sem,hF,hP,hY,hZ,az bl];try exact aU)
    ·(simp only [go_sem,hF,hP,hY,hZ,az bl];try exact aU)
 ·simp only [b1,Bool.false_and,Bool.false_eq_true,if_false]at hG
  repeat' (first
 | simp only [go_sem,hF,hP,hY,hZ,b1]
 | (with_reducible refine aC hQ ?_;simp only [au,aw,Option.some.injEq,exists_eq_left',go_sem,hF,hP,hY,hZ];repeat' (first | exact Ok.out | with_reducible refine aB ?_ ?_ | (simp;done))))
  refine cd 1 1 (a8.ind (ι:=List Ex×Nat×List aF×Nat) (fun i=>kids.drop i.2.1=i.1∧Ex.gm i.2.2.1 i.1=R∧i.2.2.1.length+Ex.aS i.1≤1000000000∧i.2.2.2=i.2.2.1.length) (fun i=>i.1.length)
   (fun i=> [(1, .slice (.tok 0) 1 (i.2.2.1.map encStr)),(2, .ptr 0 0),(23, .slice .shared 4 (kids.map bE)),(24, .int .i64 (kids.length:Int)),(25, .int .i64 (i.2.1:Int))]) (fun i=>⟨[bE ⟨op,m,name,kids⟩],[some i.2.2.2]⟩) ?_ (kids,0,out,out.length) ⟨rfl,hG,by simp;omega,by simp⟩)
  rintro⟨rest,k,bC,n'⟩ ⟨h1,h2,h3,h4⟩ IH
  dsimp only at h1 h2 h3 h4
  subst h4
  cases rest with
  | nil=>
   have hF:=drop_nil h1
   simp only [Ex.gm]at h2
   subst h2
   repeat' (first
 | simp only [go_sem,hF,hP,hY,hZ]
 | (with_reducible refine aC hQ ?_;simp only [au,aw,Option.some.injEq,exists_eq_left',go_sem,hF,hP,hY,hZ];repeat' (first | exact Ok.out | with_reducible refine aB ?_ ?_ | (simp;done))))
  | cons y rest=>
   obtain⟨hP,g2,hF,g4⟩:=drop_cons h1
   have bl:k<4611686018427387904:=by omega
   simp only [Ex.gm]at h2
   simp only [Ex.aS]at h3
   have hy:=fun {s:St} {t:Nat} (ht:s.aH[t]? = some (some bC.length))=>hk y (List.mem_of_getElem? hP) bC (by omega) ht
   have hl:=mg bC y
   repeat' (first
 | simp only [go_sem,hF,hP,hY,hZ]
 | (with_reducible refine CU (hy (by with_unfolding_all rfl)) ?_)
 | (with_reducible refine aC hQ ?_;simp only [au,aw,Option.some.injEq,exists_eq_left',go_sem,hF,hP,hY,hZ];repeat' (first | exact Ok.out | with_reducible refine aB ?_ ?_ | (simp;done))))
   refine ct 1 1 ?_ ?_ (IH (rest,k+1,_,_) ⟨g2,h2,by dsimp only;omega,rfl⟩ (Nat.lt_succ_self _))
   ·(simp only [go_sem,hF,hP,hY,hZ,az bl];try exact aU)
   ·(simp only [go_sem,hF,hP,hY,hZ,az bl];try exact aU)
theorem TX : ∀ N,QC N:=by
 intro N
 induction N with
 | zero=>rintro⟨op,m,name,kids⟩ h;simp only [Ex.size]at h;omega
 | succ N ih=>
  rintro⟨op,m,name,kids⟩ h out ho s t ht
  exact(aaA ih h ho).L9 (pre:= [_]) (post:= []) (by simp only [D.bR,D.ok,gN];rfl) rfl (dJ out) (dJ _) ht
abbrev K7 (N:Nat):Prop:=∀ (x:Ex),x.size≤N→∀ out:List aF,out.length+x.size≤1000000000→∀ {s:St} {t:Nat},s.aH[t]? = some (some out.length)→
 aE Tryz.prog j8 [.agg (bE x), .slice (.tok t) 1 (out.map encStr)] s (.slice (.tok t) 1 ((x.iy out).map encStr)) ⟨s.aG,s.aH.set t (some (x.iy out).length)⟩
theorem XN {N:Nat} (ih:K7 N) {op m:Int} {name:aF} {kids:List Ex} (h:Ex.size ⟨op,m,name,kids⟩≤N+1) {out:List aF} (ho:out.length+Ex.size ⟨op,m,name,kids⟩≤1000000000) :
 aE Tryz.prog j8 [.agg (bE ⟨op,m,name,kids⟩), .slice (.tok 0) 1 (out.map encStr)] ⟨[],[some out.length]⟩ (.slice (.tok 0) 1 ((Ex.iy out ⟨op,m,name,kids⟩).map encStr)) ⟨[],[some (Ex.iy out ⟨op,m,name,kids⟩).length]⟩:=by
 obtain⟨R,hG⟩ : ∃ R,Ex.iy out ⟨op,m,name,kids⟩=R:=⟨_,rfl⟩
 rw [hG]
 simp only [Ex.iy]at hG
 simp only [Ex.size]at h ho
 have hlen:kids.length<1000000000:=by have:=Ex.cZ kids;omega
 have hk : ∀ y∈kids,∀ out:List aF,out.length+y.size≤1000000000→∀ {s:St} {t:Nat},s.aH[t]? = some (some out.length)→
  aE Tryz.prog j8 [.agg (bE y), .slice (.tok t) 1 (out.map encStr)] s (.slice (.tok t) 1 ((y.iy out).map encStr)) ⟨s.aG,s.aH.set t (some (y.iy out).length)⟩:=fun y hy out ho=>
  ih y (by have:=Ex.bV hy;omega) out ho
 have oW:=fun {s:St} {t:Nat} (ht:s.aH[t]? = some (some out.length))=>TV (out:=out) (by omega) name ht
 refine aE.go tw rfl fun B Q hB hQ=> ?_
 have⟨hF,hP,hY,hZ⟩:=bq
 have hY:(out.length+1)*17≤bc:=by unfold bc;omega
 rcases Bool.eq_false_or_eq_true (op==2)with b1 | b1
 ·rcases Bool.eq_false_or_eq_true (dL out name)with b2 | b2
  ·simp only [b1,b2,Bool.not_true,Bool.and_false,Bool.false_eq_true,if_false]at hG
   simp only [lW,b2,if_true]at oW
   repeat' (first
 | simp only [go_sem,hF,hP,hY,hZ,b1,b2]
 | (with_reducible refine CU (oW (by with_unfolding_all rfl)) ?_)
 | (with_reducible refine aC hQ ?_;simp only [au,aw,Option.some.injEq,exists_eq_left',go_sem,hF,hP,hY,hZ];repeat' (first | exact Ok.out | with_reducible refine aB ?_ ?_ | (simp;done))))
   refine cd 1 1 (a8.ind (ι:=List Ex×Nat×List aF×Nat) (fun i=>kids.drop i.2.1=i.1∧Ex.gm i.2.2.1 i.1=R∧i.2.2.1.length+Ex.aS i.1≤1000000000∧i.2.2.2=i.2.2.1.length) (fun i=>i.1.length)
    (fun i=> [(1, .slice (.tok 0) 1 (i.2.2.1.map encStr)),(2, .ptr 0 0),(15, .int .i64 (kids.length:Int)),(16, .int .i64 (i.2.1:Int))]) (fun i=>⟨[bE ⟨op,m,name,kids⟩],[some i.2.2.2]⟩) ?_ (kids,0,out,out.length) ⟨rfl,hG,by simp;omega,by simp⟩)
   rintro⟨rest,k,bC,n'⟩ ⟨h1,h2,h3,h4⟩ IH
   dsimp only at h1 h2 h3 h4
   subst h4
   cases rest with
   | nil=>
    have hF:=drop_nil h1
    simp only [Ex.gm]at h2
    subst h2
    repeat' (first
 | simp only [go_sem,hF,hP,hY,hZ]
 | (with_reducible refine aC hQ ?_;simp only [au,aw,Option.some.injEq,exists_eq_left',go_sem,hF,hP,hY,hZ];repeat' (first | exact Ok.out | with_reducible refine aB ?_ ?_ | (simp;done))))
   | cons y rest=>
    obtain⟨hP,g2,hF,g4⟩:=drop_cons h1
    have bl:k<4611686018427387904:=by omega
    simp only [Ex.gm]at h2
    simp only [Ex.aS]at h3
    have hy:=fun {s:St} {t:Nat} (ht:s.aH[t]? = some (some bC.length))=>hk y (List.mem_of_getElem? hP) bC (by omega) ht
    have hl:=mg bC y
    repeat' (first
 | simp only [go_sem,hF,hP,hY,hZ]
 | (with_reducible refine CU (hy (by with_unfolding_all rfl)) ?_)
 | (with_reducible refine aC hQ ?_;simp only [au,aw,Option.some.injEq,exists_eq_left',go_sem,hF,hP,hY,hZ];repeat' (first | exact Ok.out | with_reducible refine aB ?_ ?_ | (simp;done))))
    refine ct 1 1 ?_ ?_ (IH (rest,k+1,_,_) ⟨g2,h2,by dsimp only;omega,rfl⟩ (Nat.lt_succ_self _))
    ·(simp only [go_sem,hF,hP,hY,hZ,az bl];try exact aU)
    ·(simp only [go_sem,hF,hP,hY,hZ,az bl];try exact aU)
  ·simp only [b1,b2,Bool.not_false,Bool.and_true,if_true]at hG
   simp only [lW,b2,Bool.false_eq_true,if_false,List.length_append,List.length_cons,List.length_nil]at oW
   repeat' (first
 | simp only [go_sem,hF,hP,hY,hZ,b1,b2]
 | (with_reducible refine CU (oW (by with_unfolding_all rfl)) ?_)
 | (with_reducible refine aC hQ ?_;simp only [au,aw,Option.some.injEq,exists_eq_left',go_sem,hF,hP,hY,hZ];repeat' (first | exact Ok.out | with_reducible refine aB ?_ ?_ | (simp;done))))
   refine ct 1 1 ?_ ?_ (a8.ind (ι:=List Ex×Nat×List aF×Nat) (fun i=>kids.drop i.2.1=i.1∧Ex.gm i.2.2.1 i.1=R∧i.2.2.1.length+Ex.aS i.1≤1000000000∧i.2.2.2=i.2.2.1.length) (fun i=>i.1.length)
    (fun i=> [(1, .slice (.tok 0) 1 (i.2.2.1.map encStr)),(2, .ptr 0 0),(15, .int .i64 (kids.length:Int)),(16, .int .i64 (i.2.1:Int))]) (fun i=>⟨[bE ⟨op,m,name,kids⟩],[some i.2.2.2]⟩) ?_ (kids,0,(out++ [name]),(out.length+1)) ⟨rfl,hG,by simp;omega,by simp⟩)
   ·(simp only [go_sem,hF,hP,hY,hZ,List.map_append,List.map_cons,List.map_nil,List.length_append,List.length_cons,List.length_nil,encStr];try exact aU)
   ·(simp only [go_sem,hF,hP,hY,hZ,List.map_append,List.map_cons,List.map_nil,List.length_append,List.length_cons,List.length_nil,encStr];try exact aU)
   rintro⟨rest,k,bC,n'⟩ ⟨h1,h2,h3,h4⟩ IH
   dsimp only at h1 h2 h3 h4
   subst h4
   cases rest with
   | nil=>
    have hF:=drop_nil h1
    simp only [Ex.gm]at h2
    subst h2
    repeat' (first
 | simp only [go_sem,hF,hP,hY,hZ]
 | (with_reducible refine aC hQ ?_;simp only [au,aw,Option.some.injEq,exists_eq_left',go_sem,hF,hP,hY,hZ];repeat' (first | exact Ok.out | with_reducible refine aB ?_ ?_ | (simp;done))))
   | cons y rest=>
    obtain⟨hP,g2,hF,g4⟩:=drop_cons h1
    have bl:k<4611686018427387904:=by omega
    simp only [Ex.gm]at h2
    simp only [Ex.aS]at h3
    have hy:=fun {s:St} {t:Nat} (ht:s.aH[t]? = some (some bC.length))=>hk y (List.mem_of_getElem? hP) bC (by omega) ht
    have hl:=mg bC y
    repeat' (first
 | simp only [go_sem,hF,hP,hY,hZ]
 | (with_reducible refine CU (hy (by with_unfolding_all rfl)) ?_)
 | (with_reducible refine aC hQ ?_;simp only [au,aw,Option.some.injEq,exists_eq_left',go_sem,hF,hP,hY,hZ];repeat' (first | exact Ok.out | with_reducible refine aB ?_ ?_ | (simp;done))))
    refine ct 1 1 ?_ ?_ (IH (rest,k+1,_,_) ⟨g2,h2,by dsimp only;omega,rfl⟩ (Nat.lt_succ_self _))
    ·(simp only [go_sem,hF,hP,hY,hZ,az bl];try exact aU)
    ·(simp only [go_sem,hF,hP,hY,hZ,az bl];try exact aU)
 ·simp only [b1,Bool.false_and,Bool.false_eq_true,if_false]at hG
  repeat' (first
 | simp only [go_sem,hF,hP,hY,hZ,b1]
 | (with_reducible refine aC hQ ?_;simp only [au,aw,Option.some.injEq,exists_eq_left',go_sem,hF,hP,hY,hZ];repeat' (first | exact Ok.out | with_reducible refine aB ?_ ?_ | (simp;done))))
  refine cd 1 1 (a8.ind (ι:=List Ex×Nat×List aF×Nat) (fun i=>kids.drop i.2.1=i.1∧Ex.gm i.2.2.1 i.1=R∧i.2.2.1.length+Ex.aS i.1≤1000000000∧i.2.2.2=i.2.2.1.length) (fun i=>i.1.length)
   (fun i=> [(1, .slice (.tok 0) 1 (i.2.2.1.map encStr)),(2, .ptr 0 0),(15, .int .i64 (kids.length:Int)),(16, .int .i64 (i.2.1:Int))]) (fun i=>⟨[bE ⟨op,m,name,kids⟩],[some i.2.2.2]⟩) ?_ (kids,0,out,out.length) ⟨rfl,hG,by simp;omega,by simp⟩)
  rintro⟨rest,k,bC,n'⟩ ⟨h1,h2,h3,h4⟩ IH
  dsimp only at h1 h2 h3 h4
  subst h4
  cases rest with
  | nil=>
   have hF:=drop_nil h1
   simp only [Ex.gm]at h2
   subst h2
   repeat' (first
 | simp only [go_sem,hF,hP,hY,hZ]
 | (with_reducible refine aC hQ ?_;simp only [au,aw,Option.some.injEq,exists_eq_left',go_sem,hF,hP,hY,hZ];repeat' (first | exact Ok.out | with_reducible refine aB ?_ ?_ | (simp;done))))
  | cons y rest=>
   obtain⟨hP,g2,hF,g4⟩:=drop_cons h1
   have bl:k<4611686018427387904:=by omega
   simp only [Ex.gm]at h2
   simp only [Ex.aS]at h3
   have hy:=fun {s:St} {t:Nat} (ht:s.aH[t]? = some (some bC.length))=>hk y (List.mem_of_getElem? hP) bC (by omega) ht
   have hl:=mg bC y
   repeat' (first
 | simp only [go_sem,hF,hP,hY,hZ]
 | (with_reducible refine CU (hy (by with_unfolding_all rfl)) ?_)
 | (with_reducible refine aC hQ ?_;simp only [au,aw,Option.some.injEq,exists_eq_left',go_sem,hF,hP,hY,hZ];repeat' (first | exact Ok.out | with_reducible refine aB ?_ ?_ | (simp;done))))
   refine ct 1 1 ?_ ?_ (IH (rest,k+1,_,_) ⟨g2,h2,by dsimp only;omega,rfl⟩ (Nat.lt_succ_self _))
   ·(simp only [go_sem,hF,hP,hY,hZ,az bl];try exact aU)
   ·(simp only [go_sem,hF,hP,hY,hZ,az bl];try exact aU)
theorem QD : ∀ N,K7 N:=by
 intro N
 induction N with
 | zero=>rintro⟨op,m,name,kids⟩ h;simp only [Ex.size]at h;omega
 | succ N ih=>
  rintro⟨op,m,name,kids⟩ h out ho s t ht
  exact(XN ih h ho).L9 (pre:= [_]) (post:= []) (by simp only [D.bR,D.ok,gN];rfl) rfl (dJ out) (dJ _) ht
end Go.Abs

/-! Nm2 -/

namespace Go.Abs
set_option maxRecDepth 8000
open Go.Proofs
theorem NS (x:aF) (s:St):aE Tryz.prog n3 [.slice .full 0 [], .str x] s (.slice .shared 1 [[.str x]]) s:=by
 refine aE.pure ?_ rfl rfl s
 unfold S0
 refine aE.go v7 rfl fun B Q hB hQ=> ?_
 have⟨hF,hP,hY,hZ⟩:=bq
 have hY:17≤bc:=by unfold bc;omega
 repeat' (first
 | simp only [go_sem,hF,hP,hY,hZ,Int.lt_irrefl,decide_false]
 | (with_reducible refine a8.sj ?_)
 | (with_reducible refine aC hQ ?_;simp only [au,aw,Option.some.injEq,exists_eq_left',go_sem,hF,hP,hY,hZ];repeat' (first | exact Ok.out | with_reducible refine aB ?_ ?_ | (simp;done))))
theorem F0 {op m:Int} {name:aF} {kids:List Ex} (h:Ex.form ⟨op,m,name,kids⟩=true) (h2:(op==2)=true):kids = []:=by
 have e:op=2:=by simpa using h2
 subst e
 simp only [Ex.form]at h
 split at h
 ·cases h
 ·rename_i hh
  simp only [Bool.or_eq_true,not_or,bne_iff_ne,ne_eq,Decidable.not_not]at hh
  have:=hh.1.1.1.1
  have e:lT 2=0:=rfl
  rw [e]at this
  exact List.length_eq_zero_iff.1 (by omega)
theorem TY {op m:Int} {name:aF} {kids:List Ex} (hf:(op==2)=true→kids = []) (ho:Ex.size ⟨op,m,name,kids⟩≤1000000000) (s:St) :
 aE Tryz.prog iO [.agg (bE ⟨op,m,name,kids⟩), .slice .full 0 []] s (.slice .shared 1 ((Ex.iy [] ⟨op,m,name,kids⟩).map encStr)) s:=by
 refine aE.pure ?_ (by simp only [D.bR,D.ok,gN];rfl) (by simp only [D.ok,Tag.ok,dJ];rfl) s
 obtain⟨R,hG⟩ : ∃ R,Ex.iy [] ⟨op,m,name,kids⟩=R:=⟨_,rfl⟩
 rw [hG]
 simp only [Ex.iy]at hG
 simp only [Ex.size]at ho
 have hlen:kids.length<1000000000:=by have:=Ex.cZ kids;omega
 have hk : ∀ y∈kids,∀ out:List aF,out.length+y.size≤1000000000→∀ {s:St} {t:Nat},s.aH[t]? = some (some out.length)→
  aE Tryz.prog iO [.agg (bE y), .slice (.tok t) 1 (out.map encStr)] s (.slice (.tok t) 1 ((y.iy out).map encStr)) ⟨s.aG,s.aH.set t (some (y.iy out).length)⟩:=fun y hy out ho=>
  TX y.size y (Nat.le_refl _) out ho
 unfold S0
 rcases Bool.eq_false_or_eq_true (op==2)with b1 | b1
 ·have QE:=hf b1
  subst QE
  have e:dL [] name=false:=rfl
  simp only [b1,e,Bool.not_false,Bool.and_true,if_true,Ex.gm,List.nil_append]at hG
  subst hG
  refine aE.go q6 rfl fun B Q hB hQ=> ?_
  have⟨hF,hP,hY,hZ⟩:=bq
  have hY:17≤bc:=by unfold bc;omega
  repeat' (first
 | simp only [go_sem,hF,hP,hY,hZ,b1,List.map_nil,List.map_cons,List.length_nil,encStr,Int.natCast_zero,Int.lt_irrefl,decide_false]
 | (with_reducible refine CU (IY name _ _ _) ?_)
 | (with_reducible refine a8.sj ?_)
 | (with_reducible refine aC hQ ?_;simp only [au,aw,Option.some.injEq,exists_eq_left',go_sem,hF,hP,hY,hZ];repeat' (first | exact Ok.out | with_reducible refine aB ?_ ?_ | (simp;done))))
 ·simp only [b1,Bool.false_and,Bool.false_eq_true,if_false]at hG
  refine aE.go q6 rfl fun B Q hB hQ=> ?_
  have⟨hF,hP,hY,hZ⟩:=bq
  repeat' (first
 | simp only [go_sem,hF,hP,hY,hZ,b1]
 | (with_reducible refine aC hQ ?_;simp only [au,aw,Option.some.injEq,exists_eq_left',go_sem,hF,hP,hY,hZ];repeat' (first | exact Ok.out | with_reducible refine aB ?_ ?_ | (simp;done))))
  refine a8.jB 1 1 rfl ?_
  simp only [go_sem,hF,hP,hY,hZ]
  refine cd 1 1 (a8.ind (ι:=List Ex×Nat×List aF×Nat) (fun i=>kids.drop i.2.1=i.1∧Ex.gm i.2.2.1 i.1=R∧i.2.2.1.length+Ex.aS i.1≤1000000000∧i.2.2.2=i.2.2.1.length) (fun i=>i.1.length)
   (fun i=> [(1, .slice (.tok 0) 1 (i.2.2.1.map encStr)),(2, .ptr 0 0),(23, .slice .shared 4 (kids.map bE)),(24, .int .i64 (kids.length:Int)),(25, .int .i64 (i.2.1:Int))]) (fun i=>⟨[bE ⟨op,m,name,kids⟩],[some i.2.2.2]⟩) ?_ (kids,0,[],0) ⟨rfl,hG,by simp;omega,by simp⟩)
  rintro⟨rest,k,bC,n'⟩ ⟨h1,h2,h3,h4⟩ IH
  dsimp only at h1 h2 h3 h4
  subst h4
  cases rest with
  | nil=>
   have hF:=drop_nil h1
   simp only [Ex.gm]at h2
   subst h2
   repeat' (first
 | simp only [go_sem,hF,hP,hY,hZ]
 | (with_reducible refine aC hQ ?_;simp only [au,aw,Option.some.injEq,exists_eq_left',go_sem,hF,hP,hY,hZ];repeat' (first | exact Ok.out | with_reducible refine aB ?_ ?_ | (simp;done))))
  | cons y rest=>
   obtain⟨hP,g2,hF,g4⟩:=drop_cons h1
   have bl:k<4611686018427387904:=by omega
   simp only [Ex.gm]at h2
   simp only [Ex.aS]at h3
   have hy:=fun {s:St} {t:Nat} (ht:s.aH[t]? = some (some bC.length))=>hk y (List.mem_of_getElem? hP) bC (by omega) ht
   have hl:=mg bC y
   repeat' (first
 | simp only [go_sem,hF,hP,hY,hZ]
 | (with_reducible refine CU (hy (by with_unfolding_all rfl)) ?_)
 | (with_reducible refine aC hQ ?_;simp only [au,aw,Option.some.injEq,exists_eq_left',go_sem,hF,hP,hY,hZ];repeat' (first | exact Ok.out | with_reducible refine aB ?_ ?_ | (simp;done))))
   refine ct 1 1 ?_ ?_ (IH (rest,k+1,_,_) ⟨g2,h2,by dsimp only;omega,rfl⟩ (Nat.lt_succ_self _))
   ·(simp only [go_sem,hF,hP,hY,hZ,az bl];try exact aU)
   ·(simp only [go_sem,hF,hP,hY,hZ,az bl];try exact aU)
theorem QF {op m:Int} {name:aF} {kids:List Ex} (hf:(op==2)=true→kids = []) (ho:Ex.size ⟨op,m,name,kids⟩≤1000000000) (s:St) :
 aE Tryz.prog j8 [.agg (bE ⟨op,m,name,kids⟩), .slice .full 0 []] s (.slice .shared 1 ((Ex.iy [] ⟨op,m,name,kids⟩).map encStr)) s:=by
 refine aE.pure ?_ (by simp only [D.bR,D.ok,gN];rfl) (by simp only [D.ok,Tag.ok,dJ];rfl) s
 obtain⟨R,hG⟩ : ∃ R,Ex.iy [] ⟨op,m,name,kids⟩=R:=⟨_,rfl⟩
 rw [hG]
 simp only [Ex.iy]at hG
 simp only [Ex.size]at ho
 have hlen:kids.length<1000000000:=by have:=Ex.cZ kids;omega
 have hk : ∀ y∈kids,∀ out:List aF,out.length+y.size≤1000000000→∀ {s:St} {t:Nat},s.aH[t]? = some (some out.length)→
  aE Tryz.prog j8 [.agg (bE y), .slice (.tok t) 1 (out.map encStr)] s (.slice (.tok t) 1 ((y.iy out).map encStr)) ⟨s.aG,s.aH.set t (some (y.iy out).length)⟩:=fun y hy out ho=>
  QD y.size y (Nat.le_refl _) out ho
 unfold S0
 rcases Bool.eq_false_or_eq_true (op==2)with b1 | b1
 ·have QE:=hf b1
  subst QE
  have e:dL [] name=false:=rfl
  simp only [b1,e,Bool.not_false,Bool.and_true,if_true,Ex.gm,List.nil_append]at hG
  subst hG
  refine aE.go tw rfl fun B Q hB hQ=> ?_
  have⟨hF,hP,hY,hZ⟩:=bq
  have hY:17≤bc:=by unfold bc;omega
  repeat' (first
 | simp only [go_sem,hF,hP,hY,hZ,b1,List.map_nil,List.map_cons,List.length_nil,encStr,Int.natCast_zero,Int.lt_irrefl,decide_false]
 | (with_reducible refine CU (NS name _) ?_)
 | (with_reducible refine a8.sj ?_)
 | (with_reducible refine aC hQ ?_;simp only [au,aw,Option.some.injEq,exists_eq_left',go_sem,hF,hP,hY,hZ];repeat' (first | exact Ok.out | with_reducible refine aB ?_ ?_ | (simp;done))))
 ·simp only [b1,Bool.false_and,Bool.false_eq_true,if_false]at hG
  refine aE.go tw rfl fun B Q hB hQ=> ?_
  have⟨hF,hP,hY,hZ⟩:=bq
  repeat' (first
 | simp only [go_sem,hF,hP,hY,hZ,b1]
 | (with_reducible refine aC hQ ?_;simp only [au,aw,Option.some.injEq,exists_eq_left',go_sem,hF,hP,hY,hZ];repeat' (first | exact Ok.out | with_reducible refine aB ?_ ?_ | (simp;done))))
  refine a8.jB 1 1 rfl ?_
  simp only [go_sem,hF,hP,hY,hZ]
  refine cd 1 1 (a8.ind (ι:=List Ex×Nat×List aF×Nat) (fun i=>kids.drop i.2.1=i.1∧Ex.gm i.2.2.1 i.1=R∧i.2.2.1.length+Ex.aS i.1≤1000000000∧i.2.2.2=i.2.2.1.length) (fun i=>i.1.length)
   (fun i=> [(1, .slice (.tok 0) 1 (i.2.2.1.map encStr)),(2, .ptr 0 0),(15, .int .i64 (kids.length:Int)),(16, .int .i64 (i.2.1:Int))]) (fun i=>⟨[bE ⟨op,m,name,kids⟩],[some i.2.2.2]⟩) ?_ (kids,0,[],0) ⟨rfl,hG,by simp;omega,by simp⟩)
  rintro⟨rest,k,bC,n'⟩ ⟨h1,h2,h3,h4⟩ IH
  dsimp only at h1 h2 h3 h4
  subst h4
  cases rest with
  | nil=>
   have hF:=drop_nil h1
   simp only [Ex.gm]at h2
   subst h2
   repeat' (first
 | simp only [go_sem,hF,hP,hY,hZ]
 | (with_reducible refine aC hQ ?_;simp only [au,aw,Option.some.injEq,exists_eq_left',go_sem,hF,hP,hY,hZ];repeat' (first | exact Ok.out | with_reducible refine aB ?_ ?_ | (simp;done))))
  | cons y rest=>
   obtain⟨hP,g2,hF,g4⟩:=drop_cons h1
   have bl:k<4611686018427387904:=by omega
   simp only [Ex.gm]at h2
   simp only [Ex.aS]at h3
   have hy:=fun {s:St} {t:Nat} (ht:s.aH[t]? = some (some bC.length))=>hk y (List.mem_of_getElem? hP) bC (by omega) ht
   have hl:=mg bC y
   repeat' (first
 | simp only [go_sem,hF,hP,hY,hZ]
 | (with_reducible refine CU (hy (by with_unfolding_all rfl)) ?_)
 | (with_reducible refine aC hQ ?_;simp only [au,aw,Option.some.injEq,exists_eq_left',go_sem,hF,hP,hY,hZ];repeat' (first | exact Ok.out | with_reducible refine aB ?_ ?_ | (simp;done))))
   refine ct 1 1 ?_ ?_ (IH (rest,k+1,_,_) ⟨g2,h2,by dsimp only;omega,rfl⟩ (Nat.lt_succ_self _))
   ·(simp only [go_sem,hF,hP,hY,hZ,az bl];try exact aU)
   ·(simp only [go_sem,hF,hP,hY,hZ,az bl];try exact aU)
theorem na {x:Ex} (hx:x.size≤1000000000) (ht:x.texts) (s:St):aE Tryz.prog qX [.agg (bE x)] s (.slice .shared 1 (x.names.map encStr)) s:=by
 refine aE.pure ?_ (by simp only [D.bR,D.ok,gN];rfl) (by simp only [D.ok,Tag.ok,dJ];rfl) s
 have hm:=fun s=>DA (x:=x) (by omega) ht s
 simp only [QB]at hm
 unfold Ex.names
 unfold S0
 cases hb:x.may
 ·simp only [hb]at hm
  simp only [Bool.false_eq_true,if_false,List.map_nil]
  refine aE.go xW rfl fun B Q hB hQ=> ?_
  have⟨hF,hP,hY,hZ⟩:=bq
  repeat' (first
 | simp only [go_sem,hF,hP,hY,hZ]
 | (with_reducible refine CU (hm _) ?_)
 | (with_reducible refine aC hQ ?_;simp only [au,aw,Option.some.injEq,exists_eq_left',go_sem,hF,hP,hY,hZ];repeat' (first | exact Ok.out | with_reducible refine aB ?_ ?_ | (simp;done))))
 ·simp only [hb]at hm
  simp only [if_true]
  have hg : ∀ s,aE Tryz.prog iO [.agg (bE x), .slice .full 0 []] s (.slice .shared 1 ((x.iy []).map encStr)) s:=by
   intro s
   obtain⟨op,m,name,kids⟩:=x
   exact TY (fun h2=>F0 (by simp only [Ex.may,Bool.and_eq_true]at hb;exact hb.2) h2) hx s
  refine aE.go xW rfl fun B Q hB hQ=> ?_
  have⟨hF,hP,hY,hZ⟩:=bq
  repeat' (first
 | simp only [go_sem,hF,hP,hY,hZ]
 | (with_reducible refine CU (hm _) ?_)
 | (with_reducible refine CU (hg _) ?_)
 | (with_reducible refine aC hQ ?_;simp only [au,aw,Option.some.injEq,exists_eq_left',go_sem,hF,hP,hY,hZ];repeat' (first | exact Ok.out | with_reducible refine aB ?_ ?_ | (simp;done))))
theorem nc {x:Ex} (hx:x.size≤1000000000) (ht:x.texts) (s:St):aE Tryz.prog qV [.agg (bE x)] s (.slice .shared 1 (x.names.map encStr)) s:=by
 refine aE.pure ?_ (by simp only [D.bR,D.ok,gN];rfl) (by simp only [D.ok,Tag.ok,dJ];rfl) s
 have hm:=fun s=>Ax (x:=x) (by omega) ht s
 unfold Ex.names
 unfold S0
 cases hb:x.may
 ·simp only [hb]at hm
  simp only [Bool.false_eq_true,if_false,List.map_nil]
  refine aE.go xV rfl fun B Q hB hQ=> ?_
  have⟨hF,hP,hY,hZ⟩:=bq
  repeat' (first
 | simp only [go_sem,hF,hP,hY,hZ]
 | (with_reducible refine CU (hm _) ?_)
 | (with_reducible refine aC hQ ?_;simp only [au,aw,Option.some.injEq,exists_eq_left',go_sem,hF,hP,hY,hZ];repeat' (first | exact Ok.out | with_reducible refine aB ?_ ?_ | (simp;done))))
 ·simp only [hb]at hm
  simp only [if_true]
  have hg : ∀ s,aE Tryz.prog j8 [.agg (bE x), .slice .full 0 []] s (.slice .shared 1 ((x.iy []).map encStr)) s:=by
   intro s
   obtain⟨op,m,name,kids⟩:=x
   exact QF (fun h2=>F0 (by simp only [Ex.may,Bool.and_eq_true]at hb;exact hb.2) h2) hx s
  refine aE.go xV rfl fun B Q hB hQ=> ?_
  have⟨hF,hP,hY,hZ⟩:=bq
  repeat' (first
 | simp only [go_sem,hF,hP,hY,hZ]
 | (with_reducible refine CU (hm _) ?_)
 | (with_reducible refine CU (hg _) ?_)
 | (with_reducible refine aC hQ ?_;simp only [au,aw,Option.some.injEq,exists_eq_left',go_sem,hF,hP,hY,hZ];repeat' (first | exact Ok.out | with_reducible refine aB ?_ ?_ | (simp;done))))
end Go.Abs

/-! Nm3 -/

namespace Go.Abs
set_option maxRecDepth 8000
open Go.Proofs
def Ar.said (out:List aF):List Ar→List aF
 | []=>out
 | a::l=>Ar.said ((if a.ref then out++ [a.name]else out)++a.x.names) l
def Sm.rf (v:Sm):List aF:=if v.kind != 10 && v.name != []then [v.name]else []
def Sm.said (v:Sm):List aF:=Ar.said (v.rf++v.x.names) v.args
theorem gx (x:Ex):x.names.length≤x.size:=by
 unfold Ex.names
 split
 ·simpa using mg [] x
 ·exact Nat.zero_le _
def Ar.vk:List Ar→Prop
 | []=>True
 | a::l=>a.x.texts∧Ar.vk l
def Sm.nf (v:Sm):Prop:=v.x.texts∧(∀ a∈v.args,a.x.texts)∧v.x.size+Ar.aS v.args<1000000
theorem fc {l nx:List aF} {n:Nat} (hn:n=l.length) (h:l.length+nx.length≤1000000000) {g:Tag} (o:List (List D)) :
 gy 1 16 (.slice (.tok 0) 1 (l.map encStr)) (.slice g 1 (nx.map encStr)) ⟨o,[some n]⟩=some (.slice (.tok 0) 1 ((l++nx).map encStr),⟨o,[some (l++nx).length]⟩):=by
 subst hn
 have:=Cj (size:=1) (bytes:=16) (t:=0) (rows:=l.map encStr) (new:=nx.map encStr) (g:=g) (s:=⟨o,[some l.length]⟩) (by simp only [List.length_map];unfold bc;omega) (by simp)
 rw [this]
 simp
theorem AJ {v:Sm} (hv:v.nf) (s:St):aE Tryz.prog qT [.agg (bd v)] s (.slice .shared 1 (v.said.map encStr)) s:=by
 refine aE.pure ?_ (by simp only [D.bR,D.ok,l9];rfl) (by simp only [D.ok,Tag.ok,dJ];rfl) s
 obtain⟨ht1,AL,e9⟩:=hv
 obtain⟨R,hG⟩ : ∃ R,v.said=R:=⟨_,rfl⟩
 rw [hG]
 simp only [Sm.said]at hG
 have hlen:v.args.length<1000000000:=by have:=Ar.cZ v.args;omega
 have hx:=fun s=>na (x:=v.x) (by omega) ht1 s
 have x4:=gx v.x
 unfold S0
 refine aE.go EO rfl fun B Q hB hQ=> ?_
 have⟨hF,hP,hY,hZ⟩:=bq
 have hY:17≤bc:=by unfold bc;omega
 by_cases hb:(v.kind != 10 && v.name != [])=true
 ·simp only [Sm.rf,hb,if_true]at hG
  rw [Bool.and_eq_true]at hb
  obtain⟨b1,b2⟩:=hb
  have dh:=fc (l:= [v.name]) (nx:=v.x.names) (n:=1) rfl (by simp;omega) (g:= .shared)
  simp only [List.map_append,List.map_cons,List.map_nil,encStr]at dh
  have b3:(v.name == [])=false:=by simpa using b2
  repeat' (first
 | simp only [go_sem,hF,hP,hY,hZ,b1,b2,b3,dh]
 | (with_reducible refine CU (hx _) ?_)
 | (with_reducible refine aC hQ ?_;simp only [au,aw,Option.some.injEq,exists_eq_left',go_sem,hF,hP,hY,hZ];repeat' (first | exact Ok.out | with_reducible refine aB ?_ ?_ | (simp;done))))
  refine ct 1 1 ?_ ?_ (a8.ind (ι:=List Ar×Nat×List aF×Nat) (fun i=>v.args.drop i.2.1=i.1∧Ar.said i.2.2.1 i.1=R∧i.2.2.1.length+Ar.aS i.1≤2000000∧i.2.2.2=i.2.2.1.length) (fun i=>i.1.length)
   (fun i=> [(3, .slice (.tok 0) 1 (i.2.2.1.map encStr)),(1, .ptr 0 0),(25, .slice .shared 6 (v.args.map dT)),(26, .int .i64 (v.args.length:Int)),(27, .int .i64 (i.2.1:Int))]) (fun i=>⟨[bd v],[some i.2.2.2]⟩) ?_ (v.args,0,([v.name]++v.x.names),(v.x.names.length+1)) ⟨rfl,hG,by simp at x4 ⊢;omega,by simp⟩)
  ·(simp only [go_sem,hF,hP,hY,hZ,List.map_append,List.map_cons,List.map_nil,encStr];try exact aU)
  ·(simp only [go_sem,hF,hP,hY,hZ,List.map_append,List.map_cons,List.map_nil,encStr];try exact aU)
  rintro⟨rest,k,out,n'⟩ ⟨h1,h2,h3,h4⟩ IH
  dsimp only at h1 h2 h3 h4
  subst h4
  cases rest with
  | nil=>
   have hF:=drop_nil h1
   simp only [Ar.said]at h2
   subst h2
   repeat' (first
 | simp only [go_sem,hF,hP,hY,hZ]
 | (with_reducible refine aC hQ ?_;simp only [au,aw,Option.some.injEq,exists_eq_left',go_sem,hF,hP,hY,hZ];repeat' (first | exact Ok.out | with_reducible refine aB ?_ ?_ | (simp;done))))
  | cons a rest=>
   obtain⟨hP,g2,hF,g4⟩:=drop_cons h1
   have bl:k<4611686018427387904:=by omega
   simp only [Ar.said]at h2
   simp only [Ar.aS]at h3
   have lX:=fun s=>na (x:=a.x) (by have:=Ar.bV (List.mem_of_getElem? hP);omega) (AL a (List.mem_of_getElem? hP)) s
   have hl:=gx a.x
   have hY:(out.length+1)*17≤bc:=by unfold bc;omega
   rcases Bool.eq_false_or_eq_true a.ref with b1 | b1
   ·simp only [b1,if_true]at h2
    have dh:=fc (l:=out++ [a.name]) (nx:=a.x.names) (n:=out.length+1) (by simp) (by simp;omega) (g:= .shared)
    simp only [List.map_append,List.map_cons,List.map_nil,encStr]at dh
    repeat' (first
 | simp only [go_sem,hF,hP,hY,hZ,b1,dh]
 | (with_reducible refine CU (lX _) ?_)
 | (with_reducible refine aC hQ ?_;simp only [au,aw,Option.some.injEq,exists_eq_left',go_sem,hF,hP,hY,hZ];repeat' (first | exact Ok.out | with_reducible refine aB ?_ ?_ | (simp;done))))
    refine ct 1 1 ?_ ?_ (IH (rest,k+1,out++ [a.name]++a.x.names,_) ⟨g2,h2,by simp;omega,by simp <;> omega⟩ (Nat.lt_succ_self _))
    ·(simp only [go_sem,hF,hP,hY,hZ,az bl,List.map_append,List.map_cons,List.map_nil,encStr];try exact aU)
    ·(simp only [go_sem,hF,hP,hY,hZ,az bl,List.map_append,List.map_cons,List.map_nil,encStr];try exact aU)
   ·simp only [b1,Bool.false_eq_true,if_false]at h2
    have dh:=fc (l:=out) (nx:=a.x.names) rfl (by omega) (g:= .shared)
    repeat' (first
 | simp only [go_sem,hF,hP,hY,hZ,b1,dh]
 | (with_reducible refine CU (lX _) ?_)
 | (with_reducible refine aC hQ ?_;simp only [au,aw,Option.some.injEq,exists_eq_left',go_sem,hF,hP,hY,hZ];repeat' (first | exact Ok.out | with_reducible refine aB ?_ ?_ | (simp;done))))
    refine ct 1 1 ?_ ?_ (IH (rest,k+1,out++a.x.names,_) ⟨g2,h2,by simp;omega,by simp <;> omega⟩ (Nat.lt_succ_self _))
    ·(simp only [go_sem,hF,hP,hY,hZ,az bl];try exact aU)
    ·(simp only [go_sem,hF,hP,hY,hZ,az bl];try exact aU)
 ·simp only [Sm.rf,hb,Bool.false_eq_true,if_false,List.nil_append]at hG
  have qJ:(v.kind != 10 && v.name != [])=false:=by simpa using hb
  obtain⟨nx,F1⟩ : ∃ nx,nx=v.x.names:=⟨_,rfl⟩
  rw [← F1]at hG x4
  simp only [← F1]at hx
  by_cases BL:nx = []
  ·subst BL
   simp only [List.map_nil]at hx
   have dh : ∀ o:List (List D),gy 1 16 (.slice .full 0 []) (.slice .shared 1 []) ⟨o,[]⟩=some (.slice .full 0 [],⟨o,[]⟩):=fun o=>by simp [gy,bc]
   have HB:(v.kind != 10)=false∨(v.kind != 10)=true∧(v.name != [])=false:=by
    cases h1:(v.kind != 10)
    ·exact .inl rfl
    ·rw [h1]at qJ;exact .inr ⟨rfl,by simpa using qJ⟩
   rcases HB with b1 | ⟨b1,b2⟩
   ·rcases Bool.eq_false_or_eq_true (v.name != [])with b2 | b2
    all_goals
     have b3:(v.name == []) = !(v.name != []):=by simp only [bne,Bool.not_not]
     rw [b2]at b3
     repeat' (first
 | simp only [go_sem,hF,hP,hY,hZ,b1,b2,b3,Bool.not_true,Bool.not_false,dh]
 | (with_reducible refine CU (hx _) ?_)
 | (with_reducible refine aC hQ ?_;simp only [au,aw,Option.some.injEq,exists_eq_left',go_sem,hF,hP,hY,hZ];repeat' (first | exact Ok.out | with_reducible refine aB ?_ ?_ | (simp;done))))
    all_goals
     refine a8.jB 3 1 rfl ?_
     simp only [go_sem,hF,hP,hY,hZ]
     refine cd 1 1 (a8.ind (ι:=List Ar×Nat×List aF×Nat) (fun i=>v.args.drop i.2.1=i.1∧Ar.said i.2.2.1 i.1=R∧i.2.2.1.length+Ar.aS i.1≤2000000∧i.2.2.2=i.2.2.1.length) (fun i=>i.1.length)
      (fun i=> [(3, .slice (.tok 0) 1 (i.2.2.1.map encStr)),(1, .ptr 0 0),(25, .slice .shared 6 (v.args.map dT)),(26, .int .i64 (v.args.length:Int)),(27, .int .i64 (i.2.1:Int))]) (fun i=>⟨[bd v],[some i.2.2.2]⟩) ?_ (v.args,0,[],0) ⟨rfl,hG,by simp at x4 ⊢;omega,by simp⟩)
     rintro⟨rest,k,out,n'⟩ ⟨h1,h2,h3,h4⟩ IH
     dsimp only at h1 h2 h3 h4
     subst h4
     cases rest with
     | nil=>
      have hF:=drop_nil h1
      simp only [Ar.said]at h2
      subst h2
      repeat' (first
 | simp only [go_sem,hF,hP,hY,hZ]
 | (with_reducible refine aC hQ ?_;simp only [au,aw,Option.some.injEq,exists_eq_left',go_sem,hF,hP,hY,hZ];repeat' (first | exact Ok.out | with_reducible refine aB ?_ ?_ | (simp;done))))
     | cons a rest=>
      obtain⟨hP,g2,hF,g4⟩:=drop_cons h1
      have bl:k<4611686018427387904:=by omega
      simp only [Ar.said]at h2
      simp only [Ar.aS]at h3
      have lX:=fun s=>na (x:=a.x) (by have:=Ar.bV (List.mem_of_getElem? hP);omega) (AL a (List.mem_of_getElem? hP)) s
      have hl:=gx a.x
      have hY:(out.length+1)*17≤bc:=by unfold bc;omega
      rcases Bool.eq_false_or_eq_true a.ref with b1 | b1
      ·simp only [b1,if_true]at h2
       have dh:=fc (l:=out++ [a.name]) (nx:=a.x.names) (n:=out.length+1) (by simp) (by simp;omega) (g:= .shared)
       simp only [List.map_append,List.map_cons,List.map_nil,encStr]at dh
       repeat' (first
 | simp only [go_sem,hF,hP,hY,hZ,b1,dh]
 | (with_reducible refine CU (lX _) ?_)
 | (with_reducible refine aC hQ ?_;simp only [au,aw,Option.some.injEq,exists_eq_left',go_sem,hF,hP,hY,hZ];repeat' (first | exact Ok.out | with_reducible refine aB ?_ ?_ | (simp;done))))
       refine ct 1 1 ?_ ?_ (IH (rest,k+1,out++ [a.name]++a.x.names,_) ⟨g2,h2,by simp;omega,by simp <;> omega⟩ (Nat.lt_succ_self _))
       ·(simp only [go_sem,hF,hP,hY,hZ,az bl,List.map_append,List.map_cons,List.map_nil,encStr];try exact aU)
       ·(simp only [go_sem,hF,hP,hY,hZ,az bl,List.map_append,List.map_cons,List.map_nil,encStr];try exact aU)
      ·simp only [b1,Bool.false_eq_true,if_false]at h2
       have dh:=fc (l:=out) (nx:=a.x.names) rfl (by omega) (g:= .shared)
       repeat' (first
 | simp only [go_sem,hF,hP,hY,hZ,b1,dh]
 | (with_reducible refine CU (lX _) ?_)
 | (with_reducible refine aC hQ ?_;simp only [au,aw,Option.some.injEq,exists_eq_left',go_sem,hF,hP,hY,hZ];repeat' (first | exact Ok.out | with_reducible refine aB ?_ ?_ | (simp;done))))
       refine ct 1 1 ?_ ?_ (IH (rest,k+1,out++a.x.names,_) ⟨g2,h2,by simp;omega,by simp <;> omega⟩ (Nat.lt_succ_self _))
       ·(simp only [go_sem,hF,hP,hY,hZ,az bl];try exact aU)
       ·(simp only [go_sem,hF,hP,hY,hZ,az bl];try exact aU)
   ·have b3:(v.name == [])=true:=by simpa using b2
    repeat' (first
 | simp only [go_sem,hF,hP,hY,hZ,b1,b2,b3,dh]
 | (with_reducible refine CU (hx _) ?_)
 | (with_reducible refine aC hQ ?_;simp only [au,aw,Option.some.injEq,exists_eq_left',go_sem,hF,hP,hY,hZ];repeat' (first | exact Ok.out | with_reducible refine aB ?_ ?_ | (simp;done))))
    refine a8.jB 3 1 rfl ?_
    simp only [go_sem,hF,hP,hY,hZ]
    refine cd 1 1 (a8.ind (ι:=List Ar×Nat×List aF×Nat) (fun i=>v.args.drop i.2.1=i.1∧Ar.said i.2.2.1 i.1=R∧i.2.2.1.length+Ar.aS i.1≤2000000∧i.2.2.2=i.2.2.1.length) (fun i=>i.1.length)
     (fun i=> [(3, .slice (.tok 0) 1 (i.2.2.1.map encStr)),(1, .ptr 0 0),(25, .slice .shared 6 (v.args.map dT)),(26, .int .i64 (v.args.length:Int)),(27, .int .i64 (i.2.1:Int))]) (fun i=>⟨[bd v],[some i.2.2.2]⟩) ?_ (v.args,0,[],0) ⟨rfl,hG,by simp at x4 ⊢;omega,by simp⟩)
    rintro⟨rest,k,out,n'⟩ ⟨h1,h2,h3,h4⟩ IH
    dsimp only at h1 h2 h3 h4
    subst h4
    cases rest with
    | nil=>
     have hF:=drop_nil h1
     simp only [Ar.said]at h2
     subst h2
     repeat' (first
 | simp only [go_sem,hF,hP,hY,hZ]
 | (with_reducible refine aC hQ ?_;simp only [au,aw,Option.some.injEq,exists_eq_left',go_sem,hF,hP,hY,hZ];repeat' (first | exact Ok.out | with_reducible refine aB ?_ ?_ | (simp;done))))
    | cons a rest=>
     obtain⟨hP,g2,hF,g4⟩:=drop_cons h1
     have bl:k<4611686018427387904:=by omega
     simp only [Ar.said]at h2
     simp only [Ar.aS]at h3
     have lX:=fun s=>na (x:=a.x) (by have:=Ar.bV (List.mem_of_getElem? hP);omega) (AL a (List.mem_of_getElem? hP)) s
     have hl:=gx a.x
     have hY:(out.length+1)*17≤bc:=by unfold bc;omega
     rcases Bool.eq_false_or_eq_true a.ref with b1 | b1
     ·simp only [b1,if_true]at h2
      have dh:=fc (l:=out++ [a.name]) (nx:=a.x.names) (n:=out.length+1) (by simp) (by simp;omega) (g:= .shared)
      simp only [List.map_append,List.map_cons,List.map_nil,encStr]at dh
      repeat' (first
 | simp only [go_sem,hF,hP,hY,hZ,b1,dh]
 | (with_reducible refine CU (lX _) ?_)
 | (with_reducible refine aC hQ ?_;simp only [au,aw,Option.some.injEq,exists_eq_left',go_sem,hF,hP,hY,hZ];repeat' (first | exact Ok.out | with_reducible refine aB ?_ ?_ | (simp;done))))
      refine ct 1 1 ?_ ?_ (IH (rest,k+1,out++ [a.name]++a.x.names,_) ⟨g2,h2,by simp;omega,by simp <;> omega⟩ (Nat.lt_succ_self _))
      ·(simp only [go_sem,hF,hP,hY,hZ,az bl,List.map_append,List.map_cons,List.map_nil,encStr];try exact aU)
      ·(simp only [go_sem,hF,hP,hY,hZ,az bl,List.map_append,List.map_cons,List.map_nil,encStr];try exact aU)
     ·simp only [b1,Bool.false_eq_true,if_false]at h2
      have dh:=fc (l:=out) (nx:=a.x.names) rfl (by omega) (g:= .shared)
      repeat' (first
 | simp only [go_sem,hF,hP,hY,hZ,b1,dh]
 | (with_reducible refine CU (lX _) ?_)
 | (with_reducible refine aC hQ ?_;simp only [au,aw,Option.some.injEq,exists_eq_left',go_sem,hF,hP,hY,hZ];repeat' (first | exact Ok.out | with_reducible refine aB ?_ ?_ | (simp;done))))
      refine ct 1 1 ?_ ?_ (IH (rest,k+1,out++a.x.names,_) ⟨g2,h2,by simp;omega,by simp <;> omega⟩ (Nat.lt_succ_self _))
      ·(simp only [go_sem,hF,hP,hY,hZ,az bl];try exact aU)
      ·(simp only [go_sem,hF,hP,hY,hZ,az bl];try exact aU)
  ·have dh : ∀ o:List (List D),gy 1 16 (.slice .full 0 []) (.slice .shared 1 (nx.map encStr)) ⟨o,[]⟩=some (.slice (.tok 0) 1 (nx.map encStr),⟨o,[some nx.length]⟩):=fun o=>by
    have:nx.length*17≤bc:=by unfold bc;omega
    cases nx with
    | nil=>exact absurd rfl BL
    | cons a r=>simp only [List.length_cons]at this;simp [gy,this]
   have HB:(v.kind != 10)=false∨(v.kind != 10)=true∧(v.name != [])=false:=by
    cases h1:(v.kind != 10)
    ·exact .inl rfl
    ·rw [h1]at qJ;exact .inr ⟨rfl,by simpa using qJ⟩
   rcases HB with b1 | ⟨b1,b2⟩
   ·rcases Bool.eq_false_or_eq_true (v.name != [])with b2 | b2
    all_goals
     have b3:(v.name == []) = !(v.name != []):=by simp only [bne,Bool.not_not]
     rw [b2]at b3
     repeat' (first
 | simp only [go_sem,hF,hP,hY,hZ,b1,b2,b3,Bool.not_true,Bool.not_false,dh]
 | (with_reducible refine CU (hx _) ?_)
 | (with_reducible refine aC hQ ?_;simp only [au,aw,Option.some.injEq,exists_eq_left',go_sem,hF,hP,hY,hZ];repeat' (first | exact Ok.out | with_reducible refine aB ?_ ?_ | (simp;done))))
    all_goals
     refine cd 1 1 (a8.ind (ι:=List Ar×Nat×List aF×Nat) (fun i=>v.args.drop i.2.1=i.1∧Ar.said i.2.2.1 i.1=R∧i.2.2.1.length+Ar.aS i.1≤2000000∧i.2.2.2=i.2.2.1.length) (fun i=>i.1.length)
      (fun i=> [(3, .slice (.tok 0) 1 (i.2.2.1.map encStr)),(1, .ptr 0 0),(25, .slice .shared 6 (v.args.map dT)),(26, .int .i64 (v.args.length:Int)),(27, .int .i64 (i.2.1:Int))]) (fun i=>⟨[bd v],[some i.2.2.2]⟩) ?_ (v.args,0,nx,_) ⟨rfl,hG,by simp at x4 ⊢;omega,by simp⟩)
     rintro⟨rest,k,out,n'⟩ ⟨h1,h2,h3,h4⟩ IH
     dsimp only at h1 h2 h3 h4
     subst h4
     cases rest with
     | nil=>
      have hF:=drop_nil h1
      simp only [Ar.said]at h2
      subst h2
      repeat' (first
 | simp only [go_sem,hF,hP,hY,hZ]
 | (with_reducible refine aC hQ ?_;simp only [au,aw,Option.some.injEq,exists_eq_left',go_sem,hF,hP,hY,hZ];repeat' (first | exact Ok.out | with_reducible refine aB ?_ ?_ | (simp;done))))
     | cons a rest=>
      obtain⟨hP,g2,hF,g4⟩:=drop_cons h1
      have bl:k<4611686018427387904:=by omega
      simp only [Ar.said]at h2
      simp only [Ar.aS]at h3
      have lX:=fun s=>na (x:=a.x) (by have:=Ar.bV (List.mem_of_getElem? hP);omega) (AL a (List.mem_of_getElem? hP)) s
      have hl:=gx a.x
      have hY:(out.length+1)*17≤bc:=by unfold bc;omega
      rcases Bool.eq_false_or_eq_true a.ref with b1 | b1
      ·simp only [b1,if_true]at h2
       have dh:=fc (l:=out++ [a.name]) (nx:=a.x.names) (n:=out.length+1) (by simp) (by simp;omega) (g:= .shared)
       simp only [List.map_append,List.map_cons,List.map_nil,encStr]at dh
       repeat' (first
 | simp only [go_sem,hF,hP,hY,hZ,b1,dh]
 | (with_reducible refine CU (lX _) ?_)
 | (with_reducible refine aC hQ ?_;simp only [au,aw,Option.some.injEq,exists_eq_left',go_sem,hF,hP,hY,hZ];repeat' (first | exact Ok.out | with_reducible refine aB ?_ ?_ | (simp;done))))
       refine ct 1 1 ?_ ?_ (IH (rest,k+1,out++ [a.name]++a.x.names,_) ⟨g2,h2,by simp;omega,by simp <;> omega⟩ (Nat.lt_succ_self _))
       ·(simp only [go_sem,hF,hP,hY,hZ,az bl,List.map_append,List.map_cons,List.map_nil,encStr];try exact aU)
       ·(simp only [go_sem,hF,hP,hY,hZ,az bl,List.map_append,List.map_cons,List.map_nil,encStr];try exact aU)
      ·simp only [b1,Bool.false_eq_true,if_false]at h2
       have dh:=fc (l:=out) (nx:=a.x.names) rfl (by omega) (g:= .shared)
       repeat' (first
 | simp only [go_sem,hF,hP,hY,hZ,b1,dh]
 | (with_reducible refine CU (lX _) ?_)
 | (with_reducible refine aC hQ ?_;simp only [au,aw,Option.some.injEq,exists_eq_left',go_sem,hF,hP,hY,hZ];repeat' (first | exact Ok.out | with_reducible refine aB ?_ ?_ | (simp;done))))
       refine ct 1 1 ?_ ?_ (IH (rest,k+1,out++a.x.names,_) ⟨g2,h2,by simp;omega,by simp <;> omega⟩ (Nat.lt_succ_self _))
       ·(simp only [go_sem,hF,hP,hY,hZ,az bl];try exact aU)
       ·(simp only [go_sem,hF,hP,hY,hZ,az bl];try exact aU)
   ·have b3:(v.name == [])=true:=by simpa using b2
    repeat' (first
 | simp only [go_sem,hF,hP,hY,hZ,b1,b2,b3,dh]
 | (with_reducible refine CU (hx _) ?_)
 | (with_reducible refine aC hQ ?_;simp only [au,aw,Option.some.injEq,exists_eq_left',go_sem,hF,hP,hY,hZ];repeat' (first | exact Ok.out | with_reducible refine aB ?_ ?_ | (simp;done))))
    refine cd 1 1 (a8.ind (ι:=List Ar×Nat×List aF×Nat) (fun i=>v.args.drop i.2.1=i.1∧Ar.said i.2.2.1 i.1=R∧i.2.2.1.length+Ar.aS i.1≤2000000∧i.2.2.2=i.2.2.1.length) (fun i=>i.1.length)
     (fun i=> [(3, .slice (.tok 0) 1 (i.2.2.1.map encStr)),(1, .ptr 0 0),(25, .slice .shared 6 (v.args.map dT)),(26, .int .i64 (v.args.length:Int)),(27, .int .i64 (i.2.1:Int))]) (fun i=>⟨[bd v],[some i.2.2.2]⟩) ?_ (v.args,0,nx,_) ⟨rfl,hG,by simp at x4 ⊢;omega,by simp⟩)
    rintro⟨rest,k,out,n'⟩ ⟨h1,h2,h3,h4⟩ IH
    dsimp only at h1 h2 h3 h4
    subst h4
    cases rest with
    | nil=>
     have hF:=drop_nil h1
     simp only [Ar.said]at h2
     subst h2
     repeat' (first
 | simp only [go_sem,hF,hP,hY,hZ]
 | (with_reducible refine aC hQ ?_;simp only [au,aw,Option.some.injEq,exists_eq_left',go_sem,hF,hP,hY,hZ];repeat' (first | exact Ok.out | with_reducible refine aB ?_ ?_ | (simp;done))))
    | cons a rest=>
     obtain⟨hP,g2,hF,g4⟩:=drop_cons h1
     have bl:k<4611686018427387904:=by omega
     simp only [Ar.said]at h2
     simp only [Ar.aS]at h3
     have lX:=fun s=>na (x:=a.x) (by have:=Ar.bV (List.mem_of_getElem? hP);omega) (AL a (List.mem_of_getElem? hP)) s
     have hl:=gx a.x
     have hY:(out.length+1)*17≤bc:=by unfold bc;omega
     rcases Bool.eq_false_or_eq_true a.ref with b1 | b1
     ·simp only [b1,if_true]at h2
      have dh:=fc (l:=out++ [a.name]) (nx:=a.x.names) (n:=out.length+1) (by simp) (by simp;omega) (g:= .shared)
      simp only [List.map_append,List.map_cons,List.map_nil,encStr]at dh
      repeat' (first
 | simp only [go_sem,hF,hP,hY,hZ,b1,dh]
 | (with_reducible refine CU (lX _) ?_)
 | (with_reducible refine aC hQ ?_;simp only [au,aw,Option.some.injEq,exists_eq_left',go_sem,hF,hP,hY,hZ];repeat' (first | exact Ok.out | with_reducible refine aB ?_ ?_ | (simp;done))))
      refine ct 1 1 ?_ ?_ (IH (rest,k+1,out++ [a.name]++a.x.names,_) ⟨g2,h2,by simp;omega,by simp <;> omega⟩ (Nat.lt_succ_self _))
      ·(simp only [go_sem,hF,hP,hY,hZ,az bl,List.map_append,List.map_cons,List.map_nil,encStr];try exact aU)
      ·(simp only [go_sem,hF,hP,hY,hZ,az bl,List.map_append,List.map_cons,List.map_nil,encStr];try exact aU)
     ·simp only [b1,Bool.false_eq_true,if_false]at h2
      have dh:=fc (l:=out) (nx:=a.x.names) rfl (by omega) (g:= .shared)
      repeat' (first
 | simp only [go_sem,hF,hP,hY,hZ,b1,dh]
 | (with_reducible refine CU (lX _) ?_)
 | (with_reducible refine aC hQ ?_;simp only [au,aw,Option.some.injEq,exists_eq_left',go_sem,hF,hP,hY,hZ];repeat' (first | exact Ok.out | with_reducible refine aB ?_ ?_ | (simp;done))))
      refine ct 1 1 ?_ ?_ (IH (rest,k+1,out++a.x.names,_) ⟨g2,h2,by simp;omega,by simp <;> omega⟩ (Nat.lt_succ_self _))
      ·(simp only [go_sem,hF,hP,hY,hZ,az bl];try exact aU)
      ·(simp only [go_sem,hF,hP,hY,hZ,az bl];try exact aU)
theorem BW {v:Sm} (hv:v.nf) (s:St):aE Tryz.prog sn [.agg (bd v)] s (.slice .shared 1 (v.said.map encStr)) s:=by
 refine aE.pure ?_ (by simp only [D.bR,D.ok,l9];rfl) (by simp only [D.ok,Tag.ok,dJ];rfl) s
 obtain⟨ht1,AL,e9⟩:=hv
 obtain⟨R,hG⟩ : ∃ R,v.said=R:=⟨_,rfl⟩
 rw [hG]
 simp only [Sm.said]at hG
 have hlen:v.args.length<1000000000:=by have:=Ar.cZ v.args;omega
 have hx:=fun s=>nc (x:=v.x) (by omega) ht1 s
 have x4:=gx v.x
 unfold S0
 refine aE.go GO rfl fun B Q hB hQ=> ?_
 have⟨hF,hP,hY,hZ⟩:=bq
 have hY:17≤bc:=by unfold bc;omega
 by_cases hb:(v.kind != 10 && v.name != [])=true
 ·simp only [Sm.rf,hb,if_true]at hG
  rw [Bool.and_eq_true]at hb
  obtain⟨b1,b2⟩:=hb
  have dh:=fc (l:= [v.name]) (nx:=v.x.names) (n:=1) rfl (by simp;omega) (g:= .shared)
  simp only [List.map_append,List.map_cons,List.map_nil,encStr]at dh
  have b3:(v.name == [])=false:=by simpa using b2
  repeat' (first
 | simp only [go_sem,hF,hP,hY,hZ,b1,b2,b3,dh]
 | (with_reducible refine CU (hx _) ?_)
 | (with_reducible refine aC hQ ?_;simp only [au,aw,Option.some.injEq,exists_eq_left',go_sem,hF,hP,hY,hZ];repeat' (first | exact Ok.out | with_reducible refine aB ?_ ?_ | (simp;done))))
  refine ct 1 1 ?_ ?_ (a8.ind (ι:=List Ar×Nat×List aF×Nat) (fun i=>v.args.drop i.2.1=i.1∧Ar.said i.2.2.1 i.1=R∧i.2.2.1.length+Ar.aS i.1≤2000000∧i.2.2.2=i.2.2.1.length) (fun i=>i.1.length)
   (fun i=> [(3, .slice (.tok 0) 1 (i.2.2.1.map encStr)),(1, .ptr 0 0),(25, .slice .shared 6 (v.args.map dT)),(26, .int .i64 (v.args.length:Int)),(27, .int .i64 (i.2.1:Int))]) (fun i=>⟨[bd v],[some i.2.2.2]⟩) ?_ (v.args,0,([v.name]++v.x.names),(v.x.names.length+1)) ⟨rfl,hG,by simp at x4 ⊢;omega,by simp⟩)
  ·(simp only [go_sem,hF,hP,hY,hZ,List.map_append,List.map_cons,List.map_nil,encStr];try exact aU)
  ·(simp only [go_sem,hF,hP,hY,hZ,List.map_append,List.map_cons,List.map_nil,encStr];try exact aU)
  rintro⟨rest,k,out,n'⟩ ⟨h1,h2,h3,h4⟩ IH
  dsimp only at h1 h2 h3 h4
  subst h4
  cases rest with
  | nil=>
   have hF:=drop_nil h1
   simp only [Ar.said]at h2
   subst h2
   repeat' (first
 | simp only [go_sem,hF,hP,hY,hZ]
 | (with_reducible refine aC hQ ?_;simp only [au,aw,Option.some.injEq,exists_eq_left',go_sem,hF,hP,hY,hZ];repeat' (first | exact Ok.out | with_reducible refine aB ?_ ?_ | (simp;done))))
  | cons a rest=>
   obtain⟨hP,g2,hF,g4⟩:=drop_cons h1
   have bl:k<4611686018427387904:=by omega
   simp only [Ar.said]at h2
   simp only [Ar.aS]at h3
   have lX:=fun s=>nc (x:=a.x) (by have:=Ar.bV (List.mem_of_getElem? hP);omega) (AL a (List.mem_of_getElem? hP)) s
   have hl:=gx a.x
   have hY:(out.length+1)*17≤bc:=by unfold bc;omega
   rcases Bool.eq_false_or_eq_true a.ref with b1 | b1
   ·simp only [b1,if_true]at h2
    have dh:=fc (l:=out++ [a.name]) (nx:=a.x.names) (n:=out.length+1) (by simp) (by simp;omega) (g:= .shared)
    simp only [List.map_append,List.map_cons,List.map_nil,encStr]at dh
    repeat' (first
 | simp only [go_sem,hF,hP,hY,hZ,b1,dh]
 | (with_reducible refine CU (lX _) ?_)
 | (with_reducible refine aC hQ ?_;simp only [au,aw,Option.some.injEq,exists_eq_left',go_sem,hF,hP,hY,hZ];repeat' (first | exact Ok.out | with_reducible refine aB ?_ ?_ | (simp;done))))
    refine ct 1 1 ?_ ?_ (IH (rest,k+1,out++ [a.name]++a.x.names,_) ⟨g2,h2,by simp;omega,by simp <;> omega⟩ (Nat.lt_succ_self _))
    ·(simp only [go_sem,hF,hP,hY,hZ,az bl,List.map_append,List.map_cons,List.map_nil,encStr];try exact aU)
    ·(simp only [go_sem,hF,hP,hY,hZ,az bl,List.map_append,List.map_cons,List.map_nil,encStr];try exact aU)
   ·simp only [b1,Bool.false_eq_true,if_false]at h2
    have dh:=fc (l:=out) (nx:=a.x.names) rfl (by omega) (g:= .shared)
    repeat' (first
 | simp only [go_sem,hF,hP,hY,hZ,b1,dh]
 | (with_reducible refine CU (lX _) ?_)
 | (with_reducible refine aC hQ ?_;simp only [au,aw,Option.some.injEq,exists_eq_left',go_sem,hF,hP,hY,hZ];repeat' (first | exact Ok.out | with_reducible refine aB ?_ ?_ | (simp;done))))
    refine ct 1 1 ?_ ?_ (IH (rest,k+1,out++a.x.names,_) ⟨g2,h2,by simp;omega,by simp <;> omega⟩ (Nat.lt_succ_self _))
    ·(simp only [go_sem,hF,hP,hY,hZ,az bl];try exact aU)
    ·(simp only [go_sem,hF,hP,hY,hZ,az bl];try exact aU)
 ·simp only [Sm.rf,hb,Bool.false_eq_true,if_false,List.nil_append]at hG
  have qJ:(v.kind != 10 && v.name != [])=false:=by simpa using hb
  obtain⟨nx,F1⟩ : ∃ nx,nx=v.x.names:=⟨_,rfl⟩
  rw [← F1]at hG x4
  simp only [← F1]at hx
  by_cases BL:nx = []
  ·subst BL
   simp only [List.map_nil]at hx
   have dh : ∀ o:List (List D),gy 1 16 (.slice .full 0 []) (.slice .shared 1 []) ⟨o,[]⟩=some (.slice .full 0 [],⟨o,[]⟩):=fun o=>by simp [gy,bc]
   have HB:(v.kind != 10)=false∨(v.kind != 10)=true∧(v.name != [])=false:=by
    cases h1:(v.kind != 10)
    ·exact .inl rfl
    ·rw [h1]at qJ;exact .inr ⟨rfl,by simpa using qJ⟩
   rcases HB with b1 | ⟨b1,b2⟩
   ·rcases Bool.eq_false_or_eq_true (v.name != [])with b2 | b2
    all_goals
     have b3:(v.name == []) = !(v.name != []):=by simp only [bne,Bool.not_not]
     rw [b2]at b3
     repeat' (first
 | simp only [go_sem,hF,hP,hY,hZ,b1,b2,b3,Bool.not_true,Bool.not_false,dh]
 | (with_reducible refine CU (hx _) ?_)
 | (with_reducible refine aC hQ ?_;simp only [au,aw,Option.some.injEq,exists_eq_left',go_sem,hF,hP,hY,hZ];repeat' (first | exact Ok.out | with_reducible refine aB ?_ ?_ | (simp;done))))
    all_goals
     refine a8.jB 3 1 rfl ?_
     simp only [go_sem,hF,hP,hY,hZ]
     refine cd 1 1 (a8.ind (ι:=List Ar×Nat×List aF×Nat) (fun i=>v.args.drop i.2.1=i.1∧Ar.said i.2.2.1 i.1=R∧i.2.2.1.length+Ar.aS i.1≤2000000∧i.2.2.2=i.2.2.1.length) (fun i=>i.1.length)
      (fun i=> [(3, .slice (.tok 0) 1 (i.2.2.1.map encStr)),(1, .ptr 0 0),(25, .slice .shared 6 (v.args.map dT)),(26, .int .i64 (v.args.length:Int)),(27, .int .i64 (i.2.1:Int))]) (fun i=>⟨[bd v],[some i.2.2.2]⟩) ?_ (v.args,0,[],0) ⟨rfl,hG,by simp at x4 ⊢;omega,by simp⟩)
     rintro⟨rest,k,out,n'⟩ ⟨h1,h2,h3,h4⟩ IH
     dsimp only at h1 h2 h3 h4
     subst h4
     cases rest with
     | nil=>
      have hF:=drop_nil h1
      simp only [Ar.said]at h2
      subst h2
      repeat' (first
 | simp only [go_sem,hF,hP,hY,hZ]
 | (with_reducible refine aC hQ ?_;simp only [au,aw,Option.some.injEq,exists_eq_left',go_sem,hF,hP,hY,hZ];repeat' (first | exact Ok.out | with_reducible refine aB ?_ ?_ | (simp;done))))
     | cons a rest=>
      obtain⟨hP,g2,hF,g4⟩:=drop_cons h1
      have bl:k<4611686018427387904:=by omega
      simp only [Ar.said]at h2
      simp only [Ar.aS]at h3
      have lX:=fun s=>nc (x:=a.x) (by have:=Ar.bV (List.mem_of_getElem? hP);omega) (AL a (List.mem_of_getElem? hP)) s
      have hl:=gx a.x
      have hY:(out.length+1)*17≤bc:=by unfold bc;omega
      rcases Bool.eq_false_or_eq_true a.ref with b1 | b1
      ·simp only [b1,if_true]at h2
       have dh:=fc (l:=out++ [a.name]) (nx:=a.x.names) (n:=out.length+1) (by simp) (by simp;omega) (g:= .shared)
       simp only [List.map_append,List.map_cons,List.map_nil,encStr]at dh
       repeat' (first
 | simp only [go_sem,hF,hP,hY,hZ,b1,dh]
 | (with_reducible refine CU (lX _) ?_)
 | (with_reducible refine aC hQ ?_;simp only [au,aw,Option.some.injEq,exists_eq_left',go_sem,hF,hP,hY,hZ];repeat' (first | exact Ok.out | with_reducible refine aB ?_ ?_ | (simp;done))))
       refine ct 1 1 ?_ ?_ (IH (rest,k+1,out++ [a.name]++a.x.names,_) ⟨g2,h2,by simp;omega,by simp <;> omega⟩ (Nat.lt_succ_self _))
       ·(simp only [go_sem,hF,hP,hY,hZ,az bl,List.map_append,List.map_cons,List.map_nil,encStr];try exact aU)
       ·(simp only [go_sem,hF,hP,hY,hZ,az bl,List.map_append,List.map_cons,List.map_nil,encStr];try exact aU)
      ·simp only [b1,Bool.false_eq_true,if_false]at h2
       have dh:=fc (l:=out) (nx:=a.x.names) rfl (by omega) (g:= .shared)
       repeat' (first
 | simp only [go_sem,hF,hP,hY,hZ,b1,dh]
 | (with_reducible refine CU (lX _) ?_)
 | (with_reducible refine aC hQ ?_;simp only [au,aw,Option.some.injEq,exists_eq_left',go_sem,hF,hP,hY,hZ];repeat' (first | exact Ok.out | with_reducible refine aB ?_ ?_ | (simp;done))))
       refine ct 1 1 ?_ ?_ (IH (rest,k+1,out++a.x.names,_) ⟨g2,h2,by simp;omega,by simp <;> omega⟩ (Nat.lt_succ_self _))
       ·(simp only [go_sem,hF,hP,hY,hZ,az bl];try exact aU)
       ·(simp only [go_sem,hF,hP,hY,hZ,az bl];try exact aU)
   ·have b3:(v.name == [])=true:=by simpa using b2
    repeat' (first
 | simp only [go_sem,hF,hP,hY,hZ,b1,b2,b3,dh]
 | (with_reducible refine CU (hx _) ?_)
 | (with_reducible refine aC hQ ?_;simp only [au,aw,Option.some.injEq,exists_eq_left',go_sem,hF,hP,hY,hZ];repeat' (first | exact Ok.out | with_reducible refine aB ?_ ?_ | (simp;done))))
    refine a8.jB 3 1 rfl ?_
    simp only [go_sem,hF,hP,hY,hZ]
    refine cd 1 1 (a8.ind (ι:=List Ar×Nat×List aF×Nat) (fun i=>v.args.drop i.2.1=i.1∧Ar.said i.2.2.1 i.1=R∧i.2.2.1.length+Ar.aS i.1≤2000000∧i.2.2.2=i.2.2.1.length) (fun i=>i.1.length)
     (fun i=> [(3, .slice (.tok 0) 1 (i.2.2.1.map encStr)),(1, .ptr 0 0),(25, .slice .shared 6 (v.args.map dT)),(26, .int .i64 (v.args.length:Int)),(27, .int .i64 (i.2.1:Int))]) (fun i=>⟨[bd v],[some i.2.2.2]⟩) ?_ (v.args,0,[],0) ⟨rfl,hG,by simp at x4 ⊢;omega,by simp⟩)
    rintro⟨rest,k,out,n'⟩ ⟨h1,h2,h3,h4⟩ IH
    dsimp only at h1 h2 h3 h4
    subst h4
    cases rest with
    | nil=>
     have hF:=drop_nil h1
     simp only [Ar.said]at h2
     subst h2
     repeat' (first
 | simp only [go_sem,hF,hP,hY,hZ]
 | (with_reducible refine aC hQ ?_;simp only [au,aw,Option.some.injEq,exists_eq_left',go_sem,hF,hP,hY,hZ];repeat' (first | exact Ok.out | with_reducible refine aB ?_ ?_ | (simp;done))))
    | cons a rest=>
     obtain⟨hP,g2,hF,g4⟩:=drop_cons h1
     have bl:k<4611686018427387904:=by omega
     simp only [Ar.said]at h2
     simp only [Ar.aS]at h3
     have lX:=fun s=>nc (x:=a.x) (by have:=Ar.bV (List.mem_of_getElem? hP);omega) (AL a (List.mem_of_getElem? hP)) s
     have hl:=gx a.x
     have hY:(out.length+1)*17≤bc:=by unfold bc;omega
     rcases Bool.eq_false_or_eq_true a.ref with b1 | b1
     ·simp only [b1,if_true]at h2
      have dh:=fc (l:=out++ [a.name]) (nx:=a.x.names) (n:=out.length+1) (by simp) (by simp;omega) (g:= .shared)
      simp only [List.map_append,List.map_cons,List.map_nil,encStr]at dh
      repeat' (first
 | simp only [go_sem,hF,hP,hY,hZ,b1,dh]
 | (with_reducible refine CU (lX _) ?_)
 | (with_reducible refine aC hQ ?_;simp only [au,aw,Option.some.injEq,exists_eq_left',go_sem,hF,hP,hY,hZ];repeat' (first | exact Ok.out | with_reducible refine aB ?_ ?_ | (simp;done))))
      refine ct 1 1 ?_ ?_ (IH (rest,k+1,out++ [a.name]++a.x.names,_) ⟨g2,h2,by simp;omega,by simp <;> omega⟩ (Nat.lt_succ_self _))
      ·(simp only [go_sem,hF,hP,hY,hZ,az bl,List.map_append,List.map_cons,List.map_nil,encStr];try exact aU)
      ·(simp only [go_sem,hF,hP,hY,hZ,az bl,List.map_append,List.map_cons,List.map_nil,encStr];try exact aU)
     ·simp only [b1,Bool.false_eq_true,if_false]at h2
      have dh:=fc (l:=out) (nx:=a.x.names) rfl (by omega) (g:= .shared)
      repeat' (first
 | simp only [go_sem,hF,hP,hY,hZ,b1,dh]
 | (with_reducible refine CU (lX _) ?_)
 | (with_reducible refine aC hQ ?_;simp only [au,aw,Option.some.injEq,exists_eq_left',go_sem,hF,hP,hY,hZ];repeat' (first | exact Ok.out | with_reducible refine aB ?_ ?_ | (simp;done))))
      refine ct 1 1 ?_ ?_ (IH (rest,k+1,out++a.x.names,_) ⟨g2,h2,by simp;omega,by simp <;> omega⟩ (Nat.lt_succ_self _))
      ·(simp only [go_sem,hF,hP,hY,hZ,az bl];try exact aU)
      ·(simp only [go_sem,hF,hP,hY,hZ,az bl];try exact aU)
  ·have dh : ∀ o:List (List D),gy 1 16 (.slice .full 0 []) (.slice .shared 1 (nx.map encStr)) ⟨o,[]⟩=some (.slice (.tok 0) 1 (nx.map encStr),⟨o,[some nx.length]⟩):=fun o=>by
    have:nx.length*17≤bc:=by unfold bc;omega
    cases nx with
    | nil=>exact absurd rfl BL
    | cons a r=>simp only [List.length_cons]at this;simp [gy,this]
   have HB:(v.kind != 10)=false∨(v.kind != 10)=true∧(v.name != [])=false:=by
    cases h1:(v.kind != 10)
    ·exact .inl rfl
    ·rw [h1]at qJ;exact .inr ⟨rfl,by simpa using qJ⟩
   rcases HB with b1 | ⟨b1,b2⟩
   ·rcases Bool.eq_false_or_eq_true (v.name != [])with b2 | b2
    all_goals
     have b3:(v.name == []) = !(v.name != []):=by simp only [bne,Bool.not_not]
     rw [b2]at b3
     repeat' (first
 | simp only [go_sem,hF,hP,hY,hZ,b1,b2,b3,Bool.not_true,Bool.not_false,dh]
 | (with_reducible refine CU (hx _) ?_)
 | (with_reducible refine aC hQ ?_;simp only [au,aw,Option.some.injEq,exists_eq_left',go_sem,hF,hP,hY,hZ];repeat' (first | exact Ok.out | with_reducible refine aB ?_ ?_ | (simp;done))))
    all_goals
     refine cd 1 1 (a8.ind (ι:=List Ar×Nat×List aF×Nat) (fun i=>v.args.drop i.2.1=i.1∧Ar.said i.2.2.1 i.1=R∧i.2.2.1.length+Ar.aS i.1≤2000000∧i.2.2.2=i.2.2.1.length) (fun i=>i.1.length)
      (fun i=> [(3, .slice (.tok 0) 1 (i.2.2.1.map encStr)),(1, .ptr 0 0),(25, .slice .shared 6 (v.args.map dT)),(26, .int .i64 (v.args.length:Int)),(27, .int .i64 (i.2.1:Int))]) (fun i=>⟨[bd v],[some i.2.2.2]⟩) ?_ (v.args,0,nx,_) ⟨rfl,hG,by simp at x4 ⊢;omega,by simp⟩)
     rintro⟨rest,k,out,n'⟩ ⟨h1,h2,h3,h4⟩ IH
     dsimp only at h1 h2 h3 h4
     subst h4
     cases rest with
     | nil=>
      have hF:=drop_nil h1
      simp only [Ar.said]at h2
      subst h2
      repeat' (first
 | simp only [go_sem,hF,hP,hY,hZ]
 | (with_reducible refine aC hQ ?_;simp only [au,aw,Option.some.injEq,exists_eq_left',go_sem,hF,hP,hY,hZ];repeat' (first | exact Ok.out | with_reducible refine aB ?_ ?_ | (simp;done))))
     | cons a rest=>
      obtain⟨hP,g2,hF,g4⟩:=drop_cons h1
      have bl:k<4611686018427387904:=by omega
      simp only [Ar.said]at h2
      simp only [Ar.aS]at h3
      have lX:=fun s=>nc (x:=a.x) (by have:=Ar.bV (List.mem_of_getElem? hP);omega) (AL a (List.mem_of_getElem? hP)) s
      have hl:=gx a.x
      have hY:(out.length+1)*17≤bc:=by unfold bc;omega
      rcases Bool.eq_false_or_eq_true a.ref with b1 | b1
      ·simp only [b1,if_true]at h2
       have dh:=fc (l:=out++ [a.name]) (nx:=a.x.names) (n:=out.length+1) (by simp) (by simp;omega) (g:= .shared)
       simp only [List.map_append,List.map_cons,List.map_nil,encStr]at dh
       repeat' (first
 | simp only [go_sem,hF,hP,hY,hZ,b1,dh]
 | (with_reducible refine CU (lX _) ?_)
 | (with_reducible refine aC hQ ?_;simp only [au,aw,Option.some.injEq,exists_eq_left',go_sem,hF,hP,hY,hZ];repeat' (first | exact Ok.out | with_reducible refine aB ?_ ?_ | (simp;done))))
       refine ct 1 1 ?_ ?_ (IH (rest,k+1,out++ [a.name]++a.x.names,_) ⟨g2,h2,by simp;omega,by simp <;> omega⟩ (Nat.lt_succ_self _))
       ·(simp only [go_sem,hF,hP,hY,hZ,az bl,List.map_append,List.map_cons,List.map_nil,encStr];try exact aU)
       ·(simp only [go_sem,hF,hP,hY,hZ,az bl,List.map_append,List.map_cons,List.map_nil,encStr];try exact aU)
      ·simp only [b1,Bool.false_eq_true,if_false]at h2
       have dh:=fc (l:=out) (nx:=a.x.names) rfl (by omega) (g:= .shared)
       repeat' (first
 | simp only [go_sem,hF,hP,hY,hZ,b1,dh]
 | (with_reducible refine CU (lX _) ?_)
 | (with_reducible refine aC hQ ?_;simp only [au,aw,Option.some.injEq,exists_eq_left',go_sem,hF,hP,hY,hZ];repeat' (first | exact Ok.out | with_reducible refine aB ?_ ?_ | (simp;done))))
       refine ct 1 1 ?_ ?_ (IH (rest,k+1,out++a.x.names,_) ⟨g2,h2,by simp;omega,by simp <;> omega⟩ (Nat.lt_succ_self _))
       ·(simp only [go_sem,hF,hP,hY,hZ,az bl];try exact aU)
       ·(simp only [go_sem,hF,hP,hY,hZ,az bl];try exact aU)
   ·have b3:(v.name == [])=true:=by simpa using b2
    repeat' (first
 | simp only [go_sem,hF,hP,hY,hZ,b1,b2,b3,dh]
 | (with_reducible refine CU (hx _) ?_)
 | (with_reducible refine aC hQ ?_;simp only [au,aw,Option.some.injEq,exists_eq_left',go_sem,hF,hP,hY,hZ];repeat' (first | exact Ok.out | with_reducible refine aB ?_ ?_ | (simp;done))))
    refine cd 1 1 (a8.ind (ι:=List Ar×Nat×List aF×Nat) (fun i=>v.args.drop i.2.1=i.1∧Ar.said i.2.2.1 i.1=R∧i.2.2.1.length+Ar.aS i.1≤2000000∧i.2.2.2=i.2.2.1.length) (fun i=>i.1.length)
     (fun i=> [(3, .slice (.tok 0) 1 (i.2.2.1.map encStr)),(1, .ptr 0 0),(25, .slice .shared 6 (v.args.map dT)),(26, .int .i64 (v.args.length:Int)),(27, .int .i64 (i.2.1:Int))]) (fun i=>⟨[bd v],[some i.2.2.2]⟩) ?_ (v.args,0,nx,_) ⟨rfl,hG,by simp at x4 ⊢;omega,by simp⟩)
    rintro⟨rest,k,out,n'⟩ ⟨h1,h2,h3,h4⟩ IH
    dsimp only at h1 h2 h3 h4
    subst h4
    cases rest with
    | nil=>
     have hF:=drop_nil h1
     simp only [Ar.said]at h2
     subst h2
     repeat' (first
 | simp only [go_sem,hF,hP,hY,hZ]
 | (with_reducible refine aC hQ ?_;simp only [au,aw,Option.some.injEq,exists_eq_left',go_sem,hF,hP,hY,hZ];repeat' (first | exact Ok.out | with_reducible refine aB ?_ ?_ | (simp;done))))
    | cons a rest=>
     obtain⟨hP,g2,hF,g4⟩:=drop_cons h1
     have bl:k<4611686018427387904:=by omega
     simp only [Ar.said]at h2
     simp only [Ar.aS]at h3
     have lX:=fun s=>nc (x:=a.x) (by have:=Ar.bV (List.mem_of_getElem? hP);omega) (AL a (List.mem_of_getElem? hP)) s
     have hl:=gx a.x
     have hY:(out.length+1)*17≤bc:=by unfold bc;omega
     rcases Bool.eq_false_or_eq_true a.ref with b1 | b1
     ·simp only [b1,if_true]at h2
      have dh:=fc (l:=out++ [a.name]) (nx:=a.x.names) (n:=out.length+1) (by simp) (by simp;omega) (g:= .shared)
      simp only [List.map_append,List.map_cons,List.map_nil,encStr]at dh
      repeat' (first
 | simp only [go_sem,hF,hP,hY,hZ,b1,dh]
 | (with_reducible refine CU (lX _) ?_)
 | (with_reducible refine aC hQ ?_;simp only [au,aw,Option.some.injEq,exists_eq_left',go_sem,hF,hP,hY,hZ];repeat' (first | exact Ok.out | with_reducible refine aB ?_ ?_ | (simp;done))))
      refine ct 1 1 ?_ ?_ (IH (rest,k+1,out++ [a.name]++a.x.names,_) ⟨g2,h2,by simp;omega,by simp <;> omega⟩ (Nat.lt_succ_self _))
      ·(simp only [go_sem,hF,hP,hY,hZ,az bl,List.map_append,List.map_cons,List.map_nil,encStr];try exact aU)
      ·(simp only [go_sem,hF,hP,hY,hZ,az bl,List.map_append,List.map_cons,List.map_nil,encStr];try exact aU)
     ·simp only [b1,Bool.false_eq_true,if_false]at h2
      have dh:=fc (l:=out) (nx:=a.x.names) rfl (by omega) (g:= .shared)
      repeat' (first
 | simp only [go_sem,hF,hP,hY,hZ,b1,dh]
 | (with_reducible refine CU (lX _) ?_)
 | (with_reducible refine aC hQ ?_;simp only [au,aw,Option.some.injEq,exists_eq_left',go_sem,hF,hP,hY,hZ];repeat' (first | exact Ok.out | with_reducible refine aB ?_ ?_ | (simp;done))))
      refine ct 1 1 ?_ ?_ (IH (rest,k+1,out++a.x.names,_) ⟨g2,h2,by simp;omega,by simp <;> omega⟩ (Nat.lt_succ_self _))
      ·(simp only [go_sem,hF,hP,hY,hZ,az bl];try exact aU)
      ·(simp only [go_sem,hF,hP,hY,hZ,az bl];try exact aU)
end Go.Abs

/-! MayEq2 -/

namespace Go.Abs
theorem kM : ∀ (a b:List It) (n:Nat),It.dZ n (a++b)=(It.dZ n a && It.dZ (n+a.length) b)
 | [],b,n=>by simp [It.dZ]
 | i::a,b,n=>by
  simp only [List.cons_append,It.dZ,kM a b (n+1),List.length_cons]
  have:n+1+a.length=n+(a.length+1):=by omega
  rw [this]
  split <;> simp
theorem DI (n:Nat) (i:It):It.dZ n [i] = true↔i.s.id=((n+1:Nat):Int)∧i.deep≤12∧i.s.one=true:=by
 simp only [It.dZ]
 split
 ·rename_i h
  simp only [Bool.or_eq_true,bne_iff_ne,ne_eq,decide_eq_true_eq,Bool.not_eq_true']at h
  refine⟨fun h=>(Bool.false_ne_true h).elim,fun⟨h1,h2,h3⟩=> ?_⟩
  rcases h with (h | h) | h
  ·exact(h h1).elim
  ·omega
  ·rw [h]at h3;cases h3
 ·rename_i h
  simp only [Bool.or_eq_true,bne_iff_ne,ne_eq,decide_eq_true_eq,Bool.not_eq_true',not_or,Decidable.not_not,Bool.not_eq_false]at h
  exact⟨fun _=>⟨h.1.1,by omega,h.2⟩,fun _=>rfl⟩
mutual
theorem AN (deep bo:Int) (aP:Bool) : ∀ (s:Sm) (out:List It),∃ new,fV deep bo aP out s=out++(⟨s,deep,bo,aP⟩::new)
 | ⟨id,kind,labels,name,proc,x,has,args,aZ,e⟩,out=>by
  simp only [fV]
  split
  ·obtain⟨n1,h1⟩:=qz (deep+1) id false aZ (out++ [⟨⟨id,kind,labels,name,proc,x,has,args,aZ,e⟩,deep,bo,aP⟩])
   obtain⟨n2,h2⟩:=qz (deep+1) id true e (dt (deep+1) id false (out++ [⟨⟨id,kind,labels,name,proc,x,has,args,aZ,e⟩,deep,bo,aP⟩]) aZ)
   rw [h2,h1]
   exact⟨n1++n2,by simp⟩
  ·exact⟨[],rfl⟩
theorem qz (deep bo:Int) (aP:Bool) : ∀ (l:List Sm) (out:List It),∃ new,dt deep bo aP out l=out++new
 | [],out=>⟨[],by simp [dt]⟩
 | s::l,out=>by
  simp only [dt]
  split
  ·obtain⟨n1,h1⟩:=AN deep bo aP s out
   obtain⟨n2,h2⟩:=qz deep bo aP l (fV deep bo aP out s)
   rw [h2,h1]
   exact⟨⟨s,deep,bo,aP⟩::n1++n2,by simp⟩
  ·exact⟨[],by simp⟩
end
theorem F2 {nest:Int} {n:Nat} {s:Sm} (h:(Sm.pN nest n s).1=true) :
 n+1≤200∧s.id=((n+1:Nat):Int)∧s.one=true∧(Sm.gu (nest+1) (n+1) s.aZ).1=true∧(Sm.gu (nest+1) (Sm.gu (nest+1) (n+1) s.aZ).2 s.aP).1=true∧
 (Sm.pN nest n s).2=(Sm.gu (nest+1) (Sm.gu (nest+1) (n+1) s.aZ).2 s.aP).2:=by
 rw [E6]at h ⊢
 split at h
 ·cases h
 rename_i h1
 simp only [Bool.or_eq_true,bne_iff_ne,ne_eq,decide_eq_true_eq,Bool.not_eq_true',not_or,Decidable.not_not,Bool.not_eq_false]at h1
 split at h
 ·cases h
 rename_i h2
 have sJ:(Sm.gu (nest+1) (n+1) s.aZ).1=true:=by simpa using h2
 refine⟨by omega,h1.1.1.2, ?_,sJ,h, ?_⟩
 ·rw [DH,h1.1.2,h1.2];rfl
 ·rw [if_neg (by simp only [Bool.or_eq_true,bne_iff_ne,ne_eq,decide_eq_true_eq,Bool.not_eq_true',not_or,Decidable.not_not,Bool.not_eq_false];exact h1),if_neg h2]
theorem sU {nest:Int} {n:Nat} {l:List Sm} (h:(Sm.gu nest n l).1=true):(l = []∨nest≤12)∧Sm.gu nest n l=Sm.fp nest n l:=by
 unfold Sm.gu gate at *
 split at h
 ·cases h
 ·rename_i hc
  rw [if_neg hc]
  refine⟨?_,rfl⟩
  simp only [Bool.and_eq_true,decide_eq_true_eq,not_and]at hc
  cases l with
  | nil=>exact .inl rfl
  | cons s l=>right;simp only [List.length_cons]at hc;omega
mutual
theorem QG : ∀ (s:Sm) (nest bo:Int) (aP:Bool) (n:Nat) (out:List It),nest≤12→out.length≤n→n≤200→(Sm.pN nest n s).1=true→
 ∃ new,fV nest bo aP out s=out++new∧It.dZ n new=true∧n+new.length=(Sm.pN nest n s).2∧(Sm.pN nest n s).2≤200
 | ⟨id,kind,labels,name,proc,x,has,args,aZ,e⟩,nest,bo,aP,n,out,QH,ho,hn,h=>by
  obtain⟨h1,h2,h3,h4,h5,h6⟩:=F2 h
  dsimp only at h2 h4 h5 h6
  rw [h6]
  obtain⟨g1,e1⟩:=sU h4
  rw [e1]at h4 h5 ⊢
  obtain⟨g2,e2⟩:=sU h5
  rw [e2]at h5 ⊢
  have pb:It.dZ n [(⟨⟨id,kind,labels,name,proc,x,has,args,aZ,e⟩,nest,bo,aP⟩:It)] = true:=(DI _ _).2 ⟨h2,QH,h3⟩
  obtain⟨n1,k1,k2,k3,k4⟩:=wh aZ (nest+1) id false (n+1) (out++ [⟨⟨id,kind,labels,name,proc,x,has,args,aZ,e⟩,nest,bo,aP⟩]) g1 (by simp;omega) h1 h4
  obtain⟨n2,j1,j2,j3,j4⟩:=wh e (nest+1) id true _ (out++ [⟨⟨id,kind,labels,name,proc,x,has,args,aZ,e⟩,nest,bo,aP⟩]++n1) g2 (by simp;omega) k4 h5
  simp only [fV]
  rw [if_pos (by simpa using QH),k1,j1]
  refine⟨⟨⟨id,kind,labels,name,proc,x,has,args,aZ,e⟩,nest,bo,aP⟩::(n1++n2),by simp, ?_, ?_,j4⟩
  ·have:(⟨⟨id,kind,labels,name,proc,x,has,args,aZ,e⟩,nest,bo,aP⟩:It)::(n1++n2) = [⟨⟨id,kind,labels,name,proc,x,has,args,aZ,e⟩,nest,bo,aP⟩]++n1++n2:=by simp
   rw [this,kM,kM,pb,Bool.true_and]
   have e3:n+([(⟨⟨id,kind,labels,name,proc,x,has,args,aZ,e⟩,nest,bo,aP⟩:It)]++n1).length=(Sm.fp (nest+1) (n+1) aZ).2:=by simp;omega
   rw [e3,j2]
   have e4:n + [(⟨⟨id,kind,labels,name,proc,x,has,args,aZ,e⟩,nest,bo,aP⟩:It)].length=n+1:=rfl
   rw [e4,k2];rfl
  ·simp only [List.length_cons,List.length_append];omega
theorem wh : ∀ (l:List Sm) (nest bo:Int) (aP:Bool) (n:Nat) (out:List It),(l = []∨nest≤12)→out.length≤n→n≤200→(Sm.fp nest n l).1=true→
 ∃ new,dt nest bo aP out l=out++new∧It.dZ n new=true∧n+new.length=(Sm.fp nest n l).2∧(Sm.fp nest n l).2≤200
 | [],nest,bo,aP,n,out,QH,ho,hn,h=>⟨[],by simp [dt],rfl,by simp [Sm.fp],by simpa [Sm.fp]using hn⟩
 | s::l,nest,bo,aP,n,out,QH,ho,hn,h=>by
  have aaC:nest≤12:=QH.resolve_left (by simp)
  simp only [Sm.fp]at h ⊢
  split at h
  ·cases h
  rename_i hc
  rw [if_neg hc]
  obtain⟨n1,k1,k2,k3,k4⟩:=QG s nest bo aP n out aaC ho hn (by simpa using hc)
  obtain⟨n2,j1,j2,j3,j4⟩:=wh l nest bo aP _ (out++n1) (.inr aaC) (by simp;omega) k4 h
  simp only [dt]
  rw [if_pos (by simp only [decide_eq_true_eq];omega),k1,j1]
  refine⟨n1++n2,by simp, ?_,by simp;omega,j4⟩
  rw [kM,k2,k3,j2];rfl
end
mutual
theorem QI : ∀ (s:Sm) (nest bo:Int) (aP:Bool) (n:Nat) (out new:List It),fV nest bo aP out s=out++new→It.dZ n new=true→out.length≤n→n+new.length≤200→
 Sm.pN nest n s=(true,n+new.length)∧nest≤12
 | ⟨id,kind,labels,name,proc,x,has,args,aZ,e⟩,nest,bo,aP,n,out,new,jK,hm,ho,hn=>by
  obtain⟨n0,h0⟩:=AN nest bo aP ⟨id,kind,labels,name,proc,x,has,args,aZ,e⟩ out
  have e0:new = ⟨⟨id,kind,labels,name,proc,x,has,args,aZ,e⟩,nest,bo,aP⟩::n0:=List.append_cancel_left (jK.symm.trans h0)
  subst e0
  have aea:(⟨⟨id,kind,labels,name,proc,x,has,args,aZ,e⟩,nest,bo,aP⟩:It)::n0 = [⟨⟨id,kind,labels,name,proc,x,has,args,aZ,e⟩,nest,bo,aP⟩]++n0:=rfl
  rw [aea,kM,Bool.and_eq_true]at hm
  obtain⟨I7,hm2⟩:=hm
  obtain⟨c1,c2,c3⟩:=(DI _ _).1 I7
  dsimp only at c1 c2 c3
  simp only [List.length_cons]at hn ⊢
  have T5:dt (nest+1) id true (dt (nest+1) id false (out++ [⟨⟨id,kind,labels,name,proc,x,has,args,aZ,e⟩,nest,bo,aP⟩]) aZ) e=out++([⟨⟨id,kind,labels,name,proc,x,has,args,aZ,e⟩,nest,bo,aP⟩]++n0):=by
   simp only [fV]at jK
   rw [if_pos (by simpa using c2)]at jK
   exact jK
  obtain⟨n1,g1⟩:=qz (nest+1) id false aZ (out++ [⟨⟨id,kind,labels,name,proc,x,has,args,aZ,e⟩,nest,bo,aP⟩])
  obtain⟨n2,g2⟩:=qz (nest+1) id true e (dt (nest+1) id false (out++ [⟨⟨id,kind,labels,name,proc,x,has,args,aZ,e⟩,nest,bo,aP⟩]) aZ)
  have en:n0=n1++n2:=by
   rw [g2,g1]at T5
   simp only [List.append_assoc,List.append_cancel_left_eq]at T5
   exact T5.symm
  subst en
  have T6:It.dZ (n+1) (n1++n2)=true:=hm2
  rw [kM,Bool.and_eq_true]at T6
  simp only [List.length_append]at hn ⊢
  obtain⟨r1,r2⟩:=wi aZ (nest+1) id false (n+1) _ n1 g1 T6.1 (by simp;omega) (by omega)
  obtain⟨q1,q2⟩:=wi e (nest+1) id true (n+1+n1.length) _ n2 g2 T6.2 (by rw [g1];simp;omega) (by omega)
  refine⟨?_,c2⟩
  have gg : ∀ {l:List Sm} {m:Nat} {r:Bool×Nat},Sm.fp (nest+1) m l=r→(l = []∨nest+1≤12)→Sm.gu (nest+1) m l=r:=by
   intro l m r h1 h2
   unfold Sm.gu gate
   rw [if_neg]
   ·exact h1
   ·simp only [Bool.and_eq_true,decide_eq_true_eq,not_and]
    rcases h2 with h2 | h2
    ·subst h2;simp
    ·omega
  have t1:=gg r1 r2
  have t2:=gg q1 q2
  rw [E6]
  dsimp only
  rw [t1]
  dsimp only
  rw [t2]
  rw [DH,Bool.and_eq_true]at c3
  rw [if_neg]
  ·simp;omega
  ·simp only [Bool.or_eq_true,bne_iff_ne,ne_eq,decide_eq_true_eq,Bool.not_eq_true',not_or,Decidable.not_not,Bool.not_eq_false]
   exact⟨⟨⟨by omega,c1⟩,c3.1⟩,c3.2⟩
theorem wi : ∀ (l:List Sm) (nest bo:Int) (aP:Bool) (n:Nat) (out new:List It),dt nest bo aP out l=out++new→It.dZ n new=true→out.length≤n→n+new.length≤200→
 Sm.fp nest n l=(true,n+new.length)∧(l = []∨nest≤12)
 | [],nest,bo,aP,n,out,new,jK,hm,ho,hn=>by
  simp only [dt]at jK
  have:new = []:=by simpa using jK
  subst this
  exact⟨by simp [Sm.fp], .inl rfl⟩
 | s::l,nest,bo,aP,n,out,new,jK,hm,ho,hn=>by
  simp only [dt]at jK
  rw [if_pos (by simp only [decide_eq_true_eq];omega)]at jK
  obtain⟨n1,g1⟩:=AN nest bo aP s out
  obtain⟨n2,g2⟩:=qz nest bo aP l (fV nest bo aP out s)
  have en:new=(⟨s,nest,bo,aP⟩::n1)++n2:=by
   rw [g2,g1,List.append_assoc,List.append_cancel_left_eq]at jK
   exact jK.symm
  subst en
  rw [kM,Bool.and_eq_true]at hm
  rw [List.length_append]at hn ⊢
  obtain⟨r1,r2⟩:=QI s nest bo aP n out _ g1 hm.1 ho (by omega)
  obtain⟨q1,q2⟩:=wi l nest bo aP (n+(⟨s,nest,bo,aP⟩::n1:List It).length) _ n2 g2 hm.2 (by rw [g1,List.length_append];omega) (by omega)
  refine⟨?_, .inr r2⟩
  simp only [Sm.fp,r1,Bool.not_true,Bool.false_eq_true, ↓reduceIte,q1]
  congr 1;omega
end
theorem AP : ∀ (l:List Pc) (out:List It),out.length≤200→(Pc.fp out.length l=true↔Pc.lU l=true∧∃ new,allM out l=out++new∧(out++new).length≤200∧It.dZ out.length new=true)
 | [],out,ho=>by simp [Pc.fp,Pc.lU,allM,It.dZ];exact ho
 | f::l,out,ho=>by
  have rW : ∀ (l:List Pc) (out:List It),∃ new,allM out l=out++new:=by
   intro l
   induction l with
   | nil=>intro out;exact⟨[],by simp [allM]⟩
   | cons f l ih=>
    intro out
    simp only [allM]
    split
    ·exact⟨_,rfl⟩
    ·obtain⟨n1,h1⟩:=ih (out++f.flat)
     exact⟨f.flat++n1,by rw [h1,List.append_assoc]⟩
  simp only [Pc.fp,Pc.lU]
  have aeb:(decide ((f.params.length:Int) > 8) || decide ((f.vars.length:Int) > 16) || !(isName f.name) || !(dG f.vars) || !(dG f.fin))=(!(isName f.name) || decide ((f.params.length:Int) > 8) || decide ((f.vars.length:Int) > 16) || !(dG f.vars) || !(dG f.fin)):=by
   cases isName f.name <;> simp
  rw [aeb]
  split
  ·simp
  split
  ·simp
  have hg:Sm.gu 1 out.length f.body=Sm.fp 1 out.length f.body:=by unfold Sm.gu gate;rw [if_neg (by simp)]
  rw [hg]
  constructor
  ·intro h
   split at h
   ·cases h
   rename_i hc
   obtain⟨n1,k1,k2,k3,k4⟩:=wh f.body 1 0 false out.length [] (.inr (by omega)) (by simp) ho (by simpa using hc)
   have jK:f.flat=n1:=by unfold Pc.flat;rw [k1];rfl
   rw [← k3, ← List.length_append]at h
   obtain⟨hh,n2,j1,j2,j3⟩:=(AP l (out++n1) (by rw [List.length_append];omega)).1 h
   refine⟨hh,n1++n2, ?_,by simpa using j2, ?_⟩
   ·simp only [allM,jK]
    rw [if_neg (by simp only [List.length_append,decide_eq_true_eq];omega),j1,List.append_assoc]
   ·rw [kM,k2, ← List.length_append,j3];rfl
  ·rintro⟨hh,new,j1,j2,j3⟩
   simp only [allM]at j1
   split at j1
   ·rename_i hc
    have:new=f.flat:=(List.append_cancel_left j1).symm
    subst this
    simp only [decide_eq_true_eq]at hc
    omega
   rename_i hc
   simp only [decide_eq_true_eq]at hc
   obtain⟨n2,g2⟩:=rW l (out++f.flat)
   have en:new=f.flat++n2:=by
    rw [g2,List.append_assoc]at j1
    exact(List.append_cancel_left j1).symm
   subst en
   rw [kM,Bool.and_eq_true]at j3
   rw [List.length_append,List.length_append]at j2
   obtain⟨r1,_⟩:=wi f.body 1 0 false out.length [] f.flat (by unfold Pc.flat;rfl) j3.1 (by simp) (by omega)
   rw [r1]
   simp only [Bool.not_true,Bool.false_eq_true, ↓reduceIte]
   rw [← List.length_append]
   exact(AP l (out++f.flat) (by rw [List.length_append];omega)).2 ⟨hh,n2,g2,by simp;omega,by rw [List.length_append];exact j3.2⟩
theorem E9 (p:Pg):p.E8=p.may:=by
 have h:=AP p.procs [] (by simp)
 unfold Pg.E8 Pg.may
 split
 ·rfl
 ·have e:Pc.fp 0 p.procs=(if !(Pc.lU p.procs)then false else if decide ((p.all.length:Int) > 200)then false else It.dZ 0 p.all):=by
   rw [Bool.eq_iff_iff]
   have h':Pc.fp 0 p.procs=true↔_:=h
   rw [h']
   have ha:p.all=allM [] p.procs:=rfl
   constructor
   ·rintro⟨h1,new,h2,h3,h4⟩
    rw [ha,h2,h1]
    simp only [List.nil_append]at h3 ⊢
    simp only [Bool.not_true,Bool.false_eq_true, ↓reduceIte]
    rw [if_neg (by simp only [decide_eq_true_eq];omega)]
    exact h4
   ·intro h1
    cases hh:Pc.lU p.procs
    ·rw [hh]at h1;simp at h1
    ·rw [hh]at h1
     simp only [Bool.not_true,Bool.false_eq_true, ↓reduceIte]at h1
     split at h1
     ·cases h1
     ·rename_i hc
      simp only [decide_eq_true_eq]at hc
      exact⟨rfl,p.all,by rw [ha];rfl,by simp;omega,h1⟩
  exact e
end Go.Abs

/-! Tree1 -/

namespace Go.Abs
set_option maxRecDepth 8000
open Go.Proofs
theorem DJ {size bytes z:Nat} {g:Tag} {rows:List (List D)} {s:St} (h:rows.length*(bytes+1)≤bc) (hr:rows≠ []) :
 gy size bytes (.slice .full z []) (.slice g size rows) s=some (.slice (.tok s.aH.length) size rows,⟨s.aG,s.aH++ [some rows.length]⟩):=by
 cases rows with
 | nil=>exact absurd rfl hr
 | cons r l=>simp only [gy];simp at h ⊢;exact h
theorem wj {l:List aF} (hl:l.length<1073741824) (g:Tag) (s:St):aE Tryz.prog gR [.slice g 1 (l.map encStr)] s (.slice .shared 1 (l.map encStr)) s:=by
 refine eU.Cg (.cons (Wk.shared _ _ _) .nil) (aE.pure ?_ (by simp [D.bR,D.ok,Tag.ok,dJ]) (by simp [D.ok,Tag.ok,dJ]) s)
 unfold S0
 refine aE.go vG rfl fun B Q hB hQ=> ?_
 have⟨hF,hP,hY,hZ⟩:=bq
 cases l with
 | nil=>
  repeat' (first
 | simp only [go_sem,hF,hP,hY,hZ]
 | (with_reducible refine aC hQ ?_;simp only [au,aw,Option.some.injEq,exists_eq_left',go_sem,hF,hP,hY,hZ];repeat' (first | exact Ok.out | with_reducible refine aB ?_ ?_ | (simp;done))))
  refine Is (fun _=> ?_) ?_
  ·repeat' (first
 | simp only [go_sem,hF,hP,hY,hZ,gy,true_or,Nat.zero_le]
 | (with_reducible refine aC hQ ?_;simp only [au,aw,Option.some.injEq,exists_eq_left',go_sem,hF,hP,hY,hZ];repeat' (first | exact Ok.out | with_reducible refine aB ?_ ?_ | (simp;done))))
  ·repeat' (first
 | simp only [go_sem,hF,hP,hY,hZ,gy,true_or,Nat.zero_le]
 | (with_reducible refine aC hQ ?_;simp only [au,aw,Option.some.injEq,exists_eq_left',go_sem,hF,hP,hY,hZ];repeat' (first | exact Ok.out | with_reducible refine aB ?_ ?_ | (simp;done))))
 | cons x l=>
  have e:((x::l).map encStr).length*(16+1)≤bc:=by simp only [List.length_map,bc];omega
  have e2:=fun s=>DJ (size:=1) (z:=1) (g:= .shared) (s:=s) e (by simp)
  simp only [List.map_cons,encStr]at e2
  repeat' (first
 | simp only [go_sem,hF,hP,hY,hZ,e2]
 | (with_reducible refine aC hQ ?_;simp only [au,aw,Option.some.injEq,exists_eq_left',go_sem,hF,hP,hY,hZ];repeat' (first | exact Ok.out | with_reducible refine aB ?_ ?_ | (simp;done))))
theorem T7 {l:List Pm} (hl:l.length<1073741824) (g:Tag) (s:St):aE Tryz.prog la [.slice g 2 (l.map fQ)] s (.slice .shared 2 (l.map fQ)) s:=by
 refine eU.Cg (.cons (Wk.shared _ _ _) .nil) (aE.pure ?_ (by simp [D.bR,D.ok,Tag.ok,Nj]) (by simp [D.ok,Tag.ok,Nj]) s)
 unfold S0
 refine aE.go tx rfl fun B Q hB hQ=> ?_
 have⟨hF,hP,hY,hZ⟩:=bq
 cases l with
 | nil=>
  repeat' (first
 | simp only [go_sem,hF,hP,hY,hZ]
 | (with_reducible refine aC hQ ?_;simp only [au,aw,Option.some.injEq,exists_eq_left',go_sem,hF,hP,hY,hZ];repeat' (first | exact Ok.out | with_reducible refine aB ?_ ?_ | (simp;done))))
  refine Is (fun _=> ?_) ?_
  ·repeat' (first
 | simp only [go_sem,hF,hP,hY,hZ,gy,true_or,Nat.zero_le]
 | (with_reducible refine aC hQ ?_;simp only [au,aw,Option.some.injEq,exists_eq_left',go_sem,hF,hP,hY,hZ];repeat' (first | exact Ok.out | with_reducible refine aB ?_ ?_ | (simp;done))))
  ·repeat' (first
 | simp only [go_sem,hF,hP,hY,hZ,gy,true_or,Nat.zero_le]
 | (with_reducible refine aC hQ ?_;simp only [au,aw,Option.some.injEq,exists_eq_left',go_sem,hF,hP,hY,hZ];repeat' (first | exact Ok.out | with_reducible refine aB ?_ ?_ | (simp;done))))
 | cons x l=>
  have e:((x::l).map fQ).length*(24+1)≤bc:=by simp only [List.length_map,bc];omega
  have e2:=fun s=>DJ (size:=2) (z:=2) (g:= .shared) (s:=s) e (by simp)
  simp only [List.map_cons,encStr]at e2
  repeat' (first
 | simp only [go_sem,hF,hP,hY,hZ,e2]
 | (with_reducible refine aC hQ ?_;simp only [au,aw,Option.some.injEq,exists_eq_left',go_sem,hF,hP,hY,hZ];repeat' (first | exact Ok.out | with_reducible refine aB ?_ ?_ | (simp;done))))
theorem aaD : ∀ n,n<1073741824→∀ x:Ex,x.size≤n→aE Tryz.prog me [.agg (bE x)] S0 (.agg (bE x)) S0:=by
 intro n
 induction n with
 | zero=>rintro _ ⟨op,m,name,kids⟩ h;simp only [Ex.size]at h;omega
 | succ n ihn=>
 rintro hn ⟨op,m,name,kids⟩ hx
 have hk : ∀ y∈kids,∀ s,aE Tryz.prog me [.agg (bE y)] s (.agg (bE y)) s:=fun y hy s=>
  (ihn (by omega) y (by simp only [Ex.size]at hx;have:=Ex.bV hy;omega)).pure (by simp [D.bR,D.ok,gN]) (by simp [D.ok,gN]) s
 have hlen:kids.length<1073741824:=by simp only [Ex.size]at hx;have:=Ex.cZ kids;omega
 unfold S0
 refine aE.go GU rfl fun B Q hB hQ=> ?_
 have⟨hF,hP,hY,hZ⟩:=bq
 repeat' (first
 | simp only [go_sem,hF,hP,hY,hZ]
 | (with_reducible refine aC hQ ?_;simp only [au,aw,Option.some.injEq,exists_eq_left',go_sem,hF,hP,hY,hZ];repeat' (first | exact Ok.out | with_reducible refine aB ?_ ?_ | (simp;done))))
 refine a8.uP 0 3 4 rfl rfl ?_
 simp only [go_sem,hF,hP,hY,hZ]
 refine cd 2 1 (a8.ind (ι:=List Ex×Nat×List Ex) (fun i=>kids.drop i.2.1=i.1∧i.2.1=i.2.2.length∧i.2.2++i.1=kids) (fun i=>i.1.length)
  (fun i=> [(1, .ptr 0 0),(2, .ptr 1 0),(9, .slice .shared 4 (kids.map bE)),(10, .int .i64 (kids.length:Int)),(11, .int .i64 (i.2.1:Int))])
  (fun i=>⟨[[.int .i64 op, .int .i64 m, .str name, .slice (.tok 0) 4 (i.2.2.map bE)],bE mw],[some i.2.1]⟩) ?_ (kids,0,[]) ⟨rfl,rfl,rfl⟩)
 rintro⟨rest,k,acc⟩ ⟨h1,h2,h3⟩ IH
 dsimp only at h1 h2 h3
 subst h2
 cases rest with
 | nil=>
  have hF:=drop_nil h1
  rw [List.append_nil]at h3
  subst h3
  repeat' (first
 | simp only [go_sem,hF,hP,hY,hZ]
 | (with_reducible refine aC hQ ?_;simp only [au,aw,Option.some.injEq,exists_eq_left',go_sem,hF,hP,hY,hZ];repeat' (first | exact Ok.out | with_reducible refine aB ?_ ?_ | (simp;done))))
 | cons y rest=>
  obtain⟨hP,g2,hF,g4⟩:=drop_cons h1
  have hY:acc.length<4611686018427387904:=by omega
  have gv:(acc.length+1)*57≤bc:=by simp only [bc];omega
  have hy:=hk y (List.mem_of_getElem? hP)
  repeat' (first
 | simp only [go_sem,hF,hP,hY,hZ,gv]
 | (with_reducible refine CU (hy _) ?_)
 | (with_reducible refine aC hQ ?_;simp only [au,aw,Option.some.injEq,exists_eq_left',go_sem,hF,hP,hY,hZ];repeat' (first | exact Ok.out | with_reducible refine aB ?_ ?_ | (simp;done))))
  refine cd 2 1 (IH (rest,acc.length+1,acc++ [y]) ⟨g2,by simp,by simp only [List.append_assoc,List.cons_append,List.nil_append];exact h3⟩ (Nat.lt_succ_self _))
theorem QK {x:Ex} (h:x.size<1073741824) (s:St):aE Tryz.prog me [.agg (bE x)] s (.agg (bE x)) s:=
 (aaD x.size h x (Nat.le_refl _)).pure (by simp [D.bR,D.ok,gN]) (by simp [D.ok,gN]) s
end Go.Abs

/-! Tree2 -/

namespace Go.Abs
set_option maxRecDepth 8000
open Go.Proofs
abbrev Wm (b:Bool) (N:Nat):Prop:=∀ l:List Sm,Sm.aS l<N→∀ n:Nat,n+Sm.aS l<1073741824→∀ s:St,
 aE Tryz.prog kA [.slice .shared 13 (l.map bd), .int .i64 (n:Int), .bool b] s (.tuple [.slice .shared 13 ((Sm.gB b n l).1.map bd), .int .i64 ((Sm.gB b n l).2:Int)]) s
theorem T8 {N:Nat} (ih:Wm true N) (l:List Sm) (hl:Sm.aS l<N+1) (n:Nat) (hn:n+Sm.aS l<1073741824) :
 aE Tryz.prog kA [.slice .shared 13 (l.map bd), .int .i64 (n:Int), .bool true] S0 (.tuple [.slice .shared 13 ((Sm.gB true n l).1.map bd), .int .i64 ((Sm.gB true n l).2:Int)]) S0:=by
 unfold S0
 refine aE.go Dr rfl fun B Q hB hQ=> ?_
 have⟨hF,hP,hY,hZ⟩:=bq
 repeat' (first
 | simp only [go_sem,hF,hP,hY,hZ]
 | (with_reducible refine aC hQ ?_;simp only [au,aw,Option.some.injEq,exists_eq_left',go_sem,hF,hP,hY,hZ];repeat' (first | exact Ok.out | with_reducible refine aB ?_ ?_ | (simp;done))))
 have hlen:l.length<1073741824:=by have:=Sm.cZ l;omega
 refine a8.jB 8 13 rfl ?_
 simp only [go_sem,hF,hP,hY,hZ]
 refine cd 0 1 (a8.ind (ι:=List Sm×Nat×List Sm×Nat) (fun i=>l.drop i.2.1=i.1∧i.2.1=i.2.2.1.length∧Sm.gB true n l=(i.2.2.1++(Sm.gB true i.2.2.2 i.1).1,(Sm.gB true i.2.2.2 i.1).2)∧i.2.2.2+Sm.aS i.1≤n+Sm.aS l) (fun i=>i.1.length)
  (fun i=> [(1, .int .i64 (i.2.2.2:Int)),(2, .bool true),(8, .slice (.tok 0) 13 (i.2.2.1.map bd)),(14, .slice .shared 13 (l.map bd)),(15, .int .i64 (l.length:Int)),(16, .int .i64 (i.2.1:Int))])
  (fun i=>⟨[],[some i.2.1]⟩) ?_ (l,0,[],n) ⟨rfl,rfl,rfl,Nat.le_refl _⟩)
 rintro⟨rest,k,acc,m⟩ ⟨h1,h2,h3,h4⟩ IH
 dsimp only at h1 h2 h3 h4
 subst h2
 cases rest with
 | nil=>
  have hF:=drop_nil h1
  simp only [Sm.gB,List.append_nil]at h3
  rw [h3]at hQ
  repeat' (first
 | simp only [go_sem,hF,hP,hY,hZ]
 | (with_reducible refine aC hQ ?_;simp only [au,aw,Option.some.injEq,exists_eq_left',go_sem,hF,hP,hY,hZ];repeat' (first | exact Ok.out | with_reducible refine aB ?_ ?_ | (simp;done))))
 | cons y rest=>
  obtain⟨hP,g2,hF,g4⟩:=drop_cons h1
  simp only [Sm.aS]at h4 hl
  have hm:m<4611686018427387904:=by omega
  have hk:acc.length<4611686018427387904:=by omega
  have e9:y.size≤N:=by have:=Sm.bV (List.mem_of_getElem? hP);omega
  obtain⟨id,kind,labels,name,proc,x,has,args,aZ,aP⟩:=y
  simp only [Sm.size]at e9 h4
  have gv:(acc.length+1)*209≤bc:=by simp only [bc];omega
  have hx:=fun s=>QK (x:=x) (by omega) s
  simp only [gV]at hx
  have zj:=fun g s=>wj (l:=labels) (by omega) g s
  have sO:=Ar.cZ args
  repeat' (first
 | simp only [go_sem,hF,hP,hY,hZ,az hm]
 | (with_reducible refine CU (zj _ _) ?_)
 | (with_reducible refine CU (hx _) ?_)
 | (with_reducible refine aC hQ ?_;simp only [au,aw,Option.some.injEq,exists_eq_left',go_sem,hF,hP,hY,hZ];repeat' (first | exact Ok.out | with_reducible refine aB ?_ ?_ | (simp;done))))
  refine a8.uP 1 10 6 rfl rfl ?_
  simp only [go_sem,hF,hP,hY,hZ]
  refine cd 2 2 (a8.ind (ι:=List Ar×Nat×List Ar) (fun i=>args.drop i.2.1=i.1∧i.2.1=i.2.2.length∧i.2.2++i.1=args) (fun i=>i.1.length)
   (fun i=> [(1, .int .i64 ((m+1:Nat):Int)),(2, .bool true),(8, .slice (.tok 0) 13 (acc.map bd)),(10, .ptr 0 0),(11, .ptr 1 0),(14, .slice .shared 13 (l.map bd)),(15, .int .i64 (l.length:Int)),(16, .int .i64 (acc.length:Int)),
    (36, .slice .shared 6 (args.map dT)),(37, .int .i64 (args.length:Int)),(38, .int .i64 (i.2.1:Int))])
   (fun i=>⟨[bd ⟨id,kind,labels,name,proc,x,has,args,aZ,aP⟩,[.int .i64 ((m+1:Nat):Int), .int .i64 kind, .slice .shared 1 (labels.map encStr), .str name, .str proc, .int .i64 x.op, .int .i64 x.n, .str x.name, .slice .shared 4 (x.kids.map bE), .bool has, .slice (.tok 1) 6 (i.2.2.map dT), .slice .shared 13 (aZ.map bd), .slice .shared 13 (aP.map bd)]],[some acc.length,some i.2.1]⟩) ?_ (args,0,[]) ⟨rfl,rfl,rfl⟩)
  rintro⟨NT,ka,Fa⟩ ⟨j1,j2,j3⟩ IHa
  dsimp only at j1 j2 j3
  subst j2
  cases NT with
  | nil=>
   have hF:=drop_nil j1
   rw [List.append_nil]at j3
   subst j3
   have b1:=Sm.uy true (m+1) aZ
   have b2:=Sm.uy true (Sm.gB true (m+1) aZ).2 aP
   have c1:=ih aZ (by omega) (m+1) (by omega)
   have c2:=ih aP (by omega) (Sm.gB true (m+1) aZ).2 (by omega)
   repeat' (first
 | simp only [go_sem,hF,hP,hY,hZ,gv]
 | (with_reducible refine CU (c1 _) ?_)
 | (with_reducible refine CU (c2 _) ?_)
 | (with_reducible refine aC hQ ?_;simp only [au,aw,Option.some.injEq,exists_eq_left',go_sem,hF,hP,hY,hZ];repeat' (first | exact Ok.out | with_reducible refine aB ?_ ?_ | (simp;done))))
   refine ct 0 1 ?_ ?_ (IH (rest,acc.length+1,acc++ [(Sm.num true m ⟨id,kind,labels,name,proc,x,has,Fa,aZ,aP⟩).1],(Sm.num true m ⟨id,kind,labels,name,proc,x,has,Fa,aZ,aP⟩).2) ⟨g2,by simp,by rw [h3];simp [Sm.gB],by simp only [Sm.num];omega⟩ (Nat.lt_succ_self _))
   ·(simp only [go_sem,hF,hP,hY,hZ,az hk,Sm.num];try exact aU)
   ·(simp only [go_sem,hF,hP,hY,hZ,az hk,Sm.num];try exact aU)
  | cons a NT=>
   obtain⟨hP,g2,hF,g4⟩:=drop_cons j1
   have ha:a.x.size<1073741824:=by have:=Ar.bV (List.mem_of_getElem? hP);omega
   have Fz:Fa.length<4611686018427387904:=by omega
   have aaE:(Fa.length+1)*81≤bc:=by simp only [bc];omega
   have hxa:=fun s=>QK ha s
   simp only [gV]at hxa
   obtain⟨ao6,aec,ax⟩:=a
   repeat' (first
 | simp only [go_sem,hF,hP,hY,hZ,aaE]
 | (with_reducible refine CU (hxa _) ?_)
 | (with_reducible refine aC hQ ?_;simp only [au,aw,Option.some.injEq,exists_eq_left',go_sem,hF,hP,hY,hZ];repeat' (first | exact Ok.out | with_reducible refine aB ?_ ?_ | (simp;done))))
   refine ct 2 2 ?_ ?_ (IHa (NT,Fa.length+1,Fa++ [⟨ao6,aec,ax⟩]) ⟨g2,by simp,by simp only [List.append_assoc,List.cons_append,List.nil_append];exact j3⟩ (Nat.lt_succ_self _))
   ·(simp only [go_sem,hF,hP,hY,hZ,az Fz];try exact aU)
   ·(simp only [go_sem,hF,hP,hY,hZ,az Fz];try exact aU)
theorem XO : ∀ N,Wm true N:=by
 intro N
 induction N with
 | zero=>intro l hl;exact absurd hl (Nat.not_lt_zero _)
 | succ N ih=>
  intro l hl n hn s
  exact(T8 ih l hl n hn).pure (by simp [D.bR,D.ok,Tag.ok,mF]) (by simp [D.bR,D.ok,Tag.ok,mF]) s
theorem aed {l:List Sm} {n:Nat} (h:n+Sm.aS l<1073741824) (s:St) :
 aE Tryz.prog kA [.slice .shared 13 (l.map bd), .int .i64 (n:Int), .bool true] s (.tuple [.slice .shared 13 ((Sm.gB true n l).1.map bd), .int .i64 ((Sm.gB true n l).2:Int)]) s:=
 XO _ l (Nat.lt_succ_self _) n h s
theorem T9 {p:Pg} (hp:p.size<1073741824):aE Tryz.prog qf [.agg (bH p)] S0 (.agg (bH p.number)) S0:=by
 obtain⟨globals,procs⟩:=p
 simp only [Pg.size]at hp
 have hlen:procs.length<1073741824:=by have:=Pc.cZ procs;omega
 have hcg:=fun g s=>wj (l:=globals) (by omega) g s
 unfold S0
 refine aE.go Di rfl fun B Q hB hQ=> ?_
 have⟨hF,hP,hY,hZ⟩:=bq
 repeat' (first
 | simp only [go_sem,hF,hP,hY,hZ]
 | (with_reducible refine CU (hcg _ _) ?_)
 | (with_reducible first | refine bK fun hc=> ?_ | refine bL fun hc=> ?_ | refine bM (fun hc=> ?_) fun hc=> ?_) <;> (try simp only [hc,bs, ↓reduceIte]at h) <;> try simp only [hc]
 | (with_reducible refine aC hQ ?_;simp only [au,aw,bu,bw,go_sem,hF,hP,hY,hZ];repeat' (first | exact Ok.out | with_reducible refine aB ?_ ?_ | (simp;done))))
 refine a8.uP 2 1 5 rfl rfl ?_
 simp only [go_sem,hF,hP,hY,hZ]
 refine cd 3 1 (a8.ind (ι:=List Pc×Nat×List Pc×Nat) (fun i=>procs.drop i.2.1=i.1∧i.2.1=i.2.2.1.length∧Pc.gB 0 procs=i.2.2.1++Pc.gB i.2.2.2 i.1∧i.2.2.2+Pc.aS i.1≤Pc.aS procs) (fun i=>i.1.length)
  (fun i=> [(2, .ptr 1 0),(3, .int .i64 (i.2.2.2:Int)),(4, .ptr 2 0),(13, .slice .shared 5 (procs.map cb)),(14, .int .i64 (procs.length:Int)),(15, .int .i64 (i.2.1:Int))])
  (fun i=>⟨[bH ⟨globals,procs⟩,bH Da,[.slice .shared 1 (globals.map encStr), .slice (.tok 0) 5 (i.2.2.1.map cb)]],[some i.2.1]⟩) ?_ (procs,0,[],0) ⟨rfl,rfl,rfl,by dsimp only;omega⟩)
 rintro⟨rest,k,acc,m⟩ ⟨h1,h2,h3,h4⟩ IH
 dsimp only at h1 h2 h3 h4
 subst h2
 cases rest with
 | nil=>
  have hF:=drop_nil h1
  simp only [Pc.gB,List.append_nil]at h3
  subst h3
  repeat' (first
 | simp only [go_sem,hF,hP,hY,hZ,Pg.number]
 | (with_reducible first | refine bK fun hc=> ?_ | refine bL fun hc=> ?_ | refine bM (fun hc=> ?_) fun hc=> ?_) <;> (try simp only [hc,bs, ↓reduceIte]at h) <;> try simp only [hc]
 | (with_reducible refine aC hQ ?_;simp only [au,aw,bu,bw,go_sem,hF,hP,hY,hZ,Pg.number];repeat' (first | exact Ok.out | with_reducible refine aB ?_ ?_ | (simp;done))))
 | cons y rest=>
  obtain⟨hP,g2,hF,g4⟩:=drop_cons h1
  simp only [Pc.aS]at h4
  have e9:=Pc.bV (List.mem_of_getElem? hP)
  obtain⟨name,params,vars,body,fin⟩:=y
  simp only [Pc.size]at e9 h4
  have hk:acc.length<4611686018427387904:=by omega
  have gv:(acc.length+1)*113≤bc:=by simp only [bc];omega
  have c1:=fun g s=>T7 (l:=params) (by omega) g s
  have c2:=fun g s=>wj (l:=vars) (by omega) g s
  have c3:=fun g s=>wj (l:=fin) (by omega) g s
  have c4:=fun s=>aed (l:=body) (n:=m) (by omega) s
  have b1:=Sm.uy true m body
  repeat' (first
 | simp only [go_sem,hF,hP,hY,hZ,gv]
 | (with_reducible refine CU (c1 _ _) ?_)
 | (with_reducible refine CU (c2 _ _) ?_)
 | (with_reducible refine CU (c3 _ _) ?_)
 | (with_reducible refine CU (c4 _) ?_)
 | (with_reducible refine aC hQ ?_;simp only [au,aw,bu,bw,go_sem,hF,hP,hY,hZ];repeat' (first | exact Ok.out | with_reducible refine aB ?_ ?_ | (simp;done))))
  refine ct 3 1 ?_ ?_ (IH (rest,acc.length+1,acc++ [⟨name,params,vars,(Sm.gB true m body).1,fin⟩],(Sm.gB true m body).2) ⟨g2,by simp,by rw [h3];simp [Pc.gB],by dsimp only;omega⟩ (Nat.lt_succ_self _))
  ·(simp only [go_sem,hF,hP,hY,hZ,az hk];try exact aU)
  ·(simp only [go_sem,hF,hP,hY,hZ,az hk];try exact aU)
theorem Ua {p q:Pg} (h:p.Er=some q) (s:St):aE Tryz.prog qf [.agg (bH p)] s (.agg (bH q)) s:=by
 unfold Pg.Er at h
 split at h
 ·cases h;exact(T9 ‹_›).pure (by simp [D.bR,D.ok,fX]) (by simp [D.ok,fX]) s
 ·cases h
end Go.Abs

/-! Sc1 -/

namespace Go.Abs
set_option maxRecDepth 8000
open Go.Proofs
def Cx (x:aF):List aF→Bool
 | []=>false
 | s::l=>if x==s then true else Cx x l
theorem I8 (x:aF) : ∀ l:List aF,Cx x l=dL l x
 | []=>rfl
 | s::l=>by
  have h1:=gl (s::l) x
  have h2:=gl l x
  have h3:=I8 x l
  simp only [Cx]
  by_cases e:x=s
  ·subst e;simp only [beq_self_eq_true,if_true];exact(h1.2 List.mem_cons_self).symm
  ·have e':(x==s)=false:=by simp [e]
   simp only [e',Bool.false_eq_true,if_false,h3]
   cases ha:dL l x <;> cases hb:dL (s::l) x <;> simp_all
def pH (pre:List aF):List aF→Bool
 | []=>false
 | s::l=>if dL pre s then true else pH (pre++ [s]) l
def eH (l:List aF):Bool:=pH [] l
theorem F3 {l:List aF} {k:Nat} {a:aF} (h:l[k]? = some a):l.take (k+1)=l.take k++ [a]:=by rw [List.take_add_one,h];rfl
theorem xf {l:List aF} (hl:l.length<4611686018427387904) (x:aF) (g:Tag) (s:St):aE Tryz.prog kg [.slice g 1 (l.map encStr), .str x] s (.bool (dL l x)) s:=by
 refine aE.FO (d':= .slice .shared 1 (l.map encStr)) ?_ (Wk.shared _ _ _)
 refine aE.pure ?_ (by simp [D.bR,D.ok,Tag.ok,dJ]) rfl s
 rw [← AH]
 generalize h:rb x l=p
 unfold S0
 refine aE.go Kn rfl fun B Q hB hQ=> ?_
 have⟨hF,hP,hY,hZ⟩:=bq
 repeat' (first
 | simp only [go_sem,hF,hP,hY,hZ]
 | (with_reducible first | refine bK fun hc=> ?_ | refine bL fun hc=> ?_ | refine bM (fun hc=> ?_) fun hc=> ?_) <;> (try simp only [hc,bs, ↓reduceIte]at h) <;> try simp only [hc]
 | (with_reducible refine aC hQ ?_;(try cases h);simp only [au,aw,bu,bw,go_sem,hF,hP,hY,hZ];repeat' (first | exact Ok.out | with_reducible refine aB ?_ ?_ | (simp;done))))
 refine cd 0 0 (a8.ind (ι:=List aF×Nat) (fun i=>l.drop i.2=i.1∧rb x i.1=p) (fun i=>i.1.length)
  (fun i=> [(0, .slice .shared 1 (l.map encStr)),(1, .str x),(7, .int .i64 (l.length:Int)),(8, .int .i64 (i.2:Int))]) (fun i=>⟨[],[]⟩) ?_ (l,0) ⟨rfl,h⟩)
 rintro⟨rest,k⟩ ⟨h1,h⟩ IH
 dsimp only at h1 h
 cases rest with
 | nil=>
  have hF:=drop_nil h1
  simp only [rb]at h
  repeat' (first
 | simp only [go_sem,hF,hP,hY,hZ]
 | (with_reducible first | refine bK fun hc=> ?_ | refine bL fun hc=> ?_ | refine bM (fun hc=> ?_) fun hc=> ?_) <;> (try simp only [hc,bs, ↓reduceIte]at h) <;> try simp only [hc]
 | (with_reducible refine aC hQ ?_;(try cases h);simp only [au,aw,bu,bw,go_sem,hF,hP,hY,hZ];repeat' (first | exact Ok.out | with_reducible refine aB ?_ ?_ | (simp;done))))
 | cons a rest=>
  obtain⟨hP,g2,hF,g4⟩:=drop_cons h1
  have bl:k<4611686018427387904:=by omega
  simp only [rb]at h
  repeat' (first
 | simp only [go_sem,hF,hP,hY,hZ]
 | (with_reducible first | refine bK fun hc=> ?_ | refine bL fun hc=> ?_ | refine bM (fun hc=> ?_) fun hc=> ?_) <;> (try simp only [hc,bs, ↓reduceIte]at h) <;> try simp only [hc]
 | (with_reducible refine aC hQ ?_;(try cases h);simp only [au,aw,bu,bw,go_sem,hF,hP,hY,hZ];repeat' (first | exact Ok.out | with_reducible refine aB ?_ ?_ | (simp;done))))
  refine ct 0 0 ?_ ?_ (IH (rest,k+1) ⟨g2,h⟩ (Nat.lt_succ_self _))
  ·(simp only [go_sem,hF,hP,hY,hZ,az bl];try exact aU)
  ·(simp only [go_sem,hF,hP,hY,hZ,az bl];try exact aU)
theorem Cy {l:List aF} (hl:l.length<4611686018427387904) (g:Tag) (s:St):aE Tryz.prog nY [.slice g 1 (l.map encStr)] s (.bool (eH l)) s:=by
 refine aE.FO (d':= .slice .shared 1 (l.map encStr)) ?_ (Wk.shared _ _ _)
 refine aE.pure ?_ (by simp [D.bR,D.ok,Tag.ok,dJ]) rfl s
 generalize h:eH l=p
 simp only [eH]at h
 unfold S0
 refine aE.go Dg rfl fun B Q hB hQ=> ?_
 have⟨hF,hP,hY,hZ⟩:=bq
 repeat' (first
 | simp only [go_sem,hF,hP,hY,hZ]
 | (with_reducible first | refine bK fun hc=> ?_ | refine bL fun hc=> ?_ | refine bM (fun hc=> ?_) fun hc=> ?_) <;> (try simp only [hc,bs, ↓reduceIte]at h) <;> try simp only [hc]
 | (with_reducible refine aC hQ ?_;(try cases h);simp only [au,aw,bu,bw,go_sem,hF,hP,hY,hZ];repeat' (first | exact Ok.out | with_reducible refine aB ?_ ?_ | (simp;done))))
 refine cd 0 0 (a8.ind (ι:=List aF×Nat) (fun i=>l.drop i.2=i.1∧pH (l.take i.2) i.1=p) (fun i=>i.1.length)
  (fun i=> [(0, .slice .shared 1 (l.map encStr)),(5, .slice .shared 1 (l.map encStr)),(6, .int .i64 (l.length:Int)),(7, .int .i64 (i.2:Int))]) (fun i=>⟨[],[]⟩) ?_ (l,0) ⟨rfl,h⟩)
 rintro⟨rest,k⟩ ⟨h1,h⟩ IH
 dsimp only at h1 h
 cases rest with
 | nil=>
  have hF:=drop_nil h1
  simp only [pH]at h
  repeat' (first
 | simp only [go_sem,hF,hP,hY,hZ]
 | (with_reducible first | refine bK fun hc=> ?_ | refine bL fun hc=> ?_ | refine bM (fun hc=> ?_) fun hc=> ?_) <;> (try simp only [hc,bs, ↓reduceIte]at h) <;> try simp only [hc]
 | (with_reducible refine aC hQ ?_;(try cases h);simp only [au,aw,bu,bw,go_sem,hF,hP,hY,hZ];repeat' (first | exact Ok.out | with_reducible refine aB ?_ ?_ | (simp;done))))
 | cons a rest=>
  obtain⟨hP,g2,hF,g4⟩:=drop_cons h1
  have bl:k<4611686018427387904:=by omega
  simp only [pH]at h
  have hc:=jq (l:=l.take k) (by rw [List.length_take];omega) a
  have e1:List.drop 0 (List.take k (l.map encStr))=(l.take k).map encStr:=by simp [List.map_take]
  have c1:((0:Int)≤(k:Int))=True:=by simp
  have c2:((k:Int)≤(l.length:Int))=True:=by simp only [eq_iff_iff,iff_true];omega
  have e2:List.take k (l.map encStr)=(l.take k).map encStr:=by simp [List.map_take]
  repeat' (first
 | simp only [go_sem,hF,hP,hY,hZ,e1,e2,c1,c2,or_true,true_and,and_self,ite_self,Int.toNat_natCast,List.drop_zero]
 | (with_reducible refine CU (hc _ _) ?_)
 | (with_reducible first | refine bK fun hc=> ?_ | refine bL fun hc=> ?_ | refine bM (fun hc=> ?_) fun hc=> ?_) <;> (try simp only [hc,bs, ↓reduceIte]at h) <;> try simp only [hc]
 | (with_reducible refine aC hQ ?_;(try cases h);simp only [au,aw,bu,bw,go_sem,hF,hP,hY,hZ,e1,e2,c1,c2,or_true,true_and,and_self,ite_self,Int.toNat_natCast,List.drop_zero];repeat' (first | exact Ok.out | with_reducible refine aB ?_ ?_ | (simp;done))))
  refine ct 0 0 ?_ ?_ (IH (rest,k+1) ⟨g2,by dsimp only;rw [F3 (by assumption)];exact h⟩ (Nat.lt_succ_self _))
  ·(simp only [go_sem,hF,hP,hY,hZ,az bl];try exact aU)
  ·(simp only [go_sem,hF,hP,hY,hZ,az bl];try exact aU)
theorem vq {l:List aF} (hl:l.length<4611686018427387904) (g:Tag) (s:St):aE Tryz.prog kj [.slice g 1 (l.map encStr)] s (.bool (eH l)) s:=by
 refine aE.FO (d':= .slice .shared 1 (l.map encStr)) ?_ (Wk.shared _ _ _)
 refine aE.pure ?_ (by simp [D.bR,D.ok,Tag.ok,dJ]) rfl s
 generalize h:eH l=p
 simp only [eH]at h
 unfold S0
 refine aE.go EN rfl fun B Q hB hQ=> ?_
 have⟨hF,hP,hY,hZ⟩:=bq
 repeat' (first
 | simp only [go_sem,hF,hP,hY,hZ]
 | (with_reducible first | refine bK fun hc=> ?_ | refine bL fun hc=> ?_ | refine bM (fun hc=> ?_) fun hc=> ?_) <;> (try simp only [hc,bs, ↓reduceIte]at h) <;> try simp only [hc]
 | (with_reducible refine aC hQ ?_;(try cases h);simp only [au,aw,bu,bw,go_sem,hF,hP,hY,hZ];repeat' (first | exact Ok.out | with_reducible refine aB ?_ ?_ | (simp;done))))
 refine cd 0 0 (a8.ind (ι:=List aF×Nat) (fun i=>l.drop i.2=i.1∧pH (l.take i.2) i.1=p) (fun i=>i.1.length)
  (fun i=> [(0, .slice .shared 1 (l.map encStr)),(6, .int .i64 (l.length:Int)),(7, .int .i64 (i.2:Int))]) (fun i=>⟨[],[]⟩) ?_ (l,0) ⟨rfl,h⟩)
 rintro⟨rest,k⟩ ⟨h1,h⟩ IH
 dsimp only at h1 h
 cases rest with
 | nil=>
  have hF:=drop_nil h1
  simp only [pH]at h
  repeat' (first
 | simp only [go_sem,hF,hP,hY,hZ]
 | (with_reducible first | refine bK fun hc=> ?_ | refine bL fun hc=> ?_ | refine bM (fun hc=> ?_) fun hc=> ?_) <;> (try simp only [hc,bs, ↓reduceIte]at h) <;> try simp only [hc]
 | (with_reducible refine aC hQ ?_;(try cases h);simp only [au,aw,bu,bw,go_sem,hF,hP,hY,hZ];repeat' (first | exact Ok.out | with_reducible refine aB ?_ ?_ | (simp;done))))
 | cons a rest=>
  obtain⟨hP,g2,hF,g4⟩:=drop_cons h1
  have bl:k<4611686018427387904:=by omega
  have QL:=hP
  simp only [pH]at h
  repeat' (first
 | simp only [go_sem,hF,hP,hY,hZ]
 | (with_reducible refine aC hQ ?_;simp only [au,aw,bu,bw,go_sem,hF,hP,hY,hZ];repeat' (first | exact Ok.out | with_reducible refine aB ?_ ?_ | (simp;done))))
  obtain⟨q,hq⟩ : ∃ q,Cx a (l.take k)=q:=⟨_,rfl⟩
  rw [← I8,hq]at h
  refine cd 0 0 (a8.ind (ι:=List aF×Nat) (fun i=>(l.take k).drop i.2=i.1∧Cx a i.1=q∧i.2≤k) (fun i=>i.1.length)
   (fun i=> [(0, .slice .shared 1 (l.map encStr)),(3, .int .i64 (k:Int)),(4, .int .i64 (i.2:Int)),(6, .int .i64 (l.length:Int)),(7, .int .i64 (k:Int))]) (fun i=>⟨[],[]⟩) ?_ (l.take k,0) ⟨rfl,hq,Nat.zero_le _⟩)
  rintro⟨jZ,j⟩ ⟨j1,j2,j3⟩ oD
  dsimp only at j1 j2 j3
  cases jZ with
  | nil=>
   have hj:j=k:=by have:=List.drop_eq_nil_iff.1 j1;rw [List.length_take]at this;omega
   subst hj
   simp only [Cx]at j2
   subst j2
   simp only [Bool.false_eq_true,if_false]at h
   repeat' (first
 | simp only [go_sem,hF,hP,hY,hZ,Int.lt_irrefl,decide_false]
 | (with_reducible refine aC hQ ?_;simp only [au,aw,bu,bw,go_sem,hF,hP,hY,hZ];repeat' (first | exact Ok.out | with_reducible refine aB ?_ ?_ | (simp;done))))
   refine ct 0 0 ?_ ?_ (IH (rest,j+1) ⟨g2,by dsimp only;rw [F3 QL];exact h⟩ (Nat.lt_succ_self _))
   ·(simp only [go_sem,hF,hP,hY,hZ,az bl];try exact aU)
   ·(simp only [go_sem,hF,hP,hY,hZ,az bl];try exact aU)
  | cons b jZ=>
   obtain⟨e7,my,hO,DK⟩:=drop_cons j1
   have hjk:j<k:=by rw [List.length_take]at DK;omega
   have fA:j<4611686018427387904:=by omega
   have BS:l[j]? = some b:=by rw [List.getElem?_take]at e7;simpa [hjk]using e7
   have Wn:decide ((j:Int)<(k:Int))=true:=by simp;omega
   have hP':=BS
   simp only [Cx]at j2
   cases AB:(a==b)
   ·simp only [AB,Bool.false_eq_true,if_false]at j2
    repeat' (first
 | simp only [go_sem,hF,hP,hY,hZ,Wn,BS,QL,AB]
 | (with_reducible first | refine bK fun hc=> ?_ | refine bL fun hc=> ?_ | refine bM (fun hc=> ?_) fun hc=> ?_) <;> (try simp only [hc,bs, ↓reduceIte]at h) <;> try simp only [hc]
 | (with_reducible refine aC hQ ?_;(try cases h);simp only [au,aw,bu,bw,go_sem,hF,hP,hY,hZ,Wn,BS,QL,AB];repeat' (first | exact Ok.out | with_reducible refine aB ?_ ?_ | (simp;done))))
    refine ct 0 0 ?_ ?_ (oD (jZ,j+1) ⟨my,j2,hjk⟩ (Nat.lt_succ_self _))
    ·(simp only [go_sem,hF,hP,hY,hZ,az fA];try exact aU)
    ·(simp only [go_sem,hF,hP,hY,hZ,az fA];try exact aU)
   ·simp only [AB,if_true]at j2
    subst j2
    simp only [if_true]at h
    repeat' (first
 | simp only [go_sem,hF,hP,hY,hZ,Wn,BS,QL,AB]
 | (with_reducible first | refine bK fun hc=> ?_ | refine bL fun hc=> ?_ | refine bM (fun hc=> ?_) fun hc=> ?_) <;> (try simp only [hc,bs, ↓reduceIte]at h) <;> try simp only [hc]
 | (with_reducible refine aC hQ ?_;(try cases h);simp only [au,aw,bu,bw,go_sem,hF,hP,hY,hZ,Wn,BS,QL,AB];repeat' (first | exact Ok.out | with_reducible refine aB ?_ ?_ | (simp;done))))
end Go.Abs

/-! Sc2 -/

namespace Go.Abs
set_option maxRecDepth 8000
open Go.Proofs
theorem fO (a b:Int) (s:St):aE Tryz.prog gW [.int .i64 a, .int .i64 b] s (.agg [.int .i64 a, .int .i64 b]) s:=by
 refine aE.pure ?_ rfl rfl s
 unfold S0
 refine aE.go EL rfl fun B Q hB hQ=> ?_
 have⟨hF,hP,hY,hZ⟩:=bq
 repeat' (first
 | simp only [go_sem,hF,hP,hY,hZ]
 | (with_reducible refine aC hQ ?_;simp only [au,aw,Option.some.injEq,exists_eq_left',go_sem,hF,hP,hY,hZ];repeat' (first | exact Ok.out | with_reducible refine aB ?_ ?_ | (simp;done))))
def wk (vars globals:List aF) (name:aF):List Pm→Int
 | []=>if dL vars name then 4 else if dL globals name then 1 else 0
 | a::l=>if a.name==name then(if a.ref then 3 else 2)else wk vars globals name l
def Pc.j9 (p:Pg) (f:Pc) (name:aF):Int:=wk f.vars p.globals name f.params
theorem I9 {p:Pg} {f:Pc} (hp:f.params.length<1000000000) (hv:f.vars.length<1000000000) (hg:p.globals.length<1000000000) (name:aF) (s:St):aE Tryz.prog u7 [.agg (bH p), .agg (cb f), .str name] s (.int .i64 (f.j9 p name)) s:=by
 refine aE.pure ?_ (by simp [D.bR,D.ok,fX,rM]) rfl s
 have pE:=jq (l:=f.vars) (by omega) name
 have sJ:=jq (l:=p.globals) (by omega) name
 generalize h:f.j9 p name=q
 simp only [Pc.j9]at h
 unfold S0
 refine aE.go EV rfl fun B Q hB hQ=> ?_
 have⟨hF,hP,hY,hZ⟩:=bq
 repeat' (first
 | simp only [go_sem,hF,hP,hY,hZ]
 | (with_reducible refine aC hQ ?_;simp only [au,aw,Option.some.injEq,exists_eq_left',go_sem,hF,hP,hY,hZ];repeat' (first | exact Ok.out | with_reducible refine aB ?_ ?_ | (simp;done))))
 refine cd 2 0 (a8.ind (ι:=List Pm×Nat) (fun i=>f.params.drop i.2=i.1∧wk f.vars p.globals name i.1=q) (fun i=>i.1.length)
  (fun i=> [(2, .str name),(3, .ptr 0 0),(4, .ptr 1 0),(10, .slice .shared 2 (f.params.map fQ)),(11, .int .i64 (f.params.length:Int)),(12, .int .i64 (i.2:Int))]) (fun i=>⟨[bH p,cb f],[]⟩) ?_ (f.params,0) ⟨rfl,h⟩)
 rintro⟨rest,k⟩ ⟨h1,h⟩ IH
 dsimp only at h1 h
 cases rest with
 | nil=>
  have hF:=drop_nil h1
  simp only [wk]at h
  rcases Bool.eq_false_or_eq_true (dL f.vars name)with b1 | b1
  ·simp only [b1,if_true]at h
   subst h
   repeat' (first
 | simp only [go_sem,hF,hP,hY,hZ,b1]
 | (with_reducible refine CU (pE _ _) ?_)
 | (with_reducible refine CU (sJ _ _) ?_)
 | (with_reducible refine aC hQ ?_;simp only [au,aw,Option.some.injEq,exists_eq_left',go_sem,hF,hP,hY,hZ];repeat' (first | exact Ok.out | with_reducible refine aB ?_ ?_ | (simp;done))))
  ·simp only [b1,Bool.false_eq_true,if_false]at h
   rcases Bool.eq_false_or_eq_true (dL p.globals name)with b2 | b2
   ·simp only [b2,if_true]at h
    subst h
    repeat' (first
 | simp only [go_sem,hF,hP,hY,hZ,b1,b2]
 | (with_reducible refine CU (pE _ _) ?_)
 | (with_reducible refine CU (sJ _ _) ?_)
 | (with_reducible refine aC hQ ?_;simp only [au,aw,Option.some.injEq,exists_eq_left',go_sem,hF,hP,hY,hZ];repeat' (first | exact Ok.out | with_reducible refine aB ?_ ?_ | (simp;done))))
   ·simp only [b2,Bool.false_eq_true,if_false]at h
    subst h
    repeat' (first
 | simp only [go_sem,hF,hP,hY,hZ,b1,b2]
 | (with_reducible refine CU (pE _ _) ?_)
 | (with_reducible refine CU (sJ _ _) ?_)
 | (with_reducible refine aC hQ ?_;simp only [au,aw,Option.some.injEq,exists_eq_left',go_sem,hF,hP,hY,hZ];repeat' (first | exact Ok.out | with_reducible refine aB ?_ ?_ | (simp;done))))
 | cons a rest=>
  obtain⟨hP,g2,hF,g4⟩:=drop_cons h1
  have bl:k<4611686018427387904:=by omega
  simp only [wk]at h
  rcases Bool.eq_false_or_eq_true (a.name==name)with b1 | b1
  ·simp only [b1,if_true]at h
   rcases Bool.eq_false_or_eq_true a.ref with b2 | b2
   ·simp only [b2,if_true]at h
    subst h
    repeat' (first
 | simp only [go_sem,hF,hP,hY,hZ,b1,b2]
 | (with_reducible refine aC hQ ?_;simp only [au,aw,Option.some.injEq,exists_eq_left',go_sem,hF,hP,hY,hZ];repeat' (first | exact Ok.out | with_reducible refine aB ?_ ?_ | (simp;done))))
   ·simp only [b2,Bool.false_eq_true,if_false]at h
    subst h
    repeat' (first
 | simp only [go_sem,hF,hP,hY,hZ,b1,b2]
 | (with_reducible refine aC hQ ?_;simp only [au,aw,Option.some.injEq,exists_eq_left',go_sem,hF,hP,hY,hZ];repeat' (first | exact Ok.out | with_reducible refine aB ?_ ?_ | (simp;done))))
  ·simp only [b1,Bool.false_eq_true,if_false]at h
   repeat' (first
 | simp only [go_sem,hF,hP,hY,hZ,b1]
 | (with_reducible refine aC hQ ?_;simp only [au,aw,Option.some.injEq,exists_eq_left',go_sem,hF,hP,hY,hZ];repeat' (first | exact Ok.out | with_reducible refine aB ?_ ?_ | (simp;done))))
   refine ct 2 0 ?_ ?_ (IH (rest,k+1) ⟨g2,h⟩ (Nat.lt_succ_self _))
   ·(simp only [go_sem,hF,hP,hY,hZ,az bl];try exact aU)
   ·(simp only [go_sem,hF,hP,hY,hZ,az bl];try exact aU)
theorem Kr {p:Pg} {f:Pc} (hp:f.params.length<1000000000) (hv:f.vars.length<1000000000) (hg:p.globals.length<1000000000) (name:aF) (s:St):aE Tryz.prog wV [.agg (bH p), .agg (cb f), .str name] s (.int .i64 (f.j9 p name)) s:=by
 refine aE.pure ?_ (by simp [D.bR,D.ok,fX,rM]) rfl s
 have pE:=xf (l:=f.vars) (by omega) name
 have sJ:=xf (l:=p.globals) (by omega) name
 generalize h:f.j9 p name=q
 simp only [Pc.j9]at h
 unfold S0
 refine aE.go GR rfl fun B Q hB hQ=> ?_
 have⟨hF,hP,hY,hZ⟩:=bq
 repeat' (first
 | simp only [go_sem,hF,hP,hY,hZ]
 | (with_reducible refine aC hQ ?_;simp only [au,aw,Option.some.injEq,exists_eq_left',go_sem,hF,hP,hY,hZ];repeat' (first | exact Ok.out | with_reducible refine aB ?_ ?_ | (simp;done))))
 refine cd 2 0 (a8.ind (ι:=List Pm×Nat) (fun i=>f.params.drop i.2=i.1∧wk f.vars p.globals name i.1=q) (fun i=>i.1.length)
  (fun i=> [(2, .str name),(3, .ptr 0 0),(4, .ptr 1 0),(10, .slice .shared 2 (f.params.map fQ)),(11, .int .i64 (f.params.length:Int)),(12, .int .i64 (i.2:Int))]) (fun i=>⟨[bH p,cb f],[]⟩) ?_ (f.params,0) ⟨rfl,h⟩)
 rintro⟨rest,k⟩ ⟨h1,h⟩ IH
 dsimp only at h1 h
 cases rest with
 | nil=>
  have hF:=drop_nil h1
  simp only [wk]at h
  rcases Bool.eq_false_or_eq_true (dL f.vars name)with b1 | b1
  ·simp only [b1,if_true]at h
   subst h
   repeat' (first
 | simp only [go_sem,hF,hP,hY,hZ,b1]
 | (with_reducible refine CU (pE _ _) ?_)
 | (with_reducible refine CU (sJ _ _) ?_)
 | (with_reducible refine aC hQ ?_;simp only [au,aw,Option.some.injEq,exists_eq_left',go_sem,hF,hP,hY,hZ];repeat' (first | exact Ok.out | with_reducible refine aB ?_ ?_ | (simp;done))))
  ·simp only [b1,Bool.false_eq_true,if_false]at h
   rcases Bool.eq_false_or_eq_true (dL p.globals name)with b2 | b2
   ·simp only [b2,if_true]at h
    subst h
    repeat' (first
 | simp only [go_sem,hF,hP,hY,hZ,b1,b2]
 | (with_reducible refine CU (pE _ _) ?_)
 | (with_reducible refine CU (sJ _ _) ?_)
 | (with_reducible refine aC hQ ?_;simp only [au,aw,Option.some.injEq,exists_eq_left',go_sem,hF,hP,hY,hZ];repeat' (first | exact Ok.out | with_reducible refine aB ?_ ?_ | (simp;done))))
   ·simp only [b2,Bool.false_eq_true,if_false]at h
    subst h
    repeat' (first
 | simp only [go_sem,hF,hP,hY,hZ,b1,b2]
 | (with_reducible refine CU (pE _ _) ?_)
 | (with_reducible refine CU (sJ _ _) ?_)
 | (with_reducible refine aC hQ ?_;simp only [au,aw,Option.some.injEq,exists_eq_left',go_sem,hF,hP,hY,hZ];repeat' (first | exact Ok.out | with_reducible refine aB ?_ ?_ | (simp;done))))
 | cons a rest=>
  obtain⟨hP,g2,hF,g4⟩:=drop_cons h1
  have bl:k<4611686018427387904:=by omega
  simp only [wk]at h
  rcases Bool.eq_false_or_eq_true (a.name==name)with b1 | b1
  ·simp only [b1,if_true]at h
   rcases Bool.eq_false_or_eq_true a.ref with b2 | b2
   ·simp only [b2,if_true]at h
    subst h
    repeat' (first
 | simp only [go_sem,hF,hP,hY,hZ,b1,b2]
 | (with_reducible refine aC hQ ?_;simp only [au,aw,Option.some.injEq,exists_eq_left',go_sem,hF,hP,hY,hZ];repeat' (first | exact Ok.out | with_reducible refine aB ?_ ?_ | (simp;done))))
   ·simp only [b2,Bool.false_eq_true,if_false]at h
    subst h
    repeat' (first
 | simp only [go_sem,hF,hP,hY,hZ,b1,b2]
 | (with_reducible refine aC hQ ?_;simp only [au,aw,Option.some.injEq,exists_eq_left',go_sem,hF,hP,hY,hZ];repeat' (first | exact Ok.out | with_reducible refine aB ?_ ?_ | (simp;done))))
  ·simp only [b1,Bool.false_eq_true,if_false]at h
   repeat' (first
 | simp only [go_sem,hF,hP,hY,hZ,b1]
 | (with_reducible refine aC hQ ?_;simp only [au,aw,Option.some.injEq,exists_eq_left',go_sem,hF,hP,hY,hZ];repeat' (first | exact Ok.out | with_reducible refine aB ?_ ?_ | (simp;done))))
   refine ct 2 0 ?_ ?_ (IH (rest,k+1) ⟨g2,h⟩ (Nat.lt_succ_self _))
   ·(simp only [go_sem,hF,hP,hY,hZ,az bl];try exact aU)
   ·(simp only [go_sem,hF,hP,hY,hZ,az bl];try exact aU)
def jr (name:aF):List Pc→Option Pc
 | []=>none
 | f::l=>if f.name==name then some f else jr name l
def Pg.find (p:Pg) (name:aF):Option Pc:=jr name p.procs
def pc0:Pc:=⟨[],[],[],[],[]⟩
theorem QM:cb pc0 = [.str [], .slice .shared 2 [], .slice .shared 1 [], .slice .shared 13 [], .slice .shared 1 []]:=nd rfl
def jv (r:Option Pc):D:= .tuple [.agg (cb (r.getD pc0)), .bool r.isSome]
theorem aaF (r:Option Pc):D.ok 0 0 (jv r)=true:=by simp [jv,D.ok,D.bR,rM]
theorem QN (f:Pc):cb f = [.str f.name, .slice .shared 2 (f.params.map fQ), .slice .shared 1 (f.vars.map encStr), .slice .shared 13 (f.body.map bd), .slice .shared 1 (f.fin.map encStr)]:=nd rfl
theorem Bp {p:Pg} (hl:p.procs.length<1000000000) (name:aF) (s:St):aE Tryz.prog k9 [.agg (bH p), .str name] s (jv (p.find name)) s:=by
 refine aE.pure ?_ (by simp [D.bR,D.ok,fX]) (aaF _) s
 unfold Pg.find
 generalize h:jr name p.procs=q
 unfold S0
 refine aE.go EM rfl fun B Q hB hQ=> ?_
 have⟨hF,hP,hY,hZ⟩:=bq
 repeat' (first
 | simp only [go_sem,hF,hP,hY,hZ,QN]
 | (with_reducible first | refine bK fun hc=> ?_ | refine bL fun hc=> ?_ | refine bM (fun hc=> ?_) fun hc=> ?_) <;> (try simp only [hc,bs, ↓reduceIte]at h) <;> try simp only [hc]
 | (with_reducible refine aC hQ ?_;simp only [au,aw,bu,bw,go_sem,hF,hP,hY,hZ,QN];repeat' (first | exact Ok.out | with_reducible refine aB ?_ ?_ | (simp;done))))
 refine cd 2 0 (a8.ind (ι:=List Pc×Nat) (fun i=>p.procs.drop i.2=i.1∧jr name i.1=q) (fun i=>i.1.length)
  (fun i=> [(1, .str name),(4, .ptr 1 0),(9, .slice .shared 5 (p.procs.map cb)),(10, .int .i64 (p.procs.length:Int)),(11, .int .i64 (i.2:Int))]) (fun i=>⟨[bH p,[.str [], .slice .full 0 [], .slice .full 0 [], .slice .full 0 [], .slice .full 0 []]],[]⟩) ?_ (p.procs,0) ⟨rfl,h⟩)
 rintro⟨rest,k⟩ ⟨h1,h⟩ IH
 dsimp only at h1 h
 cases rest with
 | nil=>
  have hF:=drop_nil h1
  simp only [jr]at h
  subst h
  repeat' (first
 | simp only [go_sem,hF,hP,hY,hZ,jv,Option.getD_none,Option.isSome_none,QM]
 | (with_reducible first | refine bK fun hc=> ?_ | refine bL fun hc=> ?_ | refine bM (fun hc=> ?_) fun hc=> ?_) <;> (try simp only [hc,bs, ↓reduceIte]at h) <;> try simp only [hc]
 | (with_reducible refine aC hQ ?_;simp only [au,aw,bu,bw,go_sem,hF,hP,hY,hZ,jv,Option.getD_none,Option.isSome_none,QM];repeat' (first | exact Ok.out | with_reducible refine aB ?_ ?_ | (simp;done))))
 | cons a rest=>
  obtain⟨hP,g2,hF,g4⟩:=drop_cons h1
  have bl:k<4611686018427387904:=by omega
  simp only [jr]at h
  rcases Bool.eq_false_or_eq_true (a.name==name)with b1 | b1
  ·simp only [b1,if_true]at h
   subst h
   repeat' (first
 | simp only [go_sem,hF,hP,hY,hZ,b1,jv,Option.getD_some,Option.isSome_some]
 | (with_reducible first | refine bK fun hc=> ?_ | refine bL fun hc=> ?_ | refine bM (fun hc=> ?_) fun hc=> ?_) <;> (try simp only [hc,bs, ↓reduceIte]at h) <;> try simp only [hc]
 | (with_reducible refine aC hQ ?_;simp only [au,aw,bu,bw,go_sem,hF,hP,hY,hZ,b1,jv,Option.getD_some,Option.isSome_some];repeat' (first | exact Ok.out | with_reducible refine aB ?_ ?_ | (simp;done))))
  ·simp only [b1,Bool.false_eq_true,if_false]at h
   repeat' (first
 | simp only [go_sem,hF,hP,hY,hZ,b1]
 | (with_reducible refine aC hQ ?_;simp only [au,aw,bu,bw,go_sem,hF,hP,hY,hZ];repeat' (first | exact Ok.out | with_reducible refine aB ?_ ?_ | (simp;done))))
   refine ct 2 0 ?_ ?_ (IH (rest,k+1) ⟨g2,h⟩ (Nat.lt_succ_self _))
   ·(simp only [go_sem,hF,hP,hY,hZ,az bl];try exact aU)
   ·(simp only [go_sem,hF,hP,hY,hZ,az bl];try exact aU)
end Go.Abs

/-! Sc3 -/

namespace Go.Abs
set_option maxRecDepth 8000
open Go.Proofs
def Pc.pd (f:Pc):List aF:=f.params.map (·.name)
def Pc.own (f:Pc):List aF:=f.pd++f.vars
theorem aee {f:Pc} (hp:f.params.length<1000000) (hv:f.vars.length<1000000) (s:St):aE Tryz.prog wU [.agg (cb f)] s (.slice .shared 1 (f.own.map encStr)) s:=by
 refine aE.pure ?_ (by simp [D.bR,D.ok,rM]) (by simp only [D.ok,Tag.ok,dJ];rfl) s
 generalize hR:f.own=R
 simp only [Pc.own]at hR
 unfold S0
 refine aE.go GH rfl fun B Q hB hQ=> ?_
 have⟨hF,hP,hY,hZ⟩:=bq
 repeat' (first
 | simp only [go_sem,hF,hP,hY,hZ]
 | (with_reducible refine aC hQ ?_;simp only [au,aw,Option.some.injEq,exists_eq_left',go_sem,hF,hP,hY,hZ];repeat' (first | exact Ok.out | with_reducible refine aB ?_ ?_ | (simp;done))))
 refine a8.jB 3 1 rfl ?_
 simp only [go_sem,hF,hP,hY,hZ]
 refine cd 1 1 (a8.ind (ι:=List Pm×Nat×List aF×Nat) (fun i=>f.params.drop i.2.1=i.1∧i.2.2.1++i.1.map (·.name)=f.pd∧i.2.2.2=i.2.2.1.length) (fun i=>i.1.length)
  (fun i=> [(1, .ptr 0 0),(3, .slice (.tok 0) 1 (i.2.2.1.map encStr)),(7, .slice .shared 2 (f.params.map fQ)),(8, .int .i64 (f.params.length:Int)),(9, .int .i64 (i.2.1:Int))]) (fun i=>⟨[cb f],[some i.2.2.2]⟩) ?_ (f.params,0,[],0) ⟨rfl,rfl,rfl⟩)
 rintro⟨rest,k,out,n⟩ ⟨h1,h2,h3⟩ IH
 dsimp only at h1 h2 h3
 subst h3
 have hlo:out.length+rest.length<1000000:=by
  have:=congrArg List.length h2
  simp only [List.length_append,List.length_map,Pc.pd]at this
  omega
 cases rest with
 | nil=>
  have hF:=drop_nil h1
  simp only [List.map_nil,List.append_nil]at h2
  subst hR
  rw [← h2]at hQ
  have dh:=fc (l:=out) (nx:=f.vars) rfl (by omega) (g:= .shared)
  repeat' (first
 | simp only [go_sem,hF,hP,hY,hZ,dh]
 | (with_reducible refine aC hQ ?_;simp only [au,aw,Option.some.injEq,exists_eq_left',go_sem,hF,hP,hY,hZ];repeat' (first | exact Ok.out | with_reducible refine aB ?_ ?_ | (simp;done))))
 | cons a rest=>
  obtain⟨hP,g2,hF,g4⟩:=drop_cons h1
  have bl:k<4611686018427387904:=by omega
  have hY:(out.length+1)*17≤bc:=by unfold bc;omega
  repeat' (first
 | simp only [go_sem,hF,hP,hY,hZ]
 | (with_reducible refine aC hQ ?_;simp only [au,aw,Option.some.injEq,exists_eq_left',go_sem,hF,hP,hY,hZ];repeat' (first | exact Ok.out | with_reducible refine aB ?_ ?_ | (simp;done))))
  refine ct 1 1 ?_ ?_ (IH (rest,k+1,out++ [a.name],out.length+1) ⟨g2,by rw [← h2];simp,by simp⟩ (Nat.lt_succ_self _))
  ·(simp only [go_sem,hF,hP,hY,hZ,az bl,List.map_append,List.map_cons,List.map_nil,encStr];try exact aU)
  ·(simp only [go_sem,hF,hP,hY,hZ,az bl,List.map_append,List.map_cons,List.map_nil,encStr];try exact aU)
theorem Ub {f:Pc} (hp:f.params.length<1000000) (s:St):aE Tryz.prog td [.agg (cb f)] s (.slice .shared 1 (f.pd.map encStr)) s:=by
 refine aE.pure ?_ (by simp [D.bR,D.ok,rM]) (by simp only [D.ok,Tag.ok,dJ];rfl) s
 generalize hR:f.pd=R
 unfold S0
 refine aE.go Dj rfl fun B Q hB hQ=> ?_
 have⟨hF,hP,hY,hZ⟩:=bq
 repeat' (first
 | simp only [go_sem,hF,hP,hY,hZ]
 | (with_reducible refine aC hQ ?_;simp only [au,aw,Option.some.injEq,exists_eq_left',go_sem,hF,hP,hY,hZ];repeat' (first | exact Ok.out | with_reducible refine aB ?_ ?_ | (simp;done))))
 refine a8.jB 3 1 rfl ?_
 simp only [go_sem,hF,hP,hY,hZ]
 refine cd 1 1 (a8.ind (ι:=List Pm×Nat×List aF×Nat) (fun i=>f.params.drop i.2.1=i.1∧i.2.2.1++i.1.map (·.name)=R∧i.2.2.2=i.2.2.1.length∧i.2.2.1.length+i.1.length=f.params.length) (fun i=>i.1.length)
  (fun i=> [(1, .ptr 0 0),(3, .slice (.tok 0) 1 (i.2.2.1.map encStr)),(7, .slice .shared 2 (f.params.map fQ)),(8, .int .i64 (f.params.length:Int)),(9, .int .i64 (i.2.1:Int))]) (fun i=>⟨[cb f],[some i.2.2.2]⟩) ?_ (f.params,0,[],0) ⟨rfl,hR,rfl,by simp⟩)
 rintro⟨rest,k,out,n⟩ ⟨h1,h2,h3,h4⟩ IH
 dsimp only at h1 h2 h3 h4
 subst h3
 cases rest with
 | nil=>
  have hF:=drop_nil h1
  simp only [List.map_nil,List.append_nil]at h2
  subst h2
  repeat' (first
 | simp only [go_sem,hF,hP,hY,hZ]
 | (with_reducible refine aC hQ ?_;simp only [au,aw,Option.some.injEq,exists_eq_left',go_sem,hF,hP,hY,hZ];repeat' (first | exact Ok.out | with_reducible refine aB ?_ ?_ | (simp;done))))
 | cons a rest=>
  obtain⟨hP,g2,hF,g4⟩:=drop_cons h1
  have bl:k<4611686018427387904:=by omega
  simp only [List.length_cons]at h4
  have hY:(out.length+1)*17≤bc:=by unfold bc;omega
  repeat' (first
 | simp only [go_sem,hF,hP,hY,hZ]
 | (with_reducible refine aC hQ ?_;simp only [au,aw,Option.some.injEq,exists_eq_left',go_sem,hF,hP,hY,hZ];repeat' (first | exact Ok.out | with_reducible refine aB ?_ ?_ | (simp;done))))
  refine ct 1 1 ?_ ?_ (IH (rest,k+1,out++ [a.name],out.length+1) ⟨g2,by rw [← h2];simp,by simp,by simp;omega⟩ (Nat.lt_succ_self _))
  ·(simp only [go_sem,hF,hP,hY,hZ,az bl,List.map_append,List.map_cons,List.map_nil,encStr];try exact aU)
  ·(simp only [go_sem,hF,hP,hY,hZ,az bl,List.map_append,List.map_cons,List.map_nil,encStr];try exact aU)
def lu:aF:= [109,97,105,110]
def Sm.known (p:Pg) (f:Pc) (procs:List aF) (v:Sm):Bool:=
 !(v.said.any fun n=>f.j9 p n==0) && (v.kind != 4 || (v.proc != lu && dL procs v.proc))
structure Pc.Small (p:Pg) (f:Pc):Prop where
 par:f.params.length<1000000
 vars:f.vars.length<1000000
 E5:p.globals.length<1000000
def sx (p:Pg) (f:Pc):List aF→Bool
 | []=>true
 | n::l=>if f.j9 p n==0 then false else sx p f l
theorem AQ (p:Pg) (f:Pc) : ∀ l,sx p f l = !(l.any fun n=>f.j9 p n==0)
 | []=>rfl
 | n::l=>by
  simp only [sx,List.any_cons,AQ p f l]
  cases (f.j9 p n==0) <;> simp
theorem yO (v:Sm) (h:v.nf):v.said.length<3000000:=by
 have : ∀ (l:List Ar) (out:List aF),(Ar.said out l).length≤out.length+2*Ar.aS l:=by
  intro l
  induction l with
  | nil=>intro out;simp [Ar.said]
  | cons a l ih=>
   intro out
   simp only [Ar.said,Ar.aS]
   refine Nat.le_trans (ih _) ?_
   have:=gx a.x
   have:1≤a.x.size:=by obtain⟨_,_,_,_⟩:=a.x;simp [Ex.size]
   simp only [List.length_append]
   split <;> simp <;> omega
 have h1:=this v.args (v.rf++v.x.names)
 have h2:=gx v.x
 have h3:=h.2.2
 have h4:v.rf.length≤1:=by unfold Sm.rf;split <;> simp
 simp only [List.length_append]at h1
 unfold Sm.said
 omega
theorem XP {p:Pg} {f:Pc} {procs:List aF} {v:Sm} (hs:f.Small p) (BX:procs.length<1000000) (hv:v.nf) (s:St):aE Tryz.prog qe [.agg (bH p), .agg (cb f), .slice .shared 1 (procs.map encStr), .agg (bd v)] s (.bool (v.known p f procs)) s:=by
 refine aE.pure ?_ (by simp [D.bR,D.ok,fX,rM,l9,Tag.ok,dJ]) rfl s
 have hn:=fun s=>AJ hv s
 have hk:=fun n s=>I9 (p:=p) (f:=f) (by have:=hs.par;omega) (by have:=hs.vars;omega) (by have:=hs.E5;omega) n s
 have aaG:=jq (l:=procs) (by omega) v.proc
 have hl:=yO v hv
 generalize h:v.known p f procs=q
 simp only [Sm.known, ← AQ]at h
 unfold S0
 refine aE.go Dh rfl fun B Q hB hQ=> ?_
 have⟨hF,hP,hY,hZ⟩:=bq
 repeat' (first
 | simp only [go_sem,hF,hP,hY,hZ]
 | (with_reducible refine CU (hn _) ?_)
 | (with_reducible refine aC hQ ?_;simp only [au,aw,Option.some.injEq,exists_eq_left',go_sem,hF,hP,hY,hZ];repeat' (first | exact Ok.out | with_reducible refine aB ?_ ?_ | (simp;done))))
 refine cd 3 0 (a8.ind (ι:=List aF×Nat) (fun i=>v.said.drop i.2=i.1∧(sx p f i.1 && (v.kind != 4 || (v.proc != lu && dL procs v.proc)))=q) (fun i=>i.1.length)
  (fun i=> [(2, .slice .shared 1 (procs.map encStr)),(4, .ptr 0 0),(5, .ptr 1 0),(7, .ptr 2 0),(12, .slice .shared 1 (v.said.map encStr)),(13, .int .i64 (v.said.length:Int)),(14, .int .i64 (i.2:Int))]) (fun i=>⟨[bH p,cb f,bd v],[]⟩) ?_ (v.said,0) ⟨rfl,h⟩)
 rintro⟨rest,k⟩ ⟨h1,h⟩ IH
 dsimp only at h1 h
 cases rest with
 | nil=>
  have hF:=drop_nil h1
  simp only [sx,Bool.true_and]at h
  rcases Bool.eq_false_or_eq_true (v.kind != 4)with b1 | b1
  ·simp only [b1,Bool.true_or]at h
   subst h
   repeat' (first
 | simp only [go_sem,hF,hP,hY,hZ,b1]
 | (with_reducible refine aC hQ ?_;simp only [au,aw,Option.some.injEq,exists_eq_left',go_sem,hF,hP,hY,hZ];repeat' (first | exact Ok.out | with_reducible refine aB ?_ ?_ | (simp;done))))
  ·simp only [b1,Bool.false_or]at h
   rcases Bool.eq_false_or_eq_true (v.proc != lu)with b2 | b2
   ·simp only [b2,Bool.true_and]at h
    unfold lu at b2
    have b3:(v.proc == [109,97,105,110]) = !(v.proc != [109,97,105,110]):=by simp only [bne,Bool.not_not]
    rw [b2]at b3
    simp only [Bool.not_true,Bool.not_false]at b3
    subst h
    repeat' (first
 | simp only [go_sem,hF,hP,hY,hZ,b1,b2,b3]
 | (with_reducible refine CU (aaG _ _) ?_)
 | (with_reducible refine aC hQ ?_;simp only [au,aw,Option.some.injEq,exists_eq_left',go_sem,hF,hP,hY,hZ];repeat' (first | exact Ok.out | with_reducible refine aB ?_ ?_ | (simp;done))))
   ·simp only [b2,Bool.false_and]at h
    unfold lu at b2
    have b3:(v.proc == [109,97,105,110]) = !(v.proc != [109,97,105,110]):=by simp only [bne,Bool.not_not]
    rw [b2]at b3
    simp only [Bool.not_true,Bool.not_false]at b3
    subst h
    repeat' (first
 | simp only [go_sem,hF,hP,hY,hZ,b1,b2,b3]
 | (with_reducible refine CU (aaG _ _) ?_)
 | (with_reducible refine aC hQ ?_;simp only [au,aw,Option.some.injEq,exists_eq_left',go_sem,hF,hP,hY,hZ];repeat' (first | exact Ok.out | with_reducible refine aB ?_ ?_ | (simp;done))))
 | cons a rest=>
  obtain⟨hP,g2,hF,g4⟩:=drop_cons h1
  have bl:k<4611686018427387904:=by omega
  simp only [sx]at h
  rcases Bool.eq_false_or_eq_true (f.j9 p a==0)with b1 | b1
  ·simp only [b1,if_true,Bool.false_and]at h
   subst h
   repeat' (first
 | simp only [go_sem,hF,hP,hY,hZ,b1]
 | (with_reducible refine CU (hk _ _) ?_)
 | (with_reducible refine aC hQ ?_;simp only [au,aw,Option.some.injEq,exists_eq_left',go_sem,hF,hP,hY,hZ];repeat' (first | exact Ok.out | with_reducible refine aB ?_ ?_ | (simp;done))))
  ·simp only [b1,Bool.false_eq_true,if_false]at h
   repeat' (first
 | simp only [go_sem,hF,hP,hY,hZ,b1]
 | (with_reducible refine CU (hk _ _) ?_)
 | (with_reducible refine aC hQ ?_;simp only [au,aw,Option.some.injEq,exists_eq_left',go_sem,hF,hP,hY,hZ];repeat' (first | exact Ok.out | with_reducible refine aB ?_ ?_ | (simp;done))))
   refine ct 3 0 ?_ ?_ (IH (rest,k+1) ⟨g2,h⟩ (Nat.lt_succ_self _))
   ·(simp only [go_sem,hF,hP,hY,hZ,az bl];try exact aU)
   ·(simp only [go_sem,hF,hP,hY,hZ,az bl];try exact aU)
end Go.Abs

/-! ScP -/

namespace Go.Abs
theorem K8 : ∀ (l pre:List aF),pH pre l=true↔(∃ x∈l,x∈pre)∨¬ l.Nodup
 | [],pre=>by simp [pH]
 | s::l,pre=>by
  simp only [pH]
  by_cases h:dL pre s=true
  ·simp only [h,if_true,true_iff]
   exact .inl ⟨s,List.mem_cons_self,(gl _ _).1 h⟩
  ·have h':s∉pre:=fun m=>h ((gl _ _).2 m)
   simp only [h,if_false,Bool.false_eq_true]
   rw [K8 l (pre++ [s])]
   simp only [List.mem_append,List.mem_singleton,List.mem_cons,List.nodup_cons,exists_eq_or_imp]
   constructor
   ·rintro(⟨x,m,h1 | h1⟩ | h1)
    ·exact .inl (.inr ⟨x,m,h1⟩)
    ·have h1:x=s:=by simpa using h1
     subst h1;exact .inr fun h=>h.1 m
    ·exact .inr fun h=>h1 h.2
   ·rintro((h1 | ⟨x,m,h1⟩) | h1)
    ·exact absurd h1 h'
    ·exact .inl ⟨x,m, .inl h1⟩
    ·by_cases m:s∈l
     ·exact .inl ⟨s,m, .inr (.inl rfl)⟩
     ·exact .inr fun h=>h1 ⟨m,h⟩
theorem F4 (l:List aF):eH l=true↔¬ l.Nodup:=by
 unfold eH;rw [K8];simp
theorem QO (a b:List aF):eH (a++b)=(eH a || (eH b || b.any (dL a))):=by
 have h:eH (a++b)=true↔(eH a || (eH b || b.any (dL a)))=true:=by
  rw [F4,List.nodup_append]
  simp only [Bool.or_eq_true,F4,List.any_eq_true,gl]
  constructor
  ·intro h
   by_cases ha:a.Nodup
   ·by_cases hb:b.Nodup
    ·refine .inr (.inr (Classical.byContradiction fun hn=>h ⟨ha,hb,fun x hx y hy e=>hn ⟨y,hy,e ▸ hx⟩⟩))
    ·exact .inr (.inl hb)
   ·exact .inl ha
  ·rintro(h | h | ⟨x,h1,h2⟩) ⟨h3,h4,h5⟩
   ·exact h h3
   ·exact h h4
   ·exact h5 x h2 x h1 rfl
 cases h1:eH (a++b) <;> cases h2:(eH a || (eH b || b.any (dL a))) <;> simp_all
theorem Ja (name:aF) : ∀ (l:List Pc) (k:Nat),(jr name l=none∧oj name (k:Int) (l.map (·.name)) = -1)∨∃ f j,jr name l=some f∧l[j]? = some f∧oj name (k:Int) (l.map (·.name))=((k+j:Nat):Int)
 | [],k=> .inl ⟨rfl,rfl⟩
 | f::l,k=>by
  by_cases h:f.name=name
  ·subst h
   refine .inr ⟨f,0,by simp [jr],rfl,by simp [oj]⟩
  ·have h1:(f.name==name)=false:=by simp [h]
   have h2:(name==f.name)=false:=by simp [Ne.symm h]
   simp only [jr,h1,Bool.false_eq_true,if_false,List.map_cons,oj,h2]
   rcases Ja name l (k+1)with ⟨g1,g2⟩ | ⟨g,j,g1,g2,g3⟩
   ·exact .inl ⟨g1,by rw [← g2];rfl⟩
   ·refine .inr ⟨g,j+1,g1,by simpa using g2, ?_⟩
    rw [show((k:Int)+1)=((k+1:Nat):Int)from rfl,g3]
    congr 1;omega
theorem mh {name:aF} {f:Pc} : ∀ {l:List Pc},jr name l=some f→f∈l∧f.name=name
 | g::l,h=>by
  simp only [jr]at h
  split at h
  ·rename_i e;cases h;exact⟨List.mem_cons_self,by simpa using e⟩
  ·have:=mh h;exact⟨List.mem_cons_of_mem _ this.1,this.2⟩
mutual
theorem QP (deep bo:Int) (aP:Bool) (out:List It) : ∀ s:Sm,∃ e,fV deep bo aP out s=out++e
 | ⟨id,kind,labels,name,proc,x,has,args,aZ,e⟩=>by
  simp only [fV]
  split
  ·obtain⟨e1,h1⟩:=pe (deep+1) id false (out++ [⟨⟨id,kind,labels,name,proc,x,has,args,aZ,e⟩,deep,bo,aP⟩]) aZ
   obtain⟨e2,h2⟩:=pe (deep+1) id true (dt (deep+1) id false (out++ [⟨⟨id,kind,labels,name,proc,x,has,args,aZ,e⟩,deep,bo,aP⟩]) aZ) e
   rw [h2,h1]
   exact⟨_,by rw [List.append_assoc,List.append_assoc]⟩
  ·exact⟨_,rfl⟩
theorem pe (deep bo:Int) (aP:Bool) (out:List It) : ∀ l:List Sm,∃ e,dt deep bo aP out l=out++e
 | []=>⟨[],by simp [dt]⟩
 | s::l=>by
  simp only [dt]
  split
  ·obtain⟨e1,h1⟩:=QP deep bo aP out s
   obtain⟨e2,h2⟩:=pe deep bo aP (fV deep bo aP out s) l
   rw [h2,h1]
   exact⟨_,by rw [List.append_assoc]⟩
  ·exact⟨[],by simp⟩
end
mutual
theorem QQ (deep bo:Int) (aP:Bool) (out:List It) : ∀ s:Sm,(fV deep bo aP out s).length≤200→(∀ i∈fV deep bo aP out s,i.deep≤12)→(fV deep bo aP out s).map It.s=out.map It.s++s.pre
 | ⟨id,kind,labels,name,proc,x,has,args,aZ,e⟩,h1,h2=>by
  simp only [fV,Sm.pre]at h1 h2 ⊢
  by_cases hd:deep≤12
  ·simp only [hd,decide_true,if_true]at h1 h2 ⊢
   obtain⟨e2,g2⟩:=pe (deep+1) id true (dt (deep+1) id false (out++ [⟨⟨id,kind,labels,name,proc,x,has,args,aZ,e⟩,deep,bo,aP⟩]) aZ) e
   have k1:(dt (deep+1) id false (out++ [⟨⟨id,kind,labels,name,proc,x,has,args,aZ,e⟩,deep,bo,aP⟩]) aZ).length≤200:=by
    rw [g2,List.length_append]at h1;omega
   have k2 : ∀ i∈dt (deep+1) id false (out++ [⟨⟨id,kind,labels,name,proc,x,has,args,aZ,e⟩,deep,bo,aP⟩]) aZ,i.deep≤12:=fun i m=>h2 i (by rw [g2];exact List.mem_append_left _ m)
   rw [wo (deep+1) id true _ e h1 h2,wo (deep+1) id false _ aZ k1 k2]
   simp
  ·simp only [hd,decide_false,Bool.false_eq_true,if_false]at h1 h2
   exact absurd (h2 _ (List.mem_append_right _ (List.mem_singleton.2 rfl))) (by simpa using hd)
theorem wo (deep bo:Int) (aP:Bool) (out:List It) : ∀ l:List Sm,(dt deep bo aP out l).length≤200→(∀ i∈dt deep bo aP out l,i.deep≤12)→(dt deep bo aP out l).map It.s=out.map It.s++Sm.dN l
 | [],h1,h2=>by simp [dt,Sm.dN]
 | s::l,h1,h2=>by
  simp only [dt,Sm.dN]at h1 h2 ⊢
  by_cases hc:(out.length:Int)≤200
  ·simp only [hc,decide_true,if_true]at h1 h2 ⊢
   obtain⟨e2,g2⟩:=pe deep bo aP (fV deep bo aP out s) l
   have k1:(fV deep bo aP out s).length≤200:=by rw [g2,List.length_append]at h1;omega
   have k2 : ∀ i∈fV deep bo aP out s,i.deep≤12:=fun i m=>h2 i (by rw [g2];exact List.mem_append_left _ m)
   rw [wo deep bo aP _ l h1 h2,QQ deep bo aP out s k1 k2]
   simp
  ·simp only [hc,decide_false,Bool.false_eq_true,if_false]at h1
   omega
end
theorem Jb : ∀ (l:List Pc) (out:List It),(allM out l).length≤200→(∀ i∈allM out l,i.deep≤12)→(∀ f∈l,f.flat.map It.s=Sm.dN f.body)∧(allM out l).map It.s=out.map It.s++(l.map fun f=>Sm.dN f.body).flatten
 | [],out,h1,h2=>⟨fun f m=>(by cases m),by simp [allM]⟩
 | f::l,out,h1,h2=>by
  simp only [allM]at h1 h2 ⊢
  by_cases hc:(((out++f.flat).length:Nat):Int) > 200
  ·simp only [hc,decide_true,if_true]at h1;omega
  ·simp only [hc,decide_false,Bool.false_eq_true,if_false]at h1 h2 ⊢
   obtain⟨k1,k2⟩:=Jb l (out++f.flat) h1 h2
   have rW : ∀ (l:List Pc) (out:List It),∃ e,allM out l=out++e:=by
    intro l
    induction l with
    | nil=>intro out;exact⟨[],by simp [allM]⟩
    | cons g l ih=>
     intro out
     simp only [allM]
     split
     ·exact⟨_,rfl⟩
     ·obtain⟨e,h⟩:=ih (out++g.flat);exact⟨g.flat++e,by rw [h];simp⟩
   obtain⟨e,he⟩:=rW l (out++f.flat)
   have k3:f.flat.map It.s=Sm.dN f.body:=by
    have:=wo 1 0 false [] f.body (by
     have:f.flat.length≤200:=by simp only [List.length_append]at hc;omega
     exact this) (fun i m=>h2 i (by rw [he];exact List.mem_append_left _ (List.mem_append_right _ m)))
    simpa [Pc.flat]using this
   refine⟨fun g m=> ?_, ?_⟩
   ·rcases List.mem_cons.1 m with rfl | m
    ·exact k3
    ·exact k1 g m
   ·rw [k2];simp [k3]
theorem wq : ∀ (l:List It) (n:Nat),It.dZ n l=true→(∀ i∈l,i.deep≤12)∧∀ (j:Nat) (i:It),l[j]? = some i→i.s.id=((n+j+1:Nat):Int)
 | [],n,h=>⟨fun i m=>(by cases m),fun j i h=>by simp at h⟩
 | a::l,n,h=>by
  simp only [It.dZ]at h
  split at h
  ·cases h
  ·rename_i c
   simp only [Bool.or_eq_true,not_or,bne_iff_ne,ne_eq,Decidable.not_not,decide_eq_true_eq,Int.not_lt,gt_iff_lt]at c
   obtain⟨k1,k2⟩:=wq l (n+1) h
   refine⟨fun i m=> ?_,fun j i hj=> ?_⟩
   ·rcases List.mem_cons.1 m with rfl | m
    ·exact c.1.2
    ·exact k1 i m
   ·cases j with
    | zero=>simp at hj;subst hj;rw [c.1.1]
    | succ j=>simp at hj;rw [k2 j i hj];congr 1;omega
theorem uz {p:Pg} (h:p.may=true):p.all.length≤200∧It.dZ 0 p.all=true:=by
 unfold Pg.may at h
 split at h
 ·cases h
 ·split at h
  ·cases h
  ·split at h
   ·cases h
   ·rename_i c
    exact⟨by simp only [decide_eq_true_eq,Int.not_lt,gt_iff_lt]at c;omega,h⟩
theorem pf {p:Pg} (h:p.may=true):(∀ f∈p.procs,f.flat.map It.s=Sm.dN f.body)∧p.all.map It.s=p.pre:=by
 obtain⟨h1,h2⟩:=uz h
 have:=Jb p.procs [] h1 (wq _ 0 h2).1
 simpa [Pg.pre,Pg.all]using this
theorem aaH {p:Pg} (h:p.may=true) {i:Nat} {v:Sm} (hv:p.pre[i]? = some v):v.id=((i+1:Nat):Int):=by
 rw [← (pf h).2,List.getElem?_map,Option.map_eq_some_iff]at hv
 obtain⟨it,h1,rfl⟩:=hv
 have:=(wq _ 0 (uz h).2).2 i it h1
 rw [this];congr 1;omega
end Go.Abs

/-! Sc4 -/

namespace Go.Abs
set_option maxRecDepth 8000
open Go.Proofs
structure Pg.iC (p:Pg):Prop where
 NU:p.DD
 sz:p.size≤900000
mutual
theorem aaI : ∀ s:Sm,s.sw→s.size<1000000→∀ v∈s.pre,v.nf∧v.jE
 | ⟨id,kind,labels,name,proc,x,has,args,aZ,aP⟩,h,hs,v,m=>by
  simp only [Sm.sw]at h
  simp only [Sm.size]at hs
  simp only [Sm.pre,List.mem_cons,List.mem_append]at m
  rcases m with rfl | m | m
  ·exact⟨⟨h.1.xt,fun a ha=>(h.1.arg a ha).2.1,by dsimp only;omega⟩,h.1⟩
  ·exact Bq aZ h.2.1 (by omega) v m
  ·exact Bq aP h.2.2 (by omega) v m
theorem Bq : ∀ l:List Sm,Sm.iZ l→Sm.aS l<1000000→∀ v∈Sm.dN l,v.nf∧v.jE
 | [],h,hs,v,m=>by simp [Sm.dN]at m
 | s::l,h,hs,v,m=>by
  simp only [Sm.iZ]at h
  simp only [Sm.aS]at hs
  simp only [Sm.dN,List.mem_append]at m
  rcases m with m | m
  ·exact aaI s h.1 (by omega) v m
  ·exact Bq l h.2 (by omega) v m
end
theorem Pg.iC.said {p:Pg} (h:p.iC) {f:Pc} (hf:f∈p.procs) : ∀ v∈Sm.dN f.body,v.nf:=fun v m=>by
 have h1:=Pc.bV hf
 have h2:=h.sz
 simp only [Pg.size]at h2
 simp only [Pc.size]at h1
 exact(Bq f.body (h.NU.body f hf) (by omega) v m).1
theorem Pg.iC.small {p:Pg} (h:p.iC) {f:Pc} (hf:f∈p.procs):f.Small p:=by
 have h1:=Pc.bV hf
 have h2:=h.sz
 simp only [Pg.size]at h2
 simp only [Pc.size]at h1
 exact⟨by omega,by omega,by omega⟩
theorem Pg.iC.procs {p:Pg} (h:p.iC):p.procs.length≤900000∧Pc.aS p.procs≤900000∧p.globals.length≤900000:=by
 have h2:=h.sz
 have h3:=Pc.cZ p.procs
 simp only [Pg.size]at h2
 omega
def Pg.pn (p:Pg):List aF:=p.procs.map (·.name)
def tz (p:Pg) (f:Pc) (procs:List aF):List Sm→Option Sm
 | []=>none
 | v::l=>if v.known p f procs then tz p f procs l else some v
def p8 (p:Pg) (procs:List aF):List Pc→Int×Int
 | []=>(0,0)
 | f::l=>if eH (p.globals++f.own)then(5,0)else match tz p f procs (Sm.dN f.body)with | some v=>(5,v.id) | none=>p8 p procs l
def Pg.p9 (p:Pg):Bool:=match p.find lu with | none=>true | some m=>decide ((m.params.length:Int) > 0)
def Pg.scope (p:Pg):Int×Int:=
 if p.may then if eH p.globals || (eH p.pn || p.p9)then(5,0)else p8 p p.pn p.procs else(1,0)
theorem Uc (p:Pg) (hl:p.globals.length<1000000) (n:aF):aE Tryz.prog ox ([.str n]++ [.ptr 0 0]) ⟨[bH p],[]⟩ (.bool (dL p.globals n)) ⟨[bH p],[]⟩:=by
 show aE Tryz.prog ox [.str n, .ptr 0 0] _ _ _
 have tC:=jq (l:=p.globals) (by omega) n
 refine aE.go BA rfl fun B Q hB hQ=> ?_
 have⟨hF,hP,hY,hZ⟩:=bq
 repeat' (first
 | simp only [go_sem,hF,hP,hY,hZ]
 | (with_reducible refine CU (tC _ _) ?_)
 | (with_reducible refine aC hQ ?_;simp only [au,aw,Option.some.injEq,exists_eq_left',go_sem,hF,hP,hY,hZ];repeat' (first | exact Ok.out | with_reducible refine aB ?_ ?_ | (simp;done))))
theorem aef (n m:Nat) (p:Pg):D.il n m (iB p)=iB p:=iG n m _ (yI p)
attribute [go_sem] aef
theorem XQ {p:Pg} {f:Pc} {procs:List aF} {v:Sm} (hs:f.Small p) (BX:procs.length<1000000) (hv:v.nf) (g:Tag) (s:St):aE Tryz.prog qe [.agg (bH p), .agg (cb f), .slice g 1 (procs.map encStr), .agg (bd v)] s (.bool (v.known p f procs)) s:=
 eU.Cg (.cons (Wk.refl _) (.cons (Wk.refl _) (.cons (Wk.shared g 1 _) (mM.refl _)))) (XP hs BX hv s)
theorem vr {p:Pg} (h:p.iC) (s:St):aE Tryz.prog lG [.agg (bH p)] s (.agg [.int .i64 p.scope.1, .int .i64 p.scope.2]) s:=by
 refine aE.pure ?_ (by simp [D.bR,D.ok,fX]) rfl s
 have hm:=fun s=>Qx h.NU s
 simp only [E9]at hm
 obtain⟨oP,nq,pG⟩:=h.procs
 have ey:=fun s=>Dy (p:=p) (by omega) s
 have mq:=fun s=>Cy (l:=p.globals) (by omega) .shared s
 have hpn:p.pn.length=p.procs.length:=by simp [Pg.pn]
 have uJ:=fun g s=>Cy (l:=p.pn) (by omega) g s
 have hix:=fun g s=>(K4 (l:=p.pn) (by omega) lu s).FO (Wk.shared g 1 (p.pn.map encStr))
 have Cz:=fun g s=>(show aE Tryz.prog iX [.slice g 1 (p.pn.map encStr), .str [109,97,105,110]] s (.int .i64 (oj lu 0 p.pn)) s from hix g s)
 generalize hR:p.scope=R
 simp only [Pg.scope]at hR
 unfold S0
 rcases Bool.eq_false_or_eq_true p.may with hb | hb
 case inr=>
  simp only [hb]at hm
  simp only [hb,Bool.false_eq_true,if_false]at hR
  subst hR
  refine aE.go vX rfl fun B Q hB hQ=> ?_
  have⟨hF,hP,hY,hZ⟩:=bq
  repeat' (first
 | simp only [go_sem,hF,hP,hY,hZ]
 | (with_reducible refine CU (hm _) ?_)
 | (with_reducible refine aC hQ ?_;simp only [au,aw,Option.some.injEq,exists_eq_left',go_sem,hF,hP,hY,hZ];repeat' (first | exact Ok.out | with_reducible refine aB ?_ ?_ | (simp;done))))
 simp only [hb]at hm
 simp only [hb,if_true]at hR
 refine aE.go vX rfl fun B Q hB hQ=> ?_
 have⟨hF,hP,hY,hZ⟩:=bq
 repeat' (first
 | simp only [go_sem,hF,hP,hY,hZ]
 | (with_reducible refine CU (hm _) ?_)
 | (with_reducible refine aC hQ ?_;simp only [au,aw,Option.some.injEq,exists_eq_left',go_sem,hF,hP,hY,hZ];repeat' (first | exact Ok.out | with_reducible refine aB ?_ ?_ | (simp;done))))
 refine a8.jB 3 1 rfl ?_
 simp only [go_sem,hF,hP,hY,hZ]
 refine cd 2 1 (a8.ind (ι:=List Pc×Nat×List aF×Nat) (fun i=>p.procs.drop i.2.1=i.1∧i.2.2.1++i.1.map (·.name)=p.pn∧i.2.2.2=i.2.2.1.length) (fun i=>i.1.length)
  (fun i=> [(1, .ptr 0 0),(2, .ptr 1 0),(3, .slice (.tok 0) 1 (i.2.2.1.map encStr)),(18, .slice .shared 5 (p.procs.map cb)),(19, .int .i64 (p.procs.length:Int)),(20, .int .i64 (i.2.1:Int))]) (fun i=>⟨[bH p,[.int .i64 0, .int .i64 0]],[some i.2.2.2]⟩) ?_ (p.procs,0,[],0) ⟨rfl,rfl,rfl⟩)
 rintro⟨rest,k,out,n⟩ ⟨h1,h2,h3⟩ IH
 dsimp only at h1 h2 h3
 subst h3
 have hlo:out.length+rest.length≤900000:=by
  have:=congrArg List.length h2
  simp only [List.length_append,List.length_map]at this
  omega
 cases rest with
 | cons a rest=>
  obtain⟨hP,g2,hF,g4⟩:=drop_cons h1
  have bl:k<4611686018427387904:=by omega
  have hY:(out.length+1)*17≤bc:=by unfold bc;omega
  repeat' (first
 | simp only [go_sem,hF,hP,hY,hZ]
 | (with_reducible refine aC hQ ?_;simp only [au,aw,Option.some.injEq,exists_eq_left',go_sem,hF,hP,hY,hZ];repeat' (first | exact Ok.out | with_reducible refine aB ?_ ?_ | (simp;done))))
  refine ct 2 1 ?_ ?_ (IH (rest,k+1,out++ [a.name],out.length+1) ⟨g2,by rw [← h2];simp,by simp⟩ (Nat.lt_succ_self _))
  ·(simp only [go_sem,hF,hP,hY,hZ,az bl,List.map_append,List.map_cons,List.map_nil,encStr];try exact aU)
  ·(simp only [go_sem,hF,hP,hY,hZ,az bl,List.map_append,List.map_cons,List.map_nil,encStr];try exact aU)
 | nil=>
  have hF:=drop_nil h1
  simp only [List.map_nil,List.append_nil]at h2
  subst h2
  rcases Bool.eq_false_or_eq_true (eH p.globals)with b1 | b1
  ·simp only [b1,Bool.true_or,if_true]at hR
   subst hR
   repeat' (first
 | simp only [go_sem,hF,hP,hY,hZ,b1]
 | (with_reducible refine CU (Cz _ _) ?_)
 | (with_reducible refine CU (mq _) ?_)
 | (with_reducible refine CU (uJ _ _) ?_)
 | (with_reducible refine aC hQ ?_;simp only [au,aw,Option.some.injEq,exists_eq_left',go_sem,hF,hP,hY,hZ];repeat' (first | exact Ok.out | with_reducible refine aB ?_ ?_ | (simp;done))))
  rcases Bool.eq_false_or_eq_true (eH p.pn)with b2 | b2
  ·simp only [b1,b2,Bool.true_or,Bool.or_true,if_true]at hR
   subst hR
   repeat' (first
 | simp only [go_sem,hF,hP,hY,hZ,b1,b2]
 | (with_reducible refine CU (Cz _ _) ?_)
 | (with_reducible refine CU (mq _) ?_)
 | (with_reducible refine CU (uJ _ _) ?_)
 | (with_reducible refine aC hQ ?_;simp only [au,aw,Option.some.injEq,exists_eq_left',go_sem,hF,hP,hY,hZ];repeat' (first | exact Ok.out | with_reducible refine aB ?_ ?_ | (simp;done))))
  rcases Ja lu p.procs 0 with ⟨e1,e2⟩ | ⟨m,j,e1,e2,e3⟩
  ·have b3:p.p9=true:=by unfold Pg.p9 Pg.find;rw [e1]
   have hi:oj lu 0 p.pn = -1:=e2
   simp only [b1,b2,b3,Bool.or_true,if_true]at hR
   subst hR
   simp only [hi]at Cz
   have d1:decide ((-1:Int)<0)=true:=by decide
   repeat' (first
 | simp only [go_sem,hF,hP,hY,hZ,b1,b2,d1]
 | (with_reducible refine CU (Cz _ _) ?_)
 | (with_reducible refine CU (mq _) ?_)
 | (with_reducible refine CU (uJ _ _) ?_)
 | (with_reducible refine aC hQ ?_;simp only [au,aw,Option.some.injEq,exists_eq_left',go_sem,hF,hP,hY,hZ];repeat' (first | exact Ok.out | with_reducible refine aB ?_ ?_ | (simp;done))))
  have hi:oj lu 0 p.pn=((j:Nat):Int):=by rw [show p.pn=p.procs.map (·.name)from rfl];simpa using e3
  simp only [hi]at Cz
  have d1:decide (((j:Nat):Int)<0)=false:=by simp
  have hj:j<p.procs.length:=(List.getElem?_eq_some_iff.1 e2).1
  have b3:p.p9=decide ((m.params.length:Int) > 0):=by unfold Pg.p9 Pg.find;rw [e1]
  rw [b3]at hR
  rcases Bool.eq_false_or_eq_true (decide ((m.params.length:Int) > 0))with b4 | b4
  ·simp only [b1,b2,b4,Bool.or_true,if_true]at hR
   subst hR
   repeat' (first
 | simp only [go_sem,hF,hP,hY,hZ,b1,b2,d1,e2,b4]
 | (with_reducible refine CU (Cz _ _) ?_)
 | (with_reducible refine CU (mq _) ?_)
 | (with_reducible refine CU (uJ _ _) ?_)
 | (with_reducible refine aC hQ ?_;simp only [au,aw,Option.some.injEq,exists_eq_left',go_sem,hF,hP,hY,hZ];repeat' (first | exact Ok.out | with_reducible refine aB ?_ ?_ | (simp;done))))
  simp only [b1,b2,b4,Bool.or_false,Bool.false_eq_true,if_false]at hR
  repeat' (first
 | simp only [go_sem,hF,hP,hY,hZ,b1,b2,d1,e2,b4]
 | (with_reducible refine CU (Cz _ _) ?_)
 | (with_reducible refine CU (mq _) ?_)
 | (with_reducible refine CU (uJ _ _) ?_)
 | (with_reducible refine CU (ey _) ?_)
 | (with_reducible refine aC hQ ?_;simp only [au,aw,Option.some.injEq,exists_eq_left',go_sem,hF,hP,hY,hZ];repeat' (first | exact Ok.out | with_reducible refine aB ?_ ?_ | (simp;done))))
  refine cd 2 1 (a8.ind (ι:=List Pc×Nat) (fun i=>p.procs.drop i.2=i.1∧p8 p p.pn i.1=R) (fun i=>i.1.length)
   (fun i=> [(1, .ptr 0 0),(2, .ptr 1 0),(3, .slice (.tok 0) 1 (p.pn.map encStr)),(7, .dU (iB p) 0),(57, .slice .shared 5 (p.procs.map cb)),(58, .int .i64 (p.procs.length:Int)),(59, .int .i64 (i.2:Int))]) (fun i=>⟨[bH p,[.int .i64 0, .int .i64 0]],[some p.pn.length]⟩) ?_ (p.procs,0) ⟨rfl,hR⟩)
  clear IH h1 hF hR
  rintro⟨rest,k⟩ ⟨h1,hR⟩ IH
  dsimp only at h1 hR
  cases rest with
  | nil=>
   have hF:=drop_nil h1
   simp only [p8]at hR
   subst hR
   repeat' (first
 | simp only [go_sem,hF,hP,hY,hZ]
 | (with_reducible refine aC hQ ?_;simp only [au,aw,Option.some.injEq,exists_eq_left',go_sem,hF,hP,hY,hZ];repeat' (first | exact Ok.out | with_reducible refine aB ?_ ?_ | (simp;done))))
  | cons f rest=>
   obtain⟨hP,g2,hF,g4⟩:=drop_cons h1
   have bl:k<4611686018427387904:=by omega
   have mZ:=List.mem_of_getElem? hP
   have vt:=h.small mZ
   have Jc:=fun s=>aee (f:=f) vt.par vt.vars s
   have oM:f.own.length<4611686018427387904:=by have h1:=vt.par;have h2:=vt.vars;unfold Pc.own Pc.pd;simp;omega
   have F5:=fun s=>Cy (l:=f.own) oM .shared s
   have wu:=fun {s:St} {o:Nat} (ho:s.aG[o]? = some (bH p))=>xZ (l:=f.own) oM (f:=ox) (row:=bH p) (b:=dL p.globals) (fX p) (by with_unfolding_all rfl) (fun x _=>Uc p vt.E5 x) ho
   have Ud:=fun {s:St} {o:Nat} (ho:s.aG[o]? = some (bH p))=>(show aE Tryz.prog fY [.slice .shared 1 (f.own.map encStr), .gP 63 [.ptr o 0]] s (.bool (f.own.any (dL p.globals))) s from wu ho)
   simp only [p8,QO,b1,Bool.false_or]at hR
   rcases Bool.eq_false_or_eq_true (eH f.own)with c1 | c1
   ·simp only [c1,Bool.true_or,if_true]at hR
    subst hR
    repeat' (first
 | simp only [go_sem,hF,hP,hY,hZ,c1]
 | (with_reducible refine CU (Jc _) ?_)
 | (with_reducible refine CU (F5 _) ?_)
 | (with_reducible refine CU (Ud (by with_unfolding_all rfl)) ?_)
 | (with_reducible refine aC hQ ?_;simp only [au,aw,Option.some.injEq,exists_eq_left',go_sem,hF,hP,hY,hZ];repeat' (first | exact Ok.out | with_reducible refine aB ?_ ?_ | (simp;done))))
   rcases Bool.eq_false_or_eq_true (f.own.any (dL p.globals))with c2 | c2
   ·simp only [c1,c2,Bool.false_or,if_true]at hR
    subst hR
    repeat' (first
 | simp only [go_sem,hF,hP,hY,hZ,c1,c2]
 | (with_reducible refine CU (Jc _) ?_)
 | (with_reducible refine CU (F5 _) ?_)
 | (with_reducible refine CU (Ud (by with_unfolding_all rfl)) ?_)
 | (with_reducible refine aC hQ ?_;simp only [au,aw,Option.some.injEq,exists_eq_left',go_sem,hF,hP,hY,hZ];repeat' (first | exact Ok.out | with_reducible refine aB ?_ ?_ | (simp;done))))
   simp only [c1,c2,Bool.or_self,Bool.false_eq_true,if_false]at hR
   obtain⟨it,pb,DL⟩:=TF hP (by omega)
   rw [← pb]at hR
   have Fb:it.length≤900000:=by
    have e:=congrArg List.length pb
    have e2:=(qx p).2 k f hP
    obtain⟨a,b,e',_,_,e3,e4⟩:=e2
    have e5:=qy p
    have e6:=congrArg List.length e3
    rw [e4]at e5
    simp only [List.length_map,List.length_append]at e e5 e6
    omega
   repeat' (first
 | simp only [go_sem,hF,hP,hY,hZ,c1,c2]
 | (with_reducible refine CU (Jc _) ?_)
 | (with_reducible refine CU (F5 _) ?_)
 | (with_reducible refine CU (Ud (by with_unfolding_all rfl)) ?_)
 | (with_reducible refine CU (DL _) ?_)
 | (with_reducible refine aC hQ ?_;simp only [au,aw,Option.some.injEq,exists_eq_left',go_sem,hF,hP,hY,hZ];repeat' (first | exact Ok.out | with_reducible refine aB ?_ ?_ | (simp;done))))
   obtain⟨q,hq⟩ : ∃ q,tz p f p.pn (it.map Im.s)=q:=⟨_,rfl⟩
   rw [hq]at hR
   refine cd 3 1 (a8.ind (ι:=List Im×Nat) (fun i=>it.drop i.2=i.1∧tz p f p.pn (i.1.map Im.s)=q) (fun i=>i.1.length)
    (fun i=> [(1, .ptr 0 0),(2, .ptr 1 0),(3, .slice (.tok 0) 1 (p.pn.map encStr)),(7, .dU (iB p) 0),(9, .ptr 2 0),(57, .slice .shared 5 (p.procs.map cb)),(58, .int .i64 (p.procs.length:Int)),(59, .int .i64 (k:Int)),(76, .slice .shared 17 (it.map fu)),(77, .int .i64 (it.length:Int)),(78, .int .i64 (i.2:Int))]) (fun i=>⟨[bH p,[.int .i64 0, .int .i64 0],cb f],[some p.pn.length]⟩) ?_ (it,0) ⟨rfl,hq⟩)
   rintro⟨jZ,n⟩ ⟨j1,j2⟩ oD
   dsimp only at j1 j2
   have BM:=hF
   cases jZ with
   | nil=>
    have Ue:=drop_nil j1
    simp only [List.map_nil,tz]at j2
    subst j2
    simp only at hR
    repeat' (first
 | simp only [go_sem,hF,hP,hY,hZ,Ue]
 | (with_reducible refine aC hQ ?_;simp only [au,aw,Option.some.injEq,exists_eq_left',go_sem,hF,hP,hY,hZ];repeat' (first | exact Ok.out | with_reducible refine aB ?_ ?_ | (simp;done))))
    refine ct 2 1 ?_ ?_ (IH (rest,k+1) ⟨g2,hR⟩ (Nat.lt_succ_self _))
    ·(simp only [go_sem,hF,hP,hY,hZ,az bl];try exact aU)
    ·(simp only [go_sem,hF,hP,hY,hZ,az bl];try exact aU)
   | cons i jZ=>
    obtain⟨e7,my,hO,DK⟩:=drop_cons j1
    have fA:n<4611686018427387904:=by omega
    have wv:i.s∈Sm.dN f.body:=by rw [← pb];exact List.mem_map_of_mem (List.mem_of_getElem? e7)
    have Wo:=XQ (v:=i.s) vt (procs:=p.pn) (by omega) (h.said mZ _ wv)
    simp only [List.map_cons,tz]at j2
    rcases Bool.eq_false_or_eq_true (i.s.known p f p.pn)with c3 | c3
    ·simp only [c3,if_true]at j2
     repeat' (first
 | simp only [go_sem,hF,hP,hY,hZ,hO,e7,c3]
 | (with_reducible refine CU (Wo _ _) ?_)
 | (with_reducible refine aC hQ ?_;simp only [au,aw,Option.some.injEq,exists_eq_left',go_sem,hF,hP,hY,hZ];repeat' (first | exact Ok.out | with_reducible refine aB ?_ ?_ | (simp;done))))
     refine ct 3 1 ?_ ?_ (oD (jZ,n+1) ⟨my,j2⟩ (Nat.lt_succ_self _))
     ·(simp only [go_sem,hF,hP,hY,hZ,az fA];try exact aU)
     ·(simp only [go_sem,hF,hP,hY,hZ,az fA];try exact aU)
    ·simp only [c3,Bool.false_eq_true,if_false]at j2
     subst j2
     simp only at hR
     subst hR
     repeat' (first
 | simp only [go_sem,hF,hP,hY,hZ,hO,e7,c3]
 | (with_reducible refine CU (Wo _ _) ?_)
 | (with_reducible refine aC hQ ?_;simp only [au,aw,Option.some.injEq,exists_eq_left',go_sem,hF,hP,hY,hZ];repeat' (first | exact Ok.out | with_reducible refine aB ?_ ?_ | (simp;done))))
end Go.Abs

/-! Rng -/

namespace Go.Abs
mutual
def Ex.rh:Ex→Prop
 | ⟨_,n,_,kids⟩=>n≤9223372036854775807∧Ex.xg kids
def Ex.xg:List Ex→Prop
 | []=>True
 | x::l=>x.rh∧Ex.xg l
end
end Go.Abs

/-! FineM -/

namespace Go.Abs
mutual
def Sm.rh:Sm→Prop
 | ⟨_,_,_,_,_,x,_,args,aZ,aP⟩=>x.rh∧(∀ a∈args,a.x.rh)∧Sm.xg aZ∧Sm.xg aP
def Sm.xg:List Sm→Prop
 | []=>True
 | s::l=>s.rh∧Sm.xg l
end
def Pg.rh (p:Pg):Prop:=∀ f∈p.procs,Sm.xg f.body
theorem F6 {f:Pc} : ∀ {l:List Pc} {n:Nat},Pc.fp n l=true→f∈l→(isName f.name=true∧dG f.vars=true∧dG f.fin=true∧Pm.dZ f.params=true)∧∃ n,(Sm.gu 1 n f.body).1=true
 | g::l,n,h,m=>by
  simp only [Pc.fp]at h
  split at h
  ·cases h
  rename_i c1
  split at h
  ·cases h
  rename_i c2
  split at h
  ·cases h
  rename_i c3
  simp only [Bool.or_eq_true,Bool.not_eq_true',not_or,Bool.not_eq_false]at c1 c2 c3
  rcases List.mem_cons.1 m with rfl | m
  ·exact⟨⟨c1.1.1.2,c1.1.2,c1.2,c2⟩,n,c3⟩
  ·exact F6 h m
mutual
theorem NV : ∀ (s:Sm) (nest:Int) (n:Nat),(Sm.pN nest n s).1=true→s.size<4611686018427387000→s.sw
 | ⟨id,kind,labels,name,proc,x,has,args,aZ,aP⟩,nest,n,hm,hs=>by
  obtain⟨_,_,h1,h2,h3,_⟩:=F2 hm
  rw [Cv]
  rw [(sU h2).2]at h2
  rw [(sU h3).2]at h3
  refine⟨I5 h1 hs,uj aZ _ _ h2 ?_,uj aP _ _ h3 ?_⟩ <;> simp only [Sm.size]at hs <;> omega
theorem uj : ∀ (l:List Sm) (nest:Int) (n:Nat),(Sm.fp nest n l).1=true→Sm.aS l<4611686018427387000→Sm.iZ l
 | [],_,_,_,_=>by simp only [Sm.iZ]
 | s::l,nest,n,hm,hs=>by
  simp only [Sm.fp]at hm
  simp only [Sm.aS]at hs
  split at hm
  ·cases hm
  rename_i hc
  simp only [Bool.not_eq_true',Bool.not_eq_false]at hc
  exact⟨NV s nest n hc (by omega),uj l nest _ hm (by omega)⟩
end
theorem AR {p:Pg} (h:p.may=true) (hs:p.size<4611686018427387000):p.DD:=by
 have hf:=TS h hs
 rw [← E9]at h
 unfold Pg.E8 at h
 split at h
 ·cases h
 refine⟨hf.sz,hf.E5,hf.lU,fun f m=> ?_⟩
 obtain⟨_,n,e⟩:=F6 h m
 rw [(sU e).2]at e
 have:=Pc.bV m
 simp only [Pg.size]at hs
 exact uj f.body 1 n e (by unfold Pc.size at this;omega)
mutual
theorem NY {deep bo:Int} {aP:Bool} {out:List It} {i:It} : ∀ s:Sm,s.sw→i∈fV deep bo aP out s→i∈out∨i.s.jE
 | ⟨id,kind,labels,name,proc,x,has,args,aZ,e⟩,hf,h=>by
  simp only [fV]at h
  simp only [Sm.sw]at hf
  have key:i∈out++ [(⟨⟨id,kind,labels,name,proc,x,has,args,aZ,e⟩,deep,bo,aP⟩:It)]→i∈out∨i.s.jE:=by
   intro h
   rcases List.mem_append.1 h with h | h
   ·exact .inl h
   ·simp at h;subst h;exact .inr hf.1
  split at h
  ·rcases uk e hf.2.2 h with h | h
   ·rcases uk aZ hf.2.1 h with h | h
    ·exact key h
    ·exact .inr h
   ·exact .inr h
  ·exact key h
theorem uk {deep bo:Int} {aP:Bool} {out:List It} {i:It} : ∀ l:List Sm,Sm.iZ l→i∈dt deep bo aP out l→i∈out∨i.s.jE
 | [],_,h=>by simp only [dt]at h;exact .inl h
 | s::l,hf,h=>by
  simp only [dt]at h
  simp only [Sm.iZ]at hf
  split at h
  ·rcases uk l hf.2 h with h | h
   ·exact NY s hf.1 h
   ·exact .inr h
  ·exact .inl h
end
theorem F7 {i:It} : ∀ (l:List Pc) (out:List It),(∀ f∈l,Sm.iZ f.body)→i∈allM out l→i∈out∨i.s.jE
 | [],out,_,h=>by simp only [allM]at h;exact .inl h
 | f::l,out,hf,h=>by
  have key:i∈out++f.flat→i∈out∨i.s.jE:=by
   intro h
   rcases List.mem_append.1 h with h | h
   ·exact .inl h
   ·rcases uk _ (hf f (List.mem_cons_self ..)) h with h | h
    ·simp at h
    ·exact .inr h
  simp only [allM]at h
  split at h
  ·exact key h
  ·rcases F7 l _ (fun g m=>hf g (List.mem_cons_of_mem _ m)) h with h | h
   ·exact key h
   ·exact .inr h
theorem NZ {p:Pg} (h:p.DD):p.jE:=⟨h.sz,h.E5,h.lU,fun i hi=>(F7 p.procs [] h.body hi).resolve_left (by simp)⟩
end Go.Abs

/-! Sc5 -/

namespace Go.Abs
set_option maxRecDepth 8000
open Go.Proofs
theorem Uf (x:It):(ej x)[1]? = some (.int .i64 x.s.kind):=nd rfl
theorem Ug (x:It):(ej x)[3]? = some (.str x.s.name):=nd rfl
theorem Uh (x:It):(ej x)[4]? = some (.str x.s.proc):=nd rfl
theorem XR (x:It):List.take 16 (ej x)=ej x:=nd rfl
attribute [go_sem] Uf Ug Uh XR
theorem Fc {a:List aF} (h:a≠ []) (hl:a.length≤1000000000) {z:Nat} {g:Tag} (o:List (List D)) (T:List (Option Nat)) :
 gy 1 16 (.slice .full z []) (.slice g 1 (a.map encStr)) ⟨o,T⟩=some (.slice (.tok T.length) 1 (a.map encStr),⟨o,T++ [some a.length]⟩):=by
 have:a.length*17≤bc:=by unfold bc;omega
 cases a with
 | nil=>exact absurd rfl h
 | cons x r=>simp only [List.length_cons]at this;simp [gy,this]
theorem uA {z:Nat} {g:Tag} (o:List (List D)) (T:List (Option Nat)) :
 gy 1 16 (.slice .full z []) (.slice g 1 []) ⟨o,T⟩=some (.slice .full z [],⟨o,T⟩):=by simp [gy,bc]
theorem AS {l nx:List aF} (h:l.length+nx.length≤1000000000) {g:Tag} {n0:Option Nat} (o:List (List D)) :
 gy 1 16 (.slice (.tok 1) 1 (l.map encStr)) (.slice g 1 (nx.map encStr)) ⟨o,[n0,some l.length]⟩=some (.slice (.tok 1) 1 ((l++nx).map encStr),⟨o,[n0,some (l++nx).length]⟩):=by
 have:=Cj (size:=1) (bytes:=16) (t:=1) (rows:=l.map encStr) (new:=nx.map encStr) (g:=g) (s:=⟨o,[n0,some l.length]⟩) (by simp only [List.length_map];unfold bc;omega) (by simp)
 rw [this]
 simp
theorem Ks {p:Pg} (h:p.iC):p.jE:=NZ h.NU
theorem Ui {p:Pg} (h:p.iC) (s:St):aE Tryz.prog uW [.agg (bH p)] s (.agg [.int .i64 p.scope.1, .int .i64 p.scope.2]) s:=by
 refine aE.pure ?_ (by simp [D.bR,D.ok,fX]) rfl s
 have hm:=fun s=>ad7 (Ks h) s
 obtain⟨oP,nq,pG⟩:=h.procs
 have mq:=fun s=>vq (l:=p.globals) (by omega) .shared s
 have hpn:p.pn.length=p.procs.length:=by simp [Pg.pn]
 have uJ:=fun g s=>vq (l:=p.pn) (by omega) g s
 have ra:=fun s=>Bp (p:=p) (by omega) lu s
 have yP:=fun s=>(show aE Tryz.prog k9 [.agg (bH p), .str [109,97,105,110]] s (jv (p.find lu)) s from ra s)
 clear ra
 generalize hR:p.scope=R
 simp only [Pg.scope]at hR
 unfold S0
 rcases Bool.eq_false_or_eq_true p.may with hb | hb
 case inr=>
  simp only [hb]at hm
  simp only [hb,Bool.false_eq_true,if_false]at hR
  subst hR
  refine aE.go xG rfl fun B Q hB hQ=> ?_
  have⟨hF,hP,hY,hZ⟩:=bq
  repeat' (first
 | simp only [go_sem,hF,hP,hY,hZ]
 | (with_reducible refine CU (hm _) ?_)
 | (with_reducible refine CU (fO _ _ _) ?_)
 | (with_reducible refine aC hQ ?_;simp only [au,aw,Option.some.injEq,exists_eq_left',go_sem,hF,hP,hY,hZ];repeat' (first | exact Ok.out | with_reducible refine aB ?_ ?_ | (simp;done))))
 have aeg:=(pf hb).1
 simp only [hb]at hm
 simp only [hb,if_true]at hR
 refine aE.go xG rfl fun B Q hB hQ=> ?_
 have⟨hF,hP,hY,hZ⟩:=bq
 repeat' (first
 | simp only [go_sem,hF,hP,hY,hZ]
 | (with_reducible refine CU (hm _) ?_)
 | (with_reducible refine aC hQ ?_;simp only [au,aw,Option.some.injEq,exists_eq_left',go_sem,hF,hP,hY,hZ];repeat' (first | exact Ok.out | with_reducible refine aB ?_ ?_ | (simp;done))))
 refine a8.jB 3 1 rfl ?_
 simp only [go_sem,hF,hP,hY,hZ]
 refine cd 2 1 (a8.ind (ι:=List Pc×Nat×List aF×Nat) (fun i=>p.procs.drop i.2.1=i.1∧i.2.2.1++i.1.map (·.name)=p.pn∧i.2.2.2=i.2.2.1.length) (fun i=>i.1.length)
  (fun i=> [(1, .ptr 0 0),(2, .ptr 1 0),(3, .slice (.tok 0) 1 (i.2.2.1.map encStr)),(19, .slice .shared 5 (p.procs.map cb)),(20, .int .i64 (p.procs.length:Int)),(21, .int .i64 (i.2.1:Int))]) (fun i=>⟨[bH p,[.int .i64 0, .int .i64 0]],[some i.2.2.2]⟩) ?_ (p.procs,0,[],0) ⟨rfl,rfl,rfl⟩)
 rintro⟨rest,k,out,n⟩ ⟨h1,h2,h3⟩ IH
 dsimp only at h1 h2 h3
 subst h3
 have hlo:out.length+rest.length≤900000:=by
  have:=congrArg List.length h2
  simp only [List.length_append,List.length_map]at this
  omega
 cases rest with
 | cons a rest=>
  obtain⟨hP,g2,hF,g4⟩:=drop_cons h1
  have bl:k<4611686018427387904:=by omega
  have hY:(out.length+1)*17≤bc:=by unfold bc;omega
  repeat' (first
 | simp only [go_sem,hF,hP,hY,hZ]
 | (with_reducible refine aC hQ ?_;simp only [au,aw,Option.some.injEq,exists_eq_left',go_sem,hF,hP,hY,hZ];repeat' (first | exact Ok.out | with_reducible refine aB ?_ ?_ | (simp;done))))
  refine ct 2 1 ?_ ?_ (IH (rest,k+1,out++ [a.name],out.length+1) ⟨g2,by rw [← h2];simp,by simp⟩ (Nat.lt_succ_self _))
  ·(simp only [go_sem,hF,hP,hY,hZ,az bl,List.map_append,List.map_cons,List.map_nil,encStr];try exact aU)
  ·(simp only [go_sem,hF,hP,hY,hZ,az bl,List.map_append,List.map_cons,List.map_nil,encStr];try exact aU)
 | nil=>
  have hF:=drop_nil h1
  simp only [List.map_nil,List.append_nil]at h2
  subst h2
  rcases Bool.eq_false_or_eq_true (eH p.globals)with b1 | b1
  ·simp only [b1,Bool.true_or,if_true]at hR
   subst hR
   cases tD:p.find lu <;> simp only [tD,jv,Option.getD_none,Option.getD_some,Option.isSome_none,Option.isSome_some]at yP
   all_goals
    repeat' (first
 | simp only [go_sem,hF,hP,hY,hZ,b1]
 | (with_reducible refine CU (yP _) ?_)
 | (with_reducible refine CU (mq _) ?_)
 | (with_reducible refine CU (uJ _ _) ?_)
 | (with_reducible refine CU (fO _ _ _) ?_)
 | (with_reducible refine aC hQ ?_;simp only [au,aw,Option.some.injEq,exists_eq_left',go_sem,hF,hP,hY,hZ];repeat' (first | exact Ok.out | with_reducible refine aB ?_ ?_ | (simp;done))))
  rcases Bool.eq_false_or_eq_true (eH p.pn)with b2 | b2
  ·simp only [b1,b2,Bool.true_or,Bool.or_true,if_true]at hR
   subst hR
   cases tD:p.find lu <;> simp only [tD,jv,Option.getD_none,Option.getD_some,Option.isSome_none,Option.isSome_some]at yP
   all_goals
    repeat' (first
 | simp only [go_sem,hF,hP,hY,hZ,b1,b2]
 | (with_reducible refine CU (yP _) ?_)
 | (with_reducible refine CU (mq _) ?_)
 | (with_reducible refine CU (uJ _ _) ?_)
 | (with_reducible refine CU (fO _ _ _) ?_)
 | (with_reducible refine aC hQ ?_;simp only [au,aw,Option.some.injEq,exists_eq_left',go_sem,hF,hP,hY,hZ];repeat' (first | exact Ok.out | with_reducible refine aB ?_ ?_ | (simp;done))))
  cases tD:p.find lu with
  | none=>
   simp only [tD,jv,Option.getD_none,Option.isSome_none]at yP
   have b3:p.p9=true:=by unfold Pg.p9;rw [tD]
   simp only [b1,b2,b3,Bool.or_true,if_true]at hR
   subst hR
   repeat' (first
 | simp only [go_sem,hF,hP,hY,hZ,b1,b2]
 | (with_reducible refine CU (yP _) ?_)
 | (with_reducible refine CU (mq _) ?_)
 | (with_reducible refine CU (uJ _ _) ?_)
 | (with_reducible refine CU (fO _ _ _) ?_)
 | (with_reducible refine aC hQ ?_;simp only [au,aw,Option.some.injEq,exists_eq_left',go_sem,hF,hP,hY,hZ];repeat' (first | exact Ok.out | with_reducible refine aB ?_ ?_ | (simp;done))))
  | some m=>
  simp only [tD,jv,Option.getD_some,Option.isSome_some]at yP
  have b3:p.p9=decide ((m.params.length:Int) > 0):=by unfold Pg.p9;rw [tD]
  rw [b3]at hR
  rcases Bool.eq_false_or_eq_true (decide ((m.params.length:Int) > 0))with b4 | b4
  ·simp only [b1,b2,b4,Bool.or_true,if_true]at hR
   subst hR
   repeat' (first
 | simp only [go_sem,hF,hP,hY,hZ,b1,b2,b4]
 | (with_reducible refine CU (yP _) ?_)
 | (with_reducible refine CU (mq _) ?_)
 | (with_reducible refine CU (uJ _ _) ?_)
 | (with_reducible refine CU (fO _ _ _) ?_)
 | (with_reducible refine aC hQ ?_;simp only [au,aw,Option.some.injEq,exists_eq_left',go_sem,hF,hP,hY,hZ];repeat' (first | exact Ok.out | with_reducible refine aB ?_ ?_ | (simp;done))))
  simp only [b1,b2,b4,Bool.or_false,Bool.false_eq_true,if_false]at hR
  repeat' (first
 | simp only [go_sem,hF,hP,hY,hZ,b1,b2,b4]
 | (with_reducible refine CU (yP _) ?_)
 | (with_reducible refine CU (mq _) ?_)
 | (with_reducible refine CU (uJ _ _) ?_)
 | (with_reducible refine CU (fO _ _ _) ?_)
 | (with_reducible refine aC hQ ?_;simp only [au,aw,Option.some.injEq,exists_eq_left',go_sem,hF,hP,hY,hZ];repeat' (first | exact Ok.out | with_reducible refine aB ?_ ?_ | (simp;done))))
  refine cd 2 1 (a8.ind (ι:=List Pc×Nat) (fun i=>p.procs.drop i.2=i.1∧p8 p p.pn i.1=R) (fun i=>i.1.length)
   (fun i=> [(1, .ptr 0 0),(2, .ptr 1 0),(3, .slice (.tok 0) 1 (p.pn.map encStr)),(55, .slice .shared 5 (p.procs.map cb)),(56, .int .i64 (p.procs.length:Int)),(57, .int .i64 (i.2:Int))]) (fun i=>⟨[bH p,[.int .i64 0, .int .i64 0]],[some p.pn.length]⟩) ?_ (p.procs,0) ⟨rfl,hR⟩)
  clear IH h1 hF hR
  rintro⟨rest,k⟩ ⟨h1,hR⟩ IH
  dsimp only at h1 hR
  cases rest with
  | nil=>
   have hF:=drop_nil h1
   simp only [p8]at hR
   subst hR
   repeat' (first
 | simp only [go_sem,hF,hP,hY,hZ]
 | (with_reducible refine aC hQ ?_;simp only [au,aw,Option.some.injEq,exists_eq_left',go_sem,hF,hP,hY,hZ];repeat' (first | exact Ok.out | with_reducible refine aB ?_ ?_ | (simp;done))))
  | cons f rest=>
   obtain⟨hP,g2,hF,g4⟩:=drop_cons h1
   have bl:k<4611686018427387904:=by omega
   have mZ:=List.mem_of_getElem? hP
   have vt:=h.small mZ
   have hpa:=fun s=>Ub (f:=f) vt.par s
   have axl:f.pd.length<1000000:=by have h1:=vt.par;unfold Pc.pd;simpa using h1
   have hvl:=vt.vars
   have hxl:(p.globals++f.own).length<4611686018427387904:=by unfold Pc.own;simp;omega
   have N0:=fun g s=>vq (l:=p.globals++f.own) hxl g s
   have uH:Sm.aS f.body<4611686018427387000:=by have:=Pc.bV mZ;simp only [Pc.size]at this;omega
   have jK:=fun s=>x3 (f:=f) uH s
   have pb:=aeg f mZ
   have Fb:f.flat.length≤201:=f.qn
   simp only [p8]at hR
   rw [← pb]at hR
   obtain⟨q,hq⟩ : ∃ q,tz p f p.pn (f.flat.map It.s)=q:=⟨_,rfl⟩
   rw [hq]at hR
   have hc4 : ∃ (dA dB dC:D) (T1 T2 T3:List (Option Nat)),(∀ s,aE Tryz.prog kj [dC] s (.bool (eH (p.globals++f.own))) s)∧
    (∀ o,gy 1 16 (.slice .full 1 []) (.slice .shared 1 (p.globals.map encStr)) ⟨o,[some p.pn.length]⟩=some (dA,⟨o,some p.pn.length::T1⟩))∧
    (∀ o,gy 1 16 dA (.slice .shared 1 (f.pd.map encStr)) ⟨o,some p.pn.length::T1⟩=some (dB,⟨o,some p.pn.length::T2⟩))∧
    (∀ o,gy 1 16 dB (.slice .shared 1 (f.vars.map encStr)) ⟨o,some p.pn.length::T2⟩=some (dC,⟨o,some p.pn.length::T3⟩)):=by
    have AT:f.own=f.pd++f.vars:=rfl
    by_cases z1:p.globals = []
    ·rw [z1]
     by_cases z2:f.pd = []
     ·rw [z2]
      by_cases z3:f.vars = []
      ·rw [z3]
       refine⟨.slice .full 1 [], .slice .full 1 [], .slice .full 1 [],[],[],[],fun s=> ?_,fun o=>uA o _,fun o=>uA o _,fun o=>uA o _⟩
       have:=N0 .full s
       rw [AT,z1,z2,z3]at this
       rw [AT,z2,z3]
       exact this
      ·refine⟨.slice .full 1 [], .slice .full 1 [],_,[],[],_,fun s=> ?_,fun o=>uA o _,fun o=>uA o _,fun o=>Fc z3 (by omega) o _⟩
       have:=N0 (.tok 1) s
       rw [AT,z1,z2]at this
       rw [AT,z2]
       exact this
     ·refine⟨.slice .full 1 [],_,_,[],_,_,fun s=> ?_,fun o=>uA o _,fun o=>Fc z2 (by omega) o _,fun o=>AS (by omega) o⟩
      have:=N0 (.tok 1) s
      rw [AT,z1]at this
      rw [AT]
      exact this
    ·refine⟨_,_,_,_,_,_,fun s=> ?_,fun o=>Fc z1 (by omega) o _,fun o=>AS (by omega) o,fun o=>AS (by simp;omega) o⟩
     have:=N0 (.tok 1) s
     rw [AT, ← List.append_assoc]at this
     rw [AT, ← List.append_assoc]
     exact this
   obtain⟨dA,dB,dC,T1,T2,T3,oE,eA,eB,eC⟩:=hc4
   rcases Bool.eq_false_or_eq_true (eH (p.globals++f.own))with c1 | c1
   ·simp only [c1,if_true]at oE hR
    subst hR
    repeat' (first
 | simp only [go_sem,hF,hP,hY,hZ,eA,eB,eC]
 | (with_reducible refine CU (hpa _) ?_)
 | (with_reducible refine CU (oE _) ?_)
 | (with_reducible refine CU (fO _ _ _) ?_)
 | (with_reducible refine CU (jK _) ?_)
 | (with_reducible refine aC hQ ?_;simp only [au,aw,Option.some.injEq,exists_eq_left',go_sem,hF,hP,hY,hZ];repeat' (first | exact Ok.out | with_reducible refine aB ?_ ?_ | (simp;done))))
   simp only [c1,Bool.false_eq_true,if_false]at oE hR
   repeat' (first
 | simp only [go_sem,hF,hP,hY,hZ,eA,eB,eC]
 | (with_reducible refine CU (hpa _) ?_)
 | (with_reducible refine CU (oE _) ?_)
 | (with_reducible refine CU (fO _ _ _) ?_)
 | (with_reducible refine CU (jK _) ?_)
 | (with_reducible refine aC hQ ?_;simp only [au,aw,Option.some.injEq,exists_eq_left',go_sem,hF,hP,hY,hZ];repeat' (first | exact Ok.out | with_reducible refine aB ?_ ?_ | (simp;done))))
   refine cd 3 1 (a8.ind (ι:=List It×Nat) (fun i=>f.flat.drop i.2=i.1∧tz p f p.pn (i.1.map It.s)=q) (fun i=>i.1.length)
    (fun i=> [(1, .ptr 0 0),(2, .ptr 1 0),(3, .slice (.tok 0) 1 (p.pn.map encStr)),(9, .ptr 2 0),(55, .slice .shared 5 (p.procs.map cb)),(56, .int .i64 (p.procs.length:Int)),(57, .int .i64 (k:Int)),(74, .slice .shared 16 (f.flat.map ej)),(75, .int .i64 (f.flat.length:Int)),(76, .int .i64 (i.2:Int))]) (fun i=>⟨[bH p,[.int .i64 0, .int .i64 0],cb f],[some p.pn.length]⟩) ?_ (f.flat,0) ⟨rfl,hq⟩)
   rintro⟨jZ,n⟩ ⟨j1,j2⟩ oD
   dsimp only at j1 j2
   cases jZ with
   | nil=>
    have Ue:=drop_nil j1
    simp only [List.map_nil,tz]at j2
    subst j2
    simp only at hR
    repeat' (first
 | simp only [go_sem,hF,hP,hY,hZ,Ue]
 | (with_reducible refine aC hQ ?_;simp only [au,aw,Option.some.injEq,exists_eq_left',go_sem,hF,hP,hY,hZ];repeat' (first | exact Ok.out | with_reducible refine aB ?_ ?_ | (simp;done))))
    refine ct 2 1 ?_ ?_ (IH (rest,k+1) ⟨g2,hR⟩ (Nat.lt_succ_self _))
    ·(simp only [go_sem,hF,hP,hY,hZ,az bl];try exact aU)
    ·(simp only [go_sem,hF,hP,hY,hZ,az bl];try exact aU)
   | cons i jZ=>
    obtain⟨e7,my,hO,DK⟩:=drop_cons j1
    have fA:n<4611686018427387904:=by omega
    have wv:i.s∈Sm.dN f.body:=by rw [← pb];exact List.mem_map_of_mem (List.mem_of_getElem? e7)
    have BK:=h.said mZ _ wv
    have FV:=fun s=>BW BK s
    have AU:=yO _ BK
    have hki:=fun nm s=>Kr (p:=p) (f:=f) (by have:=vt.par;omega) (by have:=vt.vars;omega) (by omega) nm s
    have jW:=xf (l:=p.pn) (by omega) i.s.proc
    simp only [List.map_cons,tz]at j2
    repeat' (first
 | simp only [go_sem,hF,hP,hY,hZ,hO,e7]
 | (with_reducible refine CU (FV _) ?_)
 | (with_reducible refine aC hQ ?_;simp only [au,aw,Option.some.injEq,exists_eq_left',go_sem,hF,hP,hY,hZ];repeat' (first | exact Ok.out | with_reducible refine aB ?_ ?_ | (simp;done))))
    obtain⟨q2,O6⟩ : ∃ q2,sx p f i.s.said=q2:=⟨_,rfl⟩
    have Wo:i.s.known p f p.pn=(q2 && (i.s.kind != 4 || (i.s.proc != lu && dL p.pn i.s.proc))):=by rw [← O6,AQ];rfl
    rw [Wo]at j2
    refine cd 4 1 (a8.ind (ι:=List aF×Nat) (fun j=>i.s.said.drop j.2=j.1∧sx p f j.1=q2) (fun j=>j.1.length)
     (fun j=> [(1, .ptr 0 0),(2, .ptr 1 0),(3, .slice (.tok 0) 1 (p.pn.map encStr)),(9, .ptr 2 0),(11, .ptr 3 0),(55, .slice .shared 5 (p.procs.map cb)),(56, .int .i64 (p.procs.length:Int)),(57, .int .i64 (k:Int)),(74, .slice .shared 16 (f.flat.map ej)),(75, .int .i64 (f.flat.length:Int)),(76, .int .i64 (n:Int)),(82, .slice .shared 1 (i.s.said.map encStr)),(83, .int .i64 (i.s.said.length:Int)),(84, .int .i64 (j.2:Int))]) (fun j=>⟨[bH p,[.int .i64 0, .int .i64 0],cb f,ej i],[some p.pn.length]⟩) ?_ (i.s.said,0) ⟨rfl,O6⟩)
    rintro⟨jI,m2⟩ ⟨l1,l2⟩ p7
    dsimp only at l1 l2
    cases jI with
    | cons a jI=>
     obtain⟨AV,Jd,F8,lg4⟩:=drop_cons l1
     have zv:m2<4611686018427387904:=by omega
     simp only [sx]at l2
     rcases Bool.eq_false_or_eq_true (f.j9 p a==0)with d1 | d1
     ·simp only [d1,if_true]at l2
      subst l2
      simp only [Bool.false_and,Bool.false_eq_true,if_false]at j2
      subst j2
      simp only at hR
      subst hR
      repeat' (first
 | simp only [go_sem,hF,hP,hY,hZ,F8,AV,d1]
 | (with_reducible refine CU (hki _ _) ?_)
 | (with_reducible refine CU (fO _ _ _) ?_)
 | (with_reducible refine aC hQ ?_;simp only [au,aw,Option.some.injEq,exists_eq_left',go_sem,hF,hP,hY,hZ];repeat' (first | exact Ok.out | with_reducible refine aB ?_ ?_ | (simp;done))))
     ·simp only [d1,Bool.false_eq_true,if_false]at l2
      repeat' (first
 | simp only [go_sem,hF,hP,hY,hZ,F8,AV,d1]
 | (with_reducible refine CU (hki _ _) ?_)
 | (with_reducible refine CU (fO _ _ _) ?_)
 | (with_reducible refine aC hQ ?_;simp only [au,aw,Option.some.injEq,exists_eq_left',go_sem,hF,hP,hY,hZ];repeat' (first | exact Ok.out | with_reducible refine aB ?_ ?_ | (simp;done))))
      refine ct 4 1 ?_ ?_ (p7 (jI,m2+1) ⟨Jd,l2⟩ (Nat.lt_succ_self _))
      ·(simp only [go_sem,hF,hP,hY,hZ,az zv];try exact aU)
      ·(simp only [go_sem,hF,hP,hY,hZ,az zv];try exact aU)
    | nil=>
     have N1:=drop_nil l1
     simp only [sx]at l2
     subst l2
     simp only [Bool.true_and]at j2
     unfold lu at j2
     have b5:(i.s.kind==4) = !(i.s.kind != 4):=by simp only [bne,Bool.not_not]
     have b6:(i.s.proc == [109,97,105,110]) = !(i.s.proc != [109,97,105,110]):=by simp only [bne,Bool.not_not]
     rcases Bool.eq_false_or_eq_true (i.s.kind != 4)with d1 | d1
     ·simp only [d1,Bool.true_or,if_true]at j2
      simp only [d1,Bool.not_true]at b5
      repeat' (first
 | simp only [go_sem,hF,hP,hY,hZ,N1,b5,d1]
 | (with_reducible refine CU (jW _ _) ?_)
 | (with_reducible refine CU (fO _ _ _) ?_)
 | (with_reducible refine aC hQ ?_;simp only [au,aw,Option.some.injEq,exists_eq_left',go_sem,hF,hP,hY,hZ];repeat' (first | exact Ok.out | with_reducible refine aB ?_ ?_ | (simp;done))))
      refine ct 3 1 ?_ ?_ (oD (jZ,n+1) ⟨my,j2⟩ (Nat.lt_succ_self _))
      ·(simp only [go_sem,hF,hP,hY,hZ,az fA];try exact aU)
      ·(simp only [go_sem,hF,hP,hY,hZ,az fA];try exact aU)
     ·simp only [d1,Bool.false_or]at j2
      simp only [d1,Bool.not_false]at b5
      rcases Bool.eq_false_or_eq_true (i.s.proc != [109,97,105,110])with d2 | d2
      ·simp only [d2,Bool.true_and]at j2
       simp only [d2,Bool.not_true]at b6
       rcases Bool.eq_false_or_eq_true (dL p.pn i.s.proc)with d3 | d3
       ·simp only [d3,if_true]at j2
        repeat' (first
 | simp only [go_sem,hF,hP,hY,hZ,N1,b5,d1,b6,d2,d3]
 | (with_reducible refine CU (jW _ _) ?_)
 | (with_reducible refine CU (fO _ _ _) ?_)
 | (with_reducible refine aC hQ ?_;simp only [au,aw,Option.some.injEq,exists_eq_left',go_sem,hF,hP,hY,hZ];repeat' (first | exact Ok.out | with_reducible refine aB ?_ ?_ | (simp;done))))
        refine ct 3 1 ?_ ?_ (oD (jZ,n+1) ⟨my,j2⟩ (Nat.lt_succ_self _))
        ·(simp only [go_sem,hF,hP,hY,hZ,az fA];try exact aU)
        ·(simp only [go_sem,hF,hP,hY,hZ,az fA];try exact aU)
       ·simp only [d3,Bool.false_eq_true,if_false]at j2
        subst j2
        simp only at hR
        subst hR
        repeat' (first
 | simp only [go_sem,hF,hP,hY,hZ,N1,b5,d1,b6,d2,d3]
 | (with_reducible refine CU (jW _ _) ?_)
 | (with_reducible refine CU (fO _ _ _) ?_)
 | (with_reducible refine aC hQ ?_;simp only [au,aw,Option.some.injEq,exists_eq_left',go_sem,hF,hP,hY,hZ];repeat' (first | exact Ok.out | with_reducible refine aB ?_ ?_ | (simp;done))))
      ·simp only [d2,Bool.false_and,Bool.false_eq_true,if_false]at j2
       simp only [d2,Bool.not_false]at b6
       subst j2
       simp only at hR
       subst hR
       repeat' (first
 | simp only [go_sem,hF,hP,hY,hZ,N1,b5,d1,b6,d2]
 | (with_reducible refine CU (jW _ _) ?_)
 | (with_reducible refine CU (fO _ _ _) ?_)
 | (with_reducible refine aC hQ ?_;simp only [au,aw,Option.some.injEq,exists_eq_left',go_sem,hF,hP,hY,hZ];repeat' (first | exact Ok.out | with_reducible refine aB ?_ ?_ | (simp;done))))
end Go.Abs

/-! Ar1 -/

namespace Go.Abs
set_option maxRecDepth 8000
open Go.Proofs
def wx:List Pm→List Ar→Bool
 | [],_=>true
 | _,[]=>true
 | a::l,b::m=>if a.ref==b.ref then wx l m else false
def Br (l:List Pm) (m:List Ar):Bool:=if(l.length:Int)==(m.length:Int)then wx l m else false
def Sm.lY (p:Pg) (v:Sm):Bool:=v.kind==4 && match p.find v.proc with | none=>false | some q=>Br q.params v.args
theorem aaL {l:List Pm} {m:List Ar} (hl:l.length<1000000000) (hm:m.length<1000000000) (s:St):aE Tryz.prog u9 [.slice .shared 2 (l.map fQ), .slice .shared 6 (m.map dT)] s (.bool (Br l m)) s:=by
 refine aE.pure ?_ (by simp [D.bR,D.ok,Tag.ok,Nj,Hf]) rfl s
 generalize h:Br l m=q
 simp only [Br]at h
 unfold S0
 have b0:((l.length:Int) != (m.length:Int)) = !((l.length:Int)==(m.length:Int)):=rfl
 rcases Bool.eq_false_or_eq_true ((l.length:Int)==(m.length:Int))with b1 | b1
 case inr=>
  rw [b1]at b0
  simp only [b1,Bool.false_eq_true,if_false]at h
  subst h
  refine aE.go xQ rfl fun B Q hB hQ=> ?_
  have⟨hF,hP,hY,hZ⟩:=bq
  repeat' (first
 | simp only [go_sem,hF,hP,hY,hZ,b0,Bool.not_false]
 | (with_reducible refine aC hQ ?_;simp only [au,aw,Option.some.injEq,exists_eq_left',go_sem,hF,hP,hY,hZ];repeat' (first | exact Ok.out | with_reducible refine aB ?_ ?_ | (simp;done))))
 rw [b1]at b0
 simp only [b1,if_true]at h
 have K9:l.length=m.length:=by have:=eq_of_beq b1;omega
 refine aE.go xQ rfl fun B Q hB hQ=> ?_
 have⟨hF,hP,hY,hZ⟩:=bq
 repeat' (first
 | simp only [go_sem,hF,hP,hY,hZ,b0,Bool.not_true]
 | (with_reducible refine aC hQ ?_;simp only [au,aw,Option.some.injEq,exists_eq_left',go_sem,hF,hP,hY,hZ];repeat' (first | exact Ok.out | with_reducible refine aB ?_ ?_ | (simp;done))))
 refine cd 0 0 (a8.ind (ι:=List Pm×List Ar×Nat) (fun i=>l.drop i.2.2=i.1∧m.drop i.2.2=i.2.1∧wx i.1 i.2.1=q) (fun i=>i.1.length)
  (fun i=> [(1, .slice .shared 6 (m.map dT)),(12, .slice .shared 2 (l.map fQ)),(13, .int .i64 (l.length:Int)),(14, .int .i64 (i.2.2:Int))]) (fun i=>⟨[],[]⟩) ?_ (l,m,0) ⟨rfl,rfl,h⟩)
 rintro⟨r1,r2,k⟩ ⟨h1,h2,h⟩ IH
 dsimp only at h1 h2 h
 cases r1 with
 | nil=>
  have hF:=drop_nil h1
  simp only [wx]at h
  subst h
  repeat' (first
 | simp only [go_sem,hF,hP,hY,hZ]
 | (with_reducible refine aC hQ ?_;simp only [au,aw,Option.some.injEq,exists_eq_left',go_sem,hF,hP,hY,hZ];repeat' (first | exact Ok.out | with_reducible refine aB ?_ ?_ | (simp;done))))
 | cons a r1=>
  obtain⟨hP,g2,hF,g4⟩:=drop_cons h1
  cases r2 with
  | nil=>have:=List.drop_eq_nil_iff.1 h2;omega
  | cons b r2=>
   obtain⟨DN,b2,yQ,_⟩:=drop_cons h2
   have bl:k<4611686018427387904:=by omega
   simp only [wx]at h
   have w1:(true==true)=true:=rfl
   have w2:(false==false)=true:=rfl
   have w3:(true==false)=false:=rfl
   have w4:(false==true)=false:=rfl
   have v1:(true != true)=false:=rfl
   have v2:(false != false)=false:=rfl
   have v3:(true != false)=true:=rfl
   have v4:(false != true)=true:=rfl
   rcases Bool.eq_false_or_eq_true a.ref with ea | ea
   ·rcases Bool.eq_false_or_eq_true b.ref with eb | eb
    ·simp only [ea,eb,w1,w2,if_true]at h
     repeat' (first
 | simp only [go_sem,hF,hP,hY,hZ,DN,yQ,ea,eb,w1,w2,v1,v2]
 | (with_reducible refine aC hQ ?_;simp only [au,aw,Option.some.injEq,exists_eq_left',go_sem,hF,hP,hY,hZ];repeat' (first | exact Ok.out | with_reducible refine aB ?_ ?_ | (simp;done))))
     refine ct 0 0 ?_ ?_ (IH (r1,r2,k+1) ⟨g2,b2,h⟩ (Nat.lt_succ_self _))
     ·(simp only [go_sem,hF,hP,hY,hZ,az bl];try exact aU)
     ·(simp only [go_sem,hF,hP,hY,hZ,az bl];try exact aU)
    ·simp only [ea,eb,w3,w4,Bool.false_eq_true,if_false]at h
     subst h
     repeat' (first
 | simp only [go_sem,hF,hP,hY,hZ,DN,yQ,ea,eb,w3,w4,v3,v4]
 | (with_reducible refine aC hQ ?_;simp only [au,aw,Option.some.injEq,exists_eq_left',go_sem,hF,hP,hY,hZ];repeat' (first | exact Ok.out | with_reducible refine aB ?_ ?_ | (simp;done))))
   ·rcases Bool.eq_false_or_eq_true b.ref with eb | eb
    ·simp only [ea,eb,w3,w4,Bool.false_eq_true,if_false]at h
     subst h
     repeat' (first
 | simp only [go_sem,hF,hP,hY,hZ,DN,yQ,ea,eb,w3,w4,v3,v4]
 | (with_reducible refine aC hQ ?_;simp only [au,aw,Option.some.injEq,exists_eq_left',go_sem,hF,hP,hY,hZ];repeat' (first | exact Ok.out | with_reducible refine aB ?_ ?_ | (simp;done))))
    ·simp only [ea,eb,w1,w2,if_true]at h
     repeat' (first
 | simp only [go_sem,hF,hP,hY,hZ,DN,yQ,ea,eb,w1,w2,v1,v2]
 | (with_reducible refine aC hQ ?_;simp only [au,aw,Option.some.injEq,exists_eq_left',go_sem,hF,hP,hY,hZ];repeat' (first | exact Ok.out | with_reducible refine aB ?_ ?_ | (simp;done))))
     refine ct 0 0 ?_ ?_ (IH (r1,r2,k+1) ⟨g2,b2,h⟩ (Nat.lt_succ_self _))
     ·(simp only [go_sem,hF,hP,hY,hZ,az bl];try exact aU)
     ·(simp only [go_sem,hF,hP,hY,hZ,az bl];try exact aU)
end Go.Abs

/-! Ar2 -/

namespace Go.Abs
set_option maxRecDepth 8000
open Go.Proofs
theorem aaM {p:Pg} {v:Sm} (h:p.iC) (hv:v.nf) (s:St):aE Tryz.prog uZ [.agg (bH p), .agg (bd v)] s (.bool (v.lY p)) s:=by
 refine aE.pure ?_ (by simp [D.bR,D.ok,fX,l9]) rfl s
 obtain⟨oP,nq,pG⟩:=h.procs
 have sO:v.args.length<1000000000:=by have:=Ar.cZ v.args;have:=hv.2.2;omega
 generalize hR:v.lY p=R
 simp only [Sm.lY]at hR
 unfold S0
 have b0:(v.kind != 4) = !(v.kind==4):=rfl
 rcases Bool.eq_false_or_eq_true (v.kind==4)with b1 | b1
 case inr=>
  rw [b1]at b0
  simp only [b1,Bool.false_and]at hR
  subst hR
  refine aE.go xH rfl fun B Q hB hQ=> ?_
  have⟨hF,hP,hY,hZ⟩:=bq
  repeat' (first
 | simp only [go_sem,hF,hP,hY,hZ,b0,Bool.not_false]
 | (with_reducible refine aC hQ ?_;simp only [au,aw,Option.some.injEq,exists_eq_left',go_sem,hF,hP,hY,hZ];repeat' (first | exact Ok.out | with_reducible refine aB ?_ ?_ | (simp;done))))
 rw [b1]at b0
 simp only [b1,Bool.true_and,Pg.find]at hR
 refine aE.go xH rfl fun B Q hB hQ=> ?_
 have⟨hF,hP,hY,hZ⟩:=bq
 repeat' (first
 | simp only [go_sem,hF,hP,hY,hZ,b0,Bool.not_true]
 | (with_reducible refine aC hQ ?_;simp only [au,aw,Option.some.injEq,exists_eq_left',go_sem,hF,hP,hY,hZ];repeat' (first | exact Ok.out | with_reducible refine aB ?_ ?_ | (simp;done))))
 refine cd 2 0 (a8.ind (ι:=List Pc×Nat) (fun i=>p.procs.drop i.2=i.1∧(match jr v.proc i.1 with | none=>false | some q=>Br q.params v.args)=R) (fun i=>i.1.length)
  (fun i=> [(3, .ptr 1 0),(11, .slice .shared 5 (p.procs.map cb)),(12, .int .i64 (p.procs.length:Int)),(13, .int .i64 (i.2:Int))]) (fun i=>⟨[bH p,bd v],[]⟩) ?_ (p.procs,0) ⟨rfl,hR⟩)
 clear hR
 rintro⟨rest,k⟩ ⟨h1,hR⟩ IH
 dsimp only at h1 hR
 cases rest with
 | nil=>
  have hF:=drop_nil h1
  simp only [jr]at hR
  subst hR
  repeat' (first
 | simp only [go_sem,hF,hP,hY,hZ]
 | (with_reducible refine aC hQ ?_;simp only [au,aw,Option.some.injEq,exists_eq_left',go_sem,hF,hP,hY,hZ];repeat' (first | exact Ok.out | with_reducible refine aB ?_ ?_ | (simp;done))))
 | cons a rest=>
  obtain⟨hP,g2,hF,g4⟩:=drop_cons h1
  have bl:k<4611686018427387904:=by omega
  have vt:=h.small (List.mem_of_getElem? hP)
  have FV:=fun s=>aaL (l:=a.params) (m:=v.args) (by have:=vt.par;omega) sO s
  simp only [jr]at hR
  rcases Bool.eq_false_or_eq_true (a.name==v.proc)with c1 | c1
  ·simp only [c1,if_true]at hR
   subst hR
   repeat' (first
 | simp only [go_sem,hF,hP,hY,hZ,c1]
 | (with_reducible refine CU (FV _) ?_)
 | (with_reducible refine aC hQ ?_;simp only [au,aw,Option.some.injEq,exists_eq_left',go_sem,hF,hP,hY,hZ];repeat' (first | exact Ok.out | with_reducible refine aB ?_ ?_ | (simp;done))))
  ·simp only [c1,Bool.false_eq_true,if_false]at hR
   repeat' (first
 | simp only [go_sem,hF,hP,hY,hZ,c1]
 | (with_reducible refine aC hQ ?_;simp only [au,aw,Option.some.injEq,exists_eq_left',go_sem,hF,hP,hY,hZ];repeat' (first | exact Ok.out | with_reducible refine aB ?_ ?_ | (simp;done))))
   refine ct 2 0 ?_ ?_ (IH (rest,k+1) ⟨g2,hR⟩ (Nat.lt_succ_self _))
   ·(simp only [go_sem,hF,hP,hY,hZ,az bl];try exact aU)
   ·(simp only [go_sem,hF,hP,hY,hZ,az bl];try exact aU)
def wy (p:Pg):List Sm→Option Sm
 | []=>none
 | v::l=>if v.kind==4 && !(v.lY p)then some v else wy p l
def gY (c:Int):Option Sm→Int×Int
 | some v=>(c,v.id)
 | none=>(0,0)
def Pg.arity (p:Pg):Int×Int:=if p.scope.1==0 then gY 6 (wy p p.pre)else(1,0)
theorem Pg.iC.pre {p:Pg} (h:p.iC) : ∀ v∈p.pre,v.nf:=fun v m=>by
 simp only [Pg.pre,List.mem_flatten,List.mem_map]at m
 obtain⟨l,⟨f,hf,rfl⟩,m⟩:=m
 exact h.said hf v m
theorem Je {p:Pg} (h:p.iC) (s:St):aE Tryz.prog qd [.agg (bH p)] s (.agg [.int .i64 p.arity.1, .int .i64 p.arity.2]) s:=by
 refine aE.pure ?_ (by simp [D.bR,D.ok,fX]) rfl s
 obtain⟨oP,nq,pG⟩:=h.procs
 have tC:=fun s=>vr h s
 have ey:=fun s=>Dy (p:=p) (by omega) s
 have hL:=(qx p).1
 have hll:=qy p
 generalize hR:p.arity=R
 simp only [Pg.arity]at hR
 unfold S0
 have b0:(p.scope.1 != 0) = !(p.scope.1==0):=rfl
 rcases Bool.eq_false_or_eq_true (p.scope.1==0)with b1 | b1
 case inr=>
  rw [b1]at b0
  simp only [b1,Bool.false_eq_true,if_false]at hR
  subst hR
  refine aE.go vY rfl fun B Q hB hQ=> ?_
  have⟨hF,hP,hY,hZ⟩:=bq
  repeat' (first
 | simp only [go_sem,hF,hP,hY,hZ,b0,Bool.not_false]
 | (with_reducible refine CU (tC _) ?_)
 | (with_reducible refine aC hQ ?_;simp only [au,aw,Option.some.injEq,exists_eq_left',go_sem,hF,hP,hY,hZ];repeat' (first | exact Ok.out | with_reducible refine aB ?_ ?_ | (simp;done))))
 rw [b1]at b0
 simp only [b1,if_true, ← hL]at hR
 refine aE.go vY rfl fun B Q hB hQ=> ?_
 have⟨hF,hP,hY,hZ⟩:=bq
 repeat' (first
 | simp only [go_sem,hF,hP,hY,hZ,b0,Bool.not_true,rV]
 | (with_reducible refine CU (tC _) ?_)
 | (with_reducible refine CU (ey _) ?_)
 | (with_reducible refine aC hQ ?_;simp only [au,aw,Option.some.injEq,exists_eq_left',go_sem,hF,hP,hY,hZ];repeat' (first | exact Ok.out | with_reducible refine aB ?_ ?_ | (simp;done))))
 refine cd 2 0 (a8.ind (ι:=List Im×Nat) (fun i=>p.fz.L.drop i.2=i.1∧gY 6 (wy p (i.1.map Im.s))=R) (fun i=>i.1.length)
  (fun i=> [(1, .ptr 0 0),(2, .ptr 1 0),(14, .slice .shared 17 (p.fz.L.map fu)),(15, .int .i64 (p.fz.L.length:Int)),(16, .int .i64 (i.2:Int))]) (fun i=>⟨[bH p,[.int .i64 0, .int .i64 0]],[]⟩) ?_ (p.fz.L,0) ⟨rfl,hR⟩)
 clear hR
 rintro⟨rest,k⟩ ⟨h1,hR⟩ IH
 dsimp only at h1 hR
 cases rest with
 | nil=>
  have hF:=drop_nil h1
  simp only [List.map_nil,wy,gY]at hR
  subst hR
  repeat' (first
 | simp only [go_sem,hF,hP,hY,hZ]
 | (with_reducible refine aC hQ ?_;simp only [au,aw,Option.some.injEq,exists_eq_left',go_sem,hF,hP,hY,hZ];repeat' (first | exact Ok.out | with_reducible refine aB ?_ ?_ | (simp;done))))
 | cons a rest=>
  obtain⟨hP,g2,hF,g4⟩:=drop_cons h1
  have bl:k<4611686018427387904:=by omega
  have wv:a.s∈p.pre:=by rw [← hL];exact List.mem_map_of_mem (List.mem_of_getElem? hP)
  have AW:=fun s=>aaM h (h.pre _ wv) s
  simp only [List.map_cons,wy]at hR
  rcases Bool.eq_false_or_eq_true (a.s.kind==4)with c1 | c1
  ·rcases Bool.eq_false_or_eq_true (a.s.lY p)with c2 | c2
   ·simp only [c1,c2,Bool.not_true,Bool.and_false,Bool.false_eq_true,if_false]at hR
    repeat' (first
 | simp only [go_sem,hF,hP,hY,hZ,c1,c2]
 | (with_reducible refine CU (AW _) ?_)
 | (with_reducible refine aC hQ ?_;simp only [au,aw,Option.some.injEq,exists_eq_left',go_sem,hF,hP,hY,hZ];repeat' (first | exact Ok.out | with_reducible refine aB ?_ ?_ | (simp;done))))
    refine ct 2 0 ?_ ?_ (IH (rest,k+1) ⟨g2,hR⟩ (Nat.lt_succ_self _))
    ·(simp only [go_sem,hF,hP,hY,hZ,az bl];try exact aU)
    ·(simp only [go_sem,hF,hP,hY,hZ,az bl];try exact aU)
   ·simp only [c1,c2,Bool.not_false,Bool.and_true,if_true,gY]at hR
    subst hR
    repeat' (first
 | simp only [go_sem,hF,hP,hY,hZ,c1,c2]
 | (with_reducible refine CU (AW _) ?_)
 | (with_reducible refine aC hQ ?_;simp only [au,aw,Option.some.injEq,exists_eq_left',go_sem,hF,hP,hY,hZ];repeat' (first | exact Ok.out | with_reducible refine aB ?_ ?_ | (simp;done))))
  ·simp only [c1,Bool.false_and,Bool.false_eq_true,if_false]at hR
   repeat' (first
 | simp only [go_sem,hF,hP,hY,hZ,c1]
 | (with_reducible refine CU (AW _) ?_)
 | (with_reducible refine aC hQ ?_;simp only [au,aw,Option.some.injEq,exists_eq_left',go_sem,hF,hP,hY,hZ];repeat' (first | exact Ok.out | with_reducible refine aB ?_ ?_ | (simp;done))))
   refine ct 2 0 ?_ ?_ (IH (rest,k+1) ⟨g2,hR⟩ (Nat.lt_succ_self _))
   ·(simp only [go_sem,hF,hP,hY,hZ,az bl];try exact aU)
   ·(simp only [go_sem,hF,hP,hY,hZ,az bl];try exact aU)
end Go.Abs

/-! Ar3 -/

namespace Go.Abs
set_option maxRecDepth 8000
open Go.Proofs
theorem DO {p:Pg} {v:Sm} (h:p.iC) (hv:v.nf) (s:St):aE Tryz.prog oy [.agg (bH p), .agg (bd v)] s (.bool (v.lY p)) s:=by
 refine aE.pure ?_ (by simp [D.bR,D.ok,fX,l9]) rfl s
 obtain⟨oP,nq,pG⟩:=h.procs
 have sO:v.args.length<1000000000:=by have:=Ar.cZ v.args;have:=hv.2.2;omega
 have ra:=fun s=>Bp (p:=p) (by omega) v.proc s
 generalize hR:v.lY p=R
 simp only [Sm.lY]at hR
 unfold S0
 have b0:(v.kind != 4) = !(v.kind==4):=rfl
 cases tD:p.find v.proc with
 | none=>
  simp only [tD,jv,Option.getD_none,Option.isSome_none]at ra
  simp only [tD,Bool.and_false]at hR
  subst hR
  refine aE.go mI rfl fun B Q hB hQ=> ?_
  have⟨hF,hP,hY,hZ⟩:=bq
  repeat' (first
 | simp only [go_sem,hF,hP,hY,hZ]
 | (with_reducible refine CU (ra _) ?_)
 | (with_reducible first | refine bK fun hc=> ?_ | refine bL fun hc=> ?_ | refine bM (fun hc=> ?_) fun hc=> ?_) <;> (try simp only [hc,bs, ↓reduceIte]at h) <;> try simp only [hc]
 | (with_reducible refine aC hQ ?_;simp only [au,aw,bu,bw,go_sem,hF,hP,hY,hZ];repeat' (first | exact Ok.out | with_reducible refine aB ?_ ?_ | (simp;done))))
 | some f=>
 have vt:=h.small (mh tD).1
 simp only [tD,jv,Option.getD_some,Option.isSome_some]at ra
 simp only [tD]at hR
 rcases Bool.eq_false_or_eq_true (v.kind==4)with b1 | b1
 case inr=>
  rw [b1]at b0
  simp only [b1,Bool.false_and]at hR
  subst hR
  refine aE.go mI rfl fun B Q hB hQ=> ?_
  have⟨hF,hP,hY,hZ⟩:=bq
  repeat' (first
 | simp only [go_sem,hF,hP,hY,hZ,b0,Bool.not_false]
 | (with_reducible refine CU (ra _) ?_)
 | (with_reducible refine aC hQ ?_;simp only [au,aw,bu,bw,go_sem,hF,hP,hY,hZ];repeat' (first | exact Ok.out | with_reducible refine aB ?_ ?_ | (simp;done))))
 rw [b1]at b0
 simp only [b1,Bool.true_and,Br]at hR
 have b4:((v.args.length:Int) != (f.params.length:Int)) = !((f.params.length:Int)==(v.args.length:Int)):=by
  rw [bne,show((v.args.length:Int)==(f.params.length:Int))=((f.params.length:Int)==(v.args.length:Int))from Bool.beq_comm]
 rcases Bool.eq_false_or_eq_true ((f.params.length:Int)==(v.args.length:Int))with b2 | b2
 case inr=>
  rw [b2]at b4
  simp only [b2,Bool.false_eq_true,if_false]at hR
  subst hR
  refine aE.go mI rfl fun B Q hB hQ=> ?_
  have⟨hF,hP,hY,hZ⟩:=bq
  repeat' (first
 | simp only [go_sem,hF,hP,hY,hZ,b0,b4,Bool.not_true,Bool.not_false]
 | (with_reducible refine CU (ra _) ?_)
 | (with_reducible refine aC hQ ?_;simp only [au,aw,bu,bw,go_sem,hF,hP,hY,hZ];repeat' (first | exact Ok.out | with_reducible refine aB ?_ ?_ | (simp;done))))
 rw [b2]at b4
 simp only [b2,if_true]at hR
 have K9:f.params.length=v.args.length:=by have:=eq_of_beq b2;omega
 refine aE.go mI rfl fun B Q hB hQ=> ?_
 have⟨hF,hP,hY,hZ⟩:=bq
 repeat' (first
 | simp only [go_sem,hF,hP,hY,hZ,b0,b4,Bool.not_true]
 | (with_reducible refine CU (ra _) ?_)
 | (with_reducible refine aC hQ ?_;simp only [au,aw,bu,bw,go_sem,hF,hP,hY,hZ];repeat' (first | exact Ok.out | with_reducible refine aB ?_ ?_ | (simp;done))))
 refine cd 3 0 (a8.ind (ι:=List Pm×List Ar×Nat) (fun i=>f.params.drop i.2.2=i.1∧v.args.drop i.2.2=i.2.1∧wx i.1 i.2.1=R) (fun i=>i.1.length)
  (fun i=> [(3, .ptr 1 0),(5, .ptr 2 0),(33, .int .i64 (v.args.length:Int)),(34, .int .i64 (i.2.2:Int))]) (fun i=>⟨[bH p,bd v,cb f],[]⟩) ?_ (f.params,v.args,0) ⟨rfl,rfl,hR⟩)
 clear hR
 rintro⟨r1,r2,k⟩ ⟨h1,h2,hR⟩ IH
 dsimp only at h1 h2 hR
 cases r1 with
 | nil=>
  have hF:=drop_nil h1
  rw [K9]at hF
  simp only [wx]at hR
  subst hR
  repeat' (first
 | simp only [go_sem,hF,hP,hY,hZ]
 | (with_reducible refine aC hQ ?_;simp only [au,aw,bu,bw,go_sem,hF,hP,hY,hZ];repeat' (first | exact Ok.out | with_reducible refine aB ?_ ?_ | (simp;done))))
 | cons a r1=>
  obtain⟨hP,g2,hF,g4⟩:=drop_cons h1
  cases r2 with
  | nil=>have:=List.drop_eq_nil_iff.1 h2;omega
  | cons b r2=>
   obtain⟨DN,b2',yQ,_⟩:=drop_cons h2
   have bl:k<4611686018427387904:=by omega
   simp only [wx]at hR
   have w1:(true==true)=true:=rfl
   have w2:(false==false)=true:=rfl
   have w3:(true==false)=false:=rfl
   have w4:(false==true)=false:=rfl
   have v1:(true != true)=false:=rfl
   have v2:(false != false)=false:=rfl
   have v3:(true != false)=true:=rfl
   have v4:(false != true)=true:=rfl
   rcases Bool.eq_false_or_eq_true a.ref with ea | ea
   ·rcases Bool.eq_false_or_eq_true b.ref with eb | eb
    ·simp only [ea,eb,w1,w2,if_true]at hR
     repeat' (first
 | simp only [go_sem,hF,hP,hY,hZ,DN,yQ,ea,eb,w1,w2,v1,v2]
 | (with_reducible refine aC hQ ?_;simp only [au,aw,bu,bw,go_sem,hF,hP,hY,hZ];repeat' (first | exact Ok.out | with_reducible refine aB ?_ ?_ | (simp;done))))
     refine ct 3 0 ?_ ?_ (IH (r1,r2,k+1) ⟨g2,b2',hR⟩ (Nat.lt_succ_self _))
     ·(simp only [go_sem,hF,hP,hY,hZ,az bl];try exact aU)
     ·(simp only [go_sem,hF,hP,hY,hZ,az bl];try exact aU)
    ·simp only [ea,eb,w3,w4,Bool.false_eq_true,if_false]at hR
     subst hR
     repeat' (first
 | simp only [go_sem,hF,hP,hY,hZ,DN,yQ,ea,eb,w3,w4,v3,v4]
 | (with_reducible refine aC hQ ?_;simp only [au,aw,bu,bw,go_sem,hF,hP,hY,hZ];repeat' (first | exact Ok.out | with_reducible refine aB ?_ ?_ | (simp;done))))
   ·rcases Bool.eq_false_or_eq_true b.ref with eb | eb
    ·simp only [ea,eb,w3,w4,Bool.false_eq_true,if_false]at hR
     subst hR
     repeat' (first
 | simp only [go_sem,hF,hP,hY,hZ,DN,yQ,ea,eb,w3,w4,v3,v4]
 | (with_reducible refine aC hQ ?_;simp only [au,aw,bu,bw,go_sem,hF,hP,hY,hZ];repeat' (first | exact Ok.out | with_reducible refine aB ?_ ?_ | (simp;done))))
    ·simp only [ea,eb,w1,w2,if_true]at hR
     repeat' (first
 | simp only [go_sem,hF,hP,hY,hZ,DN,yQ,ea,eb,w1,w2,v1,v2]
 | (with_reducible refine aC hQ ?_;simp only [au,aw,bu,bw,go_sem,hF,hP,hY,hZ];repeat' (first | exact Ok.out | with_reducible refine aB ?_ ?_ | (simp;done))))
     refine ct 3 0 ?_ ?_ (IH (r1,r2,k+1) ⟨g2,b2',hR⟩ (Nat.lt_succ_self _))
     ·(simp only [go_sem,hF,hP,hY,hZ,az bl];try exact aU)
     ·(simp only [go_sem,hF,hP,hY,hZ,az bl];try exact aU)
theorem Uj {p:Pg} (h:p.iC) (hb:p.may=true) (s:St):aE Tryz.prog uX [.agg (bH p)] s (.agg [.int .i64 (gY 6 (wy p p.pre)).1, .int .i64 (gY 6 (wy p p.pre)).2]) s:=by
 refine aE.pure ?_ (by simp [D.bR,D.ok,fX]) rfl s
 obtain⟨oP,nq,pG⟩:=h.procs
 have sO:=fun s=>NQ (p:=p) (by omega) s
 have hL:=(pf hb).2
 have hll:=(uz hb).1
 generalize hR:gY 6 (wy p p.pre)=R
 rw [← hL]at hR
 unfold S0
 refine aE.go EG rfl fun B Q hB hQ=> ?_
 have⟨hF,hP,hY,hZ⟩:=bq
 repeat' (first
 | simp only [go_sem,hF,hP,hY,hZ]
 | (with_reducible refine CU (sO _) ?_)
 | (with_reducible refine aC hQ ?_;simp only [au,aw,Option.some.injEq,exists_eq_left',go_sem,hF,hP,hY,hZ];repeat' (first | exact Ok.out | with_reducible refine aB ?_ ?_ | (simp;done))))
 refine cd 2 0 (a8.ind (ι:=List It×Nat) (fun i=>p.all.drop i.2=i.1∧gY 6 (wy p (i.1.map It.s))=R) (fun i=>i.1.length)
  (fun i=> [(1, .ptr 0 0),(2, .ptr 1 0),(6, .slice .shared 16 (p.all.map ej)),(7, .int .i64 (p.all.length:Int)),(8, .int .i64 (i.2:Int))]) (fun i=>⟨[bH p,[.int .i64 0, .int .i64 0]],[]⟩) ?_ (p.all,0) ⟨rfl,hR⟩)
 clear hR
 rintro⟨rest,k⟩ ⟨h1,hR⟩ IH
 dsimp only at h1 hR
 cases rest with
 | nil=>
  have hF:=drop_nil h1
  simp only [List.map_nil,wy,gY]at hR
  subst hR
  repeat' (first
 | simp only [go_sem,hF,hP,hY,hZ]
 | (with_reducible refine aC hQ ?_;simp only [au,aw,Option.some.injEq,exists_eq_left',go_sem,hF,hP,hY,hZ];repeat' (first | exact Ok.out | with_reducible refine aB ?_ ?_ | (simp;done))))
 | cons a rest=>
  obtain⟨hP,g2,hF,g4⟩:=drop_cons h1
  have bl:k<4611686018427387904:=by omega
  have wv:a.s∈p.pre:=by rw [← hL];exact List.mem_map_of_mem (List.mem_of_getElem? hP)
  have AW:=fun s=>DO h (h.pre _ wv) s
  simp only [List.map_cons,wy]at hR
  rcases Bool.eq_false_or_eq_true (a.s.kind==4)with c1 | c1
  ·rcases Bool.eq_false_or_eq_true (a.s.lY p)with c2 | c2
   ·simp only [c1,c2,Bool.not_true,Bool.and_false,Bool.false_eq_true,if_false]at hR
    repeat' (first
 | simp only [go_sem,hF,hP,hY,hZ,c1,c2]
 | (with_reducible refine CU (AW _) ?_)
 | (with_reducible refine aC hQ ?_;simp only [au,aw,Option.some.injEq,exists_eq_left',go_sem,hF,hP,hY,hZ];repeat' (first | exact Ok.out | with_reducible refine aB ?_ ?_ | (simp;done))))
    refine ct 2 0 ?_ ?_ (IH (rest,k+1) ⟨g2,hR⟩ (Nat.lt_succ_self _))
    ·(simp only [go_sem,hF,hP,hY,hZ,az bl];try exact aU)
    ·(simp only [go_sem,hF,hP,hY,hZ,az bl];try exact aU)
   ·simp only [c1,c2,Bool.not_false,Bool.and_true,if_true,gY]at hR
    subst hR
    repeat' (first
 | simp only [go_sem,hF,hP,hY,hZ,c1,c2]
 | (with_reducible refine CU (AW _) ?_)
 | (with_reducible refine CU (fO _ _ _) ?_)
 | (with_reducible refine aC hQ ?_;simp only [au,aw,Option.some.injEq,exists_eq_left',go_sem,hF,hP,hY,hZ];repeat' (first | exact Ok.out | with_reducible refine aB ?_ ?_ | (simp;done))))
  ·simp only [c1,Bool.false_and,Bool.false_eq_true,if_false]at hR
   repeat' (first
 | simp only [go_sem,hF,hP,hY,hZ,c1]
 | (with_reducible refine CU (AW _) ?_)
 | (with_reducible refine aC hQ ?_;simp only [au,aw,Option.some.injEq,exists_eq_left',go_sem,hF,hP,hY,hZ];repeat' (first | exact Ok.out | with_reducible refine aB ?_ ?_ | (simp;done))))
   refine ct 2 0 ?_ ?_ (IH (rest,k+1) ⟨g2,hR⟩ (Nat.lt_succ_self _))
   ·(simp only [go_sem,hF,hP,hY,hZ,az bl];try exact aU)
   ·(simp only [go_sem,hF,hP,hY,hZ,az bl];try exact aU)
theorem nr {p:Pg} (h:(p.scope.1==0)=true):p.may=true:=by
 unfold Pg.scope at h
 split at h
 ·assumption
 ·cases h
end Go.Abs

/-! Srt1 -/

namespace Go.Abs
set_option maxRecDepth 8000
open Go.Proofs
def kn (out:List aF):List aF→aF→Bool→aF×Bool
 | [],c,a=>(c,a)
 | s::l,c,a=>if !(dL out s) && (!a || bytesLess s c)then kn out l s true else kn out l c a
def Jf (l out:List aF):List aF:=if(kn out l [] false).2 then out++ [(kn out l [] false).1]else out
def lI (l:List aF):Nat→List aF→List aF
 | 0,out=>out
 | n+1,out=>lI l n (Jf l out)
def gL (l:List aF):List aF:=lI l l.length []
theorem CA {l:List aF} (hl:l.length<100000000) (g:Tag) (s:St):aE Tryz.prog nZ [.slice g 1 (l.map encStr)] s (.slice .shared 1 ((gL l).map encStr)) s:=by
 refine aE.FO (d':= .slice .shared 1 (l.map encStr)) ?_ (Wk.shared _ _ _)
 refine aE.pure ?_ (by simp [D.bR,D.ok,Tag.ok,dJ]) (by simp only [D.ok,Tag.ok,dJ];rfl) s
 generalize hR:gL l=R
 simp only [gL]at hR
 unfold S0
 refine aE.go Dp rfl fun B Q hB hQ=> ?_
 have⟨hF,hP,hY,hZ⟩:=bq
 repeat' (first
 | simp only [go_sem,hF,hP,hY,hZ]
 | (with_reducible refine aC hQ ?_;simp only [au,aw,Option.some.injEq,exists_eq_left',go_sem,hF,hP,hY,hZ];repeat' (first | exact Ok.out | with_reducible refine aB ?_ ?_ | (simp;done))))
 refine a8.jB 3 1 rfl ?_
 simp only [go_sem,hF,hP,hY,hZ]
 refine cd 0 1 (a8.ind (ι:=Nat×Nat×List aF×Nat) (fun i=>i.1+i.2.1=l.length∧lI l i.1 i.2.2.1=R∧i.2.2.1.length≤i.2.1∧i.2.2.2=i.2.2.1.length) (fun i=>i.1)
  (fun i=> [(0, .slice .shared 1 (l.map encStr)),(3, .slice (.tok 0) 1 (i.2.2.1.map encStr)),(9, .int .i64 (l.length:Int)),(10, .int .i64 (i.2.1:Int))]) (fun i=>⟨[],[some i.2.2.2]⟩) ?_ (l.length,0,[],0) ⟨rfl,hR,Nat.le_refl _,rfl⟩)
 rintro⟨n,k,out,no⟩ ⟨h1,h2,h3,h4⟩ IH
 dsimp only at h1 h2 h3 h4
 subst h4
 cases n with
 | zero=>
  have hF:decide ((k:Int)<(l.length:Int))=false:=by simp;omega
  simp only [lI]at h2
  subst h2
  repeat' (first
 | simp only [go_sem,hF,hP,hY,hZ]
 | (with_reducible refine aC hQ ?_;simp only [au,aw,Option.some.injEq,exists_eq_left',go_sem,hF,hP,hY,hZ];repeat' (first | exact Ok.out | with_reducible refine aB ?_ ?_ | (simp;done))))
 | succ n=>
  have hF:decide ((k:Int)<(l.length:Int))=true:=by simp;omega
  have bl:k<4611686018427387904:=by omega
  have hY:(out.length+1)*17≤bc:=by unfold bc;omega
  have jW:=fun x g s=>xf (l:=out) (by omega) x g s
  simp only [lI,Jf]at h2
  repeat' (first
 | simp only [go_sem,hF,hP,hY,hZ]
 | (with_reducible refine aC hQ ?_;simp only [au,aw,Option.some.injEq,exists_eq_left',go_sem,hF,hP,hY,hZ];repeat' (first | exact Ok.out | with_reducible refine aB ?_ ?_ | (simp;done))))
  obtain⟨q,hq⟩ : ∃ q,kn out l [] false=q:=⟨_,rfl⟩
  rw [hq]at h2
  refine cd 0 1 (a8.ind (ι:=List aF×Nat×aF×Bool) (fun i=>l.drop i.2.1=i.1∧kn out i.1 i.2.2.1 i.2.2.2=q) (fun i=>i.1.length)
   (fun i=> [(0, .slice .shared 1 (l.map encStr)),(3, .slice (.tok 0) 1 (out.map encStr)),(4, .str i.2.2.1),(5, .bool i.2.2.2),(9, .int .i64 (l.length:Int)),(10, .int .i64 (k:Int)),(12, .slice .shared 1 (l.map encStr)),(13, .int .i64 (l.length:Int)),(14, .int .i64 (i.2.1:Int))]) (fun i=>⟨[],[some out.length]⟩) ?_ (l,0,[],false) ⟨rfl,hq⟩)
  rintro⟨rest,j,c,a⟩ ⟨j1,j2⟩ oD
  dsimp only at j1 j2
  cases rest with
  | nil=>
   have aaO:=drop_nil j1
   simp only [kn]at j2
   subst j2
   cases a
   ·simp only [Bool.false_eq_true,if_false]at h2
    repeat' (first
 | simp only [go_sem,hF,hP,hY,hZ,aaO]
 | (with_reducible refine aC hQ ?_;simp only [au,aw,Option.some.injEq,exists_eq_left',go_sem,hF,hP,hY,hZ];repeat' (first | exact Ok.out | with_reducible refine aB ?_ ?_ | (simp;done))))
    refine ct 0 1 ?_ ?_ (IH (n,k+1,out,_) ⟨by dsimp only;omega,h2,by dsimp only;omega,rfl⟩ (Nat.lt_succ_self _))
    ·(simp only [go_sem,hF,hP,hY,hZ,az bl];try exact aU)
    ·(simp only [go_sem,hF,hP,hY,hZ,az bl];try exact aU)
   ·simp only [if_true]at h2
    repeat' (first
 | simp only [go_sem,hF,hP,hY,hZ,aaO]
 | (with_reducible refine aC hQ ?_;simp only [au,aw,Option.some.injEq,exists_eq_left',go_sem,hF,hP,hY,hZ];repeat' (first | exact Ok.out | with_reducible refine aB ?_ ?_ | (simp;done))))
    refine ct 0 1 ?_ ?_ (IH (n,k+1,out++ [c],out.length+1) ⟨by dsimp only;omega,h2,by simp;omega,by simp⟩ (Nat.lt_succ_self _))
    ·(simp only [go_sem,hF,hP,hY,hZ,az bl,List.map_append,List.map_cons,List.map_nil,encStr];try exact aU)
    ·(simp only [go_sem,hF,hP,hY,hZ,az bl,List.map_append,List.map_cons,List.map_nil,encStr];try exact aU)
  | cons x rest=>
   obtain⟨e7,my,hO,DK⟩:=drop_cons j1
   have fA:j<4611686018427387904:=by omega
   simp only [kn]at j2
   rcases Bool.eq_false_or_eq_true (dL out x)with c1 | c1
   ·simp only [c1,Bool.not_true,Bool.false_and,Bool.false_eq_true,if_false]at j2
    repeat' (first
 | simp only [go_sem,hF,hP,hY,hZ,hO,e7,c1]
 | (with_reducible refine CU (jW _ _ _) ?_)
 | (with_reducible refine aC hQ ?_;simp only [au,aw,Option.some.injEq,exists_eq_left',go_sem,hF,hP,hY,hZ];repeat' (first | exact Ok.out | with_reducible refine aB ?_ ?_ | (simp;done))))
    refine ct 0 1 ?_ ?_ (oD (rest,j+1,c,a) ⟨my,j2⟩ (Nat.lt_succ_self _))
    ·(simp only [go_sem,hF,hP,hY,hZ,az fA];try exact aU)
    ·(simp only [go_sem,hF,hP,hY,hZ,az fA];try exact aU)
   ·cases a
    ·simp only [c1,Bool.not_false,Bool.true_or,Bool.and_self,if_true]at j2
     repeat' (first
 | simp only [go_sem,hF,hP,hY,hZ,hO,e7,c1]
 | (with_reducible refine CU (jW _ _ _) ?_)
 | (with_reducible refine aC hQ ?_;simp only [au,aw,Option.some.injEq,exists_eq_left',go_sem,hF,hP,hY,hZ];repeat' (first | exact Ok.out | with_reducible refine aB ?_ ?_ | (simp;done))))
     refine ct 0 1 ?_ ?_ (oD (rest,j+1,x,true) ⟨my,j2⟩ (Nat.lt_succ_self _))
     ·(simp only [go_sem,hF,hP,hY,hZ,az fA];try exact aU)
     ·(simp only [go_sem,hF,hP,hY,hZ,az fA];try exact aU)
    ·rcases Bool.eq_false_or_eq_true (bytesLess x c)with c2 | c2
     ·simp only [c1,c2,Bool.not_false,Bool.not_true,Bool.or_true,Bool.and_self,if_true]at j2
      repeat' (first
 | simp only [go_sem,hF,hP,hY,hZ,hO,e7,c1,c2]
 | (with_reducible refine CU (jW _ _ _) ?_)
 | (with_reducible refine aC hQ ?_;simp only [au,aw,Option.some.injEq,exists_eq_left',go_sem,hF,hP,hY,hZ];repeat' (first | exact Ok.out | with_reducible refine aB ?_ ?_ | (simp;done))))
      refine ct 0 1 ?_ ?_ (oD (rest,j+1,x,true) ⟨my,j2⟩ (Nat.lt_succ_self _))
      ·(simp only [go_sem,hF,hP,hY,hZ,az fA];try exact aU)
      ·(simp only [go_sem,hF,hP,hY,hZ,az fA];try exact aU)
     ·simp only [c1,c2,Bool.not_false,Bool.not_true,Bool.or_false,Bool.and_false,Bool.false_eq_true,if_false]at j2
      repeat' (first
 | simp only [go_sem,hF,hP,hY,hZ,hO,e7,c1,c2]
 | (with_reducible refine CU (jW _ _ _) ?_)
 | (with_reducible refine aC hQ ?_;simp only [au,aw,Option.some.injEq,exists_eq_left',go_sem,hF,hP,hY,hZ];repeat' (first | exact Ok.out | with_reducible refine aB ?_ ?_ | (simp;done))))
      refine ct 0 1 ?_ ?_ (oD (rest,j+1,c,true) ⟨my,j2⟩ (Nat.lt_succ_self _))
      ·(simp only [go_sem,hF,hP,hY,hZ,az fA];try exact aU)
      ·(simp only [go_sem,hF,hP,hY,hZ,az fA];try exact aU)
end Go.Abs

/-! Shelf -/

namespace Go.Proofs
open Go.Shelf
def Tryz.Kt:Go.Shelf.Ren:=⟨fun | 190=>126 | 125=>169 | 258=>168 | 128=>202 | 129=>203 | 302=>193 | 303=>194 | 304=>195 | 305=>196 | 306=>197 | 307=>198 | 308=>199 | 309=>200 | 310=>201 | 333=>220 | 329=>221 | 330=>222 | 334=>223 | 335=>224 | 336=>225 | 344=>238 | n=>n,fun | 31=>22 | 9=>9 | 3=>3 | 46=>177 | 0=>0 | 51=>194 | 53=>196 | 4=>4 | 183=>187 | 182=>186 | 131=>131 | 5=>5 | 218=>209 | 222=>213 | 228=>221 | 229=>218 | n=>n,fun | n=>n⟩
theorem Tryz.La:Go.Proofs.Lays.n190 Tryz.prog Tryz.Kt:= {
 mixed:=by kernel_rfl
 f125:=Tryz.func169.trans (congrArg some (by kernel_rfl))
 f128:=Tryz.func202.trans (congrArg some (by kernel_rfl))
 f129:=Tryz.func203.trans (congrArg some (by kernel_rfl))
 f190:=Tryz.func126.trans (congrArg some (by kernel_rfl))
 f258:=Tryz.func168.trans (congrArg some (by kernel_rfl))
 f302:=Tryz.func193.trans (congrArg some (by kernel_rfl))
 f303:=Tryz.func194.trans (congrArg some (by kernel_rfl))
 f304:=Tryz.func195.trans (congrArg some (by kernel_rfl))
 f305:=Tryz.func196.trans (congrArg some (by kernel_rfl))
 f306:=Tryz.func197.trans (congrArg some (by kernel_rfl))
 f307:=Tryz.func198.trans (congrArg some (by kernel_rfl))
 f308:=Tryz.func199.trans (congrArg some (by kernel_rfl))
 f309:=Tryz.func200.trans (congrArg some (by kernel_rfl))
 f310:=Tryz.func201.trans (congrArg some (by kernel_rfl))
 f329:=Tryz.func221.trans (congrArg some (by kernel_rfl))
 f330:=Tryz.func222.trans (congrArg some (by kernel_rfl))
 f333:=Tryz.func220.trans (congrArg some (by kernel_rfl))
 f334:=Tryz.func223.trans (congrArg some (by kernel_rfl))
 f335:=Tryz.func224.trans (congrArg some (by kernel_rfl))
 f336:=Tryz.func225.trans (congrArg some (by kernel_rfl))
 f344:=Tryz.func238.trans (congrArg some (by kernel_rfl))
 t0:=Tryz.underlying0
 a0:=Tryz.isAgg0
 z0:=Tryz.sizeOf0
 v0:=Tryz.zeroValue0
 t3:=Tryz.underlying3
 a3:=Tryz.isAgg3
 z3:=Tryz.sizeOf3
 v3:=Tryz.zeroValue3
 t4:=Tryz.underlying4
 a4:=Tryz.isAgg4
 z4:=Tryz.sizeOf4
 v4:=Tryz.zeroValue4
 t5:=Tryz.underlying5
 a5:=Tryz.isAgg5
 z5:=Tryz.sizeOf5
 v5:=Tryz.zeroValue5
 t9:=Tryz.underlying9
 a9:=Tryz.isAgg9
 z9:=Tryz.sizeOf9
 v9:=Tryz.zeroValue9
 t31:=Tryz.underlying22
 a31:=Tryz.isAgg22
 z31:=Tryz.sizeOf22
 v31:=Tryz.zeroValue22
 t46:=Tryz.underlying177
 a46:=Tryz.isAgg177
 z46:=Tryz.sizeOf177
 v46:=Tryz.zeroValue177
 t51:=Tryz.underlying194
 a51:=Tryz.isAgg194
 z51:=Tryz.sizeOf194
 v51:=Tryz.zeroValue194
 t53:=Tryz.underlying196
 a53:=Tryz.isAgg196
 z53:=Tryz.sizeOf196
 v53:=Tryz.zeroValue196
 t131:=Tryz.underlying131
 a131:=Tryz.isAgg131
 z131:=Tryz.sizeOf131
 v131:=Tryz.zeroValue131
 t182:=Tryz.underlying186
 a182:=Tryz.isAgg186
 z182:=Tryz.sizeOf186
 v182:=Tryz.zeroValue186
 t183:=Tryz.underlying187
 a183:=Tryz.isAgg187
 z183:=Tryz.sizeOf187
 v183:=Tryz.zeroValue187
 t218:=Tryz.underlying209
 a218:=Tryz.isAgg209
 z218:=Tryz.sizeOf209
 v218:=Tryz.zeroValue209
 t222:=Tryz.underlying213
 a222:=Tryz.isAgg213
 z222:=Tryz.sizeOf213
 v222:=Tryz.zeroValue213
 t228:=Tryz.underlying221
 a228:=Tryz.isAgg221
 z228:=Tryz.sizeOf221
 v228:=Tryz.zeroValue221
 t229:=Tryz.underlying218
 a229:=Tryz.isAgg218
 z229:=Tryz.sizeOf218
 v229:=Tryz.zeroValue218}
open Go.Sort Go.RowKit in
theorem Tryz.slices_Sort_string (AX off cap:Nat) (ss:List (List UInt8)) (w:World) (hH:Holds encStr w AX off ss.toArray) (apc:AX<w.heap.size) (e9:ss.length<4611686018427387904) :
 Calls Tryz.prog 126 #[.slice (some ⟨AX,off,none⟩) ss.length cap] w fun e w'=>
  e = .returned (.tuple #[])∧∃ n os,w'=grow (putRow encStr (Sort.ahead w n) AX off (ss.mergeSort fun x y=>decide (x≤y)).toArray) os:=Any.slices_Sort_string Tryz.La AX off cap ss w hH apc e9
def Tryz.Ku:Go.Shelf.Ren:=⟨fun | 194=>127 | n=>n,fun | 31=>22 | 9=>9 | 3=>3 | 4=>4 | 0=>0 | n=>n,fun | n=>n⟩
theorem Tryz.Lb:Go.Proofs.Lays.n194 Tryz.prog Tryz.Ku:= {
 mixed:=by kernel_rfl
 f194:=Tryz.func127.trans (congrArg some (by kernel_rfl))
 t0:=Tryz.underlying0
 a0:=Tryz.isAgg0
 z0:=Tryz.sizeOf0
 v0:=Tryz.zeroValue0
 t3:=Tryz.underlying3
 a3:=Tryz.isAgg3
 z3:=Tryz.sizeOf3
 v3:=Tryz.zeroValue3
 t4:=Tryz.underlying4
 a4:=Tryz.isAgg4
 z4:=Tryz.sizeOf4
 v4:=Tryz.zeroValue4
 t9:=Tryz.underlying9
 a9:=Tryz.isAgg9
 z9:=Tryz.sizeOf9
 v9:=Tryz.zeroValue9
 t31:=Tryz.underlying22
 a31:=Tryz.isAgg22
 z31:=Tryz.sizeOf22
 v31:=Tryz.zeroValue22}
open Go.RowKit Go.Lib Go.Sort in
theorem Tryz.slices_Compact_string (AX off cap:Nat) (zs:List (List UInt8)) (w:World) (hH:Holds encStr w AX off zs.toArray) (e9:zs.length≤9223372036854775807) (s5:zs.length≤cap) :
 Calls Tryz.prog 127 #[.slice (some ⟨AX,off,none⟩) zs.length cap] w fun e w'=>e = .returned (.slice (some ⟨AX,off,none⟩) (Lib.compact zs).length cap)∧∃ q,w'=putRow encStr (Sort.ahead w q) AX off (Lib.compact zs++List.replicate (zs.length - (Lib.compact zs).length) []).toArray:=Any.slices_Compact_string Tryz.Lb AX off cap zs w hH e9 s5
open Go.RowKit Go.Lib Go.Sort in
theorem Tryz.slices_Compact_string_empty (a:Option Addr) (cap:Nat) (w:World) :
 Calls Tryz.prog 127 #[.slice a 0 cap] w fun e w'=>e = .returned (.slice a 0 cap)∧w'=w:=Any.slices_Compact_string_empty Tryz.Lb a cap w
open Go.RowKit Go.Sort in
theorem Tryz.slices_Sort_string_none (p:Option Addr) (cap:Nat) (w:World) :
 Calls Tryz.prog 126 #[.slice p 0 cap] w fun e w'=>e = .returned (.tuple #[])∧w'=w:=Any.slices_Sort_string_none Tryz.La p cap w
end Go.Proofs

/-! SortR -/

namespace Go.Abs
open Go.Proofs
section
variable {P:Program} {B:fI} {nt:Nat}
theorem XS {x:Operand} {t:Nat} (h:cX x=some (.s t)):x = .tmp t:=by
 unfold cX at h
 split at h
 ·cases h;rfl
 ·obtain⟨d,_,h⟩:=map_some h;cases h
 ·cases h
 ·cases h
theorem N2 {ops:Array Oper} {o:Oper} {g g':Option (Nat×Bool)} {dst:Option Nat} {f:Nat} {xs:List X} (h:sa P ops o g=some (.call dst g' f xs)) :
 g'=g∧∃ args nT,o.op = .call ⟨.value (.func f),args,nT⟩∧enters P f=true∧xu args.toList=some xs:=by
 unfold sa at h
 split at h
 ·rename_i f' args nT mn
  split at h
  ·rename_i he
   obtain⟨xs',h1,h2⟩:=map_some h
   cases h2
   exact⟨rfl,args,nT,mn,he,h1⟩
  ·cases h
 ·obtain⟨_,_,h⟩:=map_some h;cases h
 ·split at h
  ·cases h
  ·split at h <;> cases h
theorem QS {ops:Array Oper} {o:Oper} {tmps:Array Value} (hg:uD ops o.guard=some none):Region.wanted o (yielded ops tmps)=true:=by
 have:o.guard=none:=by
  cases Fv:o.guard with
  | none=>rfl
  | some p=>
   obtain⟨j,b⟩:=p
   rw [Fv]at hg
   unfold uD at hg
   simp only at hg
   split at hg <;> cases hg
 simp [Region.wanted,this]
theorem Sem.aaQ {a k b f:Nat} {is:List AI} {Q:Exit→Tm→St→Prop} {tm:Tm} {s:St}
 (aeh : ∀ act w,Holds B nt (tm.put (some a) (tm.get k)) s act w→Calls P f #[act.tmps.getD a Go.undef] w fun e w'=>∃ v,e = .returned v∧∃ b7 s',Holds B nt b7 s' (act.put (some b) v) w'∧iQ P is (Q .normal) b7 s') :
 Sem P B nt (.run (.op (some a) none (.mv (.s k)):: .call (some b) none f [.s a]::is)) Q tm s:=by
 intro c hc act w hh
 obtain⟨id,ops,rfl,hi⟩:=k8 hc
 refine wp_region ?_
 have key : ∀ (l:List Nat) (ol:List Oper),l.map (ops[·]?)=ol.map some→qE P nt ops ol=some (.op (some a) none (.mv (.s k)):: .call (some b) none f [.s a]::is)→wpOps P ops (pK B nt Q) l act w:=by
  intro l ol hl wQ
  match ol,l,hl with
  | [],_,_=>simp [qE]at wQ
  | o0::ol,[],hl=>simp at hl
  | o0::ol,j0::l,hl=>
   simp only [List.map_cons,List.cons.injEq]at hl
   obtain⟨hj0,hl⟩:=hl
   unfold qE at wQ
   split at wQ
   ·rename_i i0 is0 h1 h2
    cases wQ
    match ol,l,hl,h2 with
    | [],_,_,h2=>simp [qE]at h2
    | o1::ol,[],hl,_=>simp at hl
    | o1::ol,j1::l,hl,h2=>
     simp only [List.map_cons,List.cons.injEq]at hl
     obtain⟨hj1,hl⟩:=hl
     unfold qE at h2
     split at h2
     ·rename_i i1 is1 h3 h4
      cases h2
      obtain⟨M,e,r,ht,hn,hd⟩:=hh
      have FQ:=sL h1
      have hd1:=sL h3
      simp only [AI.dst]at FQ hd1
      refine wP (K':=fun b7 s'=>b7=tm.put (some a) (tm.get k)∧s'=s) hj0 h1 r (B.laid.ext e) ht (by simp only [iQ,guarded,aV,X.ev,and_self]) (fun d v s1 w1 M1 hk e1 r1 hv=> ?_)
      obtain⟨uF,rfl⟩:=hk
      have hH:=Holds.put e ht hn hd (xA h1) e1 r1 hv
      simp only [AI.dst]at uF
      rw [← FQ]at hH ⊢
      rw [uF]at hH
      obtain⟨g,hg,_,hb⟩:=Ae h3
      obtain⟨rfl,args,nT,mn,ym,oq⟩:=N2 hb
      simp only [wpOps,hj1,QS hg,if_true]
      left
      have TA:args.map (act.put (some a) v).eval = #[(act.put (some a) v).tmps.getD a Go.undef]:=by
       have:args.toList = [.tmp a]:=by
        match hA:args.toList with
        | []=>rw [hA]at oq;simp [xu]at oq
        | [x]=>
         rw [hA]at oq
         simp only [xu]at oq
         split at oq
         ·rename_i x' r' hx hr
          cases oq
          rw [XS hx]
         ·cases oq
        | x::y::z=>
         rw [hA]at oq
         simp only [xu]at oq
         split at oq
         ·rename_i x' r' hx hr
          cases oq
          split at hr
          ·cases hr
          ·cases hr
         ·cases oq
       have:args = #[.tmp a]:=by rw [← Array.toArray_toList (xs:=args),this]
       rw [this]
       simp only [List.map_toArray,List.map_cons,List.map_nil]
       rfl
      have hex:(execOp (act.put (some a) v).eval o1).run P w1 = .ok (.enter f #[(act.put (some a) v).tmps.getD a Go.undef]) w1:=by
       obtain⟨dst,op,type,pos,after,guard⟩:=o1
       simp only at mn
       subst mn
       rw [← TA]
       exact wL (act.put (some a) v).eval dst f args nT type pos after guard rfl ym w1
      unfold Oper.wp
      rw [hex,Oper.upon_enter]
      refine(aeh _ _ hH).mono ?_
      rintro en w' ⟨v',rfl,b7,s',hH',hvc⟩
      rw [← hd1]
      exact zZ (Q:=Q) l ol _ hl h4 b7 s' _ w' hvc hH'
     ·cases h2
   ·cases wQ
 exact key _ _ (z6 ops) hi
theorem F9 (hB:B.s = ⟨[],[]⟩) {tm:Tm} {s:St} {act:Act} {w:World} (h:Holds B nt tm s act w) {t:Nat} {l:List aF} (ht:s.aH[t]? = some (some l.length)) {k0:Nat} (QE:tm.get k0 = .slice (.tok t) 1 (l.map encStr)) :
 (l = []∧∀ k,tm.get k = .slice (.tok t) 1 (l.map encStr)→(act.tmps.getD k Go.undef = .slice none 0 0∨∃ b q,act.tmps.getD k Go.undef = .slice (some ⟨b,q,none⟩) 0 0))∨
 ∃ (b cap:Nat) (vs:Array Value) (T:TypeId),(∀ k,tm.get k = .slice (.tok t) 1 (l.map encStr)→act.tmps.getD k Go.undef = .slice (some ⟨b,0,none⟩) l.length cap)∧l.length≤cap∧w.heap[b]? = some (.cells vs T (0,0))∧vs.size=cap∧B.w.heap.size≤b∧
  ∀ j (hj:j<l.length),vs[j]? = some (.string ⟨⟨l[j]⟩⟩):=by
 obtain⟨M,e,r,hr,_,_⟩:=h
 rcases r.tok t _ ht with ⟨h3,h4⟩ | ⟨b,cap,z,vs,T,h3,h4,h5,h6,h7⟩
 ·have hl:l = []:=List.eq_nil_of_length_eq_zero h4
  subst hl
  refine .inl ⟨rfl,fun k hk=> ?_⟩
  have hv:=hr k
  rw [hk]at hv
  generalize act.tmps.getD k Go.undef=v at hv
  cases hv with
  | jM _ _ cap hc mq=>subst hc;exact .inl rfl
  | slice _ _ _ b q cap hl hs h1 h2 mq=>
   rcases(mq.2 _ ht).2 rfl with ⟨_,h0,_⟩ | ⟨b',_,kC⟩
   ·subst h0;exact .inr ⟨b,q,rfl⟩
   ·rw [h3]at kC;cases kC
 ·right
  have each : ∀ k,tm.get k = .slice (.tok t) 1 (l.map encStr)→z=1∧act.tmps.getD k Go.undef = .slice (some ⟨b,0,none⟩) l.length cap∧l.length≤cap∧∀ j (hj:j<l.length),∃ u,M.G b j=some u∧RD M s (.str l[j]) u:=by
   intro k hk
   have hv:=hr k
   rw [hk]at hv
   generalize act.tmps.getD k Go.undef=v at hv
   generalize lj:l.map encStr=rows at hv
   cases hv with
   | jM _ _ cap hc mq=>
    have hl:l = []:=by cases l <;> simp at lj;rfl
    subst hl
    rcases(mq.2 _ ht).2 rfl with ⟨h0,_⟩ | ⟨b',h0,_⟩
    ·rw [h3]at h0;cases h0
    ·cases h0
   | slice _ _ _ b2 q axm hl hs h1 h2 mq=>
    subst lj
    rw [List.length_map]at hl mq
    rcases(mq.2 _ ht).2 rfl with ⟨h0,_⟩ | ⟨b',hb,kC⟩
    ·rw [h3]at h0;cases h0
    ·cases hb
     rw [h3]at kC
     cases kC
     refine⟨rfl,by rw [List.length_map],hl,fun j hj=> ?_⟩
     have e1:(l.map encStr)[j]? = some [.str l[j]]:=by rw [List.getElem?_map,List.getElem?_eq_getElem hj];rfl
     obtain⟨u,hu⟩:=h1 j _ 0 _ e1 rfl
     refine⟨u,by simpa using hu,h2 j _ 0 _ u e1 rfl hu⟩
  obtain⟨rfl,_,s5,lN⟩:=each k0 QE
  have ey:B.w.heap.size≤b:=by
   rcases e.qC t b cap 1 ⟨_,ht⟩ h3 with ⟨⟨n,hn⟩,_⟩ | h
   ·rw [hB]at hn;simp at hn
   ·exact h
  refine⟨b,cap,vs,T,fun k hk=>(each k hk).2.1,s5,h4,by simpa [zs]using h5,ey,fun j hj=> ?_⟩
  obtain⟨u,hu,pR⟩:=lN j hj
  have:=(r.comm _ _ _ hu).1
  rw [kP h4,pR.kY]at this
  exact this
theorem Jg (hB:B.s = ⟨[],[]⟩) {tm:Tm} {s:St} {act tA:Act} {w w':World} (h:Holds B nt tm s act w) {b cap:Nat} {vs:Array Value} {T:TypeId} (e9:vs.size=cap) (sr:B.w.heap.size≤b)
 (lL : ∀ q,q<B.w.heap.size→w'.heap[q]? = w.heap[q]?) (fa:w'.heap[b]? = some (.cells vs T (0,0))) (eK:w.heap.size≤w'.heap.size) (FD:w'.os=w.os) (uJ:w'.tape=w.tape) (Eg:w'.output=w.output)
 {l:List aF} (hl:l.length≤cap) (lN : ∀ j (hj:j<l.length),vs[j]? = some (.string ⟨⟨l[j]⟩⟩)) {k:Nat} (N3:tA.tmps.getD k Go.undef = .slice (some ⟨b,0,none⟩) l.length cap) (hn:tA.tmps.size=nt) (hd:tA.defers = []) :
 Holds B nt [(k, .slice (.tok 0) 1 (l.map encStr))] ⟨[],[some l.length]⟩ tA w':=by
 obtain⟨M,e,r,hr,_,_⟩:=h
 let M':Map:=⟨fun q o=>if q=b then(if o<l.length then(l[o]?).map fun x=>Value.string ⟨⟨x⟩⟩else none)else B.M.G q o,B.M.loc,fun _=>some (b,cap,1)⟩
 have hGb : ∀ q o v,B.M.G q o=some v→q<B.w.heap.size∧w'.cell? ⟨q,o,none⟩=some v∧v.oneCell'=true:=by
  intro q o v hq
  obtain⟨h1,h2⟩:=r.comm q o v (e.le.G q o v hq)
  have hF:=B.old q o v hq
  refine⟨hF, ?_,h2⟩
  rw [← h1]
  simp [World.cell?,lL q hF]
 have vL : ∀ j (hj:j<l.length),w'.cell? ⟨b,j,none⟩=some (.string ⟨⟨l[j]⟩⟩):=fun j hj=>by rw [kP fa];exact lN j hj
 have hP : ∀ (j:Nat) v,(if j<l.length then(l[j]?).map fun x=>Value.string ⟨⟨x⟩⟩else none)=some v→∃ hj:j<l.length,v = .string ⟨⟨l[j]⟩⟩:=by
  intro j v hv
  split at hv
  ·rename_i hj
   rw [List.getElem?_eq_getElem hj]at hv
   exact⟨hj,by simpa using hv.symm⟩
  ·cases hv
 refine⟨M',⟨⟨fun q o v hq=> ?_,by simp [hB],fun o ho=>rfl,by rw [hB];exact Nat.zero_le _,fun t n' ht _=>by rw [hB]at ht;exact absurd ht (Nat.not_lt_zero _)⟩,fun q hq _ _=> ?_,fun o _ h2=>absurd h2 (Nat.not_lt_zero _),fun t q c z _ hb=> ?_,fun q o fE=> ?_,Nat.le_trans e.size eK,FD.trans e.os,uJ.trans e.tape,Eg.trans e.output⟩,
  ⟨fun q o v hq=> ?_,fun o ds ho=>by simp at ho,fun o ho=>absurd ho (Nat.not_lt_zero _),fun o o' ho=>absurd ho (Nat.not_lt_zero _),fun t n ht=> ?_,fun t q c z o _ _ ho=>absurd ho (Nat.not_lt_zero _),fun t t' q c z c' z' Qt nR _ _=> ?_⟩,fun u=> ?_,hn,hd⟩
 ·show(if q=b then _ else B.M.G q o)=some v
  rw [if_neg (by have:=(hGb q o v hq).1;omega)]
  exact hq
 ·rw [lL q hq]
  exact e.kept q hq (fun o ho=>by rw [hB]at ho;exact absurd ho (Nat.not_lt_zero _)) (fun t c z nR=>by rw [hB]at nR;obtain⟨n,zt⟩:=nR;simp at zt)
 ·cases hb;exact .inr sr
 ·by_cases hq:q=b
  ·subst hq;exact .inl sr
  ·exact absurd (show(if q=b then _ else B.M.G q o)=B.M.G q o from if_neg hq) fE
 ·have rA:(if q=b then(if o<l.length then(l[o]?).map fun x=>Value.string ⟨⟨x⟩⟩else none)else B.M.G q o)=some v:=hq
  by_cases hqb:q=b
  ·rw [if_pos hqb]at rA
   obtain⟨hj,rfl⟩:=hP o v rA
   rw [hqb]
   exact⟨vL o hj,rfl⟩
  ·rw [if_neg hqb]at rA
   exact(hGb q o v rA).2
 ·match t with
  | 0=>
   simp at ht
   subst ht
   refine .inr ⟨b,cap,1,vs,T,rfl,fa,by simp [zs,e9],hl,fun off ho=> ?_,fun h=>by cases h⟩
   show(if b=b then(if off<l.length then _ else none)else B.M.G b off)=none
   rw [if_pos rfl,if_neg (by simp [zs]at ho;omega)]
  | t+1=>simp at ht
 ·obtain⟨n1,h1⟩:=Qt
  obtain⟨n2,h2⟩:=nR
  have a1:=(List.getElem?_eq_some_iff.1 h1).1
  have a2:=(List.getElem?_eq_some_iff.1 h2).1
  simp at a1 a2
  omega
 ·simp only [Tm.get]
  split
  ·rename_i hku
   subst hku
   rw [N3]
   have:=RD.slice (M:=M') (s:=⟨[],[some l.length]⟩) (.tok 0) 1 (l.map encStr) b 0 cap (by simpa using hl) (fun row hr=>by
    obtain⟨x,_,rfl⟩:=List.mem_map.1 hr;rfl) (fun i row j d e1 e2=> ?_) (fun i row j d u e1 e2 eu=> ?_) ⟨by simp,fun n zt=>by
    simp at zt
    subst zt
    exact⟨by simp,fun _=> .inr ⟨b,rfl,rfl⟩⟩⟩
   ·simpa using this
   ·rw [List.getElem?_map]at e1
    cases zl:l[i]? with
    | none=>rw [zl]at e1;cases e1
    | some x=>
     have pF:=(List.getElem?_eq_some_iff.1 zl).1
     rw [zl]at e1
     cases e1
     have hj:j=0:=by cases j with | zero=>rfl | succ j=>simp [encStr]at e2
     subst hj
     refine⟨.string ⟨⟨x⟩⟩, ?_⟩
     show(if b=b then(if 0+(i*1+0)<l.length then _ else none)else _)=_
     rw [if_pos rfl,if_pos (by omega)]
     simp [zl]
   ·rw [List.getElem?_map]at e1
    cases zl:l[i]? with
    | none=>rw [zl]at e1;cases e1
    | some x=>
     have pF:=(List.getElem?_eq_some_iff.1 zl).1
     rw [zl]at e1
     cases e1
     have hj:j=0:=by cases j with | zero=>rfl | succ j=>simp [encStr]at e2
     subst hj
     have KY:(if b=b then(if 0+(i*1+0)<l.length then(l[0+(i*1+0)]?).map fun x=>Value.string ⟨⟨x⟩⟩else none)else B.M.G b (0+(i*1+0)))=some u:=eu
     rw [if_pos rfl,if_pos (by omega)]at KY
     simp [zl]at KY
     subst KY
     simp [encStr]at e2
     subst e2
     exact .str x
  ·exact .junk _
theorem Lc (hB:B.s = ⟨[],[]⟩) {tm:Tm} {s:St} {act tA:Act} {w:World} (h:Holds B nt tm s act w) {k:Nat} (N3:tA.tmps.getD k Go.undef = .slice none 0 0∨∃ b q,tA.tmps.getD k Go.undef = .slice (some ⟨b,q,none⟩) 0 0) (hn:tA.tmps.size=nt) (hd:tA.defers = []) :
 Holds B nt [(k, .slice (.tok 0) 1 (([] : List aF).map encStr))] ⟨[],[some 0]⟩ tA w:=by
 obtain⟨M,e,r,hr,_,_⟩:=h
 let M':Map:=⟨B.M.G,B.M.loc,fun _=>none⟩
 refine⟨M',⟨⟨fun q o v hq=>hq,by simp [hB],fun o ho=>rfl,by rw [hB];exact Nat.zero_le _,fun t n' ht _=>by rw [hB]at ht;exact absurd ht (Nat.not_lt_zero _)⟩,fun q hq _ _=> ?_,fun o _ h2=>absurd h2 (Nat.not_lt_zero _),fun t q c z _ hb=>(by cases hb),fun q o fE=>absurd rfl fE,e.size,e.os,e.tape,e.output⟩,
  ⟨fun q o v hq=>r.comm q o v (e.le.G q o v hq),fun o ds ho=>by simp at ho,fun o ho=>absurd ho (Nat.not_lt_zero _),fun o o' ho=>absurd ho (Nat.not_lt_zero _),fun t n ht=> ?_,fun t q c z o _ _ ho=>absurd ho (Nat.not_lt_zero _),fun t t' q c z c' z' Qt nR h1 _=>by cases h1⟩,fun u=> ?_,hn,hd⟩
 ·exact e.kept q hq (fun o ho=>by rw [hB]at ho;exact absurd ho (Nat.not_lt_zero _)) (fun t c z nR=>by rw [hB]at nR;obtain⟨n,zt⟩:=nR;simp at zt)
 ·match t with
  | 0=>simp at ht;subst ht;exact .inl ⟨rfl,rfl⟩
  | t+1=>simp at ht
 ·simp only [Tm.get]
  split
  ·rename_i hku
   subst hku
   have mq : ∀ base,iL M' ⟨[],[some 0]⟩ (.tok 0) 1 0 base 0:=fun base=>⟨by simp,fun n zt=>by
    simp at zt
    subst zt
    exact⟨Nat.le_refl _,fun _=> .inl ⟨rfl,rfl,fun h=>by cases h⟩⟩⟩
   rcases N3 with h | ⟨b,q,h⟩
   ·rw [h];exact .jM _ _ 0 rfl (mq none)
   ·rw [h];exact .slice (.tok 0) 1 [] b q 0 (Nat.le_refl _) (by simp) (by simp) (by simp) (mq _)
  ·exact .junk _
theorem Jh {α:Type} [Inhabited α] (enc:α→Value) (d:Array α) (c:Array Value) (j:Nat):(Sort.putCells enc 0 d c)[j]? = if j<d.size then(c[j]?).map fun _=>enc d[j]! else c[j]? :=by
 simp only [Sort.putCells,Array.getElem?_mapIdx]
 cases h:c[j]? with
 | none=>simp
 | some x=>by_cases hj:j<d.size <;> simp [hj]
theorem Ga {w:World} {b n cap:Nat} {vs:Array Value} {T:TypeId} (fa:w.heap[b]? = some (.cells vs T (0,0))) (e9:vs.size=cap) (l:List aF) (hl:l.length≤cap) (os:Array Obj) :
 (∀ q,q≠b→q<w.heap.size→(Sort.grow (Sort.putRow Go.Proofs.encStr (Sort.ahead w n) b 0 l.toArray) os).heap[q]? = w.heap[q]?)∧
 (Sort.grow (Sort.putRow Go.Proofs.encStr (Sort.ahead w n) b 0 l.toArray) os).heap[b]? = some (.cells (Sort.putCells Go.Proofs.encStr 0 l.toArray vs) T (0,0))∧w.heap.size≤(Sort.grow (Sort.putRow Go.Proofs.encStr (Sort.ahead w n) b 0 l.toArray) os).heap.size∧
 (Sort.putCells Go.Proofs.encStr 0 l.toArray vs).size=cap∧∀ j (hj:j<l.length),(Sort.putCells Go.Proofs.encStr 0 l.toArray vs)[j]? = some (.string ⟨⟨l[j]⟩⟩):=by
 have hb:b<w.heap.size:=(Array.getElem?_eq_some_iff.1 fa).1
 refine⟨fun q hq hF=> ?_, ?_, ?_, ?_,fun j hj=> ?_⟩
 ·simp only [Sort.grow,Sort.putRow,Sort.mapBlock,Sort.ahead]
  rw [Array.getElem?_append_left (by simpa using hF),Array.getElem?_modify]
  simp [Ne.symm hq]
 ·simp only [Sort.grow,Sort.putRow,Sort.mapBlock,Sort.ahead]
  rw [Array.getElem?_append_left (by simpa using hb),Array.getElem?_modify]
  simp [fa,Sort.onCells]
 ·simp [Sort.grow,Sort.putRow,Sort.mapBlock,Sort.ahead]
 ·simp [Sort.putCells,e9]
 ·rw [Jh]
  have h1:j<l.toArray.size:=by simpa using hj
  have h2:vs[j]? = some vs[j]:=Array.getElem?_eq_getElem (by omega)
  rw [if_pos h1,h2]
  simp [hj]
def lZ (l:List aF):List aF:=l.mergeSort fun x y=>decide (x≤y)
theorem Ji {act:Act} {b:Nat} {v:Value} {u:Nat} (h:u≠b):(act.put (some b) v).tmps.getD u Go.undef=act.tmps.getD u Go.undef:=by
 simp only [Act.put,Array.getD_eq_getD_getElem?]
 rw [Array.getElem?_setIfInBounds_ne (fun e=>h e.symm)]
theorem Gb {act:Act} {b:Nat} {v:Value} (h:b<act.tmps.size):(act.put (some b) v).tmps.getD b Go.undef=v:=by
 simp only [Act.put,Array.getD_eq_getD_getElem?]
 simp [h]
theorem Sem.sort (hB:B.s = ⟨[],[]⟩) {a k b t:Nat} {l:List aF} {is:List AI} {Q:Exit→Tm→St→Prop} {tm:Tm} {s:St} (hak:a≠k) (hbk:b≠k) (AB:a≠b)
 (hk:tm.get k = .slice (.tok t) 1 (l.map encStr)) (ht:s.aH[t]? = some (some l.length)) (hl:l.length<4611686018427387904)
 (h:iQ Tryz.prog is (Q .normal) [(k, .slice (.tok 0) 1 ((lZ l).map encStr))] ⟨[],[some l.length]⟩) :
 Sem Tryz.prog B nt (.run (.op (some a) none (.mv (.s k)):: .call (some b) none jk [.s a]::is)) Q tm s:=by
 refine Sem.aaQ fun act w hh=> ?_
 have zg:(tm.put (some a) (tm.get k)).get k = .slice (.tok t) 1 (l.map encStr):=by rw [Tm.k6,if_neg (by simpa using hak)];exact hk
 have Jj:(tm.put (some a) (tm.get k)).get a = .slice (.tok t) 1 (l.map encStr):=by rw [Tm.k6,if_pos rfl];exact hk
 have AU:(lZ l).length=l.length:=List.length_mergeSort l
 have hn:(act.put (some b) (.tuple #[])).tmps.size=nt:=by obtain⟨_,_,_,_,h1,_⟩:=hh;simpa [Act.put]using h1
 have hd:(act.put (some b) (.tuple #[])).defers = []:=by obtain⟨_,_,_,_,_,h1⟩:=hh;simpa [Act.put]using h1
 have e9:(act.tmps).size=nt:=by obtain⟨_,_,_,_,h1,_⟩:=hh;exact h1
 rcases F9 hB hh ht Jj with ⟨rfl,hv⟩ | ⟨b',cap,vs,T,hv,s5,fa,oQ,sr,lN⟩
 ·rw [show lZ [] = [] by simp [lZ]]at h
  have call : ∀ p,act.tmps.getD a Go.undef = .slice p 0 0→Calls Tryz.prog jk #[act.tmps.getD a Go.undef] w fun e w'=>∃ v,e = .returned v∧∃ b7 s',Holds B nt b7 s' (act.put (some b) v) w'∧iQ Tryz.prog is (Q .normal) b7 s':=by
   intro p hp
   rw [hp]
   refine(Tryz.slices_Sort_string_none p 0 w).mono ?_
   rintro e w' ⟨rfl,rfl⟩
   refine⟨_,rfl,_,_,Lc hB hh (k:=k) ?_ hn hd,h⟩
   rw [Ji (Ne.symm hbk)]
   exact hv k zg
  rcases hv a Jj with h1 | ⟨b',q,h1⟩
  ·exact call _ h1
  ·exact call _ h1
 ·rw [hv a Jj]
  have hF:b'<w.heap.size:=(Array.getElem?_eq_some_iff.1 fa).1
  refine(Tryz.slices_Sort_string b' 0 cap l w (fun j hj=> ?_) hF hl).mono ?_
  ·have QT:j<l.length:=by simpa using hj
   refine⟨?_,by simp [World.frozen?,fa]⟩
   rw [Nat.zero_add,kP fa,lN j QT]
   simp [QT]
  ·rintro e w' ⟨rfl,n,os,rfl⟩
   obtain⟨p1,p2,p3,p4,p5⟩:=Ga (n:=n) fa oQ (lZ l) (by omega) os
   have hH:=Jg hB hh (tA:=act.put (some b) (.tuple #[])) (l:=lZ l) (k:=k) p4 sr (fun q hq=>p1 q (by omega) (by obtain⟨M,e,_⟩:=hh;exact Nat.lt_of_lt_of_le hq e.size)) p2 p3 rfl rfl rfl (by omega) p5 (by rw [Ji (Ne.symm hbk),hv k zg,AU]) hn hd
   rw [AU]at hH
   exact⟨_,rfl,_,_,hH,h⟩
theorem Kv (l:List aF):(Lib.compact l).length≤l.length:=by
 unfold Lib.compact Lib.compactUpTo
 rw [List.length_map]
 exact Nat.le_trans (List.length_filter_le _ _) (by simp)
theorem Sem.compact (hB:B.s = ⟨[],[]⟩) {a k b t:Nat} {l:List aF} {is:List AI} {Q:Exit→Tm→St→Prop} {tm:Tm} {s:St} (hbt:b<nt)
 (hk:tm.get k = .slice (.tok t) 1 (l.map encStr)) (ht:s.aH[t]? = some (some l.length)) (hl:l.length<4611686018427387904)
 (h:iQ Tryz.prog is (Q .normal) [(b, .slice (.tok 0) 1 ((Lib.compact l).map encStr))] ⟨[],[some (Lib.compact l).length]⟩) :
 Sem Tryz.prog B nt (.run (.op (some a) none (.mv (.s k)):: .call (some b) none jH [.s a]::is)) Q tm s:=by
 refine Sem.aaQ fun act w hh=> ?_
 have Jj:(tm.put (some a) (tm.get k)).get a = .slice (.tok t) 1 (l.map encStr):=by rw [Tm.k6,if_pos rfl];exact hk
 have e9:(act.tmps).size=nt:=by obtain⟨_,_,_,_,h1,_⟩:=hh;exact h1
 have hn : ∀ v,(act.put (some b) v).tmps.size=nt:=fun v=>by simpa [Act.put]using e9
 have hd : ∀ v,(act.put (some b) v).defers = []:=by obtain⟨_,_,_,_,_,h1⟩:=hh;intro v;simpa [Act.put]using h1
 rcases F9 hB hh ht Jj with ⟨rfl,hv⟩ | ⟨b',cap,vs,T,hv,s5,fa,oQ,sr,lN⟩
 ·rw [show Lib.compact ([] : List aF) = []from rfl]at h
  have call : ∀ p,act.tmps.getD a Go.undef = .slice p 0 0→(p=none∨∃ b q,p=some ⟨b,q,none⟩)→Calls Tryz.prog jH #[act.tmps.getD a Go.undef] w fun e w'=>∃ v,e = .returned v∧∃ b7 s',Holds B nt b7 s' (act.put (some b) v) w'∧iQ Tryz.prog is (Q .normal) b7 s':=by
   intro p hp hq
   rw [hp]
   refine(Tryz.slices_Compact_string_empty p 0 w).mono ?_
   rintro e w' ⟨rfl,rfl⟩
   refine⟨_,rfl,_,_,Lc hB hh (k:=b) ?_ (hn _) (hd _),h⟩
   rw [Gb (by omega)]
   rcases hq with rfl | ⟨x,y,rfl⟩
   ·exact .inl rfl
   ·exact .inr ⟨x,y,rfl⟩
  rcases hv a Jj with h1 | ⟨b',q,h1⟩
  ·exact call _ h1 (.inl rfl)
  ·exact call _ h1 (.inr ⟨b',q,rfl⟩)
 ·rw [hv a Jj]
  have zj:(Lib.compact l).length≤l.length:=Kv l
  refine(Tryz.slices_Compact_string b' 0 cap l w (fun j hj=> ?_) (by omega) s5).mono ?_
  ·have QT:j<l.length:=by simpa using hj
   refine⟨?_,by simp [World.frozen?,fa]⟩
   rw [Nat.zero_add,kP fa,lN j QT]
   simp [QT]
  ·rintro e w' ⟨rfl,q,rfl⟩
   obtain⟨p1,p2,p3,p4,p5⟩:=Ga (n:=q) fa oQ (Lib.compact l++List.replicate (l.length - (Lib.compact l).length) []) (by simp;omega) #[]
   rw [Sort.grow_empty]at p1 p2 p3
   have hH:=Jg hB hh (tA:=act.put (some b) (.slice (some ⟨b',0,none⟩) (Lib.compact l).length cap)) (l:=Lib.compact l) (k:=b) p4 sr (fun q hq=>p1 q (by omega) (by obtain⟨M,e,_⟩:=hh;exact Nat.lt_of_lt_of_le hq e.size)) p2 p3 rfl rfl rfl (by omega)
    (fun j hj=>by
     have:=p5 j (by simp;omega)
     rw [List.getElem_append_left hj]at this
     exact this) (Gb (by omega)) (hn _) (hd _)
   exact⟨_,rfl,_,_,hH,h⟩
end
end Go.Abs

/-! SrtP -/

namespace Go.Abs
theorem DP {a b:UInt8} : a<b↔a.toNat<b.toNat:=UInt8.lt_iff_toNat_lt
theorem x5 : ∀ a:aF,bytesLess a a=false
 | []=>rfl
 | x::a=>by
  show Go.Op.bytesLess (x::a) (x::a)=false
  have h:=x5 a
  have h:Go.Op.bytesLess a a=false:=h
  simp [Go.Op.bytesLess,h]
theorem x6 : ∀ a b:aF,bytesLess a b=true∨a=b∨bytesLess b a=true
 | [],[]=> .inr (.inl rfl)
 | [],y::b=> .inl rfl
 | x::a,[]=> .inr (.inr rfl)
 | x::a,y::b=>by
  show Go.Op.bytesLess (x::a) (y::b)=true∨_∨Go.Op.bytesLess (y::b) (x::a)=true
  have h:Go.Op.bytesLess a b=true∨a=b∨Go.Op.bytesLess b a=true:=x6 a b
  simp only [Go.Op.bytesLess,Bool.or_eq_true,Bool.and_eq_true,decide_eq_true_eq,beq_iff_eq,List.cons.injEq]
  by_cases e:x=y
  ·subst e
   rcases h with h | h | h
   ·exact .inl (.inr ⟨rfl,h⟩)
   ·exact .inr (.inl ⟨rfl,h⟩)
   ·exact .inr (.inr (.inr ⟨rfl,h⟩))
  ·have:x.toNat≠y.toNat:=fun h=>e (UInt8.toNat_inj.1 h)
   rcases Nat.lt_or_gt_of_ne this with h | h
   ·exact .inl (.inl (DP.2 h))
   ·exact .inr (.inr (.inl (DP.2 h)))
theorem DQ : ∀ a b c:aF,bytesLess a b=true→bytesLess b c=true→bytesLess a c=true
 | a,b,[],h1,h2=>by cases b <;> cases h2
 | a,[],z::c,h1,h2=>by cases a <;> cases h1
 | [],y::b,z::c,h1,h2=>rfl
 | x::a,y::b,z::c,h1,h2=>by
  have h1:Go.Op.bytesLess (x::a) (y::b)=true:=h1
  have h2:Go.Op.bytesLess (y::b) (z::c)=true:=h2
  show Go.Op.bytesLess (x::a) (z::c)=true
  simp only [Go.Op.bytesLess,Bool.or_eq_true,Bool.and_eq_true,decide_eq_true_eq,beq_iff_eq]at h1 h2 ⊢
  rcases h1 with e1 | ⟨i1,e1⟩
  ·rcases h2 with e2 | ⟨i2,e2⟩
   ·exact .inl (DP.2 (Nat.lt_trans (DP.1 e1) (DP.1 e2)))
   ·exact .inl (i2 ▸ e1)
  ·rcases h2 with e2 | ⟨i2,e2⟩
   ·exact .inl (i1 ▸ e2)
   ·exact .inr ⟨i1.trans i2,DQ a b c e1 e2⟩
def AY (l:List aF):Prop:=l.Pairwise fun a b=>bytesLess a b=true
theorem xh : ∀ {a b:List aF},AY a→AY b→(∀ x,x∈a↔x∈b)→a=b
 | [],[],_,_,_=>rfl
 | [],y::b,_,_,h=>absurd ((h y).2 List.mem_cons_self) (by simp)
 | x::a,[],_,_,h=>absurd ((h x).1 List.mem_cons_self) (by simp)
 | x::a,y::b,h1,h2,h=>by
  obtain⟨g1,g2⟩:=List.pairwise_cons.1 h1
  obtain⟨g3,g4⟩:=List.pairwise_cons.1 h2
  have e:x=y:=by
   rcases List.mem_cons.1 ((h x).1 List.mem_cons_self)with e | m
   ·exact e
   ·rcases List.mem_cons.1 ((h y).2 List.mem_cons_self)with e | m'
    ·exact e.symm
    ·have:=DQ _ _ _ (g3 x m) (g1 y m');rw [x5]at this;cases this
  subst e
  rw [xh g2 g4 fun z=> ?_]
  constructor
  ·intro m
   rcases List.mem_cons.1 ((h z).1 (List.mem_cons_of_mem _ m))with e | m'
   ·subst e;have:=g1 z m;rw [x5]at this;cases this
   ·exact m'
  ·intro m
   rcases List.mem_cons.1 ((h z).2 (List.mem_cons_of_mem _ m))with e | m'
   ·subst e;have:=g3 z m;rw [x5]at this;cases this
   ·exact m'
theorem um (out:List aF) : ∀ (l:List aF) (c:aF) (a:Bool),
 let q:=kn out l c a
 (q.2=false↔a=false∧∀ x∈l,x∈out)∧(q.2=true→((a=true∧q.1=c)∨(q.1∈l∧q.1∉out))∧(a=true→bytesLess c q.1=false)∧∀ x∈l,x∉out→bytesLess x q.1=false)
 | [],c,a=>by
  simp only [kn]
  refine⟨by simp,fun h=>⟨.inl ⟨h,by trivial⟩,fun _=>x5 c,fun x m=>(by cases m)⟩⟩
 | s::l,c,a=>by
  simp only [kn]
  by_cases h1:dL out s=true
  ·have m:=(gl _ _).1 h1
   simp only [h1,Bool.not_true,Bool.false_and,Bool.false_eq_true,if_false]
   obtain⟨k1,k2⟩:=um out l c a
   refine⟨k1.trans ⟨fun h=>⟨h.1,fun x hx=> ?_⟩,fun h=>⟨h.1,fun x hx=>h.2 x (List.mem_cons_of_mem _ hx)⟩⟩,fun h=> ?_⟩
   ·rcases List.mem_cons.1 hx with rfl | hx
    ·exact m
    ·exact h.2 x hx
   ·obtain⟨g1,g2,g3⟩:=k2 h
    refine⟨g1.imp_right fun h=>⟨List.mem_cons_of_mem _ h.1,h.2⟩,g2,fun x hx hn=> ?_⟩
    rcases List.mem_cons.1 hx with rfl | hx
    ·exact absurd m hn
    ·exact g3 x hx hn
  ·have m:s∉out:=fun m=>h1 ((gl _ _).2 m)
   have pE:dL out s=false:=by simpa using h1
   by_cases h2:(!a || bytesLess s c)=true
   ·simp only [pE,h2,Bool.not_false,Bool.and_self,if_true]
    obtain⟨k1,k2⟩:=um out l s true
    refine⟨⟨fun h=>absurd (k1.1 h).1 (by simp),fun h=>absurd (h.2 s List.mem_cons_self) m⟩,fun h=> ?_⟩
    obtain⟨g1,g2,g3⟩:=k2 h
    have g4:=g2 rfl
    refine⟨.inr ?_,fun ha=> ?_,fun x hx hn=> ?_⟩
    ·rcases g1 with ⟨_,e⟩ | g1
     ·rw [e];exact⟨List.mem_cons_self,m⟩
     ·exact⟨List.mem_cons_of_mem _ g1.1,g1.2⟩
    ·have h3:bytesLess s c=true:=by simpa [ha]using h2
     cases hh:bytesLess c (kn out l s true).1
     ·rfl
     ·have:=DQ _ _ _ h3 hh;rw [g4]at this;cases this
    ·rcases List.mem_cons.1 hx with rfl | hx
     ·exact g4
     ·exact g3 x hx hn
   ·have sJ:(!a || bytesLess s c)=false:=by simpa using h2
    have ha:a=true:=by cases a <;> simp_all
    have h3:bytesLess s c=false:=by cases a <;> simp_all
    simp only [pE,sJ,Bool.not_false,Bool.and_false,Bool.false_eq_true,if_false]
    obtain⟨k1,k2⟩:=um out l c a
    refine⟨⟨fun h=>absurd (k1.1 h).1 (by simp [ha]),fun h=>absurd h.1 (by simp [ha])⟩,fun h=> ?_⟩
    obtain⟨g1,g2,g3⟩:=k2 h
    refine⟨g1.imp_right fun h=>⟨List.mem_cons_of_mem _ h.1,h.2⟩,g2,fun x hx hn=> ?_⟩
    rcases List.mem_cons.1 hx with rfl | hx
    ·cases hh:bytesLess x (kn out l c a).1
     ·rfl
     ·have g4:=g2 ha
      rcases x6 x c with e | e | e
      ·rw [h3]at e;cases e
      ·subst e;rw [g4]at hh;cases hh
      ·have:=DQ _ _ _ e hh;rw [g4]at this;cases this
    ·exact g3 x hx hn
theorem xi (l:List aF) : ∀ (n:Nat) (out:List aF),AY out→(∀ x∈out,x∈l)→(∀ x∈out,∀ y∈l,y∉out→bytesLess x y=true)→
 AY (lI l n out)∧(∀ x∈lI l n out,x∈l)∧(∀ x∈out,x∈lI l n out)∧((∀ x∈l,x∈lI l n out)∨(lI l n out).length=out.length+n)
 | 0,out,h1,h2,h3=>⟨h1,h2,fun x m=>m, .inr rfl⟩
 | n+1,out,h1,h2,h3=>by
  simp only [lI,Jf]
  obtain⟨k1,k2⟩:=um out l [] false
  cases hq:(kn out l [] false).2
  ·simp only [Bool.false_eq_true,if_false]
   obtain⟨g1,g2,g3,g4⟩:=xi l n out h1 h2 h3
   exact⟨g1,g2,g3, .inl fun x m=>g3 x ((k1.1 hq).2 x m)⟩
  ·simp only [if_true]
   obtain⟨g1,_,g3⟩:=k2 hq
   have g1:(kn out l [] false).1∈l∧(kn out l [] false).1∉out:=by
    rcases g1 with ⟨h,_⟩ | g1
    ·cases h
    ·exact g1
   generalize (kn out l [] false).1=c at g1 g3
   obtain⟨r1,r2,r3,r4⟩:=xi l n (out++ [c])
    (by
     refine List.pairwise_append.2 ⟨h1,by simp,fun x hx y hy=> ?_⟩
     have:y=c:=by simpa using hy
     subst this
     exact h3 x hx y g1.1 g1.2)
    (fun x hx=>by
     rcases List.mem_append.1 hx with hx | hx
     ·exact h2 x hx
     ·have:x=c:=by simpa using hx
      subst this;exact g1.1)
    (fun x hx y hy hn=>by
     have hyo:y∉out:=fun m=>hn (List.mem_append_left _ m)
     have hyc:y≠c:=fun e=>hn (List.mem_append_right _ (by simp [e]))
     rcases List.mem_append.1 hx with hx | hx
     ·exact h3 x hx y hy hyo
     ·have:x=c:=by simpa using hx
      subst this
      rcases x6 x y with h | h | h
      ·exact h
      ·exact absurd h.symm hyc
      ·rw [g3 y hy hyo]at h;cases h)
   refine⟨r1,r2,fun x m=>r3 x (List.mem_append_left _ m),r4.imp_right fun h=> ?_⟩
   rw [h];simp;omega
theorem wz : ∀ (a l:List aF),a.Nodup→(∀ x∈a,x∈l)→a.length≤l.length
 | [],l,_,_=>Nat.zero_le _
 | x::a,l,h,hm=>by
  obtain⟨h1,h2⟩:=List.nodup_cons.1 h
  have m:=hm x List.mem_cons_self
  have:=wz a (l.erase x) h2 fun y hy=>(List.mem_erase_of_ne (fun e=>h1 (by rw [← e];exact hy))).2 (hm y (List.mem_cons_of_mem _ hy))
  rw [List.length_erase_of_mem m]at this
  have:0<l.length:=List.length_pos_of_mem m
  simp only [List.length_cons];omega
theorem ri {l:List aF} (h:AY l):l.Nodup:=h.imp fun {a b} h e=>by subst e;rw [x5]at h;cases h
theorem kU (l:List aF):AY (gL l)∧∀ x,x∈gL l↔x∈l:=by
 obtain⟨h1,h2,h3,h4⟩:=xi l l.length [] List.Pairwise.nil (fun x m=>(by cases m)) (fun x m=>(by cases m))
 refine⟨h1,fun x=>⟨h2 x,fun m=> ?_⟩⟩
 rcases h4 with h4 | h4
 ·exact h4 x m
 ·refine Classical.byContradiction fun hn=> ?_
  have:=wz (x::lI l l.length []) l (List.nodup_cons.2 ⟨hn,ri h1⟩) fun y hy=>by
   rcases List.mem_cons.1 hy with rfl | hy
   ·exact m
   ·exact h2 y hy
  simp only [List.length_cons,h4,List.length_nil]at this
  omega
theorem Kx (zs:List aF) (hs:zs.Pairwise fun a b=>bytesLess b a=false) : ∀ m,m≤zs.length→
 AY (Lib.compactUpTo zs.toArray m)∧(∀ x,x∈Lib.compactUpTo zs.toArray m↔x∈zs.take m):=by
 intro m
 induction m with
 | zero=>intro _;exact⟨by simp [Lib.compactUpTo,AY],fun x=>by simp [Lib.compactUpTo]⟩
 | succ m ih=>
  intro hm
  obtain⟨h1,h2⟩:=ih (by omega)
  have hz:zs[m]? = some zs[m]:=List.getElem?_eq_getElem (by omega)
  have e1:zs.toArray[m]! = zs[m]:=by simp [hm,Nat.lt_of_succ_le hm]
  have et:zs.take (m+1)=zs.take m++ [zs[m]]:=by rw [List.take_add_one,hz];rfl
  rw [Lib.compactUpTo_succ,e1,et]
  by_cases hk:Lib.keeps zs.toArray m=true
  ·rw [if_pos hk]
   refine⟨List.pairwise_append.2 ⟨h1,by simp,fun x hx y hy=> ?_⟩,fun x=>by rw [List.mem_append,List.mem_append,h2]⟩
   have hy:y=zs[m]:=by simpa using hy
   subst hy
   have hx:=(h2 x).1 hx
   simp only [Lib.keeps,decide_eq_true_eq]at hk
   rcases hk with rfl | hk
   ·simp at hx
   ·have I7:m - 1<zs.length:=by omega
    have e2:zs.toArray[m - 1]! = zs[m - 1]:=by simp [I7]
    rw [e1,e2]at hk
    have h0:0<m:=by
     cases m with
     | zero=>simp at hx
     | succ m=>omega
    have hle : ∀ i j (hi:i<zs.length) (hj:j<zs.length),i<j→bytesLess zs[j] zs[i] = false:=fun i j hi hj Vc=>List.pairwise_iff_getElem.1 hs i j hi hj Vc
    have g1:bytesLess zs[m] zs[m - 1] = false:=hle (m - 1) m I7 (by omega) (by omega)
    have g2:bytesLess zs[m - 1] zs[m] = true:=by
     rcases x6 zs[m - 1] zs[m]with h | h | h
     ·exact h
     ·exact absurd h.symm hk
     ·rw [g1]at h;cases h
    obtain⟨i,hi,rfl⟩:=List.mem_iff_getElem.1 hx
    rw [List.length_take]at hi
    rw [List.getElem_take]
    by_cases qI:i=m - 1
    ·subst qI;exact g2
    ·have g3:=hle i (m - 1) (by omega) I7 (by omega)
     rcases x6 zs[i] zs[m - 1]with h | h | h
     ·exact DQ _ _ _ h g2
     ·rw [h];exact g2
     ·rw [g3]at h;cases h
  ·rw [if_neg hk]
   simp only [List.append_nil]
   refine⟨h1,fun x=> ?_⟩
   rw [h2]
   simp only [Lib.keeps,decide_eq_true_eq,not_or,ne_eq,Decidable.not_not]at hk
   obtain⟨k1,k2⟩:=hk
   have I7:m - 1<zs.length:=by omega
   have e2:zs.toArray[m - 1]! = zs[m - 1]:=by simp [I7]
   rw [e1,e2]at k2
   simp only [List.mem_append,List.mem_singleton]
   constructor
   ·exact .inl
   ·rintro(h | rfl)
    ·exact h
    ·rw [k2]
     exact List.mem_iff_getElem.2 ⟨m - 1,by rw [List.length_take];omega,by rw [List.getElem_take]⟩
theorem Gc (l:List aF):(lZ l).Pairwise fun a b=>bytesLess b a=false:=by
 have h:=List.pairwise_mergeSort (le:=fun x y:aF=>decide (x≤y)) (fun a b c h1 h2=> ?_) (fun a b=> ?_) l
 ·refine h.imp fun {a b} h=> ?_
  rw [decide_eq_true_eq]at h
  show Go.Op.bytesLess b a=false
  rw [Go.Proofs.bytesLess_eq]
  simpa using h
 ·rw [decide_eq_true_eq]at h1 h2 ⊢
  exact List.le_trans h1 h2
 ·have:=List.le_total a b
  simpa using this
theorem AZ (l:List aF):Lib.compact (lZ l)=gL l:=by
 obtain⟨h1,h2⟩:=Kx (lZ l) (Gc l) (lZ l).length (Nat.le_refl _)
 obtain⟨h3,h4⟩:=kU l
 refine xh h1 h3 fun x=> ?_
 rw [h4]
 refine(h2 x).trans ?_
 rw [List.take_length]
 exact(List.mergeSort_perm _ _).mem_iff
end Go.Abs

/-! Tc1 -/

namespace Go.Abs
set_option maxRecDepth 8000
open Go.Proofs
def jw:List Sm→List aF
 | []=> []
 | v::l=>if v.kind==4 then v.proc::jw l else jw l
theorem xj : ∀ l:List Sm,(jw l).length≤l.length
 | []=>Nat.le_refl _
 | v::l=>by
  simp only [jw]
  have:=xj l
  split <;> simp <;> omega
def Pc.calls (f:Pc):List aF:=gL (jw (Sm.dN f.body))
theorem A0 {name:aF} : ∀ {l:List Pc} {k:Nat} {f:Pc},jr name l=some f→∃ j,l[j]? = some f∧mf (fun f:Pc=>f.name==name) (k:Int) l=((k+j:Nat):Int)
 | g::l,k,f,h=>by
  simp only [jr]at h
  cases e:(g.name==name)
  ·rw [e]at h
   simp only [Bool.false_eq_true,if_false]at h
   obtain⟨j,h1,h2⟩:=A0 (k:=k+1) h
   refine⟨j+1,by simpa using h1, ?_⟩
   simp only [mf,e,Bool.false_eq_true,if_false]
   rw [show((k:Int)+1)=((k+1:Nat):Int)from rfl,h2]
   congr 1;omega
  ·rw [e]at h
   simp only [if_true,Option.some.injEq]at h
   exact⟨0,by simpa using h,by simp [mf,e]⟩
theorem XT {p:Pg} (h:p.iC) {name:aF} {f:Pc} (hf:p.find name=some f) (s:St):aE Tryz.prog tp [.dU (iB p) 0, .str name] s (.slice .shared 1 (f.calls.map encStr)) s:=by
 refine aE.pure ?_ (by simp [D.bR,D.ok,yI]) (by simp only [D.ok,Tag.ok,dJ];rfl) s
 obtain⟨oP,nq,pG⟩:=h.procs
 obtain⟨j,hj,tF⟩:=A0 (k:=0) hf
 have tF:p.at name=((j:Nat):Int):=by unfold Pg.at;simpa using tF
 have BX:=fun s=>Qr (p:=p) (by omega) name s
 rw [tF]at BX
 obtain⟨it,pb,DL⟩:=TF hj (by omega)
 have Fb:it.length≤900000:=by
  have e:=congrArg List.length pb
  obtain⟨a,b,e',_,_,e3,e4⟩:=(qx p).2 j f hj
  have e5:=qy p
  have e6:=congrArg List.length e3
  rw [e4]at e5
  simp only [List.length_map,List.length_append]at e e5 e6
  omega
 unfold S0
 obtain⟨fn,we,wu⟩:=Dt
 refine aE.intro ⟨fn,we,wu⟩ (Nat.le_of_ble_eq_true rfl) fun B hB=> ?_
 generalize hQ:iS (⟨[],[]⟩:St).aG.length (⟨[],[]⟩:St).aH.length _ _ (⟨[],[]⟩:St)=Q
 have⟨hF,hP,hY,hZ⟩:=bq
 refine Sem.kJ ?_
 repeat' (first
 | simp only [go_sem,hF,hP,hY,hZ]
 | (with_reducible refine aC hQ ?_;simp only [au,aw,Option.some.injEq,exists_eq_left',go_sem,hF,hP,hY,hZ];repeat' (first | exact Ok.out | with_reducible refine aB ?_ ?_ | (simp;done))))
 refine Sem.kJ ?_
 repeat' (first
 | simp only [go_sem,hF,hP,hY,hZ]
 | (with_reducible refine aC hQ ?_;simp only [au,aw,Option.some.injEq,exists_eq_left',go_sem,hF,hP,hY,hZ];repeat' (first | exact Ok.out | with_reducible refine aB ?_ ?_ | (simp;done))))
 refine Sem.kJ ?_
 repeat' (first
 | simp only [go_sem,hF,hP,hY,hZ]
 | (with_reducible refine CU (BX _) ?_)
 | (with_reducible refine CU (DL _) ?_)
 | (with_reducible refine aC hQ ?_;simp only [au,aw,Option.some.injEq,exists_eq_left',go_sem,hF,hP,hY,hZ];repeat' (first | exact Ok.out | with_reducible refine aB ?_ ?_ | (simp;done))))
 refine a8.jB 5 1 rfl ?_
 simp only [go_sem,hF,hP,hY,hZ]
 obtain⟨R,hR⟩ : ∃ R,R=jw (Sm.dN f.body):=⟨_,rfl⟩
 have Wp:R.length≤900000:=by rw [hR, ← pb];have:=xj (it.map Im.s);rw [List.length_map]at this;omega
 refine cd 0 1 (a8.ind (ι:=List Im×Nat×List aF×Nat) (fun i=>it.drop i.2.1=i.1∧i.2.2.1++jw (i.1.map Im.s)=R∧i.2.2.2=i.2.2.1.length) (fun i=>i.1.length)
  (fun i=> [(5, .slice (.tok 0) 1 (i.2.2.1.map encStr)),(12, .slice .shared 17 (it.map fu)),(13, .int .i64 (it.length:Int)),(14, .int .i64 (i.2.1:Int))]) (fun i=>⟨[],[some i.2.2.2]⟩) ?_ (it,0,[],0) ⟨rfl,by rw [hR,pb];rfl,rfl⟩)
 rintro⟨rest,k,out,n⟩ ⟨h1,h2,h3⟩ IH
 dsimp only at h1 h2 h3
 subst h3
 have oM:out.length≤900000:=by have:=congrArg List.length h2;rw [List.length_append]at this;omega
 cases rest with
 | cons a rest=>
  obtain⟨hP,g2,hF,g4⟩:=drop_cons h1
  have bl:k<4611686018427387904:=by omega
  have hY:(out.length+1)*17≤bc:=by unfold bc;omega
  simp only [List.map_cons,jw]at h2
  rcases Bool.eq_false_or_eq_true (a.s.kind==4)with c1 | c1
  ·simp only [c1,if_true]at h2
   repeat' (first
 | simp only [go_sem,hF,hP,hY,hZ,c1]
 | (with_reducible refine aC hQ ?_;simp only [au,aw,Option.some.injEq,exists_eq_left',go_sem,hF,hP,hY,hZ];repeat' (first | exact Ok.out | with_reducible refine aB ?_ ?_ | (simp;done))))
   refine ct 0 1 ?_ ?_ (IH (rest,k+1,out++ [a.s.proc],out.length+1) ⟨g2,by rw [← h2];simp,by simp⟩ (Nat.lt_succ_self _))
   ·(simp only [go_sem,hF,hP,hY,hZ,az bl,List.map_append,List.map_cons,List.map_nil,encStr];try exact aU)
   ·(simp only [go_sem,hF,hP,hY,hZ,az bl,List.map_append,List.map_cons,List.map_nil,encStr];try exact aU)
  ·simp only [c1,Bool.false_eq_true,if_false]at h2
   repeat' (first
 | simp only [go_sem,hF,hP,hY,hZ,c1]
 | (with_reducible refine aC hQ ?_;simp only [au,aw,Option.some.injEq,exists_eq_left',go_sem,hF,hP,hY,hZ];repeat' (first | exact Ok.out | with_reducible refine aB ?_ ?_ | (simp;done))))
   refine ct 0 1 ?_ ?_ (IH (rest,k+1,out,_) ⟨g2,h2,rfl⟩ (Nat.lt_succ_self _))
   ·(simp only [go_sem,hF,hP,hY,hZ,az bl];try exact aU)
   ·(simp only [go_sem,hF,hP,hY,hZ,az bl];try exact aU)
 | nil=>
  have hF:=drop_nil h1
  simp only [List.map_nil,jw,List.append_nil]at h2
  subst h2
  have AU:(lZ out).length=out.length:=List.length_mergeSort out
  repeat' (first
 | simp only [go_sem,hF,hP,hY,hZ]
 | (with_reducible refine aC hQ ?_;simp only [au,aw,Option.some.injEq,exists_eq_left',go_sem,hF,hP,hY,hZ];repeat' (first | exact Ok.out | with_reducible refine aB ?_ ?_ | (simp;done))))
  refine Sem.seq (Sem.sort (k:=5) (t:=0) (l:=out) hB (by decide) (by decide) (by decide) rfl rfl (by omega) ?_)
  show Sem _ _ _ _ _ _ _
  refine Sem.seq (Sem.compact (k:=5) (t:=0) (l:=lZ out) hB (by decide) rfl (by rw [AU];rfl) (by rw [AU];omega) ?_)
  rw [AZ]
  have Uk:f.calls=gL out:=by unfold Pc.calls;rw [hR]
  rw [Uk]at hQ
  refine iA (ac:= .ret) (Q:=Q) (tm:= [(32, .slice (.tok 0) 1 ((gL out).map encStr)),(4, .slice (.tok 0) 1 ((gL out).map encStr))]) (s:=⟨[],[some (gL out).length]⟩) ?_
  repeat' (first
 | simp only [go_sem,hF,hP,hY,hZ]
 | (with_reducible refine aC hQ ?_;simp only [au,aw,Option.some.injEq,exists_eq_left',go_sem,hF,hP,hY,hZ];repeat' (first | exact Ok.out | with_reducible refine aB ?_ ?_ | (simp;done))))
end Go.Abs
