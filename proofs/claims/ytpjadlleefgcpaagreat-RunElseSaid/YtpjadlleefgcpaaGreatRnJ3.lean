/-
  What is proved here: part 3 of the road to the claim (MayEq2, Sc1, Sc2, Sc3, ScP, Sc4, Rng, FineM, Sc5, Ar1, Ar2, Ar3, Srt1, Shelf, SortR, SrtP, Tc1, Tc2, Tc3, Bsl, Tc4, Tc5, Tc6, FlP, JmpP, Jm1, Jm2, MirRun, RunTot, RunFu, RunOk, Swap0, Swap2p, ToP, Al1, Al2, Al3, MirParse, Room1, Al4, Full1, Fits1, Fits2, MirEq, RefEq2, LawTo1, AlP, LawAl2, SwP, MirMapS, MapS, RightP, RunLo, RunNm, RunMc).
  No conditions.
-/
import Derived.Test.YtpjadlleefgcpaaGreatRnJ2
import Derived.Shelf.Small.Bits
import Derived.Shelf.Strconv.Itoa0
import Derived.Shelf.Sort.Plain
import Derived.Shelf.Slices.Turned
import Derived.Ground.Names2Prog
import Derived.Shelf.Slices.Clone
import Derived.Shelf.Slices.CompactS
import Derived.Shelf.Slices.Cells
import Derived.Shelf.Slices.In.SortNone
import Derived.Ground.SlgnProg
import Derived.Shelf.SlicesE.Clone
import Derived.Test.YtpjadlleefgcpaaGreatProg
import Derived.Sort.Walk0

set_option linter.unusedSimpArgs false
set_option linter.unusedVariables false
namespace Go.Abs
theorem mz : ∀ (a b:List It) (n:Nat),It.gL n (a++b)=(It.gL n a && It.gL (n+a.length) b)
 | [],b,n=>by simp[It.gL]
 |i::a,b,n=>by
  simp only[List.cons_append,It.gL,mz a b (n+1),List.length_cons]
  have:n+1+a.length=n+(a.length+1):=by omega
  rw[this]
  split<;>simp
theorem HW (n:Nat) (i:It):It.gL n [i] = true↔i.s.id=((n+1:Nat):Int)∧i.deep≤12∧i.s.one=true:=by
 simp only[It.gL]
 split
 ·rename_i h
  simp only[Bool.or_eq_true,bne_iff_ne,ne_eq,decide_eq_true_eq,Bool.not_eq_true']at h
  refine⟨fun h=>(Bool.false_ne_true h).elim,fun⟨h1,h2,h3⟩=>?_⟩
  rcases h with (h|h)|h
  ·exact(h h1).elim
  ·omega
  ·rw[h]at h3;cases h3
 ·rename_i h
  simp only[Bool.or_eq_true,bne_iff_ne,ne_eq,decide_eq_true_eq,Bool.not_eq_true',not_or,Decidable.not_not,Bool.not_eq_false]at h
  exact⟨fun _=>⟨h.1.1,by omega,h.2⟩,fun _=>rfl⟩
mutual
theorem DY (deep db:Int) (aN:Bool) : ∀ (s:Sm) (out:List It),∃ new,jR deep db aN out s=out++(⟨s,deep,db,aN⟩::new)
 | ⟨id,kind,labels,name,proc,x,has,args,aQ,e⟩,out=>by
  simp only[jR]
  split
  ·obtain⟨n1,h1⟩:=sS (deep+1) id false aQ (out++ [⟨⟨id,kind,labels,name,proc,x,has,args,aQ,e⟩,deep,db,aN⟩])
   obtain⟨n2,h2⟩:=sS (deep+1) id true e (eW (deep+1) id false (out++ [⟨⟨id,kind,labels,name,proc,x,has,args,aQ,e⟩,deep,db,aN⟩]) aQ)
   rw[h2,h1]
   exact⟨n1++n2,by simp⟩
  ·exact⟨[],rfl⟩
theorem sS (deep db:Int) (aN:Bool) : ∀ (l:List Sm) (out:List It),∃ new,eW deep db aN out l=out++new
 | [],out=>⟨[],by simp[eW]⟩
 | s::l,out=>by
  simp only[eW]
  split
  ·obtain⟨n1,h1⟩:=DY deep db aN s out
   obtain⟨n2,h2⟩:=sS deep db aN l (jR deep db aN out s)
   rw[h2,h1]
   exact⟨⟨s,deep,db,aN⟩::n1++n2,by simp⟩
  ·exact⟨[],by simp⟩
end
theorem Kk {nest:Int} {n:Nat} {s:Sm} (h:(Sm.rG nest n s).1=true) :
 n+1≤200∧s.id=((n+1:Nat):Int)∧s.one=true∧(Sm.iK (nest+1) (n+1) s.aQ).1=true∧(Sm.iK (nest+1) (Sm.iK (nest+1) (n+1) s.aQ).2 s.aN).1=true∧
 (Sm.rG nest n s).2=(Sm.iK (nest+1) (Sm.iK (nest+1) (n+1) s.aQ).2 s.aN).2:=by
 rw[Jv]at h ⊢
 split at h
 ·cases h
 rename_i h1
 simp only[Bool.or_eq_true,bne_iff_ne,ne_eq,decide_eq_true_eq,Bool.not_eq_true',not_or,Decidable.not_not,Bool.not_eq_false]at h1
 split at h
 ·cases h
 rename_i h2
 have wH:(Sm.iK (nest+1) (n+1) s.aQ).1=true:=by simpa using h2
 refine⟨by omega,h1.1.1.2, ?_,wH,h, ?_⟩
 ·rw[HV,h1.1.2,h1.2];rfl
 ·rw[if_neg (by simp only[Bool.or_eq_true,bne_iff_ne,ne_eq,decide_eq_true_eq,Bool.not_eq_true',not_or,Decidable.not_not,Bool.not_eq_false];exact h1),if_neg h2]
theorem vQ {nest:Int} {n:Nat} {l:List Sm} (h:(Sm.iK nest n l).1=true):(l = []∨nest≤12)∧Sm.iK nest n l=Sm.fX nest n l:=by
 unfold Sm.iK gate at *
 split at h
 ·cases h
 ·rename_i hc
  rw[if_neg hc]
  refine⟨?_,rfl⟩
  simp only[Bool.and_eq_true,decide_eq_true_eq,not_and]at hc
  cases l with
  |nil=>exact .inl rfl
  |cons s l=>right;simp only[List.length_cons]at hc;omega
mutual
theorem Wd : ∀ (s:Sm) (nest db:Int) (aN:Bool) (n:Nat) (out:List It),nest≤12→out.length≤n→n≤200→(Sm.rG nest n s).1=true→
 ∃ new,jR nest db aN out s=out++new∧It.gL n new=true∧n+new.length=(Sm.rG nest n s).2∧(Sm.rG nest n s).2≤200
 | ⟨id,kind,labels,name,proc,x,has,args,aQ,e⟩,nest,db,aN,n,out,Wf,ho,hn,h=>by
  obtain⟨h1,h2,h3,h4,h5,h6⟩:=Kk h
  dsimp only at h2 h4 h5 h6
  rw[h6]
  obtain⟨g1,e1⟩:=vQ h4
  rw[e1]at h4 h5 ⊢
  obtain⟨g2,e2⟩:=vQ h5
  rw[e2]at h5 ⊢
  have rr:It.gL n [(⟨⟨id,kind,labels,name,proc,x,has,args,aQ,e⟩,nest,db,aN⟩:It)] = true:=(HW _ _).2 ⟨h2,Wf,h3⟩
  obtain⟨n1,k1,k2,k3,k4⟩:=yW aQ (nest+1) id false (n+1) (out++ [⟨⟨id,kind,labels,name,proc,x,has,args,aQ,e⟩,nest,db,aN⟩]) g1 (by simp;omega) h1 h4
  obtain⟨n2,j1,j2,j3,j4⟩:=yW e (nest+1) id true _ (out++ [⟨⟨id,kind,labels,name,proc,x,has,args,aQ,e⟩,nest,db,aN⟩]++n1) g2 (by simp;omega) k4 h5
  simp only[jR]
  rw[if_pos (by simpa using Wf),k1,j1]
  refine⟨⟨⟨id,kind,labels,name,proc,x,has,args,aQ,e⟩,nest,db,aN⟩::(n1++n2),by simp, ?_, ?_,j4⟩
  ·have:(⟨⟨id,kind,labels,name,proc,x,has,args,aQ,e⟩,nest,db,aN⟩:It)::(n1++n2) = [⟨⟨id,kind,labels,name,proc,x,has,args,aQ,e⟩,nest,db,aN⟩]++n1++n2:=by simp
   rw[this,mz,mz,rr,Bool.true_and]
   have e3:n+([(⟨⟨id,kind,labels,name,proc,x,has,args,aQ,e⟩,nest,db,aN⟩:It)]++n1).length=(Sm.fX (nest+1) (n+1) aQ).2:=by simp;omega
   rw[e3,j2]
   have e4:n + [(⟨⟨id,kind,labels,name,proc,x,has,args,aQ,e⟩,nest,db,aN⟩:It)].length=n+1:=rfl
   rw[e4,k2];rfl
  ·simp only[List.length_cons,List.length_append];omega
theorem yW : ∀ (l:List Sm) (nest db:Int) (aN:Bool) (n:Nat) (out:List It),(l = []∨nest≤12)→out.length≤n→n≤200→(Sm.fX nest n l).1=true→
 ∃ new,eW nest db aN out l=out++new∧It.gL n new=true∧n+new.length=(Sm.fX nest n l).2∧(Sm.fX nest n l).2≤200
 | [],nest,db,aN,n,out,Wf,ho,hn,h=>⟨[],by simp[eW],rfl,by simp[Sm.fX],by simpa[Sm.fX]using hn⟩
 |s::l,nest,db,aN,n,out,Wf,ho,hn,h=>by
  have ahV:nest≤12:=Wf.resolve_left (by simp)
  simp only[Sm.fX]at h ⊢
  split at h
  ·cases h
  rename_i hc
  rw[if_neg hc]
  obtain⟨n1,k1,k2,k3,k4⟩:=Wd s nest db aN n out ahV ho hn (by simpa using hc)
  obtain⟨n2,j1,j2,j3,j4⟩:=yW l nest db aN _ (out++n1) (.inr ahV) (by simp;omega) k4 h
  simp only[eW]
  rw[if_pos (by simp only[decide_eq_true_eq];omega),k1,j1]
  refine⟨n1++n2,by simp, ?_,by simp;omega,j4⟩
  rw[mz,k2,k3,j2];rfl
end
mutual
theorem Wg : ∀ (s:Sm) (nest db:Int) (aN:Bool) (n:Nat) (out new:List It),jR nest db aN out s=out++new→It.gL n new=true→out.length≤n→n+new.length≤200→
 Sm.rG nest n s=(true,n+new.length)∧nest≤12
 | ⟨id,kind,labels,name,proc,x,has,args,aQ,e⟩,nest,db,aN,n,out,new,gY,hm,ho,hn=>by
  obtain⟨n0,h0⟩:=DY nest db aN ⟨id,kind,labels,name,proc,x,has,args,aQ,e⟩ out
  have e0:new = ⟨⟨id,kind,labels,name,proc,x,has,args,aQ,e⟩,nest,db,aN⟩::n0:=List.append_cancel_left (gY.symm.trans h0)
  subst e0
  have amg:(⟨⟨id,kind,labels,name,proc,x,has,args,aQ,e⟩,nest,db,aN⟩:It)::n0 = [⟨⟨id,kind,labels,name,proc,x,has,args,aQ,e⟩,nest,db,aN⟩]++n0:=rfl
  rw[amg,mz,Bool.and_eq_true]at hm
  obtain⟨oV,kJ⟩:=hm
  obtain⟨c1,c2,c3⟩:=(HW _ _).1 oV
  dsimp only at c1 c2 c3
  simp only[List.length_cons]at hn ⊢
  have ZR:eW (nest+1) id true (eW (nest+1) id false (out++ [⟨⟨id,kind,labels,name,proc,x,has,args,aQ,e⟩,nest,db,aN⟩]) aQ) e=out++([⟨⟨id,kind,labels,name,proc,x,has,args,aQ,e⟩,nest,db,aN⟩]++n0):=by
   simp only[jR]at gY
   rw[if_pos (by simpa using c2)]at gY
   exact gY
  obtain⟨n1,g1⟩:=sS (nest+1) id false aQ (out++ [⟨⟨id,kind,labels,name,proc,x,has,args,aQ,e⟩,nest,db,aN⟩])
  obtain⟨n2,g2⟩:=sS (nest+1) id true e (eW (nest+1) id false (out++ [⟨⟨id,kind,labels,name,proc,x,has,args,aQ,e⟩,nest,db,aN⟩]) aQ)
  have en:n0=n1++n2:=by
   rw[g2,g1]at ZR
   simp only[List.append_assoc,List.append_cancel_left_eq]at ZR
   exact ZR.symm
  subst en
  have ZS:It.gL (n+1) (n1++n2)=true:=kJ
  rw[mz,Bool.and_eq_true]at ZS
  simp only[List.length_append]at hn ⊢
  obtain⟨r1,r2⟩:=yX aQ (nest+1) id false (n+1) _ n1 g1 ZS.1 (by simp;omega) (by omega)
  obtain⟨q1,q2⟩:=yX e (nest+1) id true (n+1+n1.length) _ n2 g2 ZS.2 (by rw[g1];simp;omega) (by omega)
  refine⟨?_,c2⟩
  have gg : ∀ {l:List Sm} {m:Nat} {r:Bool×Nat},Sm.fX (nest+1) m l=r→(l = []∨nest+1≤12)→Sm.iK (nest+1) m l=r:=by
   intro l m r h1 h2
   unfold Sm.iK gate
   rw[if_neg]
   ·exact h1
   ·simp only [Bool.and_eq_true,decide_eq_true_eq,not_and]
    rcases h2 with h2|h2
    ·subst h2;simp
    ·omega
  have t1:=gg r1 r2
  have t2:=gg q1 q2
  rw[Jv]
  dsimp only
  rw[t1]
  dsimp only
  rw[t2]
  rw[HV,Bool.and_eq_true]at c3
  rw[if_neg]
  ·simp;omega
  ·simp only [Bool.or_eq_true,bne_iff_ne,ne_eq,decide_eq_true_eq,Bool.not_eq_true',not_or,Decidable.not_not,Bool.not_eq_false]
   exact⟨⟨⟨by omega,c1⟩,c3.1⟩,c3.2⟩
theorem yX : ∀ (l:List Sm) (nest db:Int) (aN:Bool) (n:Nat) (out new:List It),eW nest db aN out l=out++new→It.gL n new=true→out.length≤n→n+new.length≤200→
 Sm.fX nest n l=(true,n+new.length)∧(l = []∨nest≤12)
 | [],nest,db,aN,n,out,new,gY,hm,ho,hn=>by
  simp only[eW]at gY
  have:new = []:=by simpa using gY
  subst this
  exact⟨by simp[Sm.fX], .inl rfl⟩
 | s::l,nest,db,aN,n,out,new,gY,hm,ho,hn=>by
  simp only[eW]at gY
  rw[if_pos (by simp only[decide_eq_true_eq];omega)]at gY
  obtain⟨n1,g1⟩:=DY nest db aN s out
  obtain⟨n2,g2⟩:=sS nest db aN l (jR nest db aN out s)
  have en:new=(⟨s,nest,db,aN⟩::n1)++n2:=by
   rw[g2,g1,List.append_assoc,List.append_cancel_left_eq]at gY
   exact gY.symm
  subst en
  rw[mz,Bool.and_eq_true]at hm
  rw[List.length_append]at hn ⊢
  obtain⟨r1,r2⟩:=Wg s nest db aN n out _ g1 hm.1 ho (by omega)
  obtain⟨q1,q2⟩:=yX l nest db aN (n+(⟨s,nest,db,aN⟩::n1:List It).length) _ n2 g2 hm.2 (by rw[g1,List.length_append];omega) (by omega)
  refine⟨?_, .inr r2⟩
  simp only[Sm.fX,r1,Bool.not_true,Bool.false_eq_true,↓reduceIte,q1]
  congr 1;omega
end
theorem D0 : ∀ (l:List Pc) (out:List It),out.length≤200→(Pc.fX out.length l=true↔Pc.ja l=true∧∃ new,allM out l=out++new∧(out++new).length≤200∧It.gL out.length new=true)
 | [],out,ho=>by simp[Pc.fX,Pc.ja,allM,It.gL];exact ho
 | f::l,out,ho=>by
  have rH : ∀ (l:List Pc) (out:List It),∃ new,allM out l=out++new:=by
   intro l
   induction l with
   |nil=>intro out;exact⟨[],by simp[allM]⟩
   | cons f l ih=>
    intro out
    simp only[allM]
    split
    ·exact⟨_,rfl⟩
    ·obtain⟨n1,h1⟩:=ih (out++f.flat)
     exact⟨f.flat++n1,by rw[h1,List.append_assoc]⟩
  simp only[Pc.fX,Pc.ja]
  have amh:(decide ((f.params.length:Int) > 8) ||decide ((f.vars.length:Int) > 16) || !(isName f.name) || !(fh f.vars) || !(fh f.fin))=(!(isName f.name) ||decide ((f.params.length:Int) > 8) ||decide ((f.vars.length:Int) > 16) || !(fh f.vars) || !(fh f.fin)):=by
   cases isName f.name<;>simp
  rw[amh]
  split
  ·simp
  split
  ·simp
  have hg:Sm.iK 1 out.length f.body=Sm.fX 1 out.length f.body:=by unfold Sm.iK gate;rw[if_neg (by simp)]
  rw[hg]
  constructor
  ·intro h
   split at h
   ·cases h
   rename_i hc
   obtain⟨n1,k1,k2,k3,k4⟩:=yW f.body 1 0 false out.length [] (.inr (by omega)) (by simp) ho (by simpa using hc)
   have gY:f.flat=n1:=by unfold Pc.flat;rw[k1];rfl
   rw[← k3, ← List.length_append]at h
   obtain⟨hh,n2,j1,j2,j3⟩:=(D0 l (out++n1) (by rw[List.length_append];omega)).1 h
   refine⟨hh,n1++n2, ?_,by simpa using j2, ?_⟩
   ·simp only [allM,gY]
    rw[if_neg (by simp only[List.length_append,decide_eq_true_eq];omega),j1,List.append_assoc]
   ·rw[mz,k2, ← List.length_append,j3];rfl
  ·rintro⟨hh,new,j1,j2,j3⟩
   simp only[allM]at j1
   split at j1
   ·rename_i hc
    have:new=f.flat:=(List.append_cancel_left j1).symm
    subst this
    simp only[decide_eq_true_eq]at hc
    omega
   rename_i hc
   simp only[decide_eq_true_eq]at hc
   obtain⟨n2,g2⟩:=rH l (out++f.flat)
   have en:new=f.flat++n2:=by
    rw[g2,List.append_assoc]at j1
    exact(List.append_cancel_left j1).symm
   subst en
   rw[mz,Bool.and_eq_true]at j3
   rw[List.length_append,List.length_append]at j2
   obtain⟨r1,_⟩:=yX f.body 1 0 false out.length [] f.flat (by unfold Pc.flat;rfl) j3.1 (by simp) (by omega)
   rw[r1]
   simp only[Bool.not_true,Bool.false_eq_true,↓reduceIte]
   rw[← List.length_append]
   exact(D0 l (out++f.flat) (by rw[List.length_append];omega)).2 ⟨hh,n2,g2,by simp;omega,by rw[List.length_append];exact j3.2⟩
theorem A5 (p:Pg):p.Jx=p.may:=by
 have h:=D0 p.procs [] (by simp)
 unfold Pg.Jx Pg.may
 split
 ·rfl
 ·have e:Pc.fX 0 p.procs=(if !(Pc.ja p.procs)then false else if decide ((p.all.length:Int) > 200)then false else It.gL 0 p.all):=by
   rw[Bool.eq_iff_iff]
   have h':Pc.fX 0 p.procs=true↔_:=h
   rw[h']
   have ha:p.all=allM [] p.procs:=rfl
   constructor
   ·rintro⟨h1,new,h2,h3,h4⟩
    rw[ha,h2,h1]
    simp only[List.nil_append]at h3 ⊢
    simp only[Bool.not_true,Bool.false_eq_true,↓reduceIte]
    rw[if_neg (by simp only[decide_eq_true_eq];omega)]
    exact h4
   ·intro h1
    cases hh:Pc.ja p.procs
    ·rw[hh]at h1;simp at h1
    ·rw [hh]at h1
     simp only[Bool.not_true,Bool.false_eq_true,↓reduceIte]at h1
     split at h1
     ·cases h1
     ·rename_i hc
      simp only[decide_eq_true_eq]at hc
      exact⟨rfl,p.all,by rw[ha];rfl,by simp;omega,h1⟩
  exact e
set_option maxRecDepth 8000
open Go.Proofs
def atO (x:aK):List aK→Bool
 | []=>false
 |s::l=>if x==s then true else atO x l
def rU (pre:List aK):List aK→Bool
 | []=>false
 |s::l=>if fG pre s then true else rU (pre++ [s]) l
def fe (l:List aK):Bool:=rU [] l
theorem Wh {l:List aK} {k:Nat} {a:aK} (h:l[k]? = some a):l.take (k+1)=l.take k++ [a]:=by rw[List.take_add_one,h];rfl
theorem Gh {l:List aK} (hl:l.length<4611686018427387904) (g:Tag) (s:St):aH Tryz.prog pY [.slice g 1 (l.map encStr)] s (.bool (fe l)) s:=by
 refine aH.wk1 (d':= .slice .shared 1 (l.map encStr)) ?_ (Wk.shared _ _ _)
 refine aH.pure ?_ (by simp[D.bM,D.ok,Tag.ok,fL]) rfl s
 generalize h:fe l=p
 simp only[fe]at h
 unfold S0
 refine aH.go HF rfl fun B Q hB hQ=>?_
 have⟨hD,gA,gB,gC⟩:=bX
 repeat' (first
 |simp only[go_sem,hD,gA,gB,gC]
 |(with_reducible first|refine bq fun hc=>?_|refine br fun hc=>?_|refine bt (fun hc=>?_) fun hc=>?_)<;>(try simp only[hc,bs,↓reduceIte]at h)<;>try simp only[hc]
 |(with_reducible refine aJ hQ ?_;exact fU))
 refine fI 0 0 (bp.ind (ι:=List aK×Nat) (fun i=>l.drop i.2=i.1∧rU (l.take i.2) i.1=p) (fun i=>i.1.length)
  (fun i=> [(0, .slice .shared 1 (l.map encStr)),(5, .slice .shared 1 (l.map encStr)),(6, .int .i64 (l.length:Int)),(7, .int .i64 (i.2:Int))]) (fun i=>⟨[],[]⟩) ?_ (l,0) ⟨rfl,h⟩)
 rintro⟨rest,k⟩ ⟨h1,h⟩ IH
 dsimp only at h1 h
 cases rest with
 |nil=>
  have hD:=drop_nil h1
  simp only[rU]at h
  repeat' (first
 |simp only[go_sem,hD,gA,gB,gC]
 |(with_reducible first|refine bq fun hc=>?_|refine br fun hc=>?_|refine bt (fun hc=>?_) fun hc=>?_)<;>(try simp only[hc,bs,↓reduceIte]at h)<;>try simp only[hc]
 |(with_reducible refine aJ hQ ?_;exact fU))
 |cons a rest=>
  obtain⟨gA,g2,hD,g4⟩:=drop_cons h1
  have ct:k<4611686018427387904:=by omega
  simp only[rU]at h
  have hc:=kI (l:=l.take k) (by rw[List.length_take];omega) a
  have e1:List.drop 0 (List.take k (l.map encStr))=(l.take k).map encStr:=by simp[List.map_take]
  have c1:((0:Int)≤(k:Int))=True:=by simp
  have c2:((k:Int)≤(l.length:Int))=True:=by simp only[eq_iff_iff,iff_true];omega
  have e2:List.take k (l.map encStr)=(l.take k).map encStr:=by simp[List.map_take]
  repeat' (first
 |simp only[go_sem,hD,gA,gB,gC,e1,e2,c1,c2,or_true,true_and,and_self,ite_self,Int.toNat_natCast,List.drop_zero]
 |(with_reducible refine CU (hc _ _) ?_)
 |(with_reducible first|refine bq fun hc=>?_|refine br fun hc=>?_|refine bt (fun hc=>?_) fun hc=>?_)<;>(try simp only[hc,bs,↓reduceIte]at h)<;>try simp only[hc]
 |(with_reducible refine aJ hQ ?_;(try cases h);simp only[bh,bk,bO,bP,go_sem,hD,gA,gB,gC,e1,e2,c1,c2,or_true,true_and,and_self,ite_self,Int.toNat_natCast,List.drop_zero];try exact cJ))
  refine fm 0 0 ?_ ?_ (IH (rest,k+1) ⟨g2,by dsimp only;rw[Wh (by assumption)];exact h⟩ (Nat.lt_succ_self _))
  ·(simp only[go_sem,hD,gA,gB,gC,aM ct];try exact cd)
  ·(simp only[go_sem,hD,gA,gB,gC,aM ct];try exact cd)
set_option maxRecDepth 8000
open Go.Proofs
def yY (vars globals:List aK) (name:aK):List Pm→Int
 | []=>if fG vars name then 4 else if fG globals name then 1 else 0
 |a::l=>if a.name==name then(if a.ref then 3 else 2)else yY vars globals name l
def Pc.j9 (p:Pg) (f:Pc) (name:aK):Int:=yY f.vars p.globals name f.params
theorem Nr {p:Pg} {f:Pc} (hp:f.params.length<1000000000) (hv:f.vars.length<1000000000) (hg:p.globals.length<1000000000) (name:aK) (s:St):aH Tryz.prog xI [.agg (bV p), .agg (bS f), .str name] s (.int .i64 (f.j9 p name)) s:=by
 refine aH.pure ?_ (by simp[D.bM,D.ok,jj,zJ]) rfl s
 have uu:=kI (l:=f.vars) (by omega) name
 have wH:=kI (l:=p.globals) (by omega) name
 generalize h:f.j9 p name=q
 simp only[Pc.j9]at h
 unfold S0
 refine aH.go Jm rfl fun B Q hB hQ=>?_
 have⟨hD,gA,gB,gC⟩:=bX
 repeat' (first
 |simp only[go_sem,hD,gA,gB,gC]
 |(with_reducible refine aJ hQ ?_;exact bA))
 refine fI 2 0 (bp.ind (ι:=List Pm×Nat) (fun i=>f.params.drop i.2=i.1∧yY f.vars p.globals name i.1=q) (fun i=>i.1.length)
  (fun i=> [(2, .str name),(3, .ptr 0 0),(4, .ptr 1 0),(10, .slice .shared 2 (f.params.map iW)),(11, .int .i64 (f.params.length:Int)),(12, .int .i64 (i.2:Int))]) (fun i=>⟨[bV p,bS f],[]⟩) ?_ (f.params,0) ⟨rfl,h⟩)
 rintro⟨rest,k⟩ ⟨h1,h⟩ IH
 dsimp only at h1 h
 cases rest with
 | nil=>
  have hD:=drop_nil h1
  simp only[yY]at h
  rcases Bool.eq_false_or_eq_true (fG f.vars name)with b1|b1
  ·simp only [b1,if_true]at h
   subst h
   repeat' (first
 |simp only[go_sem,hD,gA,gB,gC,b1]
 |(with_reducible refine CU (uu _ _) ?_)
 |(with_reducible refine CU (wH _ _) ?_)
 | (with_reducible refine aJ hQ ?_;exact bA))
  ·simp only [b1,Bool.false_eq_true,if_false]at h
   rcases Bool.eq_false_or_eq_true (fG p.globals name)with b2|b2
   ·simp only [b2,if_true]at h
    subst h
    repeat' (first
 |simp only[go_sem,hD,gA,gB,gC,b1,b2]
 |(with_reducible refine CU (uu _ _) ?_)
 |(with_reducible refine CU (wH _ _) ?_)
 | (with_reducible refine aJ hQ ?_;exact bA))
   ·simp only [b2,Bool.false_eq_true,if_false]at h
    subst h
    repeat' (first
 |simp only[go_sem,hD,gA,gB,gC,b1,b2]
 |(with_reducible refine CU (uu _ _) ?_)
 |(with_reducible refine CU (wH _ _) ?_)
 |(with_reducible refine aJ hQ ?_;exact bA))
 | cons a rest=>
  obtain⟨gA,g2,hD,g4⟩:=drop_cons h1
  have ct:k<4611686018427387904:=by omega
  simp only[yY]at h
  rcases Bool.eq_false_or_eq_true (a.name==name)with b1|b1
  ·simp only [b1,if_true]at h
   rcases Bool.eq_false_or_eq_true a.ref with b2|b2
   ·simp only [b2,if_true]at h
    subst h
    repeat' (first
 |simp only[go_sem,hD,gA,gB,gC,b1,b2]
 | (with_reducible refine aJ hQ ?_;exact bA))
   ·simp only [b2,Bool.false_eq_true,if_false]at h
    subst h
    repeat' (first
 |simp only[go_sem,hD,gA,gB,gC,b1,b2]
 | (with_reducible refine aJ hQ ?_;exact bA))
  ·simp only [b1,Bool.false_eq_true,if_false]at h
   repeat' (first
 |simp only[go_sem,hD,gA,gB,gC,b1]
 | (with_reducible refine aJ hQ ?_;exact bA))
   refine fm 2 0 ?_ ?_ (IH (rest,k+1) ⟨g2,h⟩ (Nat.lt_succ_self _))
   ·(simp only[go_sem,hD,gA,gB,gC,aM ct];try exact cd)
   ·(simp only[go_sem,hD,gA,gB,gC,aM ct];try exact cd)
def iF (name:aK):List Pc→Option Pc
 | []=>none
 |f::l=>if f.name==name then some f else iF name l
def Pg.find (p:Pg) (name:aK):Option Pc:=iF name p.procs
def pc0:Pc:=⟨[],[],[],[],[]⟩
def auF (r:Option Pc):D:= .tuple [.agg (bS (r.getD pc0)), .bool r.isSome]
set_option maxRecDepth 8000
open Go.Proofs
def Pc.tO (f:Pc):List aK:=f.params.map (·.name)
def Pc.own (f:Pc):List aK:=f.tO++f.vars
theorem acy {f:Pc} (hp:f.params.length<1000000) (hv:f.vars.length<1000000) (s:St):aH Tryz.prog vj [.agg (bS f)] s (.slice .shared 1 (f.own.map encStr)) s:=by
 refine aH.pure ?_ (by simp[D.bM,D.ok,zJ]) (by simp only[D.ok,Tag.ok,fL];rfl) s
 generalize hR:f.own=R
 simp only[Pc.own]at hR
 unfold S0
 refine aH.go Lo rfl fun B Q hB hQ=>?_
 have⟨hD,gA,gB,gC⟩:=bX
 repeat' (first
 |simp only[go_sem,hD,gA,gB,gC]
 |(with_reducible refine aJ hQ ?_;exact bA))
 refine bp.rD 3 1 rfl ?_
 simp only[go_sem,hD,gA,gB,gC]
 refine fI 1 1 (bp.ind (ι:=List Pm×Nat×List aK×Nat) (fun i=>f.params.drop i.2.1=i.1∧i.2.2.1++i.1.map (·.name)=f.tO∧i.2.2.2=i.2.2.1.length) (fun i=>i.1.length)
  (fun i=> [(1, .ptr 0 0),(3, .slice (.tok 0) 1 (i.2.2.1.map encStr)),(7, .slice .shared 2 (f.params.map iW)),(8, .int .i64 (f.params.length:Int)),(9, .int .i64 (i.2.1:Int))]) (fun i=>⟨[bS f],[some i.2.2.2]⟩) ?_ (f.params,0,[],0) ⟨rfl,rfl,rfl⟩)
 rintro⟨rest,k,out,n⟩ ⟨h1,h2,h3⟩ IH
 dsimp only at h1 h2 h3
 subst h3
 have hlo:out.length+rest.length<1000000:=by
  have:=congrArg List.length h2
  simp only[List.length_append,List.length_map,Pc.tO]at this
  omega
 cases rest with
 |nil=>
  have hD:=drop_nil h1
  simp only[List.map_nil,List.append_nil]at h2
  subst hR
  rw[← h2]at hQ
  have fv:=lU (l:=out) (nx:=f.vars) rfl (by omega) (g:= .shared)
  repeat' (first
 |simp only[go_sem,hD,gA,gB,gC,fv]
 |(with_reducible refine aJ hQ ?_;exact bA))
 |cons a rest=>
  obtain⟨gA,g2,hD,g4⟩:=drop_cons h1
  have ct:k<4611686018427387904:=by omega
  have gB:(out.length+1)*17≤bD:=by unfold bD;omega
  repeat' (first
 |simp only[go_sem,hD,gA,gB,gC]
 |(with_reducible refine aJ hQ ?_;exact bA))
  refine fm 1 1 ?_ ?_ (IH (rest,k+1,out++ [a.name],out.length+1) ⟨g2,by rw[← h2];simp,by simp⟩ (Nat.lt_succ_self _))
  ·(simp only[go_sem,hD,gA,gB,gC,aM ct,List.map_append,List.map_cons,List.map_nil,encStr];try exact cd)
  ·(simp only[go_sem,hD,gA,gB,gC,aM ct,List.map_append,List.map_cons,List.map_nil,encStr];try exact cd)
def jb:aK:= [109,97,105,110]
def Sm.known (p:Pg) (f:Pc) (procs:List aK) (v:Sm):Bool:=
 !(v.said.any fun n=>f.j9 p n==0) && (v.kind != 4 ||(v.proc != jb && fG procs v.proc))
structure Pc.Small (p:Pg) (f:Pc):Prop where
 par:f.params.length<1000000
 vars:f.vars.length<1000000
 sA:p.globals.length<1000000
def EP (p:Pg) (f:Pc):List aK→Bool
 | []=>true
 |n::l=>if f.j9 p n==0 then false else EP p f l
theorem Kl (p:Pg) (f:Pc) : ∀ l,EP p f l = !(l.any fun n=>f.j9 p n==0)
 | []=>rfl
 |n::l=>by
  simp only[EP,List.any_cons,Kl p f l]
  cases (f.j9 p n==0)<;>simp
theorem Ns (v:Sm) (h:v.oU):v.said.length<3000000:=by
 have : ∀ (l:List Ar) (out:List aK),(Ar.said out l).length≤out.length+2*Ar.aU l:=by
  intro l
  induction l with
  |nil=>intro out;simp[Ar.said]
  |cons a l ih=>
   intro out
   simp only[Ar.said,Ar.aU]
   refine Nat.le_trans (ih _) ?_
   have:=mH a.x
   have:1≤a.x.size:=by obtain⟨_,_,_,_⟩:=a.x;simp[Ex.size]
   simp only[List.length_append]
   split<;>simp<;>omega
 have h1:=this v.args (v.vm++v.x.names)
 have h2:=mH v.x
 have h3:=h.2.2
 have h4:v.vm.length≤1:=by unfold Sm.vm;split<;>simp
 simp only[List.length_append]at h1
 unfold Sm.said
 omega
theorem aep {p:Pg} {f:Pc} {procs:List aK} {v:Sm} (hs:f.Small p) (yZ:procs.length<1000000) (hv:v.oU) (s:St):aH Tryz.prog sf [.agg (bV p), .agg (bS f), .slice .shared 1 (procs.map encStr), .agg (bd v)] s (.bool (v.known p f procs)) s:=by
 refine aH.pure ?_ (by simp[D.bM,D.ok,jj,zJ,qh,Tag.ok,fL]) rfl s
 have hn:=fun s=>DX hv s
 have hk:=fun n s=>Nr (p:=p) (f:=f) (by have:=hs.par;omega) (by have:=hs.vars;omega) (by have:=hs.sA;omega) n s
 have ahW:=kI (l:=procs) (by omega) v.proc
 have hl:=Ns v hv
 generalize h:v.known p f procs=q
 simp only[Sm.known, ← Kl]at h
 unfold S0
 refine aH.go HG rfl fun B Q hB hQ=>?_
 have⟨hD,gA,gB,gC⟩:=bX
 repeat' (first
 |simp only[go_sem,hD,gA,gB,gC]
 |(with_reducible refine CU (hn _) ?_)
 |(with_reducible refine aJ hQ ?_;exact bA))
 refine fI 3 0 (bp.ind (ι:=List aK×Nat) (fun i=>v.said.drop i.2=i.1∧(EP p f i.1 && (v.kind != 4 ||(v.proc != jb && fG procs v.proc)))=q) (fun i=>i.1.length)
  (fun i=> [(2, .slice .shared 1 (procs.map encStr)),(4, .ptr 0 0),(5, .ptr 1 0),(7, .ptr 2 0),(12, .slice .shared 1 (v.said.map encStr)),(13, .int .i64 (v.said.length:Int)),(14, .int .i64 (i.2:Int))]) (fun i=>⟨[bV p,bS f,bd v],[]⟩) ?_ (v.said,0) ⟨rfl,h⟩)
 rintro⟨rest,k⟩ ⟨h1,h⟩ IH
 dsimp only at h1 h
 cases rest with
 | nil=>
  have hD:=drop_nil h1
  simp only[EP,Bool.true_and]at h
  rcases Bool.eq_false_or_eq_true (v.kind != 4)with b1|b1
  ·simp only [b1,Bool.true_or]at h
   subst h
   repeat' (first
 |simp only[go_sem,hD,gA,gB,gC,b1]
 | (with_reducible refine aJ hQ ?_;exact bA))
  ·simp only [b1,Bool.false_or]at h
   rcases Bool.eq_false_or_eq_true (v.proc != jb)with b2|b2
   ·simp only [b2,Bool.true_and]at h
    unfold jb at b2
    have b3:(v.proc == [109,97,105,110]) = !(v.proc != [109,97,105,110]):=by simp only[bne,Bool.not_not]
    rw[b2]at b3
    simp only[Bool.not_true,Bool.not_false]at b3
    subst h
    repeat' (first
 |simp only[go_sem,hD,gA,gB,gC,b1,b2,b3]
 |(with_reducible refine CU (ahW _ _) ?_)
 | (with_reducible refine aJ hQ ?_;exact bA))
   ·simp only [b2,Bool.false_and]at h
    unfold jb at b2
    have b3:(v.proc == [109,97,105,110]) = !(v.proc != [109,97,105,110]):=by simp only[bne,Bool.not_not]
    rw[b2]at b3
    simp only[Bool.not_true,Bool.not_false]at b3
    subst h
    repeat' (first
 |simp only[go_sem,hD,gA,gB,gC,b1,b2,b3]
 |(with_reducible refine CU (ahW _ _) ?_)
 |(with_reducible refine aJ hQ ?_;exact bA))
 | cons a rest=>
  obtain⟨gA,g2,hD,g4⟩:=drop_cons h1
  have ct:k<4611686018427387904:=by omega
  simp only[EP]at h
  rcases Bool.eq_false_or_eq_true (f.j9 p a==0)with b1|b1
  ·simp only [b1,if_true,Bool.false_and]at h
   subst h
   repeat' (first
 |simp only[go_sem,hD,gA,gB,gC,b1]
 |(with_reducible refine CU (hk _ _) ?_)
 | (with_reducible refine aJ hQ ?_;exact bA))
  ·simp only [b1,Bool.false_eq_true,if_false]at h
   repeat' (first
 |simp only[go_sem,hD,gA,gB,gC,b1]
 |(with_reducible refine CU (hk _ _) ?_)
 | (with_reducible refine aJ hQ ?_;exact bA))
   refine fm 3 0 ?_ ?_ (IH (rest,k+1) ⟨g2,h⟩ (Nat.lt_succ_self _))
   ·(simp only[go_sem,hD,gA,gB,gC,aM ct];try exact cd)
   ·(simp only[go_sem,hD,gA,gB,gC,aM ct];try exact cd)
theorem P8 : ∀ (l pre:List aK),rU pre l=true↔(∃ x∈l,x∈pre)∨¬ l.Nodup
 | [],pre=>by simp[rU]
 | s::l,pre=>by
  simp only[rU]
  by_cases h:fG pre s=true
  ·simp only [h,if_true,true_iff]
   exact .inl ⟨s,List.mem_cons_self,(fx _ _).1 h⟩
  ·have h':s∉pre:=fun m=>h ((fx _ _).2 m)
   simp only[h,if_false,Bool.false_eq_true]
   rw[P8 l (pre++ [s])]
   simp only[List.mem_append,List.mem_singleton,List.mem_cons,List.nodup_cons,exists_eq_or_imp]
   constructor
   ·rintro(⟨x,m,h1 | h1⟩ | h1)
    ·exact .inl (.inr ⟨x,m,h1⟩)
    ·have h1:x=s:=by simpa using h1
     subst h1;exact .inr fun h=>h.1 m
    ·exact .inr fun h=>h1 h.2
   ·rintro((h1 | ⟨x,m,h1⟩) | h1)
    ·exact absurd h1 h'
    ·exact .inl ⟨x,m, .inl h1⟩
    ·by_cases m:s∈l
     ·exact .inl ⟨s,m, .inr (.inl rfl)⟩
     ·exact .inr fun h=>h1 ⟨m,h⟩
theorem pz (l:List aK):fe l=true↔¬ l.Nodup:=by
 unfold fe;rw[P8];simp
theorem Wi (a b:List aK):fe (a++b)=(fe a ||(fe b ||b.any (fG a))):=by
 have h:fe (a++b)=true↔(fe a ||(fe b ||b.any (fG a)))=true:=by
  rw[pz,List.nodup_append]
  simp only[Bool.or_eq_true,pz,List.any_eq_true,fx]
  constructor
  ·intro h
   by_cases ha:a.Nodup
   ·by_cases hb:b.Nodup
    ·refine .inr (.inr (Classical.byContradiction fun hn=>h ⟨ha,hb,fun x hx y hy e=>hn ⟨y,hy,e ▸ hx⟩⟩))
    ·exact .inr (.inl hb)
   ·exact .inl ha
  ·rintro(h | h | ⟨x,h1,h2⟩) ⟨h3,h4,h5⟩
   ·exact h h3
   ·exact h h4
   ·exact h5 x h2 x h1 rfl
 cases h1:fe (a++b)<;>cases h2:(fe a ||(fe b ||b.any (fG a)))<;>simp_all
theorem Nt (name:aK) : ∀ (l:List Pc) (k:Nat),(iF name l=none∧j7 name (k:Int) (l.map (·.name)) = -1)∨∃ f j,iF name l=some f∧l[j]? = some f∧j7 name (k:Int) (l.map (·.name))=((k+j:Nat):Int)
 | [],k=> .inl ⟨rfl,rfl⟩
 | f::l,k=>by
  by_cases h:f.name=name
  ·subst h
   refine .inr ⟨f,0,by simp[iF],rfl,by simp[j7]⟩
  ·have h1:(f.name==name)=false:=by simp [h]
   have h2:(name==f.name)=false:=by simp[Ne.symm h]
   simp only[iF,h1,Bool.false_eq_true,if_false,List.map_cons,j7,h2]
   rcases Nt name l (k+1)with ⟨g1,g2⟩|⟨g,j,g1,g2,g3⟩
   ·exact .inl ⟨g1,by rw[← g2];rfl⟩
   ·refine .inr ⟨g,j+1,g1,by simpa using g2, ?_⟩
    rw[show((k:Int)+1)=((k+1:Nat):Int)from rfl,g3]
    congr 1;omega
theorem sB {name:aK} {f:Pc} : ∀ {l:List Pc},iF name l=some f→f∈l∧f.name=name
 |g::l,h=>by
  simp only[iF]at h
  split at h
  ·rename_i e;cases h;exact⟨List.mem_cons_self,by simpa using e⟩
  ·have:=sB h;exact⟨List.mem_cons_of_mem _ this.1,this.2⟩
mutual
theorem Wj (deep db:Int) (aN:Bool) (out:List It) : ∀ s:Sm,∃ e,jR deep db aN out s=out++e
 | ⟨id,kind,labels,name,proc,x,has,args,aQ,e⟩=>by
  simp only[jR]
  split
  ·obtain⟨e1,h1⟩:=vR (deep+1) id false (out++ [⟨⟨id,kind,labels,name,proc,x,has,args,aQ,e⟩,deep,db,aN⟩]) aQ
   obtain⟨e2,h2⟩:=vR (deep+1) id true (eW (deep+1) id false (out++ [⟨⟨id,kind,labels,name,proc,x,has,args,aQ,e⟩,deep,db,aN⟩]) aQ) e
   rw[h2,h1]
   exact⟨_,by rw[List.append_assoc,List.append_assoc]⟩
  ·exact⟨_,rfl⟩
theorem vR (deep db:Int) (aN:Bool) (out:List It) : ∀ l:List Sm,∃ e,eW deep db aN out l=out++e
 | []=>⟨[],by simp[eW]⟩
 | s::l=>by
  simp only[eW]
  split
  ·obtain⟨e1,h1⟩:=Wj deep db aN out s
   obtain⟨e2,h2⟩:=vR deep db aN (jR deep db aN out s) l
   rw[h2,h1]
   exact⟨_,by rw[List.append_assoc]⟩
  ·exact⟨[],by simp⟩
end
mutual
theorem Wl (deep db:Int) (aN:Bool) (out:List It) : ∀ s:Sm,(jR deep db aN out s).length≤200→(∀ i∈jR deep db aN out s,i.deep≤12)→(jR deep db aN out s).map It.s=out.map It.s++s.pre
 | ⟨id,kind,labels,name,proc,x,has,args,aQ,e⟩,h1,h2=>by
  simp only[jR,Sm.pre]at h1 h2 ⊢
  by_cases hd:deep≤12
  ·simp only [hd,decide_true,if_true]at h1 h2 ⊢
   obtain⟨e2,g2⟩:=vR (deep+1) id true (eW (deep+1) id false (out++ [⟨⟨id,kind,labels,name,proc,x,has,args,aQ,e⟩,deep,db,aN⟩]) aQ) e
   have k1:(eW (deep+1) id false (out++ [⟨⟨id,kind,labels,name,proc,x,has,args,aQ,e⟩,deep,db,aN⟩]) aQ).length≤200:=by
    rw[g2,List.length_append]at h1;omega
   have k2 : ∀ i∈eW (deep+1) id false (out++ [⟨⟨id,kind,labels,name,proc,x,has,args,aQ,e⟩,deep,db,aN⟩]) aQ,i.deep≤12:=fun i m=>h2 i (by rw[g2];exact List.mem_append_left _ m)
   rw[za (deep+1) id true _ e h1 h2,za (deep+1) id false _ aQ k1 k2]
   simp
  ·simp only [hd,decide_false,Bool.false_eq_true,if_false]at h1 h2
   exact absurd (h2 _ (List.mem_append_right _ (List.mem_singleton.2 rfl))) (by simpa using hd)
theorem za (deep db:Int) (aN:Bool) (out:List It) : ∀ l:List Sm,(eW deep db aN out l).length≤200→(∀ i∈eW deep db aN out l,i.deep≤12)→(eW deep db aN out l).map It.s=out.map It.s++Sm.bN l
 | [],h1,h2=>by simp[eW,Sm.bN]
 | s::l,h1,h2=>by
  simp only[eW,Sm.bN]at h1 h2 ⊢
  by_cases hc:(out.length:Int)≤200
  ·simp only [hc,decide_true,if_true]at h1 h2 ⊢
   obtain⟨e2,g2⟩:=vR deep db aN (jR deep db aN out s) l
   have k1:(jR deep db aN out s).length≤200:=by rw[g2,List.length_append]at h1;omega
   have k2 : ∀ i∈jR deep db aN out s,i.deep≤12:=fun i m=>h2 i (by rw[g2];exact List.mem_append_left _ m)
   rw[za deep db aN _ l h1 h2,Wl deep db aN out s k1 k2]
   simp
  ·simp only [hc,decide_false,Bool.false_eq_true,if_false]at h1
   omega
end
theorem Nu : ∀ (l:List Pc) (out:List It),(allM out l).length≤200→(∀ i∈allM out l,i.deep≤12)→(∀ f∈l,f.flat.map It.s=Sm.bN f.body)∧(allM out l).map It.s=out.map It.s++(l.map fun f=>Sm.bN f.body).flatten
 | [],out,h1,h2=>⟨fun f m=>(by cases m),by simp[allM]⟩
 | f::l,out,h1,h2=>by
  simp only[allM]at h1 h2 ⊢
  by_cases hc:(((out++f.flat).length:Nat):Int) > 200
  ·simp only[hc,decide_true,if_true]at h1;omega
  ·simp only [hc,decide_false,Bool.false_eq_true,if_false]at h1 h2 ⊢
   obtain⟨k1,k2⟩:=Nu l (out++f.flat) h1 h2
   have rH : ∀ (l:List Pc) (out:List It),∃ e,allM out l=out++e:=by
    intro l
    induction l with
    |nil=>intro out;exact⟨[],by simp[allM]⟩
    |cons g l ih=>
     intro out
     simp only[allM]
     split
     ·exact⟨_,rfl⟩
     ·obtain⟨e,h⟩:=ih (out++g.flat);exact⟨g.flat++e,by rw[h];simp⟩
   obtain⟨e,he⟩:=rH l (out++f.flat)
   have k3:f.flat.map It.s=Sm.bN f.body:=by
    have:=za 1 0 false [] f.body (by
     have:f.flat.length≤200:=by simp only[List.length_append]at hc;omega
     exact this) (fun i m=>h2 i (by rw[he];exact List.mem_append_left _ (List.mem_append_right _ m)))
    simpa[Pc.flat]using this
   refine⟨fun g m=>?_, ?_⟩
   ·rcases List.mem_cons.1 m with rfl | m
    ·exact k3
    ·exact k1 g m
   ·rw[k2];simp[k3]
theorem D1 : ∀ (l:List It) (n:Nat),It.gL n l=true→(∀ i∈l,i.deep≤12)∧∀ (j:Nat) (i:It),l[j]? = some i→i.s.id=((n+j+1:Nat):Int)
 | [],n,h=>⟨fun i m=>(by cases m),fun j i h=>by simp at h⟩
 | a::l,n,h=>by
  simp only[It.gL]at h
  split at h
  ·cases h
  ·rename_i c
   simp only[Bool.or_eq_true,not_or,bne_iff_ne,ne_eq,Decidable.not_not,decide_eq_true_eq,Int.not_lt,gt_iff_lt]at c
   obtain⟨k1,k2⟩:=D1 l (n+1) h
   refine⟨fun i m=>?_,fun j i hj=>?_⟩
   ·rcases List.mem_cons.1 m with rfl | m
    ·exact c.1.2
    ·exact k1 i m
   ·cases j with
    |zero=>simp at hj;subst hj;rw[c.1.1]
    |succ j=>simp at hj;rw[k2 j i hj];congr 1;omega
theorem A6 {p:Pg} (h:p.may=true):p.all.length≤200∧It.gL 0 p.all=true:=by
 unfold Pg.may at h
 split at h
 ·cases h
 ·split at h
  ·cases h
  ·split at h
   ·cases h
   ·rename_i c
    exact⟨by simp only[decide_eq_true_eq,Int.not_lt,gt_iff_lt]at c;omega,h⟩
theorem xR {p:Pg} (h:p.may=true):(∀ f∈p.procs,f.flat.map It.s=Sm.bN f.body)∧p.all.map It.s=p.pre:=by
 obtain⟨h1,h2⟩:=A6 h
 have:=Nu p.procs [] h1 (D1 _ 0 h2).1
 simpa[Pg.pre,Pg.all]using this
theorem rV {p:Pg} (h:p.may=true) {i:Nat} {v:Sm} (hv:p.pre[i]? = some v):v.id=((i+1:Nat):Int):=by
 rw[← (xR h).2,List.getElem?_map,Option.map_eq_some_iff]at hv
 obtain⟨it,h1,rfl⟩:=hv
 have:=(D1 _ 0 (A6 h).2).2 i it h1
 rw[this];congr 1;omega
set_option maxRecDepth 8000
open Go.Proofs
structure Pg.jE (p:Pg):Prop where
 Tn:p.EO
 sz:p.size≤900000
mutual
theorem ahX : ∀ s:Sm,s.mw→s.size<1000000→∀ v∈s.pre,v.oU∧v.wx
 |⟨id,kind,labels,name,proc,x,has,args,aQ,aN⟩,h,hs,v,m=>by
  simp only[Sm.mw]at h
  simp only[Sm.size]at hs
  simp only[Sm.pre,List.mem_cons,List.mem_append]at m
  rcases m with rfl|m|m
  ·exact⟨⟨h.1.xt,fun a ha=>(h.1.arg a ha).2.1,by dsimp only;omega⟩,h.1⟩
  ·exact ER aQ h.2.1 (by omega) v m
  ·exact ER aN h.2.2 (by omega) v m
theorem ER : ∀ l:List Sm,Sm.gn l→Sm.aU l<1000000→∀ v∈Sm.bN l,v.oU∧v.wx
 | [],h,hs,v,m=>by simp[Sm.bN]at m
 |s::l,h,hs,v,m=>by
  simp only[Sm.gn]at h
  simp only[Sm.aU]at hs
  simp only[Sm.bN,List.mem_append]at m
  rcases m with m|m
  ·exact ahX s h.1 (by omega) v m
  ·exact ER l h.2 (by omega) v m
end
theorem Pg.jE.said {p:Pg} (h:p.jE) {f:Pc} (hf:f∈p.procs) : ∀ v∈Sm.bN f.body,v.oU:=fun v m=>by
 have h1:=Pc.cZ hf
 have h2:=h.sz
 simp only[Pg.size]at h2
 simp only[Pc.size]at h1
 exact(ER f.body (h.Tn.body f hf) (by omega) v m).1
theorem Pg.jE.small {p:Pg} (h:p.jE) {f:Pc} (hf:f∈p.procs):f.Small p:=by
 have h1:=Pc.cZ hf
 have h2:=h.sz
 simp only[Pg.size]at h2
 simp only[Pc.size]at h1
 exact⟨by omega,by omega,by omega⟩
theorem Pg.jE.procs {p:Pg} (h:p.jE):p.procs.length≤900000∧Pc.aU p.procs≤900000∧p.globals.length≤900000:=by
 have h2:=h.sz
 have h3:=Pc.dR p.procs
 simp only[Pg.size]at h2
 omega
def Pg.pn (p:Pg):List aK:=p.procs.map (·.name)
def zZ (p:Pg) (f:Pc) (procs:List aK):List Sm→Option Sm
 | []=>none
 |v::l=>if v.known p f procs then zZ p f procs l else some v
def tP (p:Pg) (procs:List aK):List Pc→Int×Int
 | []=>(0,0)
 |f::l=>if fe (p.globals++f.own)then(5,0)else match zZ p f procs (Sm.bN f.body)with|some v=>(5,v.id)|none=>tP p procs l
def Pg.oW (p:Pg):Bool:=match p.find jb with|none=>true|some m=>decide ((m.params.length:Int) > 0)
def Pg.scope (p:Pg):Int×Int:=
 if p.may then if fe p.globals ||(fe p.pn ||p.oW)then(5,0)else tP p p.pn p.procs else(1,0)
theorem ZT (p:Pg) (hl:p.globals.length<1000000) (n:aK):aH Tryz.prog qt ([.str n]++ [.ptr 0 0]) ⟨[bV p],[]⟩ (.bool (fG p.globals n)) ⟨[bV p],[]⟩:=by
 show aH Tryz.prog qt [.str n, .ptr 0 0] _ _ _
 have ri:=kI (l:=p.globals) (by omega) n
 refine aH.go Fg rfl fun B Q hB hQ=>?_
 have⟨hD,gA,gB,gC⟩:=bX
 repeat' (first
 |simp only[go_sem,hD,gA,gB,gC]
 |(with_reducible refine CU (ri _ _) ?_)
 |(with_reducible refine aJ hQ ?_;exact bA))
theorem acz (n m:Nat) (p:Pg):D.iG n m (gu p)=gu p:=jh n m _ (wy p)
attribute [go_sem] acz
theorem aeq {p:Pg} {f:Pc} {procs:List aK} {v:Sm} (hs:f.Small p) (yZ:procs.length<1000000) (hv:v.oU) (g:Tag) (s:St):aH Tryz.prog sf [.agg (bV p), .agg (bS f), .slice g 1 (procs.map encStr), .agg (bd v)] s (.bool (v.known p f procs)) s:=
 bW.su (.cons (Wk.refl _) (.cons (Wk.refl _) (.cons (Wk.shared g 1 _) (kv.refl _)))) (aep hs yZ hv s)
theorem xS {p:Pg} (h:p.jE) (s:St):aH Tryz.prog nH [.agg (bV p)] s (.agg [.int .i64 p.scope.1, .int .i64 p.scope.2]) s:=by
 refine aH.pure ?_ (by simp[D.bM,D.ok,jj]) rfl s
 have hm:=fun s=>HP h.Tn s
 simp only[A5]at hm
 obtain⟨s9,p7,sR⟩:=h.procs
 have dB:=fun s=>EL (p:=p) (by omega) s
 have rk:=fun s=>Gh (l:=p.globals) (by omega) .shared s
 have P9:p.pn.length=p.procs.length:=by simp[Pg.pn]
 have G9:=fun g s=>Gh (l:=p.pn) (by omega) g s
 have Nv:=fun g s=>(EM (l:=p.pn) (by omega) jb s).wk1 (Wk.shared g 1 (p.pn.map encStr))
 have Gi:=fun g s=>(show aH Tryz.prog ic [.slice g 1 (p.pn.map encStr), .str [109,97,105,110]] s (.int .i64 (j7 jb 0 p.pn)) s from Nv g s)
 generalize hR:p.scope=R
 simp only[Pg.scope]at hR
 unfold S0
 rcases Bool.eq_false_or_eq_true p.may with hb|hb
 case inr=>
  simp only[hb]at hm
  simp only[hb,Bool.false_eq_true,if_false]at hR
  subst hR
  refine aH.go yN rfl fun B Q hB hQ=>?_
  have⟨hD,gA,gB,gC⟩:=bX
  repeat' (first
 |simp only[go_sem,hD,gA,gB,gC]
 |(with_reducible refine CU (hm _) ?_)
 |(with_reducible refine aJ hQ ?_;exact bA))
 simp only[hb]at hm
 simp only[hb,if_true]at hR
 refine aH.go yN rfl fun B Q hB hQ=>?_
 have⟨hD,gA,gB,gC⟩:=bX
 repeat' (first
 |simp only[go_sem,hD,gA,gB,gC]
 |(with_reducible refine CU (hm _) ?_)
 |(with_reducible refine aJ hQ ?_;exact bA))
 refine bp.rD 3 1 rfl ?_
 simp only[go_sem,hD,gA,gB,gC]
 refine fI 2 1 (bp.ind (ι:=List Pc×Nat×List aK×Nat) (fun i=>p.procs.drop i.2.1=i.1∧i.2.2.1++i.1.map (·.name)=p.pn∧i.2.2.2=i.2.2.1.length) (fun i=>i.1.length)
  (fun i=> [(1, .ptr 0 0),(2, .ptr 1 0),(3, .slice (.tok 0) 1 (i.2.2.1.map encStr)),(18, .slice .shared 5 (p.procs.map bS)),(19, .int .i64 (p.procs.length:Int)),(20, .int .i64 (i.2.1:Int))]) (fun i=>⟨[bV p,[.int .i64 0, .int .i64 0]],[some i.2.2.2]⟩) ?_ (p.procs,0,[],0) ⟨rfl,rfl,rfl⟩)
 rintro⟨rest,k,out,n⟩ ⟨h1,h2,h3⟩ IH
 dsimp only at h1 h2 h3
 subst h3
 have hlo:out.length+rest.length≤900000:=by
  have:=congrArg List.length h2
  simp only[List.length_append,List.length_map]at this
  omega
 cases rest with
 |cons a rest=>
  obtain⟨gA,g2,hD,g4⟩:=drop_cons h1
  have ct:k<4611686018427387904:=by omega
  have gB:(out.length+1)*17≤bD:=by unfold bD;omega
  repeat' (first
 |simp only[go_sem,hD,gA,gB,gC]
 |(with_reducible refine aJ hQ ?_;exact bA))
  refine fm 2 1 ?_ ?_ (IH (rest,k+1,out++ [a.name],out.length+1) ⟨g2,by rw[← h2];simp,by simp⟩ (Nat.lt_succ_self _))
  ·(simp only[go_sem,hD,gA,gB,gC,aM ct,List.map_append,List.map_cons,List.map_nil,encStr];try exact cd)
  ·(simp only[go_sem,hD,gA,gB,gC,aM ct,List.map_append,List.map_cons,List.map_nil,encStr];try exact cd)
 | nil=>
  have hD:=drop_nil h1
  simp only[List.map_nil,List.append_nil]at h2
  subst h2
  rcases Bool.eq_false_or_eq_true (fe p.globals)with b1|b1
  ·simp only [b1,Bool.true_or,if_true]at hR
   subst hR
   repeat' (first
 |simp only[go_sem,hD,gA,gB,gC,b1]
 |(with_reducible refine CU (Gi _ _) ?_)
 |(with_reducible refine CU (rk _) ?_)
 |(with_reducible refine CU (G9 _ _) ?_)
 | (with_reducible refine aJ hQ ?_;exact bA))
  rcases Bool.eq_false_or_eq_true (fe p.pn)with b2|b2
  ·simp only [b1,b2,Bool.true_or,Bool.or_true,if_true]at hR
   subst hR
   repeat' (first
 |simp only[go_sem,hD,gA,gB,gC,b1,b2]
 |(with_reducible refine CU (Gi _ _) ?_)
 |(with_reducible refine CU (rk _) ?_)
 |(with_reducible refine CU (G9 _ _) ?_)
 | (with_reducible refine aJ hQ ?_;exact bA))
  rcases Nt jb p.procs 0 with ⟨e1,e2⟩|⟨m,j,e1,e2,e3⟩
  ·have b3:p.oW=true:=by unfold Pg.oW Pg.find;rw [e1]
   have hi:j7 jb 0 p.pn = -1:=e2
   simp only[b1,b2,b3,Bool.or_true,if_true]at hR
   subst hR
   simp only[hi]at Gi
   have d1:decide ((-1:Int)<0)=true:=by decide
   repeat' (first
 |simp only[go_sem,hD,gA,gB,gC,b1,b2,d1]
 |(with_reducible refine CU (Gi _ _) ?_)
 |(with_reducible refine CU (rk _) ?_)
 |(with_reducible refine CU (G9 _ _) ?_)
 | (with_reducible refine aJ hQ ?_;exact bA))
  have hi:j7 jb 0 p.pn=((j:Nat):Int):=by rw[show p.pn=p.procs.map (·.name)from rfl];simpa using e3
  simp only[hi]at Gi
  have d1:decide (((j:Nat):Int)<0)=false:=by simp
  have hj:j<p.procs.length:=(List.getElem?_eq_some_iff.1 e2).1
  have b3:p.oW=decide ((m.params.length:Int) > 0):=by unfold Pg.oW Pg.find;rw[e1]
  rw[b3]at hR
  rcases Bool.eq_false_or_eq_true (decide ((m.params.length:Int) > 0))with b4|b4
  ·simp only [b1,b2,b4,Bool.or_true,if_true]at hR
   subst hR
   repeat' (first
 |simp only[go_sem,hD,gA,gB,gC,b1,b2,d1,e2,b4]
 |(with_reducible refine CU (Gi _ _) ?_)
 |(with_reducible refine CU (rk _) ?_)
 |(with_reducible refine CU (G9 _ _) ?_)
 |(with_reducible refine aJ hQ ?_;exact bA))
  simp only[b1,b2,b4,Bool.or_false,Bool.false_eq_true,if_false]at hR
  repeat' (first
 |simp only[go_sem,hD,gA,gB,gC,b1,b2,d1,e2,b4]
 |(with_reducible refine CU (Gi _ _) ?_)
 |(with_reducible refine CU (rk _) ?_)
 |(with_reducible refine CU (G9 _ _) ?_)
 |(with_reducible refine CU (dB _) ?_)
 | (with_reducible refine aJ hQ ?_;exact bA))
  refine fI 2 1 (bp.ind (ι:=List Pc×Nat) (fun i=>p.procs.drop i.2=i.1∧tP p p.pn i.1=R) (fun i=>i.1.length)
   (fun i=> [(1, .ptr 0 0),(2, .ptr 1 0),(3, .slice (.tok 0) 1 (p.pn.map encStr)),(7, .dS (gu p) 0),(57, .slice .shared 5 (p.procs.map bS)),(58, .int .i64 (p.procs.length:Int)),(59, .int .i64 (i.2:Int))]) (fun i=>⟨[bV p,[.int .i64 0, .int .i64 0]],[some p.pn.length]⟩) ?_ (p.procs,0) ⟨rfl,hR⟩)
  clear IH h1 hD hR
  rintro⟨rest,k⟩ ⟨h1,hR⟩ IH
  dsimp only at h1 hR
  cases rest with
  |nil=>
   have hD:=drop_nil h1
   simp only[tP]at hR
   subst hR
   repeat' (first
 |simp only[go_sem,hD,gA,gB,gC]
 | (with_reducible refine aJ hQ ?_;exact bA))
  | cons f rest=>
   obtain⟨gA,g2,hD,g4⟩:=drop_cons h1
   have ct:k<4611686018427387904:=by omega
   have CO:=List.mem_of_getElem? gA
   have xT:=h.small CO
   have Wm:=fun s=>acy (f:=f) xT.par xT.vars s
   have jC:f.own.length<4611686018427387904:=by have h1:=xT.par;have h2:=xT.vars;unfold Pc.own Pc.tO;simp;omega
   have PV:=fun s=>Gh (l:=f.own) jC .shared s
   have FB:=fun {s:St} {o:Nat} (ho:s.al[o]? = some (bV p))=>A3 (l:=f.own) jC (f:=qt) (row:=bV p) (b:=fG p.globals) (jj p) (by with_unfolding_all rfl) (fun x _=>ZT p xT.sA x) ho
   have ZU:=fun {s:St} {o:Nat} (ho:s.al[o]? = some (bV p))=>(show aH Tryz.prog ie [.slice .shared 1 (f.own.map encStr), .ix 130 [.ptr o 0]] s (.bool (f.own.any (fG p.globals))) s from FB ho)
   simp only[tP,Wi,b1,Bool.false_or]at hR
   rcases Bool.eq_false_or_eq_true (fe f.own)with c1|c1
   ·simp only [c1,Bool.true_or,if_true]at hR
    subst hR
    repeat' (first
 |simp only[go_sem,hD,gA,gB,gC,c1]
 |(with_reducible refine CU (Wm _) ?_)
 |(with_reducible refine CU (PV _) ?_)
 |(with_reducible refine CU (ZU (by with_unfolding_all rfl)) ?_)
 | (with_reducible refine aJ hQ ?_;exact bA))
   rcases Bool.eq_false_or_eq_true (f.own.any (fG p.globals))with c2|c2
   ·simp only [c1,c2,Bool.false_or,if_true]at hR
    subst hR
    repeat' (first
 |simp only[go_sem,hD,gA,gB,gC,c1,c2]
 |(with_reducible refine CU (Wm _) ?_)
 |(with_reducible refine CU (PV _) ?_)
 |(with_reducible refine CU (ZU (by with_unfolding_all rfl)) ?_)
 | (with_reducible refine aJ hQ ?_;exact bA))
   simp only[c1,c2,Bool.or_self,Bool.false_eq_true,if_false]at hR
   obtain⟨it,rr,zb⟩:=ZA gA (by omega)
   rw[← rr]at hR
   have ahY:it.length≤900000:=by
    have e:=congrArg List.length rr
    have e2:=(kU p).2 k f gA
    obtain⟨a,b,e',_,_,e3,e4⟩:=e2
    have e5:=qO p
    have e6:=congrArg List.length e3
    rw[e4]at e5
    simp only[List.length_map,List.length_append]at e e5 e6
    omega
   repeat' (first
 |simp only[go_sem,hD,gA,gB,gC,c1,c2]
 |(with_reducible refine CU (Wm _) ?_)
 |(with_reducible refine CU (PV _) ?_)
 |(with_reducible refine CU (ZU (by with_unfolding_all rfl)) ?_)
 |(with_reducible refine CU (zb _) ?_)
 | (with_reducible refine aJ hQ ?_;exact bA))
   obtain⟨q,hq⟩ : ∃ q,zZ p f p.pn (it.map Im.s)=q:=⟨_,rfl⟩
   rw[hq]at hR
   refine fI 3 1 (bp.ind (ι:=List Im×Nat) (fun i=>it.drop i.2=i.1∧zZ p f p.pn (i.1.map Im.s)=q) (fun i=>i.1.length)
    (fun i=> [(1, .ptr 0 0),(2, .ptr 1 0),(3, .slice (.tok 0) 1 (p.pn.map encStr)),(7, .dS (gu p) 0),(9, .ptr 2 0),(57, .slice .shared 5 (p.procs.map bS)),(58, .int .i64 (p.procs.length:Int)),(59, .int .i64 (k:Int)),(76, .slice .shared 17 (it.map dP)),(77, .int .i64 (it.length:Int)),(78, .int .i64 (i.2:Int))]) (fun i=>⟨[bV p,[.int .i64 0, .int .i64 0],bS f],[some p.pn.length]⟩) ?_ (it,0) ⟨rfl,hq⟩)
   rintro⟨EB,n⟩ ⟨j1,j2⟩ IH'
   dsimp only at j1 j2
   have yF:=hD
   cases EB with
   |nil=>
    have atP:=drop_nil j1
    simp only[List.map_nil,zZ]at j2
    subst j2
    simp only at hR
    repeat' (first
 |simp only[go_sem,hD,gA,gB,gC,atP]
 | (with_reducible refine aJ hQ ?_;exact bA))
    refine fm 2 1 ?_ ?_ (IH (rest,k+1) ⟨g2,hR⟩ (Nat.lt_succ_self _))
    ·(simp only[go_sem,hD,gA,gB,gC,aM ct];try exact cd)
    ·(simp only[go_sem,hD,gA,gB,gC,aM ct];try exact cd)
   | cons i EB=>
    obtain⟨qQ,Qa,A7,jg4⟩:=drop_cons j1
    have A8:n<4611686018427387904:=by omega
    have CQ:i.s∈Sm.bN f.body:=by rw[← rr];exact List.mem_map_of_mem (List.mem_of_getElem? qQ)
    have Wn:=aeq (v:=i.s) xT (procs:=p.pn) (by omega) (h.said CO _ CQ)
    simp only[List.map_cons,zZ]at j2
    rcases Bool.eq_false_or_eq_true (i.s.known p f p.pn)with c3|c3
    ·simp only [c3,if_true]at j2
     repeat' (first
 |simp only[go_sem,hD,gA,gB,gC,A7,qQ,c3]
 |(with_reducible refine CU (Wn _ _) ?_)
 | (with_reducible refine aJ hQ ?_;exact bA))
     refine fm 3 1 ?_ ?_ (IH' (EB,n+1) ⟨Qa,j2⟩ (Nat.lt_succ_self _))
     ·(simp only[go_sem,hD,gA,gB,gC,aM A8];try exact cd)
     ·(simp only[go_sem,hD,gA,gB,gC,aM A8];try exact cd)
    ·simp only [c3,Bool.false_eq_true,if_false]at j2
     subst j2
     simp only at hR
     subst hR
     repeat' (first
 |simp only[go_sem,hD,gA,gB,gC,A7,qQ,c3]
 |(with_reducible refine CU (Wn _ _) ?_)
 |(with_reducible refine aJ hQ ?_;exact bA))
end Go.Abs
namespace Go.Abs
mutual
def Ex.tQ:Ex→Prop
 |⟨_,n,_,kids⟩=>n≤9223372036854775807∧Ex.z6 kids
def Ex.z6:List Ex→Prop
 | []=>True
 |x::l=>x.tQ∧Ex.z6 l
end
mutual
def Sm.tQ:Sm→Prop
 |⟨_,_,_,_,_,x,_,args,aQ,aN⟩=>x.tQ∧(∀ a∈args,a.x.tQ)∧Sm.z6 aQ∧Sm.z6 aN
def Sm.z6:List Sm→Prop
 | []=>True
 |s::l=>s.tQ∧Sm.z6 l
end
def Pg.tQ (p:Pg):Prop:=∀ f∈p.procs,Sm.z6 f.body
theorem Km {f:Pc} : ∀ {l:List Pc} {n:Nat},Pc.fX n l=true→f∈l→(isName f.name=true∧fh f.vars=true∧fh f.fin=true∧Pm.gL f.params=true)∧∃ n,(Sm.iK 1 n f.body).1=true
 |g::l,n,h,m=>by
  simp only[Pc.fX]at h
  split at h
  ·cases h
  rename_i c1
  split at h
  ·cases h
  rename_i c2
  split at h
  ·cases h
  rename_i c3
  simp only[Bool.or_eq_true,Bool.not_eq_true',not_or,Bool.not_eq_false]at c1 c2 c3
  rcases List.mem_cons.1 m with rfl|m
  ·exact⟨⟨c1.1.1.2,c1.1.2,c1.2,c2⟩,n,c3⟩
  ·exact Km h m
mutual
theorem To : ∀ (s:Sm) (nest:Int) (n:Nat),(Sm.rG nest n s).1=true→s.size<4611686018427387000→s.mw
 |⟨id,kind,labels,name,proc,x,has,args,aQ,aN⟩,nest,n,hm,hs=>by
  obtain⟨_,_,h1,h2,h3,_⟩:=Kk hm
  rw[Gg]
  rw[(vQ h2).2]at h2
  rw[(vQ h3).2]at h3
  refine⟨Np h1 hs,wY aQ _ _ h2 ?_,wY aN _ _ h3 ?_⟩<;>simp only[Sm.size]at hs<;>omega
theorem wY : ∀ (l:List Sm) (nest:Int) (n:Nat),(Sm.fX nest n l).1=true→Sm.aU l<4611686018427387000→Sm.gn l
 | [],_,_,_,_=>by simp only[Sm.gn]
 |s::l,nest,n,hm,hs=>by
  simp only[Sm.fX]at hm
  simp only[Sm.aU]at hs
  split at hm
  ·cases hm
  rename_i hc
  simp only[Bool.not_eq_true',Bool.not_eq_false]at hc
  exact⟨To s nest n hc (by omega),wY l nest _ hm (by omega)⟩
end
theorem Kn {p:Pg} (h:p.may=true) (hs:p.size<4611686018427387000):p.EO:=by
 have hf:=ZN h hs
 rw[← A5]at h
 unfold Pg.Jx at h
 split at h
 ·cases h
 refine⟨hf.sz,hf.sA,hf.ja,fun f m=>?_⟩
 obtain⟨_,n,e⟩:=Km h m
 rw[(vQ e).2]at e
 have:=Pc.cZ m
 simp only[Pg.size]at hs
 exact wY f.body 1 n e (by unfold Pc.size at this;omega)
set_option maxRecDepth 8000
open Go.Proofs
theorem ZV (x:It):(gM x)[1]? = some (.int .i64 x.s.kind):=nd rfl
theorem ZW (x:It):(gM x)[3]? = some (.str x.s.name):=nd rfl
theorem ZX (x:It):(gM x)[4]? = some (.str x.s.proc):=nd rfl
theorem aer (x:It):List.take 16 (gM x)=gM x:=nd rfl
attribute [go_sem] ZV ZW ZX aer
end Go.Abs
namespace Go.Abs
set_option maxRecDepth 8000
open Go.Proofs
def HX:List Pm→List Ar→Bool
 | [],_=>true
 |_,[]=>true
 |a::l,b::m=>if a.ref==b.ref then HX l m else false
def ES (l:List Pm) (m:List Ar):Bool:=if(l.length:Int)==(m.length:Int)then HX l m else false
def Sm.pM (p:Pg) (v:Sm):Bool:=v.kind==4 && match p.find v.proc with|none=>false|some q=>ES q.params v.args
theorem ahZ {l:List Pm} {m:List Ar} (hl:l.length<1000000000) (hm:m.length<1000000000) (s:St):aH Tryz.prog xJ [.slice .shared 2 (l.map iW), .slice .shared 6 (m.map fi)] s (.bool (ES l m)) s:=by
 refine aH.pure ?_ (by simp[D.bM,D.ok,Tag.ok,akz,LF]) rfl s
 generalize h:ES l m=q
 simp only[ES]at h
 unfold S0
 have b0:((l.length:Int) != (m.length:Int)) = !((l.length:Int)==(m.length:Int)):=rfl
 rcases Bool.eq_false_or_eq_true ((l.length:Int)==(m.length:Int))with b1|b1
 case inr=>
  rw[b1]at b0
  simp only[b1,Bool.false_eq_true,if_false]at h
  subst h
  refine aH.go AV rfl fun B Q hB hQ=>?_
  have⟨hD,gA,gB,gC⟩:=bX
  repeat' (first
 |simp only[go_sem,hD,gA,gB,gC,b0,Bool.not_false]
 |(with_reducible refine aJ hQ ?_;exact bA))
 rw[b1]at b0
 simp only[b1,if_true]at h
 have hlm:l.length=m.length:=by have:=eq_of_beq b1;omega
 refine aH.go AV rfl fun B Q hB hQ=>?_
 have⟨hD,gA,gB,gC⟩:=bX
 repeat' (first
 |simp only[go_sem,hD,gA,gB,gC,b0,Bool.not_true]
 |(with_reducible refine aJ hQ ?_;exact bA))
 refine fI 0 0 (bp.ind (ι:=List Pm×List Ar×Nat) (fun i=>l.drop i.2.2=i.1∧m.drop i.2.2=i.2.1∧HX i.1 i.2.1=q) (fun i=>i.1.length)
  (fun i=> [(1, .slice .shared 6 (m.map fi)),(12, .slice .shared 2 (l.map iW)),(13, .int .i64 (l.length:Int)),(14, .int .i64 (i.2.2:Int))]) (fun i=>⟨[],[]⟩) ?_ (l,m,0) ⟨rfl,rfl,h⟩)
 rintro⟨r1,r2,k⟩ ⟨h1,h2,h⟩ IH
 dsimp only at h1 h2 h
 cases r1 with
 |nil=>
  have hD:=drop_nil h1
  simp only[HX]at h
  subst h
  repeat' (first
 |simp only[go_sem,hD,gA,gB,gC]
 |(with_reducible refine aJ hQ ?_;exact bA))
 | cons a r1=>
  obtain⟨gA,g2,hD,g4⟩:=drop_cons h1
  cases r2 with
  |nil=>have:=List.drop_eq_nil_iff.1 h2;omega
  | cons b r2=>
   obtain⟨hgb,b2,Tp,_⟩:=drop_cons h2
   have ct:k<4611686018427387904:=by omega
   simp only[HX]at h
   have w1:(true==true)=true:=rfl
   have w2:(false==false)=true:=rfl
   have w3:(true==false)=false:=rfl
   have w4:(false==true)=false:=rfl
   have v1:(true != true)=false:=rfl
   have v2:(false != false)=false:=rfl
   have v3:(true != false)=true:=rfl
   have v4:(false != true)=true:=rfl
   rcases Bool.eq_false_or_eq_true a.ref with ea|ea
   ·rcases Bool.eq_false_or_eq_true b.ref with eb | eb
    ·simp only [ea,eb,w1,w2,if_true]at h
     repeat' (first
 |simp only[go_sem,hD,gA,gB,gC,hgb,Tp,ea,eb,w1,w2,v1,v2]
 | (with_reducible refine aJ hQ ?_;exact bA))
     refine fm 0 0 ?_ ?_ (IH (r1,r2,k+1) ⟨g2,b2,h⟩ (Nat.lt_succ_self _))
     ·(simp only[go_sem,hD,gA,gB,gC,aM ct];try exact cd)
     ·(simp only[go_sem,hD,gA,gB,gC,aM ct];try exact cd)
    ·simp only [ea,eb,w3,w4,Bool.false_eq_true,if_false]at h
     subst h
     repeat' (first
 |simp only[go_sem,hD,gA,gB,gC,hgb,Tp,ea,eb,w3,w4,v3,v4]
 | (with_reducible refine aJ hQ ?_;exact bA))
   ·rcases Bool.eq_false_or_eq_true b.ref with eb | eb
    ·simp only [ea,eb,w3,w4,Bool.false_eq_true,if_false]at h
     subst h
     repeat' (first
 |simp only[go_sem,hD,gA,gB,gC,hgb,Tp,ea,eb,w3,w4,v3,v4]
 | (with_reducible refine aJ hQ ?_;exact bA))
    ·simp only [ea,eb,w1,w2,if_true]at h
     repeat' (first
 |simp only[go_sem,hD,gA,gB,gC,hgb,Tp,ea,eb,w1,w2,v1,v2]
 |(with_reducible refine aJ hQ ?_;exact bA))
     refine fm 0 0 ?_ ?_ (IH (r1,r2,k+1) ⟨g2,b2,h⟩ (Nat.lt_succ_self _))
     ·(simp only[go_sem,hD,gA,gB,gC,aM ct];try exact cd)
     ·(simp only[go_sem,hD,gA,gB,gC,aM ct];try exact cd)
theorem ah0 {p:Pg} {v:Sm} (h:p.jE) (hv:v.oU) (s:St):aH Tryz.prog xG [.agg (bV p), .agg (bd v)] s (.bool (v.pM p)) s:=by
 refine aH.pure ?_ (by simp[D.bM,D.ok,jj,qh]) rfl s
 obtain⟨s9,p7,sR⟩:=h.procs
 have sO:v.args.length<1000000000:=by have:=Ar.dR v.args;have:=hv.2.2;omega
 generalize hR:v.pM p=R
 simp only[Sm.pM]at hR
 unfold S0
 have b0:(v.kind != 4) = !(v.kind==4):=rfl
 rcases Bool.eq_false_or_eq_true (v.kind==4)with b1|b1
 case inr=>
  rw[b1]at b0
  simp only[b1,Bool.false_and]at hR
  subst hR
  refine aH.go AX rfl fun B Q hB hQ=>?_
  have⟨hD,gA,gB,gC⟩:=bX
  repeat' (first
 |simp only[go_sem,hD,gA,gB,gC,b0,Bool.not_false]
 |(with_reducible refine aJ hQ ?_;exact bA))
 rw[b1]at b0
 simp only[b1,Bool.true_and,Pg.find]at hR
 refine aH.go AX rfl fun B Q hB hQ=>?_
 have⟨hD,gA,gB,gC⟩:=bX
 repeat' (first
 |simp only[go_sem,hD,gA,gB,gC,b0,Bool.not_true]
 |(with_reducible refine aJ hQ ?_;exact bA))
 refine fI 2 0 (bp.ind (ι:=List Pc×Nat) (fun i=>p.procs.drop i.2=i.1∧(match iF v.proc i.1 with|none=>false|some q=>ES q.params v.args)=R) (fun i=>i.1.length)
  (fun i=> [(3, .ptr 1 0),(11, .slice .shared 5 (p.procs.map bS)),(12, .int .i64 (p.procs.length:Int)),(13, .int .i64 (i.2:Int))]) (fun i=>⟨[bV p,bd v],[]⟩) ?_ (p.procs,0) ⟨rfl,hR⟩)
 clear hR
 rintro⟨rest,k⟩ ⟨h1,hR⟩ IH
 dsimp only at h1 hR
 cases rest with
 |nil=>
  have hD:=drop_nil h1
  simp only[iF]at hR
  subst hR
  repeat' (first
 |simp only[go_sem,hD,gA,gB,gC]
 |(with_reducible refine aJ hQ ?_;exact bA))
 | cons a rest=>
  obtain⟨gA,g2,hD,g4⟩:=drop_cons h1
  have ct:k<4611686018427387904:=by omega
  have xT:=h.small (List.mem_of_getElem? gA)
  have hsa:=fun s=>ahZ (l:=a.params) (m:=v.args) (by have:=xT.par;omega) sO s
  simp only[iF]at hR
  rcases Bool.eq_false_or_eq_true (a.name==v.proc)with c1|c1
  ·simp only [c1,if_true]at hR
   subst hR
   repeat' (first
 |simp only[go_sem,hD,gA,gB,gC,c1]
 |(with_reducible refine CU (hsa _) ?_)
 | (with_reducible refine aJ hQ ?_;exact bA))
  ·simp only [c1,Bool.false_eq_true,if_false]at hR
   repeat' (first
 |simp only[go_sem,hD,gA,gB,gC,c1]
 | (with_reducible refine aJ hQ ?_;exact bA))
   refine fm 2 0 ?_ ?_ (IH (rest,k+1) ⟨g2,hR⟩ (Nat.lt_succ_self _))
   ·(simp only[go_sem,hD,gA,gB,gC,aM ct];try exact cd)
   ·(simp only[go_sem,hD,gA,gB,gC,aM ct];try exact cd)
def HY (p:Pg):List Sm→Option Sm
 | []=>none
 |v::l=>if v.kind==4 && !(v.pM p)then some v else HY p l
def rW (c:Int):Option Sm→Int×Int
 |some v=>(c,v.id)
 |none=>(0,0)
def Pg.arity (p:Pg):Int×Int:=if p.scope.1==0 then rW 6 (HY p p.pre)else(1,0)
theorem Pg.jE.pre {p:Pg} (h:p.jE) : ∀ v∈p.pre,v.oU:=fun v m=>by
 simp only[Pg.pre,List.mem_flatten,List.mem_map]at m
 obtain⟨l,⟨f,hf,rfl⟩,m⟩:=m
 exact h.said hf v m
theorem Nw {p:Pg} (h:p.jE) (s:St):aH Tryz.prog se [.agg (bV p)] s (.agg [.int .i64 p.arity.1, .int .i64 p.arity.2]) s:=by
 refine aH.pure ?_ (by simp[D.bM,D.ok,jj]) rfl s
 obtain⟨s9,p7,sR⟩:=h.procs
 have ri:=fun s=>xS h s
 have dB:=fun s=>EL (p:=p) (by omega) s
 have hL:=(kU p).1
 have xU:=qO p
 generalize hR:p.arity=R
 simp only[Pg.arity]at hR
 unfold S0
 have b0:(p.scope.1 != 0) = !(p.scope.1==0):=rfl
 rcases Bool.eq_false_or_eq_true (p.scope.1==0)with b1|b1
 case inr=>
  rw[b1]at b0
  simp only[b1,Bool.false_eq_true,if_false]at hR
  subst hR
  refine aH.go yO rfl fun B Q hB hQ=>?_
  have⟨hD,gA,gB,gC⟩:=bX
  repeat' (first
 |simp only[go_sem,hD,gA,gB,gC,b0,Bool.not_false]
 |(with_reducible refine CU (ri _) ?_)
 |(with_reducible refine aJ hQ ?_;exact bA))
 rw[b1]at b0
 simp only[b1,if_true, ← hL]at hR
 refine aH.go yO rfl fun B Q hB hQ=>?_
 have⟨hD,gA,gB,gC⟩:=bX
 repeat' (first
 |simp only[go_sem,hD,gA,gB,gC,b0,Bool.not_true,pL]
 |(with_reducible refine CU (ri _) ?_)
 |(with_reducible refine CU (dB _) ?_)
 |(with_reducible refine aJ hQ ?_;exact bA))
 refine fI 2 0 (bp.ind (ι:=List Im×Nat) (fun i=>p.a7.L.drop i.2=i.1∧rW 6 (HY p (i.1.map Im.s))=R) (fun i=>i.1.length)
  (fun i=> [(1, .ptr 0 0),(2, .ptr 1 0),(14, .slice .shared 17 (p.a7.L.map dP)),(15, .int .i64 (p.a7.L.length:Int)),(16, .int .i64 (i.2:Int))]) (fun i=>⟨[bV p,[.int .i64 0, .int .i64 0]],[]⟩) ?_ (p.a7.L,0) ⟨rfl,hR⟩)
 clear hR
 rintro⟨rest,k⟩ ⟨h1,hR⟩ IH
 dsimp only at h1 hR
 cases rest with
 |nil=>
  have hD:=drop_nil h1
  simp only[List.map_nil,HY,rW]at hR
  subst hR
  repeat' (first
 |simp only[go_sem,hD,gA,gB,gC]
 |(with_reducible refine aJ hQ ?_;exact bA))
 | cons a rest=>
  obtain⟨gA,g2,hD,g4⟩:=drop_cons h1
  have ct:k<4611686018427387904:=by omega
  have CQ:a.s∈p.pre:=by rw[← hL];exact List.mem_map_of_mem (List.mem_of_getElem? gA)
  have Qb:=fun s=>ah0 h (h.pre _ CQ) s
  simp only[List.map_cons,HY]at hR
  rcases Bool.eq_false_or_eq_true (a.s.kind==4)with c1|c1
  ·rcases Bool.eq_false_or_eq_true (a.s.pM p)with c2 | c2
   ·simp only [c1,c2,Bool.not_true,Bool.and_false,Bool.false_eq_true,if_false]at hR
    repeat' (first
 |simp only[go_sem,hD,gA,gB,gC,c1,c2]
 |(with_reducible refine CU (Qb _) ?_)
 | (with_reducible refine aJ hQ ?_;exact bA))
    refine fm 2 0 ?_ ?_ (IH (rest,k+1) ⟨g2,hR⟩ (Nat.lt_succ_self _))
    ·(simp only[go_sem,hD,gA,gB,gC,aM ct];try exact cd)
    ·(simp only[go_sem,hD,gA,gB,gC,aM ct];try exact cd)
   ·simp only [c1,c2,Bool.not_false,Bool.and_true,if_true,rW]at hR
    subst hR
    repeat' (first
 |simp only[go_sem,hD,gA,gB,gC,c1,c2]
 |(with_reducible refine CU (Qb _) ?_)
 | (with_reducible refine aJ hQ ?_;exact bA))
  ·simp only [c1,Bool.false_and,Bool.false_eq_true,if_false]at hR
   repeat' (first
 |simp only[go_sem,hD,gA,gB,gC,c1]
 |(with_reducible refine CU (Qb _) ?_)
 | (with_reducible refine aJ hQ ?_;exact bA))
   refine fm 2 0 ?_ ?_ (IH (rest,k+1) ⟨g2,hR⟩ (Nat.lt_succ_self _))
   ·(simp only[go_sem,hD,gA,gB,gC,aM ct];try exact cd)
   ·(simp only[go_sem,hD,gA,gB,gC,aM ct];try exact cd)
theorem D2 {p:Pg} (h:(p.scope.1==0)=true):p.may=true:=by
 unfold Pg.scope at h
 split at h
 ·assumption
 ·cases h
def oX (out:List aK):List aK→aK→Bool→aK×Bool
 | [],c,a=>(c,a)
 |s::l,c,a=>if !(fG out s) && (!a ||bytesLess s c)then oX out l s true else oX out l c a
def Wo (l out:List aK):List aK:=if(oX out l [] false).2 then out++ [(oX out l [] false).1]else out
def q9 (l:List aK):Nat→List aK→List aK
 | 0,out=>out
 |n+1,out=>q9 l n (Wo l out)
def ly (l:List aK):List aK:=q9 l l.length []
end Go.Abs
namespace Go.Proofs
open Go.Shelf
def Tryz.Pp:Go.Shelf.Ren:=⟨fun| 190=>173| 125=>194| 258=>193| 128=>217| 129=>218| 302=>208| 303=>209| 304=>210| 305=>211| 306=>212| 307=>213| 308=>214| 309=>215| 310=>216| 333=>224| 329=>225| 330=>226| 334=>227| 335=>228| 336=>229| 344=>230|n=>n,fun| 31=>22| 9=>9| 3=>3| 46=>208| 0=>0| 51=>227| 53=>194| 4=>4| 183=>220| 182=>219| 131=>139| 5=>5| 218=>231| 222=>235| 228=>237| 229=>238|n=>n,fun|n=>n⟩
theorem Tryz.Qc:Go.Proofs.Lays.n190 Tryz.prog Tryz.Pp:= {
 mixed:=by kernel_rfl
 f125:=Tryz.func194.trans (congrArg some (by kernel_rfl))
 f128:=Tryz.func217.trans (congrArg some (by kernel_rfl))
 f129:=Tryz.func218.trans (congrArg some (by kernel_rfl))
 f190:=Tryz.func173.trans (congrArg some (by kernel_rfl))
 f258:=Tryz.func193.trans (congrArg some (by kernel_rfl))
 f302:=Tryz.func208.trans (congrArg some (by kernel_rfl))
 f303:=Tryz.func209.trans (congrArg some (by kernel_rfl))
 f304:=Tryz.func210.trans (congrArg some (by kernel_rfl))
 f305:=Tryz.func211.trans (congrArg some (by kernel_rfl))
 f306:=Tryz.func212.trans (congrArg some (by kernel_rfl))
 f307:=Tryz.func213.trans (congrArg some (by kernel_rfl))
 f308:=Tryz.func214.trans (congrArg some (by kernel_rfl))
 f309:=Tryz.func215.trans (congrArg some (by kernel_rfl))
 f310:=Tryz.func216.trans (congrArg some (by kernel_rfl))
 f329:=Tryz.func225.trans (congrArg some (by kernel_rfl))
 f330:=Tryz.func226.trans (congrArg some (by kernel_rfl))
 f333:=Tryz.func224.trans (congrArg some (by kernel_rfl))
 f334:=Tryz.func227.trans (congrArg some (by kernel_rfl))
 f335:=Tryz.func228.trans (congrArg some (by kernel_rfl))
 f336:=Tryz.func229.trans (congrArg some (by kernel_rfl))
 f344:=Tryz.func230.trans (congrArg some (by kernel_rfl))
 t0:=Tryz.underlying0
 a0:=Tryz.isAgg0
 z0:=Tryz.sizeOf0
 v0:=Tryz.zeroValue0
 t3:=Tryz.underlying3
 a3:=Tryz.isAgg3
 z3:=Tryz.sizeOf3
 v3:=Tryz.zeroValue3
 t4:=Tryz.underlying4
 a4:=Tryz.isAgg4
 z4:=Tryz.sizeOf4
 v4:=Tryz.zeroValue4
 t5:=Tryz.underlying5
 a5:=Tryz.isAgg5
 z5:=Tryz.sizeOf5
 v5:=Tryz.zeroValue5
 t9:=Tryz.underlying9
 a9:=Tryz.isAgg9
 z9:=Tryz.sizeOf9
 v9:=Tryz.zeroValue9
 t31:=Tryz.underlying22
 a31:=Tryz.isAgg22
 z31:=Tryz.sizeOf22
 v31:=Tryz.zeroValue22
 t46:=Tryz.underlying208
 a46:=Tryz.isAgg208
 z46:=Tryz.sizeOf208
 v46:=Tryz.zeroValue208
 t51:=Tryz.underlying227
 a51:=Tryz.isAgg227
 z51:=Tryz.sizeOf227
 v51:=Tryz.zeroValue227
 t53:=Tryz.underlying194
 a53:=Tryz.isAgg194
 z53:=Tryz.sizeOf194
 v53:=Tryz.zeroValue194
 t131:=Tryz.underlying139
 a131:=Tryz.isAgg139
 z131:=Tryz.sizeOf139
 v131:=Tryz.zeroValue139
 t182:=Tryz.underlying219
 a182:=Tryz.isAgg219
 z182:=Tryz.sizeOf219
 v182:=Tryz.zeroValue219
 t183:=Tryz.underlying220
 a183:=Tryz.isAgg220
 z183:=Tryz.sizeOf220
 v183:=Tryz.zeroValue220
 t218:=Tryz.underlying231
 a218:=Tryz.isAgg231
 z218:=Tryz.sizeOf231
 v218:=Tryz.zeroValue231
 t222:=Tryz.underlying235
 a222:=Tryz.isAgg235
 z222:=Tryz.sizeOf235
 v222:=Tryz.zeroValue235
 t228:=Tryz.underlying237
 a228:=Tryz.isAgg237
 z228:=Tryz.sizeOf237
 v228:=Tryz.zeroValue237
 t229:=Tryz.underlying238
 a229:=Tryz.isAgg238
 z229:=Tryz.sizeOf238
 v229:=Tryz.zeroValue238}
open Go.Sort Go.RowKit in
theorem Tryz.slices_Sort_string (D3 off cap:Nat) (ss:List (List UInt8)) (w:World) (hH:Holds encStr w D3 off ss.toArray) (atQ:D3<w.heap.size) (dU:ss.length<4611686018427387904) :
 Calls Tryz.prog 173 #[.slice (some ⟨D3,off,none⟩) ss.length cap] w fun e w'=>
  e = .returned (.tuple #[])∧∃ n os,w'=grow (putRow encStr (Sort.ahead w n) D3 off (ss.mergeSort fun x y=>decide (x≤y)).toArray) os:=Any.slices_Sort_string Tryz.Qc D3 off cap ss w hH atQ dU
def Tryz.Pq:Go.Shelf.Ren:=⟨fun| 194=>174|n=>n,fun| 31=>22| 9=>9| 3=>3| 4=>4| 0=>0|n=>n,fun|n=>n⟩
theorem Tryz.Qd:Go.Proofs.Lays.n194 Tryz.prog Tryz.Pq:= {
 mixed:=by kernel_rfl
 f194:=Tryz.func174.trans (congrArg some (by kernel_rfl))
 t0:=Tryz.underlying0
 a0:=Tryz.isAgg0
 z0:=Tryz.sizeOf0
 v0:=Tryz.zeroValue0
 t3:=Tryz.underlying3
 a3:=Tryz.isAgg3
 z3:=Tryz.sizeOf3
 v3:=Tryz.zeroValue3
 t4:=Tryz.underlying4
 a4:=Tryz.isAgg4
 z4:=Tryz.sizeOf4
 v4:=Tryz.zeroValue4
 t9:=Tryz.underlying9
 a9:=Tryz.isAgg9
 z9:=Tryz.sizeOf9
 v9:=Tryz.zeroValue9
 t31:=Tryz.underlying22
 a31:=Tryz.isAgg22
 z31:=Tryz.sizeOf22
 v31:=Tryz.zeroValue22}
open Go.RowKit Go.Lib Go.Sort in
theorem Tryz.slices_Compact_string (D3 off cap:Nat) (zs:List (List UInt8)) (w:World) (hH:Holds encStr w D3 off zs.toArray) (dU:zs.length≤9223372036854775807) (vZ:zs.length≤cap) :
 Calls Tryz.prog 174 #[.slice (some ⟨D3,off,none⟩) zs.length cap] w fun e w'=>e = .returned (.slice (some ⟨D3,off,none⟩) (Lib.compact zs).length cap)∧∃ q,w'=putRow encStr (Sort.ahead w q) D3 off (Lib.compact zs++List.replicate (zs.length - (Lib.compact zs).length) []).toArray:=Any.slices_Compact_string Tryz.Qd D3 off cap zs w hH dU vZ
open Go.RowKit Go.Lib Go.Sort in
theorem Tryz.slices_Compact_string_empty (a:Option Addr) (cap:Nat) (w:World) :
 Calls Tryz.prog 174 #[.slice a 0 cap] w fun e w'=>e = .returned (.slice a 0 cap)∧w'=w:=Any.slices_Compact_string_empty Tryz.Qd a cap w
open Go.RowKit Go.Sort in
theorem Tryz.slices_Sort_string_none (p:Option Addr) (cap:Nat) (w:World) :
 Calls Tryz.prog 173 #[.slice p 0 cap] w fun e w'=>e = .returned (.tuple #[])∧w'=w:=Any.slices_Sort_string_none Tryz.Qc p cap w
end Go.Proofs
namespace Go.Abs
open Go.Proofs
section
variable {P:Program} {B:gZ} {nt:Nat}
theorem aes {x:Operand} {t:Nat} (h:cX x=some (.s t)):x = .tmp t:=by
 unfold cX at h
 split at h
 ·cases h;rfl
 ·obtain⟨d,_,h⟩:=map_some h;cases h
 ·cases h
 ·cases h
theorem Ts {ops:Array Oper} {o:Oper} {g g':Option (Nat×Bool)} {dst:Option Nat} {f:Nat} {xs:List X} (h:uZ P ops o g=some (.call dst g' f xs)) :
 g'=g∧∃ args og,o.op = .call ⟨.value (.func f),args,og⟩∧enters P f=true∧An args.toList=some xs:=by
 unfold uZ at h
 split at h
 ·rename_i f' args og oe
  split at h
  ·rename_i he
   obtain⟨xs',h1,h2⟩:=map_some h
   cases h2
   exact⟨rfl,args,og,oe,he,h1⟩
  ·cases h
 ·obtain⟨_,_,h⟩:=map_some h;cases h
 ·split at h
  ·cases h
  ·split at h<;>cases h
theorem Wp {ops:Array Oper} {o:Oper} {tmps:Array Value} (hg:xi ops o.guard=some none):Region.wanted o (yielded ops tmps)=true:=by
 have:o.guard=none:=by
  cases JV:o.guard with
  |none=>rfl
  |some p=>
   obtain⟨j,b⟩:=p
   rw[JV]at hg
   unfold xi at hg
   simp only at hg
   split at hg<;>cases hg
 simp[Region.wanted,this]
theorem Sem.ah2 {a k b f:Nat} {is:List AI} {Q:Exit→Tm→St→Prop} {tm:Tm} {s:St}
 (Tt : ∀ act w,Holds B nt (tm.put (some a) (tm.get k)) s act w→Calls P f #[act.tmps.getD a Go.undef] w fun e w'=>∃ v,e = .returned v∧∃ bK s',Holds B nt bK s' (act.put (some b) v) w'∧jW P is (Q .normal) bK s') :
 Sem P B nt (.run (.op (some a) none (.mv (.s k)):: .call (some b) none f [.s a]::is)) Q tm s:=by
 intro c hc act w hh
 obtain⟨id,ops,rfl,hi⟩:=mX hc
 refine wp_region ?_
 have key : ∀ (l:List Nat) (ol:List Oper),l.map (ops[·]?)=ol.map some→sY P nt ops ol=some (.op (some a) none (.mv (.s k)):: .call (some b) none f [.s a]::is)→wpOps P ops (rB B nt Q) l act w:=by
  intro l ol hl zI
  match ol,l,hl with
  | [],_,_=>simp[sY]at zI
  |o0::ol,[],hl=>simp at hl
  | o0::ol,j0::l,hl=>
   simp only[List.map_cons,List.cons.injEq]at hl
   obtain⟨hj0,hl⟩:=hl
   unfold sY at zI
   split at zI
   ·rename_i i0 is0 h1 h2
    cases zI
    match ol,l,hl,h2 with
    | [],_,_,h2=>simp[sY]at h2
    |o1::ol,[],hl,_=>simp at hl
    | o1::ol,j1::l,hl,h2=>
     simp only[List.map_cons,List.cons.injEq]at hl
     obtain⟨hj1,hl⟩:=hl
     unfold sY at h2
     split at h2
     ·rename_i i1 is1 h3 h4
      cases h2
      obtain⟨M,e,r,ht,hn,hd⟩:=hh
      have yS:=vH h1
      have DG:=vH h3
      simp only[AI.dst]at yS DG
      refine zH (K':=fun bK s'=>bK=tm.put (some a) (tm.get k)∧s'=s) hj0 h1 r (B.laid.ext e) ht (by simp only[jW,guarded,aY,X.ev,and_self]) (fun d v s1 w1 M1 hk e1 r1 hv=>?_)
      obtain⟨yx,rfl⟩:=hk
      have hH:=Holds.put e ht hn hd (Az h1) e1 r1 hv
      simp only[AI.dst]at yx
      rw[← yS]at hH ⊢
      rw[yx]at hH
      obtain⟨g,hg,_,hb⟩:=DB h3
      obtain⟨rfl,args,og,oe,Bq,qp⟩:=Ts hb
      simp only[wpOps,hj1,Wp hg,if_true]
      left
      have atS:args.map (act.put (some a) v).eval = #[(act.put (some a) v).tmps.getD a Go.undef]:=by
       have:args.toList = [.tmp a]:=by
        match hA:args.toList with
        | []=>rw[hA]at qp;simp[An]at qp
        | [x]=>
         rw[hA]at qp
         simp only[An]at qp
         split at qp
         ·rename_i x' r' hx hr
          cases qp
          rw[aes hx]
         ·cases qp
        | x::y::z=>
         rw[hA]at qp
         simp only[An]at qp
         split at qp
         ·rename_i x' r' hx hr
          cases qp
          split at hr
          ·cases hr
          ·cases hr
         ·cases qp
       have:args = #[.tmp a]:=by rw[← Array.toArray_toList (xs:=args),this]
       rw[this]
       simp only[List.map_toArray,List.map_cons,List.map_nil]
       rfl
      have hex:(execOp (act.put (some a) v).eval o1).run P w1 = .ok (.enter f #[(act.put (some a) v).tmps.getD a Go.undef]) w1:=by
       obtain⟨dst,op,type,pos,after,guard⟩:=o1
       simp only at oe
       subst oe
       rw[← atS]
       exact zD (act.put (some a) v).eval dst f args og type pos after guard rfl Bq w1
      unfold Oper.wp
      rw[hex,Oper.upon_enter]
      refine(Tt _ _ hH).mono ?_
      rintro en w' ⟨v',rfl,bK,s',hH',hvc⟩
      rw[← DG]
      exact Dx (Q:=Q) l ol _ hl h4 bK s' _ w' hvc hH'
     ·cases h2
   ·cases zI
 exact key _ _ (Dy ops) hi
theorem Ko (hB:B.s = ⟨[],[]⟩) {tm:Tm} {s:St} {act:Act} {w:World} (h:Holds B nt tm s act w) {t:Nat} {l:List aK} (ht:s.aA[t]? = some (some l.length)) {k0:Nat} (hk0:tm.get k0 = .slice (.tok t) 1 (l.map encStr)) :
 (l = []∧∀ k,tm.get k = .slice (.tok t) 1 (l.map encStr)→(act.tmps.getD k Go.undef = .slice none 0 0∨∃ b q,act.tmps.getD k Go.undef = .slice (some ⟨b,q,none⟩) 0 0))∨
 ∃ (b cap:Nat) (vs:Array Value) (T:TypeId),(∀ k,tm.get k = .slice (.tok t) 1 (l.map encStr)→act.tmps.getD k Go.undef = .slice (some ⟨b,0,none⟩) l.length cap)∧l.length≤cap∧w.heap[b]? = some (.cells vs T (0,0))∧vs.size=cap∧B.w.heap.size≤b∧
  ∀ j (hj:j<l.length),vs[j]? = some (.string ⟨⟨l[j]⟩⟩):=by
 obtain⟨M,e,r,hr,_,_⟩:=h
 rcases r.tok t _ ht with ⟨h3,h4⟩|⟨b,cap,z,vs,T,h3,h4,h5,h6,h7⟩
 ·have hl:l = []:=List.eq_nil_of_length_eq_zero h4
  subst hl
  refine .inl ⟨rfl,fun k hk=>?_⟩
  have hv:=hr k
  rw[hk]at hv
  generalize act.tmps.getD k Go.undef=v at hv
  cases hv with
  |jI _ _ cap hc rk=>subst hc;exact .inl rfl
  |slice _ _ _ b q cap hl hs h1 h2 rk=>
   rcases(rk.2 _ ht).2 rfl with ⟨_,h0,_⟩|⟨b',_,lV⟩
   ·subst h0;exact .inr ⟨b,q,rfl⟩
   ·rw[h3]at lV;cases lV
 ·right
  have each : ∀ k,tm.get k = .slice (.tok t) 1 (l.map encStr)→z=1∧act.tmps.getD k Go.undef = .slice (some ⟨b,0,none⟩) l.length cap∧l.length≤cap∧∀ j (hj:j<l.length),∃ u,M.G b j=some u∧RD M s (.str l[j]) u:=by
   intro k hk
   have hv:=hr k
   rw[hk]at hv
   generalize act.tmps.getD k Go.undef=v at hv
   generalize lq:l.map encStr=rows at hv
   cases hv with
   |jI _ _ cap hc rk=>
    have hl:l = []:=by cases l<;>simp at lq;rfl
    subst hl
    rcases(rk.2 _ ht).2 rfl with ⟨h0,_⟩|⟨b',h0,_⟩
    ·rw[h3]at h0;cases h0
    ·cases h0
   | slice _ _ _ b2 q aBY hl hs h1 h2 rk=>
    subst lq
    rw[List.length_map]at hl rk
    rcases(rk.2 _ ht).2 rfl with ⟨h0,_⟩|⟨b',hb,lV⟩
    ·rw[h3]at h0;cases h0
    ·cases hb
     rw[h3]at lV
     cases lV
     refine⟨rfl,by rw[List.length_map],hl,fun j hj=>?_⟩
     have e1:(l.map encStr)[j]? = some [.str l[j]]:=by rw[List.getElem?_map,List.getElem?_eq_getElem hj];rfl
     obtain⟨u,hu⟩:=h1 j _ 0 _ e1 rfl
     refine⟨u,by simpa using hu,h2 j _ 0 _ u e1 rfl hu⟩
  obtain⟨rfl,_,vZ,nQ⟩:=each k0 hk0
  have dB:B.w.heap.size≤b:=by
   rcases e.ry t b cap 1 ⟨_,ht⟩ h3 with ⟨⟨n,hn⟩,_⟩|h
   ·rw[hB]at hn;simp at hn
   ·exact h
  refine⟨b,cap,vs,T,fun k hk=>(each k hk).2.1,vZ,h4,by simpa[zs]using h5,dB,fun j hj=>?_⟩
  obtain⟨u,hu,jJ⟩:=nQ j hj
  have:=(r.comm _ _ _ hu).1
  rw[jA h4,jJ.mM]at this
  exact this
theorem Nx (hB:B.s = ⟨[],[]⟩) {tm:Tm} {s:St} {act wz:Act} {w w':World} (h:Holds B nt tm s act w) {b cap:Nat} {vs:Array Value} {T:TypeId} (dU:vs.size=cap) (vi:B.w.heap.size≤b)
 (nL : ∀ q,q<B.w.heap.size→w'.heap[q]? = w.heap[q]?) (eK:w'.heap[b]? = some (.cells vs T (0,0))) (wG:w.heap.size≤w'.heap.size) (ur:w'.os=w.os) (G9:w'.tape=w.tape) (XX:w'.output=w.output)
 {l:List aK} (hl:l.length≤cap) (nQ : ∀ j (hj:j<l.length),vs[j]? = some (.string ⟨⟨l[j]⟩⟩)) {k:Nat} (Tv:wz.tmps.getD k Go.undef = .slice (some ⟨b,0,none⟩) l.length cap) (hn:wz.tmps.size=nt) (hd:wz.defers = []) :
 Holds B nt [(k, .slice (.tok 0) 1 (l.map encStr))] ⟨[],[some l.length]⟩ wz w':=by
 obtain⟨M,e,r,hr,_,_⟩:=h
 let M':Map:=⟨fun q o=>if q=b then(if o<l.length then(l[o]?).map fun x=>Value.string ⟨⟨x⟩⟩else none)else B.M.G q o,B.M.loc,fun _=>some (b,cap,1)⟩
 have hGb : ∀ q o v,B.M.G q o=some v→q<B.w.heap.size∧w'.cell? ⟨q,o,none⟩=some v∧v.oneCell'=true:=by
  intro q o v hq
  obtain⟨h1,h2⟩:=r.comm q o v (e.le.G q o v hq)
  have hD:=B.Ft q o v hq
  refine⟨hD, ?_,h2⟩
  rw[← h1]
  simp[World.cell?,nL q hD]
 have iU : ∀ j (hj:j<l.length),w'.cell? ⟨b,j,none⟩=some (.string ⟨⟨l[j]⟩⟩):=fun j hj=>by rw[jA eK];exact nQ j hj
 have gA : ∀ (j:Nat) v,(if j<l.length then(l[j]?).map fun x=>Value.string ⟨⟨x⟩⟩else none)=some v→∃ hj:j<l.length,v = .string ⟨⟨l[j]⟩⟩:=by
  intro j v hv
  split at hv
  ·rename_i hj
   rw[List.getElem?_eq_getElem hj]at hv
   exact⟨hj,by simpa using hv.symm⟩
  ·cases hv
 refine⟨M',⟨⟨fun q o v hq=>?_,by simp[hB],fun o ho=> .refl _,by rw[hB];exact Nat.zero_le _,fun t n' ht _=>by rw[hB]at ht;exact absurd ht (Nat.not_lt_zero _)⟩,fun q hq _ _=>?_,fun o _ h2=>absurd h2 (Nat.not_lt_zero _),fun t q c z _ hb=>?_,fun q o fu=>?_,Nat.le_trans e.size wG,ur.trans e.os,G9.trans e.tape,XX.trans e.output⟩,
  ⟨fun q o v hq=>?_,fun o ds ho=>by simp at ho,fun o ho=>absurd ho (Nat.not_lt_zero _),fun o o' ho=>absurd ho (Nat.not_lt_zero _),fun t n ht=>?_,fun t q c z o _ _ ho=>absurd ho (Nat.not_lt_zero _),fun t t' q c z c' z' tM jn _ _=>?_⟩,fun u=>?_,hn,hd⟩
 ·show(if q=b then _ else B.M.G q o)=some v
  rw[if_neg (by have:=(hGb q o v hq).1;omega)]
  exact hq
 ·rw [nL q hq]
  exact e.kept q hq (fun o ho=>by rw[hB]at ho;exact absurd ho (Nat.not_lt_zero _)) (fun t c z jn=>by rw[hB]at jn;obtain⟨n,CN⟩:=jn;simp at CN)
 ·cases hb;exact .inr vi
 ·by_cases hq:q=b
  ·subst hq;exact .inl vi
  ·exact absurd (show(if q=b then _ else B.M.G q o)=B.M.G q o from if_neg hq) fu
 ·have lk:(if q=b then(if o<l.length then(l[o]?).map fun x=>Value.string ⟨⟨x⟩⟩else none)else B.M.G q o)=some v:=hq
  by_cases hqb:q=b
  ·rw [if_pos hqb]at lk
   obtain⟨hj,rfl⟩:=gA o v lk
   rw[hqb]
   exact⟨iU o hj,rfl⟩
  ·rw [if_neg hqb]at lk
   exact(hGb q o v lk).2
 ·match t with
  | 0=>
   simp at ht
   subst ht
   refine .inr ⟨b,cap,1,vs,T,rfl,eK,by simp[zs,dU],hl,fun off ho=>?_,fun h=>by cases h⟩
   show(if b=b then(if off<l.length then _ else none)else B.M.G b off)=none
   rw[if_pos rfl,if_neg (by simp[zs]at ho;omega)]
  |t+1=>simp at ht
 ·obtain⟨n1,h1⟩:=tM
  obtain⟨n2,h2⟩:=jn
  have a1:=(List.getElem?_eq_some_iff.1 h1).1
  have a2:=(List.getElem?_eq_some_iff.1 h2).1
  simp at a1 a2
  omega
 ·simp only [Tm.get]
  split
  ·rename_i hku
   subst hku
   rw[Tv]
   have:=RD.slice (M:=M') (s:=⟨[],[some l.length]⟩) (.tok 0) 1 (l.map encStr) b 0 cap (by simpa using hl) (fun row hr=>by
    obtain⟨x,_,rfl⟩:=List.mem_map.1 hr;rfl) (fun i row j d e1 e2=>?_) (fun i row j d u e1 e2 eu=>?_) ⟨by simp,fun n CN=>by
    simp at CN
    subst CN
    exact⟨by simp,fun _=> .inr ⟨b,rfl,rfl⟩⟩⟩
   ·simpa using this
   ·rw [List.getElem?_map]at e1
    cases Cy:l[i]? with
    |none=>rw[Cy]at e1;cases e1
    |some x=>
     have sL:=(List.getElem?_eq_some_iff.1 Cy).1
     rw[Cy]at e1
     cases e1
     have hj:j=0:=by cases j with|zero=>rfl|succ j=>simp[encStr]at e2
     subst hj
     refine⟨.string ⟨⟨x⟩⟩, ?_⟩
     show(if b=b then(if 0+(i*1+0)<l.length then _ else none)else _)=_
     rw[if_pos rfl,if_pos (by omega)]
     simp[Cy]
   ·rw [List.getElem?_map]at e1
    cases Cy:l[i]? with
    |none=>rw[Cy]at e1;cases e1
    |some x=>
     have sL:=(List.getElem?_eq_some_iff.1 Cy).1
     rw[Cy]at e1
     cases e1
     have hj:j=0:=by cases j with|zero=>rfl|succ j=>simp[encStr]at e2
     subst hj
     have CF:(if b=b then(if 0+(i*1+0)<l.length then(l[0+(i*1+0)]?).map fun x=>Value.string ⟨⟨x⟩⟩else none)else B.M.G b (0+(i*1+0)))=some u:=eu
     rw[if_pos rfl,if_pos (by omega)]at CF
     simp[Cy]at CF
     subst CF
     simp[encStr]at e2
     subst e2
     exact .str x
  ·exact .junk _
theorem Qe (hB:B.s = ⟨[],[]⟩) {tm:Tm} {s:St} {act wz:Act} {w:World} (h:Holds B nt tm s act w) {k:Nat} (Tv:wz.tmps.getD k Go.undef = .slice none 0 0∨∃ b q,wz.tmps.getD k Go.undef = .slice (some ⟨b,q,none⟩) 0 0) (hn:wz.tmps.size=nt) (hd:wz.defers = []) :
 Holds B nt [(k, .slice (.tok 0) 1 (([] : List aK).map encStr))] ⟨[],[some 0]⟩ wz w:=by
 obtain⟨M,e,r,hr,_,_⟩:=h
 let M':Map:=⟨B.M.G,B.M.loc,fun _=>none⟩
 refine⟨M',⟨⟨fun q o v hq=>hq,by simp[hB],fun o ho=> .refl _,by rw[hB];exact Nat.zero_le _,fun t n' ht _=>by rw[hB]at ht;exact absurd ht (Nat.not_lt_zero _)⟩,fun q hq _ _=>?_,fun o _ h2=>absurd h2 (Nat.not_lt_zero _),fun t q c z _ hb=>(by cases hb),fun q o fu=>absurd rfl fu,e.size,e.os,e.tape,e.output⟩,
  ⟨fun q o v hq=>r.comm q o v (e.le.G q o v hq),fun o ds ho=>by simp at ho,fun o ho=>absurd ho (Nat.not_lt_zero _),fun o o' ho=>absurd ho (Nat.not_lt_zero _),fun t n ht=>?_,fun t q c z o _ _ ho=>absurd ho (Nat.not_lt_zero _),fun t t' q c z c' z' tM jn h1 _=>by cases h1⟩,fun u=>?_,hn,hd⟩
 ·exact e.kept q hq (fun o ho=>by rw[hB]at ho;exact absurd ho (Nat.not_lt_zero _)) (fun t c z jn=>by rw[hB]at jn;obtain⟨n,CN⟩:=jn;simp at CN)
 ·match t with
  | 0=>simp at ht;subst ht;exact .inl ⟨rfl,rfl⟩
  |t+1=>simp at ht
 ·simp only [Tm.get]
  split
  ·rename_i hku
   subst hku
   have rk : ∀ base,jN M' ⟨[],[some 0]⟩ (.tok 0) 1 0 base 0:=fun base=>⟨by simp,fun n CN=>by
    simp at CN
    subst CN
    exact⟨Nat.le_refl _,fun _=> .inl ⟨rfl,rfl,fun h=>by cases h⟩⟩⟩
   rcases Tv with h|⟨b,q,h⟩
   ·rw[h];exact .jI _ _ 0 rfl (rk none)
   ·rw[h];exact .slice (.tok 0) 1 [] b q 0 (Nat.le_refl _) (by simp) (by simp) (by simp) (rk _)
  ·exact .junk _
theorem Ny {α:Type} [Inhabited α] (enc:α→Value) (d:Array α) (c:Array Value) (j:Nat):(Sort.putCells enc 0 d c)[j]? = if j<d.size then(c[j]?).map fun _=>enc d[j]! else c[j]? :=by
 simp only[Sort.putCells,Array.getElem?_mapIdx]
 cases h:c[j]? with
 |none=>simp
 |some x=>by_cases hj:j<d.size<;>simp[hj]
theorem Kp {w:World} {b n cap:Nat} {vs:Array Value} {T:TypeId} (eK:w.heap[b]? = some (.cells vs T (0,0))) (dU:vs.size=cap) (l:List aK) (hl:l.length≤cap) (os:Array Obj) :
 (∀ q,q≠b→q<w.heap.size→(Sort.grow (Sort.putRow Go.Proofs.encStr (Sort.ahead w n) b 0 l.toArray) os).heap[q]? = w.heap[q]?)∧
 (Sort.grow (Sort.putRow Go.Proofs.encStr (Sort.ahead w n) b 0 l.toArray) os).heap[b]? = some (.cells (Sort.putCells Go.Proofs.encStr 0 l.toArray vs) T (0,0))∧w.heap.size≤(Sort.grow (Sort.putRow Go.Proofs.encStr (Sort.ahead w n) b 0 l.toArray) os).heap.size∧
 (Sort.putCells Go.Proofs.encStr 0 l.toArray vs).size=cap∧∀ j (hj:j<l.length),(Sort.putCells Go.Proofs.encStr 0 l.toArray vs)[j]? = some (.string ⟨⟨l[j]⟩⟩):=by
 have hb:b<w.heap.size:=(Array.getElem?_eq_some_iff.1 eK).1
 refine⟨fun q hq hD=>?_, ?_, ?_, ?_,fun j hj=>?_⟩
 ·simp only [Sort.grow,Sort.putRow,Sort.mapBlock,Sort.ahead]
  rw[Array.getElem?_append_left (by simpa using hD),Array.getElem?_modify]
  simp[Ne.symm hq]
 ·simp only [Sort.grow,Sort.putRow,Sort.mapBlock,Sort.ahead]
  rw[Array.getElem?_append_left (by simpa using hb),Array.getElem?_modify]
  simp[eK,Sort.onCells]
 ·simp[Sort.grow,Sort.putRow,Sort.mapBlock,Sort.ahead]
 ·simp[Sort.putCells,dU]
 ·rw [Ny]
  have h1:j<l.toArray.size:=by simpa using hj
  have h2:vs[j]? = some vs[j]:=Array.getElem?_eq_getElem (by omega)
  rw[if_pos h1,h2]
  simp[hj]
def nV (l:List aK):List aK:=l.mergeSort fun x y=>decide (x≤y)
theorem Nz {act:Act} {b:Nat} {v:Value} {u:Nat} (h:u≠b):(act.put (some b) v).tmps.getD u Go.undef=act.tmps.getD u Go.undef:=by
 simp only[Act.put,Array.getD_eq_getD_getElem?]
 rw[Array.getElem?_setIfInBounds_ne (fun e=>h e.symm)]
theorem Kq {act:Act} {b:Nat} {v:Value} (h:b<act.tmps.size):(act.put (some b) v).tmps.getD b Go.undef=v:=by
 simp only[Act.put,Array.getD_eq_getD_getElem?]
 simp[h]
theorem Sem.sort (hB:B.s = ⟨[],[]⟩) {a k b t:Nat} {l:List aK} {is:List AI} {Q:Exit→Tm→St→Prop} {tm:Tm} {s:St} (hak:a≠k) (hbk:b≠k) (hab:a≠b)
 (hk:tm.get k = .slice (.tok t) 1 (l.map encStr)) (ht:s.aA[t]? = some (some l.length)) (hl:l.length<4611686018427387904)
 (h:jW Tryz.prog is (Q .normal) [(k, .slice (.tok 0) 1 ((nV l).map encStr))] ⟨[],[some l.length]⟩) :
 Sem Tryz.prog B nt (.run (.op (some a) none (.mv (.s k)):: .call (some b) none kE [.s a]::is)) Q tm s:=by
 refine Sem.ah2 fun act w hh=>?_
 have Cu:(tm.put (some a) (tm.get k)).get k = .slice (.tok t) 1 (l.map encStr):=by rw[Tm.mO,if_neg (by simpa using hak)];exact hk
 have NA:(tm.put (some a) (tm.get k)).get a = .slice (.tok t) 1 (l.map encStr):=by rw[Tm.mO,if_pos rfl];exact hk
 have HZ:(nV l).length=l.length:=List.length_mergeSort l
 have hn:(act.put (some b) (.tuple #[])).tmps.size=nt:=by obtain⟨_,_,_,_,h1,_⟩:=hh;simpa[Act.put]using h1
 have hd:(act.put (some b) (.tuple #[])).defers = []:=by obtain⟨_,_,_,_,_,h1⟩:=hh;simpa[Act.put]using h1
 have dU:(act.tmps).size=nt:=by obtain⟨_,_,_,_,h1,_⟩:=hh;exact h1
 rcases Ko hB hh ht NA with ⟨rfl,hv⟩|⟨b',cap,vs,T,hv,vZ,eK,qC,vi,nQ⟩
 ·rw [show nV [] = [] by simp [nV]]at h
  have call : ∀ p,act.tmps.getD a Go.undef = .slice p 0 0→Calls Tryz.prog kE #[act.tmps.getD a Go.undef] w fun e w'=>∃ v,e = .returned v∧∃ bK s',Holds B nt bK s' (act.put (some b) v) w'∧jW Tryz.prog is (Q .normal) bK s':=by
   intro p hp
   rw[hp]
   refine(Tryz.slices_Sort_string_none p 0 w).mono ?_
   rintro e w' ⟨rfl,rfl⟩
   refine⟨_,rfl,_,_,Qe hB hh (k:=k) ?_ hn hd,h⟩
   rw[Nz (Ne.symm hbk)]
   exact hv k Cu
  rcases hv a NA with h1|⟨b',q,h1⟩
  ·exact call _ h1
  ·exact call _ h1
 ·rw [hv a NA]
  have hD:b'<w.heap.size:=(Array.getElem?_eq_some_iff.1 eK).1
  refine(Tryz.slices_Sort_string b' 0 cap l w (fun j hj=>?_) hD hl).mono ?_
  ·have Wq:j<l.length:=by simpa using hj
   refine⟨?_,by simp[World.frozen?,eK]⟩
   rw[Nat.zero_add,jA eK,nQ j Wq]
   simp[Wq]
  ·rintro e w' ⟨rfl,n,os,rfl⟩
   obtain⟨p1,p2,p3,p4,p5⟩:=Kp (n:=n) eK qC (nV l) (by omega) os
   have hH:=Nx hB hh (wz:=act.put (some b) (.tuple #[])) (l:=nV l) (k:=k) p4 vi (fun q hq=>p1 q (by omega) (by obtain⟨M,e,_⟩:=hh;exact Nat.lt_of_lt_of_le hq e.size)) p2 p3 rfl rfl rfl (by omega) p5 (by rw[Nz (Ne.symm hbk),hv k Cu,HZ]) hn hd
   rw[HZ]at hH
   exact⟨_,rfl,_,_,hH,h⟩
theorem Pr (l:List aK):(Lib.compact l).length≤l.length:=by
 unfold Lib.compact Lib.compactUpTo
 rw[List.length_map]
 exact Nat.le_trans (List.length_filter_le _ _) (by simp)
theorem Sem.compact (hB:B.s = ⟨[],[]⟩) {a k b t:Nat} {l:List aK} {is:List AI} {Q:Exit→Tm→St→Prop} {tm:Tm} {s:St} (hbt:b<nt)
 (hk:tm.get k = .slice (.tok t) 1 (l.map encStr)) (ht:s.aA[t]? = some (some l.length)) (hl:l.length<4611686018427387904)
 (h:jW Tryz.prog is (Q .normal) [(b, .slice (.tok 0) 1 ((Lib.compact l).map encStr))] ⟨[],[some (Lib.compact l).length]⟩) :
 Sem Tryz.prog B nt (.run (.op (some a) none (.mv (.s k)):: .call (some b) none kX [.s a]::is)) Q tm s:=by
 refine Sem.ah2 fun act w hh=>?_
 have NA:(tm.put (some a) (tm.get k)).get a = .slice (.tok t) 1 (l.map encStr):=by rw[Tm.mO,if_pos rfl];exact hk
 have dU:(act.tmps).size=nt:=by obtain⟨_,_,_,_,h1,_⟩:=hh;exact h1
 have hn : ∀ v,(act.put (some b) v).tmps.size=nt:=fun v=>by simpa[Act.put]using dU
 have hd : ∀ v,(act.put (some b) v).defers = []:=by obtain⟨_,_,_,_,_,h1⟩:=hh;intro v;simpa[Act.put]using h1
 rcases Ko hB hh ht NA with ⟨rfl,hv⟩|⟨b',cap,vs,T,hv,vZ,eK,qC,vi,nQ⟩
 ·rw [show Lib.compact ([] : List aK) = []from rfl]at h
  have call : ∀ p,act.tmps.getD a Go.undef = .slice p 0 0→(p=none∨∃ b q,p=some ⟨b,q,none⟩)→Calls Tryz.prog kX #[act.tmps.getD a Go.undef] w fun e w'=>∃ v,e = .returned v∧∃ bK s',Holds B nt bK s' (act.put (some b) v) w'∧jW Tryz.prog is (Q .normal) bK s':=by
   intro p hp hq
   rw[hp]
   refine(Tryz.slices_Compact_string_empty p 0 w).mono ?_
   rintro e w' ⟨rfl,rfl⟩
   refine⟨_,rfl,_,_,Qe hB hh (k:=b) ?_ (hn _) (hd _),h⟩
   rw[Kq (by omega)]
   rcases hq with rfl|⟨x,y,rfl⟩
   ·exact .inl rfl
   ·exact .inr ⟨x,y,rfl⟩
  rcases hv a NA with h1|⟨b',q,h1⟩
  ·exact call _ h1 (.inl rfl)
  ·exact call _ h1 (.inr ⟨b',q,rfl⟩)
 ·rw [hv a NA]
  have nu:(Lib.compact l).length≤l.length:=Pr l
  refine(Tryz.slices_Compact_string b' 0 cap l w (fun j hj=>?_) (by omega) vZ).mono ?_
  ·have Wq:j<l.length:=by simpa using hj
   refine⟨?_,by simp[World.frozen?,eK]⟩
   rw[Nat.zero_add,jA eK,nQ j Wq]
   simp[Wq]
  ·rintro e w' ⟨rfl,q,rfl⟩
   obtain⟨p1,p2,p3,p4,p5⟩:=Kp (n:=q) eK qC (Lib.compact l++List.replicate (l.length - (Lib.compact l).length) []) (by simp;omega) #[]
   rw[Sort.grow_empty]at p1 p2 p3
   have hH:=Nx hB hh (wz:=act.put (some b) (.slice (some ⟨b',0,none⟩) (Lib.compact l).length cap)) (l:=Lib.compact l) (k:=b) p4 vi (fun q hq=>p1 q (by omega) (by obtain⟨M,e,_⟩:=hh;exact Nat.lt_of_lt_of_le hq e.size)) p2 p3 rfl rfl rfl (by omega)
    (fun j hj=>by
     have:=p5 j (by simp;omega)
     rw[List.getElem_append_left hj]at this
     exact this) (Kq (by omega)) (hn _) (hd _)
   exact⟨_,rfl,_,_,hH,h⟩
end
end Go.Abs
namespace Go.Abs
theorem H0 {a b:UInt8} : a<b↔a.toNat<b.toNat:=UInt8.lt_iff_toNat_lt
theorem A9 : ∀ a:aK,bytesLess a a=false
 | []=>rfl
 |x::a=>by
  show Go.Op.bytesLess (x::a) (x::a)=false
  have h:=A9 a
  have h:Go.Op.bytesLess a a=false:=h
  simp[Go.Op.bytesLess,h]
theorem Ba : ∀ a b:aK,bytesLess a b=true∨a=b∨bytesLess b a=true
 | [],[]=> .inr (.inl rfl)
 | [],y::b=> .inl rfl
 |x::a,[]=> .inr (.inr rfl)
 | x::a,y::b=>by
  show Go.Op.bytesLess (x::a) (y::b)=true∨_∨Go.Op.bytesLess (y::b) (x::a)=true
  have h:Go.Op.bytesLess a b=true∨a=b∨Go.Op.bytesLess b a=true:=Ba a b
  simp only[Go.Op.bytesLess,Bool.or_eq_true,Bool.and_eq_true,decide_eq_true_eq,beq_iff_eq,List.cons.injEq]
  by_cases e:x=y
  ·subst e
   rcases h with h|h|h
   ·exact .inl (.inr ⟨rfl,h⟩)
   ·exact .inr (.inl ⟨rfl,h⟩)
   ·exact .inr (.inr (.inr ⟨rfl,h⟩))
  ·have:x.toNat≠y.toNat:=fun h=>e (UInt8.toNat_inj.1 h)
   rcases Nat.lt_or_gt_of_ne this with h|h
   ·exact .inl (.inl (H0.2 h))
   ·exact .inr (.inr (.inl (H0.2 h)))
theorem H2 : ∀ a b c:aK,bytesLess a b=true→bytesLess b c=true→bytesLess a c=true
 |a,b,[],h1,h2=>by cases b<;>cases h2
 |a,[],z::c,h1,h2=>by cases a<;>cases h1
 | [],y::b,z::c,h1,h2=>rfl
 | x::a,y::b,z::c,h1,h2=>by
  have h1:Go.Op.bytesLess (x::a) (y::b)=true:=h1
  have h2:Go.Op.bytesLess (y::b) (z::c)=true:=h2
  show Go.Op.bytesLess (x::a) (z::c)=true
  simp only[Go.Op.bytesLess,Bool.or_eq_true,Bool.and_eq_true,decide_eq_true_eq,beq_iff_eq]at h1 h2 ⊢
  rcases h1 with e1|⟨i1,e1⟩
  ·rcases h2 with e2 | ⟨i2,e2⟩
   ·exact .inl (H0.2 (Nat.lt_trans (H0.1 e1) (H0.1 e2)))
   ·exact .inl (i2 ▸ e1)
  ·rcases h2 with e2 | ⟨i2,e2⟩
   ·exact .inl (i1 ▸ e2)
   ·exact .inr ⟨i1.trans i2,H2 a b c e1 e2⟩
def D4 (l:List aK):Prop:=l.Pairwise fun a b=>bytesLess a b=true
theorem z7 : ∀ {a b:List aK},D4 a→D4 b→(∀ x,x∈a↔x∈b)→a=b
 | [],[],_,_,_=>rfl
 | [],y::b,_,_,h=>absurd ((h y).2 List.mem_cons_self) (by simp)
 |x::a,[],_,_,h=>absurd ((h x).1 List.mem_cons_self) (by simp)
 | x::a,y::b,h1,h2,h=>by
  obtain⟨g1,g2⟩:=List.pairwise_cons.1 h1
  obtain⟨g3,g4⟩:=List.pairwise_cons.1 h2
  have e:x=y:=by
   rcases List.mem_cons.1 ((h x).1 List.mem_cons_self)with e|m
   ·exact e
   ·rcases List.mem_cons.1 ((h y).2 List.mem_cons_self)with e | m'
    ·exact e.symm
    ·have:=H2 _ _ _ (g3 x m) (g1 y m');rw[A9]at this;cases this
  subst e
  rw[z7 g2 g4 fun z=>?_]
  constructor
  ·intro m
   rcases List.mem_cons.1 ((h z).1 (List.mem_cons_of_mem _ m))with e|m'
   ·subst e;have:=g1 z m;rw[A9]at this;cases this
   ·exact m'
  ·intro m
   rcases List.mem_cons.1 ((h z).2 (List.mem_cons_of_mem _ m))with e|m'
   ·subst e;have:=g3 z m;rw[A9]at this;cases this
   ·exact m'
theorem wZ (out:List aK) : ∀ (l:List aK) (c:aK) (a:Bool),
 let q:=oX out l c a
 (q.2=false↔a=false∧∀ x∈l,x∈out)∧(q.2=true→((a=true∧q.1=c)∨(q.1∈l∧q.1∉out))∧(a=true→bytesLess c q.1=false)∧∀ x∈l,x∉out→bytesLess x q.1=false)
 | [],c,a=>by
  simp only[oX]
  refine⟨by simp,fun h=>⟨.inl ⟨h,by trivial⟩,fun _=>A9 c,fun x m=>(by cases m)⟩⟩
 | s::l,c,a=>by
  simp only[oX]
  by_cases h1:fG out s=true
  ·have m:=(fx _ _).1 h1
   simp only[h1,Bool.not_true,Bool.false_and,Bool.false_eq_true,if_false]
   obtain⟨k1,k2⟩:=wZ out l c a
   refine⟨k1.trans ⟨fun h=>⟨h.1,fun x hx=>?_⟩,fun h=>⟨h.1,fun x hx=>h.2 x (List.mem_cons_of_mem _ hx)⟩⟩,fun h=>?_⟩
   ·rcases List.mem_cons.1 hx with rfl | hx
    ·exact m
    ·exact h.2 x hx
   ·obtain⟨g1,g2,g3⟩:=k2 h
    refine⟨g1.imp_right fun h=>⟨List.mem_cons_of_mem _ h.1,h.2⟩,g2,fun x hx hn=>?_⟩
    rcases List.mem_cons.1 hx with rfl|hx
    ·exact absurd m hn
    ·exact g3 x hx hn
  ·have m:s∉out:=fun m=>h1 ((fx _ _).2 m)
   have uu:fG out s=false:=by simpa using h1
   by_cases h2:(!a ||bytesLess s c)=true
   ·simp only [uu,h2,Bool.not_false,Bool.and_self,if_true]
    obtain⟨k1,k2⟩:=wZ out l s true
    refine⟨⟨fun h=>absurd (k1.1 h).1 (by simp),fun h=>absurd (h.2 s List.mem_cons_self) m⟩,fun h=>?_⟩
    obtain⟨g1,g2,g3⟩:=k2 h
    have g4:=g2 rfl
    refine⟨.inr ?_,fun ha=>?_,fun x hx hn=>?_⟩
    ·rcases g1 with ⟨_,e⟩ | g1
     ·rw[e];exact⟨List.mem_cons_self,m⟩
     ·exact⟨List.mem_cons_of_mem _ g1.1,g1.2⟩
    ·have h3:bytesLess s c=true:=by simpa [ha]using h2
     cases hh:bytesLess c (oX out l s true).1
     ·rfl
     ·have:=H2 _ _ _ h3 hh;rw[g4]at this;cases this
    ·rcases List.mem_cons.1 hx with rfl | hx
     ·exact g4
     ·exact g3 x hx hn
   ·have wH:(!a || bytesLess s c)=false:=by simpa using h2
    have ha:a=true:=by cases a<;>simp_all
    have h3:bytesLess s c=false:=by cases a<;>simp_all
    simp only[uu,wH,Bool.not_false,Bool.and_false,Bool.false_eq_true,if_false]
    obtain⟨k1,k2⟩:=wZ out l c a
    refine⟨⟨fun h=>absurd (k1.1 h).1 (by simp[ha]),fun h=>absurd h.1 (by simp[ha])⟩,fun h=>?_⟩
    obtain⟨g1,g2,g3⟩:=k2 h
    refine⟨g1.imp_right fun h=>⟨List.mem_cons_of_mem _ h.1,h.2⟩,g2,fun x hx hn=>?_⟩
    rcases List.mem_cons.1 hx with rfl|hx
    ·cases hh:bytesLess x (oX out l c a).1
     ·rfl
     ·have g4:=g2 ha
      rcases Ba x c with e|e|e
      ·rw[h3]at e;cases e
      ·subst e;rw[g4]at hh;cases hh
      ·have:=H2 _ _ _ e hh;rw[g4]at this;cases this
    ·exact g3 x hx hn
theorem z8 (l:List aK) : ∀ (n:Nat) (out:List aK),D4 out→(∀ x∈out,x∈l)→(∀ x∈out,∀ y∈l,y∉out→bytesLess x y=true)→
 D4 (q9 l n out)∧(∀ x∈q9 l n out,x∈l)∧(∀ x∈out,x∈q9 l n out)∧((∀ x∈l,x∈q9 l n out)∨(q9 l n out).length=out.length+n)
 | 0,out,h1,h2,h3=>⟨h1,h2,fun x m=>m, .inr rfl⟩
 | n+1,out,h1,h2,h3=>by
  simp only[q9,Wo]
  obtain⟨k1,k2⟩:=wZ out l [] false
  cases hq:(oX out l [] false).2
  ·simp only [Bool.false_eq_true,if_false]
   obtain⟨g1,g2,g3,g4⟩:=z8 l n out h1 h2 h3
   exact⟨g1,g2,g3, .inl fun x m=>g3 x ((k1.1 hq).2 x m)⟩
  ·simp only [if_true]
   obtain⟨g1,_,g3⟩:=k2 hq
   have g1:(oX out l [] false).1∈l∧(oX out l [] false).1∉out:=by
    rcases g1 with ⟨h,_⟩|g1
    ·cases h
    ·exact g1
   generalize (oX out l [] false).1=c at g1 g3
   obtain⟨r1,r2,r3,r4⟩:=z8 l n (out++ [c])
    (by
     refine List.pairwise_append.2 ⟨h1,by simp,fun x hx y hy=>?_⟩
     have:y=c:=by simpa using hy
     subst this
     exact h3 x hx y g1.1 g1.2)
    (fun x hx=>by
     rcases List.mem_append.1 hx with hx|hx
     ·exact h2 x hx
     ·have:x=c:=by simpa using hx
      subst this;exact g1.1)
    (fun x hx y hy hn=>by
     have hyo:y∉out:=fun m=>hn (List.mem_append_left _ m)
     have hyc:y≠c:=fun e=>hn (List.mem_append_right _ (by simp[e]))
     rcases List.mem_append.1 hx with hx|hx
     ·exact h3 x hx y hy hyo
     ·have:x=c:=by simpa using hx
      subst this
      rcases Ba x y with h|h|h
      ·exact h
      ·exact absurd h.symm hyc
      ·rw[g3 y hy hyo]at h;cases h)
   refine⟨r1,r2,fun x m=>r3 x (List.mem_append_left _ m),r4.imp_right fun h=>?_⟩
   rw[h];simp;omega
theorem zc : ∀ (a l:List aK),a.Nodup→(∀ x∈a,x∈l)→a.length≤l.length
 | [],l,_,_=>Nat.zero_le _
 |x::a,l,h,hm=>by
  obtain⟨h1,h2⟩:=List.nodup_cons.1 h
  have m:=hm x List.mem_cons_self
  have:=zc a (l.erase x) h2 fun y hy=>(List.mem_erase_of_ne (fun e=>h1 (by rw[← e];exact hy))).2 (hm y (List.mem_cons_of_mem _ hy))
  rw[List.length_erase_of_mem m]at this
  have:0<l.length:=List.length_pos_of_mem m
  simp only[List.length_cons];omega
theorem w5 {l:List aK} (h:D4 l):l.Nodup:=h.imp fun {a b} h e=>by subst e;rw[A9]at h;cases h
theorem lH (l:List aK):D4 (ly l)∧∀ x,x∈ly l↔x∈l:=by
 obtain⟨h1,h2,h3,h4⟩:=z8 l l.length [] List.Pairwise.nil (fun x m=>(by cases m)) (fun x m=>(by cases m))
 refine⟨h1,fun x=>⟨h2 x,fun m=>?_⟩⟩
 rcases h4 with h4|h4
 ·exact h4 x m
 ·refine Classical.byContradiction fun hn=> ?_
  have:=zc (x::q9 l l.length []) l (List.nodup_cons.2 ⟨hn,w5 h1⟩) fun y hy=>by
   rcases List.mem_cons.1 hy with rfl|hy
   ·exact m
   ·exact h2 y hy
  simp only[List.length_cons,h4,List.length_nil]at this
  omega
theorem Ps (zs:List aK) (hs:zs.Pairwise fun a b=>bytesLess b a=false) : ∀ m,m≤zs.length→
 D4 (Lib.compactUpTo zs.toArray m)∧(∀ x,x∈Lib.compactUpTo zs.toArray m↔x∈zs.take m):=by
 intro m
 induction m with
 |zero=>intro _;exact⟨by simp[Lib.compactUpTo,D4],fun x=>by simp[Lib.compactUpTo]⟩
 | succ m ih=>
  intro hm
  obtain⟨h1,h2⟩:=ih (by omega)
  have hz:zs[m]? = some zs[m]:=List.getElem?_eq_getElem (by omega)
  have e1:zs.toArray[m]! = zs[m]:=by simp[hm,Nat.lt_of_succ_le hm]
  have et:zs.take (m+1)=zs.take m++ [zs[m]]:=by rw[List.take_add_one,hz];rfl
  rw[Lib.compactUpTo_succ,e1,et]
  by_cases hk:Lib.keeps zs.toArray m=true
  ·rw [if_pos hk]
   refine⟨List.pairwise_append.2 ⟨h1,by simp,fun x hx y hy=>?_⟩,fun x=>by rw[List.mem_append,List.mem_append,h2]⟩
   have hy:y=zs[m]:=by simpa using hy
   subst hy
   have hx:=(h2 x).1 hx
   simp only[Lib.keeps,decide_eq_true_eq]at hk
   rcases hk with rfl|hk
   ·simp at hx
   ·have oV:m - 1<zs.length:=by omega
    have e2:zs.toArray[m - 1]! = zs[m - 1]:=by simp[oV]
    rw[e1,e2]at hk
    have h0:0<m:=by
     cases m with
     |zero=>simp at hx
     |succ m=>omega
    have hle : ∀ i j (hi:i<zs.length) (hj:j<zs.length),i<j→bytesLess zs[j] zs[i] = false:=fun i j hi hj UN=>List.pairwise_iff_getElem.1 hs i j hi hj UN
    have g1:bytesLess zs[m] zs[m - 1] = false:=hle (m - 1) m oV (by omega) (by omega)
    have g2:bytesLess zs[m - 1] zs[m] = true:=by
     rcases Ba zs[m - 1] zs[m]with h|h|h
     ·exact h
     ·exact absurd h.symm hk
     ·rw[g1]at h;cases h
    obtain⟨i,hi,rfl⟩:=List.mem_iff_getElem.1 hx
    rw[List.length_take]at hi
    rw[List.getElem_take]
    by_cases pw:i=m - 1
    ·subst pw;exact g2
    ·have g3:=hle i (m - 1) (by omega) oV (by omega)
     rcases Ba zs[i] zs[m - 1]with h|h|h
     ·exact H2 _ _ _ h g2
     ·rw[h];exact g2
     ·rw[g3]at h;cases h
  ·rw [if_neg hk]
   simp only[List.append_nil]
   refine⟨h1,fun x=>?_⟩
   rw[h2]
   simp only[Lib.keeps,decide_eq_true_eq,not_or,ne_eq,Decidable.not_not]at hk
   obtain⟨k1,k2⟩:=hk
   have oV:m - 1<zs.length:=by omega
   have e2:zs.toArray[m - 1]! = zs[m - 1]:=by simp[oV]
   rw[e1,e2]at k2
   simp only[List.mem_append,List.mem_singleton]
   constructor
   ·exact .inl
   ·rintro(h | rfl)
    ·exact h
    ·rw [k2]
     exact List.mem_iff_getElem.2 ⟨m - 1,by rw[List.length_take];omega,by rw[List.getElem_take]⟩
theorem Kr (l:List aK):(nV l).Pairwise fun a b=>bytesLess b a=false:=by
 have h:=List.pairwise_mergeSort (le:=fun x y:aK=>decide (x≤y)) (fun a b c h1 h2=>?_) (fun a b=>?_) l
 ·refine h.imp fun {a b} h=> ?_
  rw[decide_eq_true_eq]at h
  show Go.Op.bytesLess b a=false
  rw[Go.Proofs.bytesLess_eq]
  simpa using h
 ·rw [decide_eq_true_eq]at h1 h2 ⊢
  exact List.le_trans h1 h2
 ·have:=List.le_total a b
  simpa using this
theorem D5 (l:List aK):Lib.compact (nV l)=ly l:=by
 obtain⟨h1,h2⟩:=Ps (nV l) (Kr l) (nV l).length (Nat.le_refl _)
 obtain⟨h3,h4⟩:=lH l
 refine z7 h1 h3 fun x=>?_
 rw[h4]
 refine(h2 x).trans ?_
 rw[List.take_length]
 exact(List.mergeSort_perm _ _).mem_iff
set_option maxRecDepth 8000
open Go.Proofs
def nI:List Sm→List aK
 | []=> []
 |v::l=>if v.kind==4 then v.proc::nI l else nI l
theorem FC : ∀ l:List Sm,(nI l).length≤l.length
 | []=>Nat.le_refl _
 |v::l=>by
  simp only[nI]
  have:=FC l
  split<;>simp<;>omega
def Pc.calls (f:Pc):List aK:=ly (nI (Sm.bN f.body))
theorem D6 {name:aK} : ∀ {l:List Pc} {k:Nat} {f:Pc},iF name l=some f→∃ j,l[j]? = some f∧mr (fun f:Pc=>f.name==name) (k:Int) l=((k+j:Nat):Int)
 | g::l,k,f,h=>by
  simp only[iF]at h
  cases e:(g.name==name)
  ·rw [e]at h
   simp only[Bool.false_eq_true,if_false]at h
   obtain⟨j,h1,h2⟩:=D6 (k:=k+1) h
   refine⟨j+1,by simpa using h1, ?_⟩
   simp only[mr,e,Bool.false_eq_true,if_false]
   rw[show((k:Int)+1)=((k+1:Nat):Int)from rfl,h2]
   congr 1;omega
  ·rw [e]at h
   simp only[if_true,Option.some.injEq]at h
   exact⟨0,by simpa using h,by simp[mr,e]⟩
theorem aet {p:Pg} (h:p.jE) {name:aK} {f:Pc} (hf:p.find name=some f) (s:St):aH Tryz.prog wq [.dS (gu p) 0, .str name] s (.slice .shared 1 (f.calls.map encStr)) s:=by
 refine aH.pure ?_ (by simp[D.bM,D.ok,wy]) (by simp only[D.ok,Tag.ok,fL];rfl) s
 obtain⟨s9,p7,sR⟩:=h.procs
 obtain⟨j,hj,td⟩:=D6 (k:=0) hf
 have td:p.at name=((j:Nat):Int):=by unfold Pg.at;simpa using td
 have yZ:=fun s=>HL (p:=p) (by omega) name s
 rw[td]at yZ
 obtain⟨it,rr,zb⟩:=ZA hj (by omega)
 have ahY:it.length≤900000:=by
  have e:=congrArg List.length rr
  obtain⟨a,b,e',_,_,e3,e4⟩:=(kU p).2 j f hj
  have e5:=qO p
  have e6:=congrArg List.length e3
  rw[e4]at e5
  simp only[List.length_map,List.length_append]at e e5 e6
  omega
 unfold S0
 obtain⟨fn,CP,FB⟩:=HD
 refine aH.intro ⟨fn,CP,FB⟩ (Nat.le_of_ble_eq_true rfl) fun B hB=>?_
 generalize hQ:rC (⟨[],[]⟩:St).al.length (⟨[],[]⟩:St).aA.length _ _ (⟨[],[]⟩:St)=Q
 have⟨hD,gA,gB,gC⟩:=bX
 refine Sem.oK ?_
 repeat' (first
 |simp only[go_sem,hD,gA,gB,gC]
 |(with_reducible refine aJ hQ ?_;exact bA))
 refine Sem.oK ?_
 repeat' (first
 |simp only[go_sem,hD,gA,gB,gC]
 |(with_reducible refine aJ hQ ?_;exact bA))
 refine Sem.oK ?_
 repeat' (first
 |simp only[go_sem,hD,gA,gB,gC]
 |(with_reducible refine CU (yZ _) ?_)
 |(with_reducible refine CU (zb _) ?_)
 |(with_reducible refine aJ hQ ?_;exact bA))
 refine bp.rD 5 1 rfl ?_
 simp only[go_sem,hD,gA,gB,gC]
 obtain⟨R,hR⟩ : ∃ R,R=nI (Sm.bN f.body):=⟨_,rfl⟩
 have hRl:R.length≤900000:=by rw[hR, ← rr];have:=FC (it.map Im.s);rw[List.length_map]at this;omega
 refine fI 0 1 (bp.ind (ι:=List Im×Nat×List aK×Nat) (fun i=>it.drop i.2.1=i.1∧i.2.2.1++nI (i.1.map Im.s)=R∧i.2.2.2=i.2.2.1.length) (fun i=>i.1.length)
  (fun i=> [(5, .slice (.tok 0) 1 (i.2.2.1.map encStr)),(12, .slice .shared 17 (it.map dP)),(13, .int .i64 (it.length:Int)),(14, .int .i64 (i.2.1:Int))]) (fun i=>⟨[],[some i.2.2.2]⟩) ?_ (it,0,[],0) ⟨rfl,by rw[hR,rr];rfl,rfl⟩)
 rintro⟨rest,k,out,n⟩ ⟨h1,h2,h3⟩ IH
 dsimp only at h1 h2 h3
 subst h3
 have jC:out.length≤900000:=by have:=congrArg List.length h2;rw[List.length_append]at this;omega
 cases rest with
 | cons a rest=>
  obtain⟨gA,g2,hD,g4⟩:=drop_cons h1
  have ct:k<4611686018427387904:=by omega
  have gB:(out.length+1)*17≤bD:=by unfold bD;omega
  simp only[List.map_cons,nI]at h2
  rcases Bool.eq_false_or_eq_true (a.s.kind==4)with c1|c1
  ·simp only [c1,if_true]at h2
   repeat' (first
 |simp only[go_sem,hD,gA,gB,gC,c1]
 | (with_reducible refine aJ hQ ?_;exact bA))
   refine fm 0 1 ?_ ?_ (IH (rest,k+1,out++ [a.s.proc],out.length+1) ⟨g2,by rw[← h2];simp,by simp⟩ (Nat.lt_succ_self _))
   ·(simp only[go_sem,hD,gA,gB,gC,aM ct,List.map_append,List.map_cons,List.map_nil,encStr];try exact cd)
   ·(simp only[go_sem,hD,gA,gB,gC,aM ct,List.map_append,List.map_cons,List.map_nil,encStr];try exact cd)
  ·simp only [c1,Bool.false_eq_true,if_false]at h2
   repeat' (first
 |simp only[go_sem,hD,gA,gB,gC,c1]
 | (with_reducible refine aJ hQ ?_;exact bA))
   refine fm 0 1 ?_ ?_ (IH (rest,k+1,out,_) ⟨g2,h2,rfl⟩ (Nat.lt_succ_self _))
   ·(simp only[go_sem,hD,gA,gB,gC,aM ct];try exact cd)
   ·(simp only[go_sem,hD,gA,gB,gC,aM ct];try exact cd)
 |nil=>
  have hD:=drop_nil h1
  simp only[List.map_nil,nI,List.append_nil]at h2
  subst h2
  have HZ:(nV out).length=out.length:=List.length_mergeSort out
  repeat' (first
 |simp only[go_sem,hD,gA,gB,gC]
 |(with_reducible refine aJ hQ ?_;exact bA))
  refine Sem.seq (Sem.sort (k:=5) (t:=0) (l:=out) hB (by decide) (by decide) (by decide) rfl rfl (by omega) ?_)
  show Sem _ _ _ _ _ _ _
  refine Sem.seq (Sem.compact (k:=5) (t:=0) (l:=nV out) hB (by decide) rfl (by rw[HZ];rfl) (by rw[HZ];omega) ?_)
  rw[D5]
  have atV:f.calls=ly out:=by unfold Pc.calls;rw[hR]
  rw[atV]at hQ
  refine jD (ac:= .ret) (Q:=Q) (tm:= [(32, .slice (.tok 0) 1 ((ly out).map encStr)),(4, .slice (.tok 0) 1 ((ly out).map encStr))]) (s:=⟨[],[some (ly out).length]⟩) ?_
  repeat' (first
 |simp only[go_sem,hD,gA,gB,gC]
 |(with_reducible refine aJ hQ ?_;exact bA))
theorem Ks {name:aK} : ∀ {l:List Pc},name∈l.map (·.name)→∃ f,iF name l=some f
 | f::l,h=>by
  simp only[iF]
  cases e:(f.name==name)
  ·simp only [Bool.false_eq_true,if_false]
   refine Ks ?_
   rcases List.mem_cons.1 h with h|h
   ·rw[h]at e;simp at e
   ·exact h
  ·exact⟨f,rfl⟩
theorem Kt {p:Pg} {f:Pc} {procs:List aK} : ∀ {l:List Sm},zZ p f procs l=none→∀ v∈l,v.known p f procs=true
 | v::l,h,w,m=>by
  simp only[zZ]at h
  split at h
  ·rename_i e
   rcases List.mem_cons.1 m with rfl|m
   ·exact e
   ·exact Kt h w m
  ·cases h
theorem Ku {p:Pg} {procs:List aK} : ∀ {l:List Pc},((tP p procs l).1==0)=true→∀ f∈l,fe (p.globals++f.own)=false∧∀ v∈Sm.bN f.body,v.known p f procs=true
 | g::l,h,f,m=>by
  simp only[tP]at h
  split at h
  ·cases h
  ·rename_i e
   split at h
   ·cases h
   ·rename_i e2
    rcases List.mem_cons.1 m with rfl|m
    ·exact⟨by simpa using e,Kt e2⟩
    ·exact Ku h f m
theorem Gk {p:Pg} (h:(p.scope.1==0)=true):fe p.globals=false∧fe p.pn=false∧p.oW=false∧∀ f∈p.procs,fe (p.globals++f.own)=false∧∀ v∈Sm.bN f.body,v.known p f p.pn=true:=by
 unfold Pg.scope at h
 split at h
 ·split at h
  ·cases h
  ·rename_i e
   simp only[Bool.or_eq_true,not_or,Bool.not_eq_true]at e
   exact⟨e.1,e.2.1,e.2.2,Ku h⟩
 ·cases h
theorem Aa {x:aK} : ∀ {l:List Sm},x∈nI l↔∃ v∈l,v.kind=4∧v.proc=x
 | []=>by simp[nI]
 | v::l=>by
  simp only[nI]
  cases e:(v.kind==4)
  ·have:v.kind≠4:=by simpa using e
   simp[this,Aa (l:=l)]
  ·have:v.kind=4:=by simpa using e
   simp only[if_true,List.mem_cons,Aa (l:=l),exists_eq_or_imp,this,true_and]
   constructor
   ·rintro(h | h)
    ·exact .inl h.symm
    ·exact .inr h
   ·rintro(h | h)
    ·exact .inl h.symm
    ·exact .inr h
theorem D7 {f:Pc} {x:aK} : x∈f.calls↔∃ v∈Sm.bN f.body,v.kind=4∧v.proc=x:=by
 unfold Pc.calls;rw[(lH _).2,Aa]
theorem Ab {p:Pg} (h:(p.scope.1==0)=true) {f:Pc} (hf:f∈p.procs) {x:aK} (m:x∈f.calls) : ∃ g,p.find x=some g:=by
 obtain⟨v,hv,h4,rfl⟩:=D7.1 m
 have hk:=((Gk h).2.2.2 f hf).2 v hv
 simp only[Sm.known,h4,Bool.and_eq_true,Bool.or_eq_true]at hk
 rcases hk.2 with h|⟨_,h⟩
 ·simp at h
 ·exact Ks ((fx _ _).1 h)
def p8 (p:Pg) (x:aK):List aK:=match p.find x with|some f=>f.calls|none=> []
def uQ (out:List aK):List aK→List aK
 | []=>out
 |x::l=>uQ (vl out x) l
def ov (p:Pg):Nat→Nat→List aK→List aK
 | 0,_,out=>out
 |n+1,i,out=>match out[i]? with
  |some x=>ov p n (i+1) (uQ out (p8 p x))
  |none=>out
def Pg.work (p:Pg) (name:aK):List aK:=ov p (p.procs.length+1) 0 [name]
def Good (p:Pg) (out:List aK):Prop:=out.Nodup∧∀ x∈out,∃ f,p.find x=some f
theorem Good.len {p:Pg} {out:List aK} (h:Good p out):out.length≤p.procs.length:=by
 have:=zc out p.pn h.1 fun x m=>by
  obtain⟨f,hf⟩:=h.2 x m
  obtain⟨h1,h2⟩:=sB hf
  rw[← h2];exact List.mem_map_of_mem h1
 simpa[Pg.pn]using this
theorem Good.spk {p:Pg} {out:List aK} (h:Good p out) {x:aK} (hx : ∃ f,p.find x=some f):Good p (vl out x):=by
 unfold vl
 split
 ·exact h
 ·rename_i e
  have:x∉out:=fun m=>e ((fx _ _).2 m)
  refine⟨List.nodup_append.2 ⟨h.1,by simp,fun a ha b hb e'=>?_⟩,fun y hy=>?_⟩
  ·have hbx:b=x:=by simpa using hb
   rw[e',hbx]at ha;exact this ha
  ·rcases List.mem_append.1 hy with hy | hy
   ·exact h.2 y hy
   ·have:y=x:=by simpa using hy
    subst this;exact hx
theorem Good.add {p:Pg} : ∀ {l out:List aK},Good p out→(∀ x∈l,∃ f,p.find x=some f)→Good p (uQ out l)
 | [],out,h,_=>h
 |x::l,out,h,hx=>Good.add (l:=l) (out:=vl out x) (Good.spk h (hx x List.mem_cons_self)) fun y m=>hx y (List.mem_cons_of_mem _ m)
def tgB:Bool→Tag
 |true=> .tok 0
 |false=> .full
def tkB:Bool→Nat→List (Option Nat)
 |true,n=> [some n]
 |false,_=> []
def BS:AI→AI
 | .op d g (.du z k n ps)=> .op d g (.xf z k n ps)
 |a=>a
section
variable {P:Program}
theorem Pu {nt:Nat} {ops:Array Oper} {i:Nat} {o:Oper} {ai:AI} (hi:ops[i]? = some o) (hc:cI P nt ops o=some ai)
 {M:Map} {s:St} {w:World} {tm:Tm} {act:Act} (r:Rel M s w) (kW:Laid M s w) (ht:nM M s tm act.tmps) {K':Tm→St→Prop} (h:jW P [BS ai] K' tm s)
 {K:Act→World→Prop} {Q:Exit→Act→World→Prop}
 (hK : ∀ d v s1 w1 M1,K' (tm.put ai.dst d) s1→Ext M s w M1 s1 w1→Rel M1 s1 w1→RD M1 s1 d v→K (act.put o.dst v) w1):wpOp P ops Q i K act w:=by
 by_cases hb : ∃ d g z k n ps,ai = .op d g (.du z k n ps)
 ·obtain⟨d0,g0,z,k,n,ps,rfl⟩:=hb
  obtain⟨g,hg,_,hb⟩:=DB hc
  rw[vG hb]at hK
  simp only[wpOp,hi]
  have skip:K' (tm.put o.dst (.tuple [])) s→K (act.put o.dst Go.undef) w:=fun hk=>hK _ _ _ _ _ hk (Ext.refl M s w) r .undef
  have hd:=vG hb
  simp only[AI.dst]at hd
  subst hd
  have pW:GY P o=some (.du z k n ps)∧g0=g:=by
   unfold uZ at hb
   split at hb
   ·split at hb
    ·obtain⟨xs,_,h⟩:=map_some hb;cases h
    ·cases hb
   ·obtain⟨xs,_,h⟩:=map_some hb;cases h
   ·split at hb
    ·cases hb
    ·split at hb
     ·rename_i pW
      simp only[Option.some.injEq,AI.op.injEq,true_and]at hb
      obtain⟨h1,h2⟩:=hb
      split at h2
      ·cases h2
      ·cases h2;exact⟨pW,h1.symm⟩
     ·rename_i ao fu pW
      simp only[Option.some.injEq,AI.op.injEq,true_and]at hb
      obtain⟨h1,h2⟩:=hb
      subst h2
      exact⟨pW,h1.symm⟩
     ·cases hb
  obtain⟨pW,rfl⟩:=pW
  simp only[BS,jW]at h
  rcases lr hg ht h with ⟨hw,hA⟩|⟨hw,hB⟩
  ·simp only [hw,if_true]
   left
   split at hA
   ·rename_i d s' sK
    obtain⟨v,w',M',ew,r',hv,e'⟩:=Bp pW r ht sK
    unfold Oper.wp
    rcases ew with ew|⟨ew,rfl⟩
    ·rw [ew,Oper.upon_value]
     exact hK _ _ _ _ _ hA e' r' hv
    ·rw [ew,Oper.upon_skip]
     exact hK _ _ _ _ _ hA e' r' hv
   ·exact hA.elim
  ·simp only [hw]
   exact skip hB
 ·have hs:BS ai=ai:=by
   unfold BS
   split
   ·rename_i d g z k n ps;exact absurd ⟨d,g,z,k,n,ps,rfl⟩ hb
   ·rfl
  rw[hs]at h
  exact zH hi hc r kW ht h hK
theorem aeu {a:AI} {r:List AI} {K:Tm→St→Prop} {tm:Tm} {s:St} (h:jW P (a::r) K tm s):jW P [a] (jW P r K) tm s:=by
 cases a<;>exact h
theorem Kv {B:gZ} {nt:Nat} {ops:Array Oper} {Q:Exit→Tm→St→Prop} : ∀ (l:List Nat) (ol:List Oper) (is:List AI),l.map (ops[·]?)=ol.map some→sY P nt ops ol=some is→
 ∀ (tm:Tm) (s:St) (act:Act) (w:World),jW P (is.map BS) (Q .normal) tm s→Holds B nt tm s act w→wpOps P ops (rB B nt Q) l act w
 | [],[],is,_,hc,tm,s,act,w,h,hh=>by cases hc;exact⟨tm,s,h,hh⟩
 | [],_::_,_,hl,_,_,_,_,_,_,_=>by simp at hl
 |_::_,[],_,hl,_,_,_,_,_,_,_=>by simp at hl
 | i::l,o::ol,is,hl,hc,tm,s,act,w,h,hh=>by
  simp only[List.map_cons,List.cons.injEq]at hl
  obtain⟨hi,hl⟩:=hl
  unfold sY at hc
  split at hc
  ·rename_i ai UR h1 h2
   cases hc
   obtain⟨M,e,r,ht,hn,hd⟩:=hh
   have sr:=Az h1
   have hdd:=vH h1
   rw[List.map_cons]at h
   have key:=Pu (K:=fun act w=>wpOps P ops (rB B nt Q) l act w) (Q:=rB B nt Q) hi h1 r (B.laid.ext e) ht (aeu h) (fun d v s1 w1 M1 hk e1 r1 hv=>
    Kv (Q:=Q) l ol UR hl h2 _ _ _ _ hk (hdd ▸ Holds.put e ht hn hd sr e1 r1 hv))
   simpa only[wpOps,wpOp,hi]using key
  ·cases hc
theorem Sem.swap {B:gZ} {nt:Nat} {is:List AI} {Q:Exit→Tm→St→Prop} {tm:Tm} {s:St} (h:jX P B nt (.run (is.map BS)) Q tm s):Sem P B nt (.run is) Q tm s:=by
 intro c hc act w hh
 obtain⟨id,ops,rfl,hi⟩:=mX hc
 refine wp_region ?_
 exact Kv _ _ is (Dy ops) hi tm s act w (qc h) hh
end
end Go.Abs
namespace Go.Abs
set_option maxRecDepth 8000
open Go.Proofs
theorem Tw {l:List aK} (h:l.Nodup):nV l=ly l:=by
 refine z7 ?_ (lH l).1 fun x=>?_
 ·have h1:=Kr l
  have h2:(nV l).Nodup:=(List.mergeSort_perm l _).nodup_iff.2 h
  refine(List.pairwise_and_iff.2 ⟨h1,h2⟩).imp fun {a b} hab=>?_
  rcases Ba a b with e|e|e
  ·exact e
  ·exact absurd e hab.2
  ·rw[hab.1]at e;cases e
 ·rw[(lH l).2];exact(List.mergeSort_perm l _).mem_iff
theorem D8 {p:Pg} (ni:(p.scope.1==0)=true) : ∀ (n i:Nat) (out:List aK),Good p out→Good p (ov p n i out)
 | 0,i,out,h=>h
 | n+1,i,out,h=>by
  simp only[ov]
  split
  ·rename_i x hx
   obtain⟨g,hg⟩:=h.2 x (List.mem_of_getElem? hx)
   refine D8 ni n _ _ (h.add fun y m=>?_)
   unfold p8 at m
   rw[hg]at m
   exact Ab ni (sB hg).1 m
  ·exact h
theorem BT {p:Pg} {name:aK} {f:Pc} (hf:p.find name=some f):Good p [name]:=
 ⟨by simp,fun x m=>by
  have:x=name:=by simpa using m
  subst this;exact⟨f,hf⟩⟩
theorem aev {p:Pg} (h:p.jE) (ni:(p.scope.1==0)=true) {name:aK} {f:Pc} (hf:p.find name=some f) (s:St):aH Tryz.prog zU [.dS (gu p) 0, .str name] s (.slice .shared 1 ((ly (p.work name)).map encStr)) s:=by
 refine aH.pure ?_ (by simp[D.bM,D.ok,wy]) (by simp only[D.ok,Tag.ok,fL];rfl) s
 obtain⟨s9,p7,sR⟩:=h.procs
 obtain⟨R,hR⟩ : ∃ R,p.work name=R:=⟨_,rfl⟩
 have hgR:Good p R:=hR ▸ D8 ni _ _ _ (BT hf)
 rw[hR, ← Tw hgR.1]
 unfold Pg.work at hR
 have hg0:Good p [name]:=BT hf
 have hRl:=hgR.len
 unfold S0
 obtain⟨fn,CP,FB⟩:=Ll
 refine aH.intro ⟨fn,CP,FB⟩ (Nat.le_of_ble_eq_true rfl) fun B hB=>?_
 generalize hQ:rC (⟨[],[]⟩:St).al.length (⟨[],[]⟩:St).aA.length _ _ (⟨[],[]⟩:St)=Q
 have⟨hD,gA,gB,gC⟩:=bX
 refine Sem.oK ?_
 repeat' (first
 |simp only[go_sem,hD,gA,gB,gC]
 |(with_reducible first|refine bq fun hc=>?_|refine br fun hc=>?_|refine bt (fun hc=>?_) fun hc=>?_)<;>(try simp only[hc,bs,↓reduceIte]at h)<;>try simp only[hc]
 |(with_reducible refine aJ hQ ?_;exact fU)
 |(cases h;done))
 refine Sem.seq (Sem.swap ?_)
 simp only[List.map_cons,List.map_nil,BS]
 repeat' (first
 |simp only[go_sem,hD,gA,gB,gC]
 |(with_reducible first|refine bq fun hc=>?_|refine br fun hc=>?_|refine bt (fun hc=>?_) fun hc=>?_)<;>(try simp only[hc,bs,↓reduceIte]at h)<;>try simp only[hc]
 |(with_reducible refine aJ hQ ?_;exact fU)
 |(cases h;done))
 refine Sem.oK ?_
 repeat' (first
 |simp only[go_sem,hD,gA,gB,gC]
 |(with_reducible first|refine bq fun hc=>?_|refine br fun hc=>?_|refine bt (fun hc=>?_) fun hc=>?_)<;>(try simp only[hc,bs,↓reduceIte]at h)<;>try simp only[hc]
 |(with_reducible refine aJ hQ ?_;exact fU)
 |(cases h;done))
 refine fI 0 1 (bp.ind (ι:=Nat×Nat×List aK×Nat) (fun i=>ov p i.1 i.2.1 i.2.2.1=R∧Good p i.2.2.1∧i.1+i.2.1=p.procs.length+1∧i.2.2.2=i.2.2.1.length) (fun i=>i.1)
  (fun i=> [(0, .dS (gu p) 0),(5, .slice (.tok 0) 1 (i.2.2.1.map encStr)),(6, .int .i64 (i.2.1:Int))]) (fun i=>⟨[],[some i.2.2.2]⟩) ?_ (p.procs.length+1,0,[name],1) ⟨hR,hg0,rfl,rfl⟩)
 rintro⟨n,i,out,no⟩ ⟨h1,h2,h3,h4⟩ IH
 dsimp only at h1 h2 h3 h4
 subst h4
 have jC:=h2.len
 cases hx:out[i]? with
 | none=>
  have hD:decide ((i:Int)<(out.length:Int))=false:=by have:=List.getElem?_eq_none_iff.1 hx;simp;omega
  have:R=out:=by
   cases n with
   |zero=>simpa[ov]using h1.symm
   |succ n=>simp only[ov,hx]at h1;exact h1.symm
  subst this
  repeat' (first
 |simp only[go_sem,hD,gA,gB,gC]
 |(with_reducible first|refine bq fun hc=>?_|refine br fun hc=>?_|refine bt (fun hc=>?_) fun hc=>?_)<;>(try simp only[hc,bs,↓reduceIte]at h)<;>try simp only[hc]
 |(with_reducible refine aJ hQ ?_;exact fU)
 |(cases h;done))
  refine Sem.seq (Sem.sort (k:=5) (t:=0) (l:=R) hB (by decide) (by decide) (by decide) rfl rfl (by omega) ?_)
  refine jD (ac:=ahD) (Q:=Q) (tm:= [(5, .slice (.tok 0) 1 ((nV R).map encStr))]) (s:=⟨[],[some R.length]⟩) ?_
  repeat' (first
 |simp only[go_sem,hD,gA,gB,gC]
 |(with_reducible first|refine bq fun hc=>?_|refine br fun hc=>?_|refine bt (fun hc=>?_) fun hc=>?_)<;>(try simp only[hc,bs,↓reduceIte]at h)<;>try simp only[hc]
 |(with_reducible refine aJ hQ ?_;exact fU)
 |(cases h;done))
 |some x=>
  have sL:=(List.getElem?_eq_some_iff.1 hx).1
  have hD:decide ((i:Int)<(out.length:Int))=true:=by simp;omega
  have pw:i<4611686018427387904:=by omega
  cases n with
  |zero=>omega
  |succ n=>
  simp only[ov,hx]at h1
  obtain⟨g,H3⟩:=h2.2 x (List.mem_of_getElem? hx)
  have Wr:=(sB H3).1
  have hca:=fun s=>aet h H3 s
  have hcn:p8 p x=g.calls:=by unfold p8;rw[H3]
  rw[hcn]at h1
  have D9 : ∀ y∈g.calls,∃ f,p.find y=some f:=fun y m=>Ab ni Wr m
  have aBZ:g.calls.length≤p.procs.length:=Good.len ⟨w5 (lH _).1,D9⟩
  obtain⟨W,hW⟩ : ∃ W,uQ out g.calls=W:=⟨_,rfl⟩
  rw[hW]at h1
  repeat' (first
 |simp only[go_sem,hD,gA,gB,gC,hx]
 |(with_reducible refine CU (hca _) ?_)
 |(with_reducible first|refine bq fun hc=>?_|refine br fun hc=>?_|refine bt (fun hc=>?_) fun hc=>?_)<;>(try simp only[hc,bs,↓reduceIte]at h)<;>try simp only[hc]
 |(with_reducible refine aJ hQ ?_;(try cases h);simp only[bh,bk,bO,bP,go_sem,hD,gA,gB,gC,hx];try exact cJ)
 | (cases h;done))
  refine fI 0 1 (bp.ind (ι:=List aK×Nat×List aK×Nat) (fun j=>g.calls.drop j.2.1=j.1∧uQ j.2.2.1 j.1=W∧Good p j.2.2.1∧j.2.2.2=j.2.2.1.length) (fun j=>j.1.length)
   (fun j=> [(0, .dS (gu p) 0),(5, .slice (.tok 0) 1 (j.2.2.1.map encStr)),(6, .int .i64 (i:Int)),(22, .slice .shared 1 (g.calls.map encStr)),(23, .int .i64 (g.calls.length:Int)),(24, .int .i64 (j.2.1:Int))]) (fun j=>⟨[],[some j.2.2.2]⟩) ?_ (g.calls,0,out,out.length) ⟨rfl,hW,h2,rfl⟩)
  clear hW
  rintro⟨rest,k,dg,n'⟩ ⟨j1,j2,j3,j4⟩ IH'
  dsimp only at j1 j2 j3 j4
  subst j4
  have aB0:=j3.len
  cases rest with
  |nil=>
   have ah7:=drop_nil j1
   simp only[uQ]at j2
   subst j2
   repeat' (first
 |simp only[go_sem,hD,gA,gB,gC,ah7]
 |(with_reducible first|refine bq fun hc=>?_|refine br fun hc=>?_|refine bt (fun hc=>?_) fun hc=>?_)<;>(try simp only[hc,bs,↓reduceIte]at h)<;>try simp only[hc]
 |(with_reducible refine aJ hQ ?_;(try cases h);simp only[bh,bk,bO,bP,go_sem,hD,gA,gB,gC,ah7];try exact cJ)
 | (cases h;done))
   refine fm 0 1 ?_ ?_ (IH (n,i+1,dg,dg.length) ⟨h1,j3,by dsimp only;omega,rfl⟩ (Nat.lt_succ_self _))
   ·(simp only[go_sem,hD,gA,gB,gC,aM pw];try exact cd)
   ·(simp only[go_sem,hD,gA,gB,gC,aM pw];try exact cd)
  | cons y rest=>
   obtain⟨qQ,Qa,A7,jg4⟩:=drop_cons j1
   have A8:k<4611686018427387904:=by omega
   have gB:(dg.length+1)*17≤bD:=by unfold bD;omega
   have Kw:=fun g s=>kI (l:=dg) (by omega) y g s
   have hy:=D9 y (List.mem_of_getElem? qQ)
   have wJ:=j3.spk hy
   simp only[uQ]at j2
   rcases Bool.eq_false_or_eq_true (fG dg y)with c1|c1
   ·simp only [vl,c1,if_true]at j2
    repeat' (first
 |simp only[go_sem,hD,gA,gB,gC,A7,qQ,c1]
 |(with_reducible refine CU (Kw _ _) ?_)
 |(with_reducible first|refine bq fun hc=>?_|refine br fun hc=>?_|refine bt (fun hc=>?_) fun hc=>?_)<;>(try simp only[hc,bs,↓reduceIte]at h)<;>try simp only[hc]
 |(with_reducible refine aJ hQ ?_;(try cases h);simp only[bh,bk,bO,bP,go_sem,hD,gA,gB,gC,A7,qQ,c1];try exact cJ)
 | (cases h;done))
    refine fm 0 1 ?_ ?_ (IH' (rest,k+1,dg,dg.length) ⟨Qa,j2,j3,rfl⟩ (Nat.lt_succ_self _))
    ·(simp only[go_sem,hD,gA,gB,gC,aM A8];try exact cd)
    ·(simp only[go_sem,hD,gA,gB,gC,aM A8];try exact cd)
   ·simp only [vl,c1,Bool.false_eq_true,if_false]at j2 wJ
    repeat' (first
 |simp only[go_sem,hD,gA,gB,gC,A7,qQ,c1]
 |(with_reducible refine CU (Kw _ _) ?_)
 |(with_reducible first|refine bq fun hc=>?_|refine br fun hc=>?_|refine bt (fun hc=>?_) fun hc=>?_)<;>(try simp only[hc,bs,↓reduceIte]at h)<;>try simp only[hc]
 |(with_reducible refine aJ hQ ?_;(try cases h);simp only[bh,bk,bO,bP,go_sem,hD,gA,gB,gC,A7,qQ,c1];try exact cJ)
 | (cases h;done))
    refine fm 0 1 ?_ ?_ (IH' (rest,k+1,dg++ [y],dg.length+1) ⟨Qa,j2,wJ,by simp⟩ (Nat.lt_succ_self _))
    ·(simp only[go_sem,hD,gA,gB,gC,aM A8,List.map_append,List.map_cons,List.map_nil,encStr];try exact cd)
    ·(simp only[go_sem,hD,gA,gB,gC,aM A8,List.map_append,List.map_cons,List.map_nil,encStr];try exact cd)
theorem NB (name:aK) : ∀ l:List Pc,l.any (fun f=>f.name==name)=(iF name l).isSome
 | []=>rfl
 |f::l=>by
  simp only[List.any_cons,iF]
  cases e:(f.name==name)
  ·simp[NB name l]
  ·simp
theorem ZZ (name:aK) (f:Pc):aH Tryz.prog qu ([.agg (bS f)]++ [.ptr 0 0]) ⟨[[.str name]],[]⟩ (.bool (f.name==name)) ⟨[[.str name]],[]⟩:=by
 show aH Tryz.prog qu [.agg (bS f), .ptr 0 0] _ _ _
 refine aH.go Fc rfl fun B Q hB hQ=>?_
 have⟨hD,gA,gB,gC⟩:=bX
 repeat' (first
 |simp only[go_sem,hD,gA,gB,gC]
 |(with_reducible refine aJ hQ ?_;exact bA))
def Pg.uR (p:Pg) (name:aK):Option Pc:=if p.scope.1==0 then p.find name else none
theorem Z0 {p:Pg} (h:p.jE) (name:aK) (s:St):aH Tryz.prog wo [.agg (bV p), .str name] s (.bool (p.uR name).isSome) s:=by
 refine aH.pure ?_ (by simp[D.bM,D.ok,jj]) rfl s
 obtain⟨s9,p7,sR⟩:=h.procs
 have ri:=fun s=>xS h s
 have hi:=fun {s:St} {o:Nat} (ho:s.al[o]? = some [.str name])=>DU (C1 (l:=p.procs) (f:=qu) (row:= [.str name]) (b:=fun f:Pc=>f.name==name) (by omega) rfl (by with_unfolding_all rfl) (fun x _=>ZZ name x)) rfl (yK _) rfl ho
 have iI:=fun {s:St} {o:Nat} (ho:s.al[o]? = some [.str name])=>(show aH Tryz.prog iZ [.slice .shared 5 (p.procs.map bS), .ix 191 [.ptr o 0]] s (.bool (p.procs.any fun f:Pc=>f.name==name)) s from hi ho)
 simp only[NB]at iI
 unfold Pg.uR Pg.find
 unfold S0
 rcases Bool.eq_false_or_eq_true (p.scope.1==0)with b1|b1
 ·simp only [b1,if_true]
  refine aH.go yQ rfl fun B Q hB hQ=>?_
  have⟨hD,gA,gB,gC⟩:=bX
  repeat' (first
 |simp only[go_sem,hD,gA,gB,gC,b1]
 |(with_reducible refine CU (ri _) ?_)
 |(with_reducible refine CU (iI (by with_unfolding_all rfl)) ?_)
 |(with_reducible refine aJ hQ ?_;exact bA))
 ·simp only [b1,Bool.false_eq_true,if_false,Option.isSome_none]
  refine aH.go yQ rfl fun B Q hB hQ=>?_
  have⟨hD,gA,gB,gC⟩:=bX
  repeat' (first
 |simp only[go_sem,hD,gA,gB,gC,b1]
 |(with_reducible refine CU (ri _) ?_)
 |(with_reducible refine CU (iI (by with_unfolding_all rfl)) ?_)
 |(with_reducible refine aJ hQ ?_;exact bA))
def Pg.aAB (p:Pg) (name:aK):List aK:=match p.uR name with|some f=>f.calls|none=> []
def Pg.atW (p:Pg) (name:aK):List aK:=match p.uR name with|some _=>ly (p.work name)|none=> []
theorem Ea {p:Pg} {name:aK} {f:Pc} (h:p.uR name=some f):(p.scope.1==0)=true∧p.find name=some f:=by
 unfold Pg.uR at h
 split at h
 ·exact⟨by assumption,h⟩
 ·cases h
def rf (p:Pg) (out:List aK):List aK→List aK
 | []=>out
 |v::l=>rf p (if fG p.globals v then out++ [v]else out) l
def rh (p:Pg) (out:List aK):List Sm→List aK
 | []=>out
 |v::l=>rh p (rf p out v.said) l
def oY (p:Pg) (n:aK):List Sm:=match p.find n with|some f=>Sm.bN f.body|none=> []
def sg (p:Pg) (out:List aK):List aK→List aK
 | []=>out
 |n::l=>sg p (rh p out (oY p n)) l
theorem BU (p:Pg) : ∀ (l out:List aK),out.length≤(rf p out l).length∧(rf p out l).length≤out.length+l.length
 | [],out=>⟨Nat.le_refl _,Nat.le_refl _⟩
 |v::l,out=>by
  simp only[rf]
  have h:=BU p l (if fG p.globals v then out++ [v]else out)
  have h2:out.length≤(if fG p.globals v then out++ [v]else out).length∧(if fG p.globals v then out++ [v]else out).length≤out.length+1:=by split<;>simp
  simp only[List.length_cons]
  omega
def qv:List Sm→Nat
 | []=>0
 |v::l=>v.said.length+qv l
theorem Eb : ∀ a b:List Sm,qv (a++b)=qv a+qv b
 | [],b=>by simp[qv]
 |v::a,b=>by simp only[List.cons_append,qv,Eb a b];omega
theorem aew (v:Sm):v.said.length≤1+v.x.size+2*Ar.aU v.args:=by
 have : ∀ (l:List Ar) (out:List aK),(Ar.said out l).length≤out.length+2*Ar.aU l:=by
  intro l
  induction l with
  |nil=>intro out;simp[Ar.said]
  |cons a l ih=>
   intro out
   simp only[Ar.said,Ar.aU]
   refine Nat.le_trans (ih _) ?_
   have:=mH a.x
   have:1≤a.x.size:=by obtain⟨_,_,_,_⟩:=a.x;simp[Ex.size]
   simp only[List.length_append]
   split<;>simp<;>omega
 have h1:=this v.args (v.vm++v.x.names)
 have h2:=mH v.x
 have h4:v.vm.length≤1:=by unfold Sm.vm;split<;>simp
 simp only[List.length_append]at h1
 unfold Sm.said
 omega
mutual
theorem Ws : ∀ s:Sm,qv s.pre≤2*s.size
 |⟨id,kind,labels,name,proc,x,has,args,aQ,aN⟩=>by
  simp only[Sm.pre,qv,Eb,Sm.size]
  have h1:=aew ⟨id,kind,labels,name,proc,x,has,args,aQ,aN⟩
  have h2:=w6 aQ
  have h3:=w6 aN
  dsimp only at h1
  omega
theorem w6 : ∀ l:List Sm,qv (Sm.bN l)≤2*Sm.aU l
 | []=>by simp[Sm.bN,qv,Sm.aU]
 |s::l=>by
  simp only[Sm.bN,Eb,Sm.aU]
  have:=Ws s;have:=w6 l;omega
end
theorem BV (p:Pg) : ∀ (l:List Sm) (out:List aK),out.length≤(rh p out l).length∧(rh p out l).length≤out.length+qv l
 | [],out=>⟨Nat.le_refl _,Nat.le_refl _⟩
 |v::l,out=>by
  simp only[rh,qv]
  have h:=BV p l (rf p out v.said)
  have h2:=BU p v.said out
  omega
theorem BW {p:Pg} (h:p.jE) : ∀ (l out:List aK),out.length≤(sg p out l).length∧(sg p out l).length≤out.length+l.length*1800000
 | [],out=>⟨Nat.le_refl _,by simp[sg]⟩
 | n::l,out=>by
  simp only[sg]
  have h1:=BW h l (rh p out (oY p n))
  have h2:=BV p (oY p n) out
  have h3:qv (oY p n)≤1800000:=by
   unfold oY
   split
   ·rename_i f hf
    have:=w6 f.body
    have h4:=Pc.cZ (sB hf).1
    have h5:=h.procs.2.1
    simp only[Pc.size]at h4
    omega
   ·simp[qv]
  simp only[List.length_cons]
  omega
theorem Wt {p:Pg} (h:p.may=true):p.procs.length≤16:=by
 unfold Pg.may at h
 split at h
 ·cases h
 ·rename_i c
  simp only[Bool.or_eq_true,decide_eq_true_eq,not_or,Int.not_lt,gt_iff_lt]at c
  have:=c.1.2
  omega
def Pg.sC (p:Pg) (name:aK):List aK:=sg p [] (ly (p.work name))
def Pg.nj (p:Pg) (name:aK):List aK:=match p.uR name with|some _=>ly (p.sC name)|none=> []
theorem NC {p:Pg} (ni:(p.scope.1==0)=true) {name:aK} {f:Pc} (hf:p.find name=some f):Good p (ly (p.work name)):=by
 have h:=D8 ni (p.procs.length+1) 0 [name] (BT hf)
 refine⟨w5 (lH _).1,fun x m=>h.2 x ?_⟩
 exact((lH _).2 x).1 m
theorem Wu {p:Pg} (h:p.jE) (name:aK) (s:St):aH Tryz.prog tw [.agg (bV p), .str name] s (.slice .shared 1 ((p.nj name).map encStr)) s:=by
 refine aH.pure ?_ (by simp[D.bM,D.ok,jj]) (by simp only[D.ok,Tag.ok,fL];rfl) s
 have hk:=fun s=>Z0 h name s
 have dB:=fun s=>EL (p:=p) (by have:=h.procs;omega) s
 unfold Pg.nj
 unfold S0
 cases Z1:p.uR name with
 |none=>
  simp only[Z1,Option.isSome_none]at hk
  simp only[List.map_nil]
  refine aH.go wL rfl fun B Q hB hQ=>?_
  have⟨hD,gA,gB,gC⟩:=bX
  repeat' (first
 |simp only[go_sem,hD,gA,gB,gC]
 |(with_reducible refine CU (hk _) ?_)
 |(with_reducible refine aJ hQ ?_;exact bA))
 |some f=>
 obtain⟨ni,hf⟩:=Ea Z1
 simp only[Z1,Option.isSome_some]at hk
 dsimp only
 obtain⟨s9,p7,sR⟩:=h.procs
 have hN:=NC ni hf
 obtain⟨N,hNe⟩ : ∃ N,ly (p.work name)=N:=⟨_,rfl⟩
 rw[hNe]at hN
 have hNl:=hN.len
 obtain⟨R,hR⟩ : ∃ R,p.sC name=R:=⟨_,rfl⟩
 rw[hR]
 unfold Pg.sC at hR
 rw[hNe]at hR
 have hRl:R.length≤28800000:=by
  have:=(BW h N []).2
  rw[hR]at this
  have h4:=Wt (D2 ni)
  have h3:N.length*1800000≤16*1800000:=Nat.mul_le_mul_right _ (by omega)
  simp only[List.length_nil]at this
  omega
 have hca:=fun s=>aev h ni hf s
 simp only[hNe]at hca
 obtain⟨fn,CP,FB⟩:=wL
 refine aH.intro ⟨fn,CP,FB⟩ (Nat.le_of_ble_eq_true rfl) fun B hB=>?_
 generalize hQ:rC (⟨[],[]⟩:St).al.length (⟨[],[]⟩:St).aA.length _ _ (⟨[],[]⟩:St)=Q
 have⟨hD,gA,gB,gC⟩:=bX
 refine Sem.oK ?_
 repeat' (first
 |simp only[go_sem,hD,gA,gB,gC]
 |(with_reducible refine aJ hQ ?_;exact bA))
 refine Sem.oK ?_
 repeat' (first
 |simp only[go_sem,hD,gA,gB,gC]
 |(with_reducible refine CU (hk _) ?_)
 |(with_reducible refine aJ hQ ?_;exact bA))
 refine Sem.oK ?_
 repeat' (first
 |simp only[go_sem,hD,gA,gB,gC]
 |(with_reducible refine CU (dB _) ?_)
 |(with_reducible refine aJ hQ ?_;exact bA))
 refine Sem.oK ?_
 repeat' (first
 |simp only[go_sem,hD,gA,gB,gC]
 |(with_reducible refine aJ hQ ?_;exact bA))
 refine Sem.oK ?_
 repeat' (first
 |simp only[go_sem,hD,gA,gB,gC]
 |(with_reducible refine CU (hca _) ?_)
 |(with_reducible refine aJ hQ ?_;exact bA))
 refine bp.rD 6 1 rfl ?_
 simp only[go_sem,hD,gA,gB,gC]
 refine fI 1 1 (bp.ind (ι:=List aK×Nat×List aK×Nat) (fun i=>N.drop i.2.1=i.1∧sg p i.2.2.1 i.1=R∧i.2.2.1.length≤R.length∧i.2.2.2=i.2.2.1.length) (fun i=>i.1.length)
  (fun i=> [(2, .ptr 0 0),(5, .dS (gu p) 0),(6, .slice (.tok 0) 1 (i.2.2.1.map encStr)),(21, .slice .shared 1 (N.map encStr)),(22, .int .i64 (N.length:Int)),(23, .int .i64 (i.2.1:Int))]) (fun i=>⟨[bV p],[some i.2.2.2]⟩) ?_ (N,0,[],0) ⟨rfl,hR,Nat.zero_le _,rfl⟩)
 rintro⟨rest,k,out,no⟩ ⟨h1,h2,h3,h4⟩ IH
 dsimp only at h1 h2 h3 h4
 subst h4
 cases rest with
 |nil=>
  have hD:=drop_nil h1
  simp only[sg]at h2
  subst h2
  have HZ:(nV out).length=out.length:=List.length_mergeSort out
  repeat' (first
 |simp only[go_sem,hD,gA,gB,gC]
 |(with_reducible refine aJ hQ ?_;exact bA))
  refine Sem.seq (Sem.sort (k:=6) (t:=0) (l:=out) hB (by decide) (by decide) (by decide) rfl rfl (by omega) ?_)
  refine Sem.seq (Sem.compact (k:=6) (t:=0) (l:=nV out) hB (by decide) rfl (by rw[HZ];rfl) (by rw[HZ];omega) ?_)
  rw[D5]
  refine jD (ac:= .ret) (Q:=Q) (tm:= [(59, .slice (.tok 0) 1 ((ly out).map encStr)),(4, .slice (.tok 0) 1 ((ly out).map encStr))]) (s:=⟨[],[some (ly out).length]⟩) ?_
  repeat' (first
 |simp only[go_sem,hD,gA,gB,gC]
 |(with_reducible refine aJ hQ ?_;exact bA))
 | cons x rest=>
  obtain⟨gA,g2,hD,g4⟩:=drop_cons h1
  have ct:k<4611686018427387904:=by omega
  obtain⟨g,H3⟩:=hN.2 x (List.mem_of_getElem? gA)
  have Wr:=(sB H3).1
  have hbd:oY p x=Sm.bN g.body:=by unfold oY;rw[H3]
  simp only[sg,hbd]at h2
  obtain⟨j,hj,td⟩:=D6 (k:=0) H3
  have td:p.at x=((j:Nat):Int):=by unfold Pg.at;simpa using td
  have yZ:=fun s=>HL (p:=p) (by omega) x s
  simp only[td]at yZ
  obtain⟨it,rr,zb⟩:=ZA hj (by omega)
  have ahY:it.length≤900000:=by
   have e:=congrArg List.length rr
   obtain⟨a,b,e',_,_,e3,e4⟩:=(kU p).2 j g hj
   have e5:=qO p
   have e6:=congrArg List.length e3
   rw[e4]at e5
   simp only[List.length_map,List.length_append]at e e5 e6
   omega
  rw[← rr]at h2
  repeat' (first
 |simp only[go_sem,hD,gA,gB,gC,gA]
 |(with_reducible refine CU (yZ _) ?_)
 |(with_reducible refine CU (zb _) ?_)
 | (with_reducible refine aJ hQ ?_;exact bA))
  obtain⟨W,hW⟩ : ∃ W,rh p out (it.map Im.s)=W:=⟨_,rfl⟩
  rw[hW]at h2
  have hWR:W.length≤R.length:=by have:=(BW h rest W).1;rw[h2]at this;exact this
  have Wm:out.length≤W.length:=by have:=(BV p (it.map Im.s) out).1;rw[hW]at this;exact this
  refine fI 1 1 (bp.ind (ι:=List Im×Nat×List aK×Nat) (fun i=>it.drop i.2.1=i.1∧rh p i.2.2.1 (i.1.map Im.s)=W∧i.2.2.1.length≤W.length∧i.2.2.2=i.2.2.1.length) (fun i=>i.1.length)
   (fun i=> [(2, .ptr 0 0),(5, .dS (gu p) 0),(6, .slice (.tok 0) 1 (i.2.2.1.map encStr)),(21, .slice .shared 1 (N.map encStr)),(22, .int .i64 (N.length:Int)),(23, .int .i64 (k:Int)),(31, .slice .shared 17 (it.map dP)),(32, .int .i64 (it.length:Int)),(33, .int .i64 (i.2.1:Int))]) (fun i=>⟨[bV p],[some i.2.2.2]⟩) ?_ (it,0,out,out.length) ⟨rfl,hW,Wm,rfl⟩)
  rintro⟨ze,k2,Gl,no⟩ ⟨j1,j2,j3,j4⟩ HQ
  dsimp only at j1 j2 j3 j4
  subst j4
  cases ze with
  |nil=>
   have ah9:=drop_nil j1
   simp only[List.map_nil,rh]at j2
   subst j2
   repeat' (first
 |simp only[go_sem,hD,gA,gB,gC,ah9]
 | (with_reducible refine aJ hQ ?_;exact bA))
   refine fm 1 1 ?_ ?_ (IH (rest,k+1,Gl,Gl.length) ⟨g2,h2,hWR,rfl⟩ (Nat.lt_succ_self _))
   ·(simp only[go_sem,hD,gA,gB,gC,aM ct];try exact cd)
   ·(simp only[go_sem,hD,gA,gB,gC,aM ct];try exact cd)
  |cons y ze=>
   obtain⟨qQ,Qa,A7,jg4⟩:=drop_cons j1
   have A8:k2<4611686018427387904:=by omega
   have hym:y.s∈Sm.bN g.body:=by rw[← rr];exact List.mem_map_of_mem (List.mem_of_getElem? qQ)
   have uq:=h.said Wr _ hym
   have hsa:=fun s=>DX uq s
   have HZ:=Ns _ uq
   simp only[List.map_cons,rh]at j2
   repeat' (first
 |simp only[go_sem,hD,gA,gB,gC,A7,qQ]
 |(with_reducible refine CU (hsa _) ?_)
 | (with_reducible refine aJ hQ ?_;exact bA))
   obtain⟨V,hV⟩ : ∃ V,rf p Gl y.s.said=V:=⟨_,rfl⟩
   rw[hV]at j2
   have hVW:V.length≤W.length:=by have:=(BV p (ze.map Im.s) V).1;rw[j2]at this;exact this
   have hoV:Gl.length≤V.length:=by have:=(BU p y.s.said Gl).1;rw[hV]at this;exact this
   refine fI 1 1 (bp.ind (ι:=List aK×Nat×List aK×Nat) (fun i=>y.s.said.drop i.2.1=i.1∧rf p i.2.2.1 i.1=V∧i.2.2.1.length≤V.length∧i.2.2.2=i.2.2.1.length) (fun i=>i.1.length)
    (fun i=> [(2, .ptr 0 0),(5, .dS (gu p) 0),(6, .slice (.tok 0) 1 (i.2.2.1.map encStr)),(21, .slice .shared 1 (N.map encStr)),(22, .int .i64 (N.length:Int)),(23, .int .i64 (k:Int)),(31, .slice .shared 17 (it.map dP)),(32, .int .i64 (it.length:Int)),(33, .int .i64 (k2:Int)),(39, .slice .shared 1 (y.s.said.map encStr)),(40, .int .i64 (y.s.said.length:Int)),(41, .int .i64 (i.2.1:Int))]) (fun i=>⟨[bV p],[some i.2.2.2]⟩) ?_ (y.s.said,0,Gl,Gl.length) ⟨rfl,hV,hoV,rfl⟩)
   rintro⟨H4,k3,BX,no⟩ ⟨l1,l2,l3,l4⟩ IH3
   dsimp only at l1 l2 l3 l4
   subst l4
   cases H4 with
   |nil=>
    have atX:=drop_nil l1
    simp only[rf]at l2
    subst l2
    repeat' (first
 |simp only[go_sem,hD,gA,gB,gC,atX]
 | (with_reducible refine aJ hQ ?_;exact bA))
    refine fm 1 1 ?_ ?_ (HQ (ze,k2+1,BX,BX.length) ⟨Qa,j2,hVW,rfl⟩ (Nat.lt_succ_self _))
    ·(simp only[go_sem,hD,gA,gB,gC,aM A8];try exact cd)
    ·(simp only[go_sem,hD,gA,gB,gC,aM A8];try exact cd)
   | cons z H4=>
    obtain⟨aia,lg2,llt,lg4⟩:=drop_cons l1
    have Kx:k3<4611686018427387904:=by omega
    have Kw:=fun g s=>kI (l:=p.globals) (by omega) z g s
    simp only[rf]at l2
    rcases Bool.eq_false_or_eq_true (fG p.globals z)with c1|c1
    ·simp only [c1,if_true]at l2
     have gB:(BX.length+1)*17≤bD:=by unfold bD;omega
     have hoo:(BX++ [z]).length≤V.length:=by have:=(BU p H4 (BX++ [z])).1;rw[l2]at this;exact this
     repeat' (first
 |simp only[go_sem,hD,gA,gB,gC,llt,aia,c1]
 |(with_reducible refine CU (Kw _ _) ?_)
 | (with_reducible refine aJ hQ ?_;exact bA))
     refine fm 1 1 ?_ ?_ (IH3 (H4,k3+1,BX++ [z],BX.length+1) ⟨lg2,l2,hoo,by simp⟩ (Nat.lt_succ_self _))
     ·(simp only[go_sem,hD,gA,gB,gC,aM Kx,List.map_append,List.map_cons,List.map_nil,encStr];try exact cd)
     ·(simp only[go_sem,hD,gA,gB,gC,aM Kx,List.map_append,List.map_cons,List.map_nil,encStr];try exact cd)
    ·simp only [c1,Bool.false_eq_true,if_false]at l2
     repeat' (first
 |simp only[go_sem,hD,gA,gB,gC,llt,aia,c1]
 |(with_reducible refine CU (Kw _ _) ?_)
 |(with_reducible refine aJ hQ ?_;exact bA))
     refine fm 1 1 ?_ ?_ (IH3 (H4,k3+1,BX,BX.length) ⟨lg2,l2,l3,rfl⟩ (Nat.lt_succ_self _))
     ·(simp only[go_sem,hD,gA,gB,gC,aM Kx];try exact cd)
     ·(simp only[go_sem,hD,gA,gB,gC,aM Kx];try exact cd)
mutual
def Sm.Ww (deep db:Int) (aN:Bool):Sm→List It
 |⟨id,kind,labels,name,proc,x,has,args,aQ,e⟩=>⟨⟨id,kind,labels,name,proc,x,has,args,aQ,e⟩,deep,db,aN⟩::(Sm.Z2 (deep+1) id false aQ++Sm.Z2 (deep+1) id true e)
def Sm.Z2 (deep db:Int) (aN:Bool):List Sm→List It
 | []=> []
 |s::l=>s.Ww deep db aN++Sm.Z2 deep db aN l
end
def dD (l:List Sm) (none:Int):Int:=match l with| []=>none|t::_=>t.id
mutual
def Sm.tR (proc up next loop:Int):Sm→List Im
 |⟨id,kind,labels,name,pc,x,has,args,aQ,aN⟩=>⟨⟨id,kind,labels,name,pc,x,has,args,aQ,aN⟩,proc,up,next,loop⟩::
  (Sm.fJ proc id (if kind==6 then id else next) (if kind==6 then id else loop) aQ++Sm.fJ proc id (if kind==6 then id else next) (if kind==6 then id else loop) aN)
def Sm.fJ (proc up next loop:Int):List Sm→List Im
 | []=> []
 |s::l=>s.tR proc up (dD l next) loop++Sm.fJ proc up next loop l
end
theorem H5 (proc up next loop:Int) (s:Sm):s.tR proc up next loop = ⟨s,proc,up,next,loop⟩::(Sm.fJ proc s.id (if s.kind==6 then s.id else next) (if s.kind==6 then s.id else loop) s.aQ++Sm.fJ proc s.id (if s.kind==6 then s.id else next) (if s.kind==6 then s.id else loop) s.aN):=by cases s;simp only[Sm.tR]
def qm (n:Nat) (l:List Sm):Prop:=∀ (i:Nat) (v:Sm),l[i]? = some v→v.id=((n+i+1:Nat):Int)
theorem qm.head {n:Nat} {v:Sm} {l:List Sm} (h:qm n (v::l)):v.id=((n+1:Nat):Int):=h 0 v rfl
theorem qm.tail {n:Nat} {v:Sm} {l:List Sm} (h:qm n (v::l)):qm (n+1) l:=fun i w hw=>by
 rw[h (i+1) w (by simpa using hw)];congr 1;omega
theorem qm.left {n:Nat} {a b:List Sm} (h:qm n (a++b)):qm n a:=fun i w hw=>h i w (by rw[List.getElem?_append_left (List.getElem?_eq_some_iff.1 hw).1];exact hw)
theorem qm.right {n:Nat} {a b:List Sm} (h:qm n (a++b)):qm (n+a.length) b:=fun i w hw=>by
 rw[h (a.length+i) w (by rw[List.getElem?_append_right (by omega)];simpa using hw)];congr 1;omega
theorem Z3 (s:Sm):s.pre=s::(Sm.bN s.aQ++Sm.bN s.aN):=Sm.nU s
mutual
theorem Qf : ∀ s:Sm,s.kB=s.pre.length
 |⟨id,kind,labels,name,proc,x,has,args,aQ,aN⟩=>by
  simp only[Sm.kB,Sm.pre,List.length_cons,List.length_append,BY aQ,BY aN];omega
theorem BY : ∀ l:List Sm,Sm.jK l=(Sm.bN l).length
 | []=>rfl
 |s::l=>by simp only[Sm.jK,Sm.bN,List.length_append,Qf s,BY l]
end
mutual
theorem acE (proc up next loop:Int) : ∀ s:Sm,(s.tR proc up next loop).map Im.s=s.pre
 |⟨id,kind,labels,name,pc,x,has,args,aQ,aN⟩=>by
  simp only[Sm.tR,Sm.pre,List.map_cons,List.map_append,tT _ _ _ _ aQ,tT _ _ _ _ aN]
theorem tT (proc up next loop:Int) : ∀ l:List Sm,(Sm.fJ proc up next loop l).map Im.s=Sm.bN l
 | []=>rfl
 |s::l=>by simp only[Sm.fJ,Sm.bN,List.map_append,acE _ _ _ _ s,tT _ _ _ _ l]
end
theorem aex (proc up next loop:Int) (s:Sm):(s.tR proc up next loop).length=s.pre.length:=by rw[← acE proc up next loop s,List.length_map]
theorem Gm (proc up next loop:Int) (l:List Sm):(Sm.fJ proc up next loop l).length=(Sm.bN l).length:=by rw[← tT proc up next loop l,List.length_map]
mutual
theorem aey (proc up next loop:Int) (out:List Im) : ∀ s:Sm,qm out.length s.pre→Im.one proc up next loop out s=out++s.tR proc up next loop
 | ⟨id,kind,labels,name,pc,x,has,args,aQ,aN⟩,h=>by
  simp only[Sm.pre]at h
  have h0:id=((out.length+1:Nat):Int):=h.head
  have h1:=h.tail.left
  have h2:=h.tail.right
  have e0:((out.length:Int)+1)=id:=by rw[h0];rfl
  simp only[Im.one,Sm.tR,e0]
  rw[xV proc id _ _ (out++ [_]) aQ (by rw[List.length_append];exact h1)]
  rw[xV proc id _ _ _ aN (by
   rw[List.length_append,List.length_append,Gm];exact h2)]
  simp
theorem xV (proc up next loop:Int) (out:List Im) : ∀ l:List Sm,qm out.length (Sm.bN l)→Im.rows proc up next loop out l=out++Sm.fJ proc up next loop l
 | [],h=>by simp[Im.rows,Sm.fJ]
 | s::l,h=>by
  simp only[Sm.bN]at h
  have e:(if l.length=0 then next else(out.length:Int)+1+(s.kB:Int))=dD l next:=by
   cases l with
   |nil=>rfl
   |cons t l=>
    have h2:=h.right
    simp only[Sm.bN]at h2
    rw[Z3 t]at h2
    simp only[List.length_cons,dD]
    rw[if_neg (by omega),h2.head,Qf]
    omega
  simp only[Im.rows,Sm.fJ,e]
  rw[aey proc up _ loop out s h.left,xV proc up next loop _ l (by rw[List.length_append,aex];exact h.right)]
  simp
end
def rI (n:Nat):List Pc→List Im
 | []=> []
 |f::l=>Sm.fJ n 0 (-1) 0 f.body++rI (n+1) l
theorem Wx : ∀ (l:List Pc) (n:Nat) (h:Sh),qm h.L.length ((l.map fun f=>Sm.bN f.body).flatten)→(Sh.go n h l).L=h.L++rI n l
 | [],n,h,_=>by simp[Sh.go,rI]
 | f::l,n,h,hi=>by
  simp only[List.map_cons,List.flatten_cons]at hi
  simp only[Sh.go,rI]
  have e:=xV (n:Int) 0 (-1) 0 h.L f.body hi.left
  rw[Wx l (n+1) _ (by
   show qm (Im.rows (n:Int) 0 (-1) 0 h.L f.body).length _
   rw[e,List.length_append,Gm];exact hi.right)]
  show Im.rows (n:Int) 0 (-1) 0 h.L f.body++_=_
  rw[e];simp
theorem Qg {p:Pg} (h:p.may=true):qm 0 p.pre:=fun i v hv=>by rw[rV h hv];congr 1;omega
theorem Ec {p:Pg} (h:p.may=true):p.a7.L=rI 0 p.procs:=by
 have:=Wx p.procs 0 ⟨[],[],[]⟩ (Qg h)
 simpa[Pg.a7]using this
def Wy (l:List It):Nat→Int→Int
 | 0,_=>0
 |n+1,db=>if db==0 then 0 else match l[n]? with
  |none=>0
  |some x=>if x.s.id != db then Wy l n db else if x.s.kind==6 then db else Wy l n x.db
def Up (L:List It) (k:Nat) (Ww:List It) (tR:List Im):Prop:=∀ (i:Nat) (a:It) (b:Im),Ww[i]? = some a→tR[i]? = some b→a.s=b.s∧a.db=b.up∧Wy L (k+i) a.db=b.loop
def jU (seen:List aK):List aK→List aK×Bool
 | []=>(seen,true)
 |n::l=>if fG seen n then(seen,false)else jU (seen++ [n]) l
theorem Ed : ∀ (l seen:List aK),jU seen l=(if rU seen l then((jU seen l).1,false)else(seen++l,true))
 | [],seen=>by simp[jU,rU]
 | n::l,seen=>by
  simp only[jU,rU]
  split
  ·rfl
  ·rw [Ed l (seen++ [n])]
   split
   ·rfl
   ·simp
theorem Qh : ∀ (a b seen:List aK),rU seen (a++b)=(rU seen a ||rU (seen++a) b)
 | [],b,seen=>by simp[rU]
 |x::a,b,seen=>by
  simp only[List.cons_append,rU]
  split
  ·rfl
  ·rw[Qh a b (seen++ [x])];simp
theorem Ky : ∀ (l seen:List aK),seen.length≤(jU seen l).1.length∧(jU seen l).1.length≤seen.length+l.length
 | [],seen=>by simp[jU]
 |n::l,seen=>by
  simp only[jU]
  split
  ·simp
  ·have:=Ky l (seen++ [n]);simp at this ⊢;omega
def kj (lj:List aK) (v:Sm) (loop:Int):Bool:=if v.kind==7 ||v.kind==8 then loop != 0 else if v.kind==10 then fG lj v.name else true
def vn (lj fin seen:List aK):List (Sm×Int)→Option Int
 | []=>if(jU seen fin).2 then none else some 0
 |(v,lp)::l=>if(jU seen v.labels).2 then(if kj lj v lp then vn lj fin (jU seen v.labels).1 l else some v.id)else some v.id
def dO:List Sm→List aK
 | []=> []
 |v::l=>v.labels++dO l
def Pc.labels (f:Pc):List aK:=dO (Sm.bN f.body)++f.fin
def Im.pair (m:Im):Sm×Int:=(m.s,m.loop)
def Pc.sh (f:Pc):List (Sm×Int):=(Sm.fJ 0 0 (-1) 0 f.body).map Im.pair
def vq:List Pc→Option Int
 | []=>none
 |f::l=>match vn f.labels f.fin [] f.sh with
  |some id=>some id
  |none=>vq l
def Bb (c:Int):Option Int→Int×Int
 |some id=>(c,id)
 |none=>(0,0)
def Pg.jump (p:Pg):Int×Int:=if p.scope.1==0 then Bb 7 (vq p.procs)else(1,0)
mutual
theorem Z4 (proc up next w7 H6 next' loop:Int) : ∀ s:Sm,(s.tR proc up next loop).map Im.pair=(s.tR w7 H6 next' loop).map Im.pair
 |⟨id,kind,labels,name,pc,x,has,args,aQ,aN⟩=>by
  simp only[Sm.tR,List.map_cons,List.map_append,Im.pair]
  rw[zf proc id _ w7 id (if kind==6 then id else next') _ aQ,zf proc id _ w7 id (if kind==6 then id else next') _ aN]
theorem zf (proc up next w7 H6 next' loop:Int) : ∀ l:List Sm,(Sm.fJ proc up next loop l).map Im.pair=(Sm.fJ w7 H6 next' loop l).map Im.pair
 | []=>rfl
 |s::l=>by
  simp only[Sm.fJ,List.map_append]
  rw[Z4 proc up _ w7 H6 (dD l next') loop s,zf proc up next w7 H6 next' loop l]
end
theorem Gn (n:Int) (f:Pc):(Sm.fJ n 0 (-1) 0 f.body).map Im.pair=f.sh:=zf _ _ _ _ _ _ _ _
theorem aez (f:Pc):f.sh.map Prod.fst=Sm.bN f.body:=by
 unfold Pc.sh
 rw[List.map_map, ← tT 0 0 (-1) 0 f.body]
 rfl
def Qi (l:List It):Nat→Int→Int
 | 0,_=>0
 |n+1,id=>match l[n]? with
  |none=>0
  |some x=>if x.s.id != id then Qi l n id else if Wy l n x.db != 0 then Wy l n x.db else Qi l n id
theorem Qj : ∀ (l:List Pc) (n:Nat) (h:Sh),h.lo.length=n→h.hi.length=n→qm h.L.length ((l.map fun f=>Sm.bN f.body).flatten)→
 ∃ lo hi,Sh.go n h l = ⟨h.L++rI n l,h.lo++lo,h.hi++hi⟩∧lo.length=l.length∧hi.length=l.length∧
  ∀ (i:Nat) (f:Pc),l[i]? = some f→∃ a e:List Im,lo[i]? = some (((h.L++a).length:Int)+1)∧hi[i]? = some (((h.L++a++Sm.fJ ((n+i:Nat):Int) 0 (-1) 0 f.body).length:Int)+1)∧rI n l=a++Sm.fJ ((n+i:Nat):Int) 0 (-1) 0 f.body++e
 | [],n,h,hl,hh,_=>⟨[],[],by simp[Sh.go,rI],rfl,rfl,fun i f h=>by simp at h⟩
 | f::l,n,h,hl,hh,hi=>by
  simp only[List.map_cons,List.flatten_cons]at hi
  simp only[Sh.go,rI]
  have e1:=xV (n:Int) 0 (-1) 0 h.L f.body hi.left
  obtain⟨lo,iI,h2,h3,h4,h5⟩:=Qj l (n+1) ⟨Im.rows (n:Int) 0 (-1) 0 h.L f.body,h.lo++ [(h.L.length:Int)+1],h.hi++ [((Im.rows (n:Int) 0 (-1) 0 h.L f.body).length:Int)+1]⟩ (by simp[hl]) (by simp[hh]) (by
   show qm (Im.rows (n:Int) 0 (-1) 0 h.L f.body).length _
   rw[e1,List.length_append,Gm];exact hi.right)
  refine⟨((h.L.length:Int)+1)::lo,(((Im.rows (n:Int) 0 (-1) 0 h.L f.body).length:Int)+1)::iI, ?_,by simp[h3],by simp[h4],fun i g iI=>?_⟩
  ·rw[h2,e1];simp
  ·cases i with
   |zero=>
    simp only[List.getElem?_cons_zero,Option.some.injEq]at iI
    subst iI
    exact⟨[],rI (n+1) l,by simp,by rw[e1];simp,by simp⟩
   |succ i=>
    simp only[List.getElem?_cons_succ]at iI
    obtain⟨a,e,g1,g2,g3⟩:=h5 i g iI
    have en:n+1+i=n+(i+1):=by omega
    rw[en]at g2 g3
    refine⟨Sm.fJ n 0 (-1) 0 f.body++a,e, ?_, ?_,by rw[g3];simp⟩
    ·rw[List.getElem?_cons_succ,g1,e1];simp
    ·rw[List.getElem?_cons_succ,g2,e1];simp
theorem aib {p:Pg} (hb:p.may=true) {i:Nat} {f:Pc} (hf:p.procs[i]? = some f) (hs:Pc.aU p.procs<1000000000) (s:St) :
 aH Tryz.prog iY [.dS (gu p) 0, .int .i64 (i:Int)] s (.slice .shared 17 ((Sm.fJ (i:Int) 0 (-1) 0 f.body).map dP)) s:=by
 obtain⟨lo,hi,h1,h2,h3,h4⟩:=Qj p.procs 0 ⟨[],[],[]⟩ rfl rfl (Qg hb)
 obtain⟨a,e,g1,g2,g3⟩:=h4 i f hf
 simp only[Nat.zero_add,List.nil_append]at g1 g2 g3 h1
 refine ahM hs (a:=a) (e:=e) ?_ ?_ ?_ s
 ·show(Sh.go 0 ⟨[],[],[]⟩ p.procs).lo[i]? = _
  rw[h1];exact g1
 ·show(Sh.go 0 ⟨[],[],[]⟩ p.procs).hi[i]? = _
  rw[h1];exact g2
 ·show(Sh.go 0 ⟨[],[],[]⟩ p.procs).L=_
  rw[h1];exact g3
theorem aH.atY {P:Program} {f:FuncId} {pre post:List D} {rows qo:List (List D)} {z z' k k':Nat} {b:Bool} (h:aH P f (pre++ .slice (.tok 0) z rows::post) ⟨[],[some k]⟩ (.tuple [.slice (.tok 0) z' qo, .bool b]) ⟨[],[some k']⟩)
 (hp:D.bM 0 0 pre=true) (ha:D.bM 0 0 post=true) (hw:D.jd 0 0 rows=true) (hw':D.jd 0 0 qo=true)
 {s:St} {t:Nat} (ht:s.aA[t]? = some (some k)):aH P f (pre++ .slice (.tok t) z rows::post) s (.tuple [.slice (.tok t) z' qo, .bool b]) ⟨s.al,s.aA.set t (some k')⟩:=by
 refine bW.frame [] [t] h (by simp) (by simp) (by simp) (by simpa using (List.getElem?_eq_some_iff.1 ht).1) rfl (fun i o' ds e1 e2=>by simp at e1) rfl (fun i t' e1=>?_)
  ?_ ?_ ?_
 ·cases i with
  |zero=>simp at e1;subst e1;simp[ht]
  |succ i=>simp at e1
 ·have h1:=fY [] [t] _ hp
  have h2:=fY [] [t] _ ha
  rw[gP]at h1 h2
  simp[gP,D.cT,Tag.cT,h1,h2,ke _ _ _ hw]
 ·have h1:=jw (n':=0) (m':=1) (Nat.le_refl 0) (Nat.zero_le 1) _ hp
  have h2:=jw (n':=0) (m':=1) (Nat.le_refl 0) (Nat.zero_le 1) _ ha
  rw[AA]at h1 h2 ⊢
  simp only[List.length_nil,List.length_cons,List.all_append,h1,Bool.true_and,List.all_cons,h2,Bool.and_true,D.ok,Tag.ok,n8 (Nat.zero_le 0) (Nat.zero_le 1) _ hw]
  rfl
 ·rintro _ _ ⟨rfl,rfl⟩
  refine⟨by simp[D.back,D.cT,D.fa,Tag.cT,kP,ke _ _ _ hw'], ?_⟩
  simp[St.back,lC]
theorem aic {seen l:List aK} (hl:seen.length+l.length<1000000000):aH Tryz.prog rS [.slice (.tok 0) 1 (seen.map encStr), .slice .shared 1 (l.map encStr)] ⟨[],[some seen.length]⟩
 (.tuple [.slice (.tok 0) 1 ((jU seen l).1.map encStr), .bool (jU seen l).2]) ⟨[],[some (jU seen l).1.length]⟩:=by
 generalize hR:jU seen l=R
 refine aH.go Lp rfl fun B Q hB hQ=>?_
 have⟨hD,gA,gB,gC⟩:=bX
 repeat' (first
 |simp only[go_sem,hD,gA,gB,gC]
 |(with_reducible refine aJ hQ ?_;exact bA))
 refine fI 0 1 (bp.ind (ι:=List aK×Nat×List aK×Nat) (fun i=>l.drop i.2.1=i.1∧jU i.2.2.1 i.1=R∧i.2.2.2=i.2.2.1.length∧i.2.2.1.length+i.1.length<1000000000) (fun i=>i.1.length)
  (fun i=> [(0, .slice (.tok 0) 1 (i.2.2.1.map encStr)),(8, .slice .shared 1 (l.map encStr)),(9, .int .i64 (l.length:Int)),(10, .int .i64 (i.2.1:Int))]) (fun i=>⟨[],[some i.2.2.2]⟩) ?_ (l,0,seen,seen.length) ⟨rfl,hR,rfl,hl⟩)
 clear hR
 rintro⟨rest,k,out,n⟩ ⟨h1,h2,h3,h4⟩ IH
 dsimp only at h1 h2 h3 h4
 subst h3
 cases rest with
 |nil=>
  have hD:=drop_nil h1
  simp only[jU]at h2
  subst h2
  repeat' (first
 |simp only[go_sem,hD,gA,gB,gC]
 |(with_reducible refine aJ hQ ?_;exact bA))
 | cons x rest=>
  obtain⟨gA,g2,hD,g4⟩:=drop_cons h1
  have ct:k<4611686018427387904:=by omega
  simp only[List.length_cons]at h4
  have gB:(out.length+1)*17≤bD:=by unfold bD;omega
  have Kw:=fun g s=>kI (l:=out) (by omega) x g s
  simp only[jU]at h2
  rcases Bool.eq_false_or_eq_true (fG out x)with c1|c1
  ·simp only [c1,if_true]at h2
   subst h2
   repeat' (first
 |simp only[go_sem,hD,gA,gB,gC,c1]
 |(with_reducible refine CU (Kw _ _) ?_)
 | (with_reducible refine aJ hQ ?_;exact bA))
  ·simp only [c1,Bool.false_eq_true,if_false]at h2
   repeat' (first
 |simp only[go_sem,hD,gA,gB,gC,c1]
 |(with_reducible refine CU (Kw _ _) ?_)
 | (with_reducible refine aJ hQ ?_;exact bA))
   refine fm 0 1 ?_ ?_ (IH (rest,k+1,out++ [x],out.length+1) ⟨g2,h2,by simp,by simp;omega⟩ (Nat.lt_succ_self _))
   ·(simp only[go_sem,hD,gA,gB,gC,aM ct,List.map_append,List.map_cons,List.map_nil,encStr];try exact cd)
   ·(simp only[go_sem,hD,gA,gB,gC,aM ct,List.map_append,List.map_cons,List.map_nil,encStr];try exact cd)
theorem Wz {seen l:List aK} (hl:seen.length+l.length<1000000000) {s:St} {t:Nat} (ht:s.aA[t]? = some (some seen.length)):aH Tryz.prog rS [.slice (.tok t) 1 (seen.map encStr), .slice .shared 1 (l.map encStr)] s
 (.tuple [.slice (.tok t) 1 ((jU seen l).1.map encStr), .bool (jU seen l).2]) ⟨s.al,s.aA.set t (some (jU seen l).1.length)⟩:=
 (aic hl).atY (pre:= []) (post:= [_]) rfl (by simp[D.bM,D.ok,Tag.ok,fL]) (fL _) (fL _) ht
theorem Z5 (x:Im):(dP x)[2]? = some (.slice .shared 1 (x.s.labels.map encStr)):=nd rfl
theorem WA (x:Im):(dP x)[3]? = some (.str x.s.name):=nd rfl
attribute [go_sem] Z5 WA
def gQ (fin:List aK) (label:aK):List Sm→Int×Bool
 | []=>if fG fin label then(-1,true)else(0,false)
 |v::l=>if fG v.labels label then(v.id,true)else gQ fin label l
theorem zh (fin:List aK) (label:aK) : ∀ l:List Sm,(gQ fin label l).2=fG (dO l++fin) label
 | []=>by simp only[gQ,dO,List.nil_append];split<;>simp_all
 | v::l=>by
  simp only[gQ,dO,List.append_assoc]
  have h:=zh fin label l
  rw[Bool.eq_iff_iff,fx]at h
  split
  ·rename_i c
   exact((fx _ _).2 (List.mem_append.2 (.inl ((fx _ _).1 c)))).symm
  ·rename_i c
   have:label∉v.labels:=fun m=>c ((fx _ _).2 m)
   rw[Bool.eq_iff_iff,h,fx]
   exact⟨fun m=>List.mem_append.2 (.inr m),fun m=>(List.mem_append.1 m).resolve_left this⟩
theorem ND {p:Pg} {v:Sm} (ho:p.jE) {f:Pc} (hf:f∈p.procs) (hv:v∈Sm.bN f.body):v.labels.length≤900000:=by
 have key : ∀ n:Nat,(∀ s:Sm,s.pre.length≤n→∀ v∈s.pre,v.labels.length≤s.size)∧(∀ l:List Sm,(Sm.bN l).length≤n→∀ v∈Sm.bN l,v.labels.length≤Sm.aU l):=by
  intro n
  induction n with
  |zero=>
   refine⟨fun s h=>by rw[Sm.nU]at h;simp at h,fun l h v m=>?_⟩
   have:=List.eq_nil_of_length_eq_zero (Nat.le_zero.1 h)
   rw[this]at m;cases m
  | succ n ih=>
   have h1 : ∀ s:Sm,s.pre.length≤n+1→∀ v∈s.pre,v.labels.length≤s.size:=by
    intro s h v m
    rw[Sm.nU]at h m
    simp only[List.length_cons,List.length_append]at h
    obtain⟨id,kind,labels,name,proc,x,has,args,aQ,aN⟩:=s
    simp only[Sm.size]
    rcases List.mem_cons.1 m with rfl|m
    ·dsimp only;omega
    ·rcases List.mem_append.1 m with m | m
     ·have:=ih.2 aQ (by dsimp only at h;omega) v m;omega
     ·have:=ih.2 aN (by dsimp only at h;omega) v m;omega
   refine⟨h1,fun l=>?_⟩
   induction l with
   |nil=>intro _ v m;cases m
   |cons s l WB=>
    intro h v m
    simp only[Sm.bN,List.length_append]at h
    simp only[Sm.bN]at m
    simp only[Sm.aU]
    rcases List.mem_append.1 m with m|m
    ·have:=h1 s (by omega) v m;omega
    ·have:=WB (by omega) v m;omega
 have h1:=(key (Sm.bN f.body).length).2 f.body (Nat.le_refl _) v hv
 have h2:=Pc.cZ hf
 have h3:=ho.procs.2.1
 simp only[Pc.size]at h2
 omega
theorem Kz {p:Pg} (ho:p.jE) {f:Pc} (hf:f∈p.procs):f.fin.length≤900000:=by
 have h2:=Pc.cZ hf
 have h3:=ho.procs.2.1
 simp only[Pc.size]at h2
 omega
theorem H7 {p:Pg} (ho:p.jE) {f:Pc} (hf:f∈p.procs):(Sm.bN f.body).length≤900000:=by
 rw[← BY]
 have:=py f.body
 have h2:=Pc.cZ hf
 have h3:=ho.procs.2.1
 simp only[Pc.size]at h2
 omega
theorem aid {p:Pg} (ho:p.jE) (hb:p.may=true) {i:Nat} {f:Pc} (hf:p.procs[i]? = some f) (label:aK) (s:St) :
 aH Tryz.prog qs [.dS (gu p) 0, .int .i64 (i:Int), .str label] s (.tuple [.int .i64 (gQ f.fin label (Sm.bN f.body)).1, .bool (gQ f.fin label (Sm.bN f.body)).2]) s:=by
 refine aH.pure ?_ (by simp[D.bM,D.ok,wy]) rfl s
 obtain⟨s9,p7,sR⟩:=ho.procs
 have CO:=List.mem_of_getElem? hf
 have zb:=fun s=>aib hb hf (by omega) s
 have rH:=tT (i:Int) 0 (-1) 0 f.body
 have NF:=H7 ho CO
 have xW:=Kz ho CO
 have FB:=fun s=>tL (l:=f.fin) (by omega) label s
 have sL:i<p.procs.length:=(List.getElem?_eq_some_iff.1 hf).1
 generalize hI:Sm.fJ (i:Int) 0 (-1) 0 f.body=I at *
 have hIl:I.length≤900000:=by rw[← rH,List.length_map]at NF;exact NF
 obtain⟨R,hR⟩ : ∃ R,gQ f.fin label (Sm.bN f.body)=R:=⟨_,rfl⟩
 rw[hR]
 rw[← rH]at hR
 unfold S0
 refine aH.go Fb rfl fun B Q hB hQ=>?_
 have⟨hD,gA,gB,gC⟩:=bX
 repeat' (first
 |simp only[go_sem,hD,gA,gB,gC]
 |(with_reducible refine CU (zb _) ?_)
 |(with_reducible refine aJ hQ ?_;exact bA))
 refine fI 0 0 (bp.ind (ι:=List Im×Nat) (fun j=>I.drop j.2=j.1∧gQ f.fin label (j.1.map Im.s)=R) (fun j=>j.1.length)
  (fun j=> [(0, .dS (gu p) 0),(1, .int .i64 (i:Int)),(2, .str label),(12, .slice .shared 17 (I.map dP)),(13, .int .i64 (I.length:Int)),(14, .int .i64 (j.2:Int))]) (fun j=>⟨[],[]⟩) ?_ (I,0) ⟨rfl,hR⟩)
 clear hR
 rintro⟨rest,k⟩ ⟨h1,h2⟩ IH
 dsimp only at h1 h2
 cases rest with
 | nil=>
  have hD:=drop_nil h1
  simp only[List.map_nil,gQ]at h2
  rcases Bool.eq_false_or_eq_true (fG f.fin label)with c1|c1
  ·simp only [c1,if_true]at h2
   subst h2
   repeat' (first
 |simp only[go_sem,hD,gA,gB,gC,pL,hf,c1]
 |(with_reducible refine CU (FB _) ?_)
 | (with_reducible refine aJ hQ ?_;exact bA))
  ·simp only [c1,Bool.false_eq_true,if_false]at h2
   subst h2
   repeat' (first
 |simp only[go_sem,hD,gA,gB,gC,pL,hf,c1]
 |(with_reducible refine CU (FB _) ?_)
 |(with_reducible refine aJ hQ ?_;exact bA))
 | cons a rest=>
  obtain⟨gA,g2,hD,g4⟩:=drop_cons h1
  have ct:k<4611686018427387904:=by omega
  have CQ:a.s∈Sm.bN f.body:=by rw[← rH];exact List.mem_map_of_mem (List.mem_of_getElem? gA)
  have nu:=fun s=>tL (l:=a.s.labels) (by have:=ND ho CO CQ;omega) label s
  simp only[List.map_cons,gQ]at h2
  rcases Bool.eq_false_or_eq_true (fG a.s.labels label)with c1|c1
  ·simp only [c1,if_true]at h2
   subst h2
   repeat' (first
 |simp only[go_sem,hD,gA,gB,gC,c1]
 |(with_reducible refine CU (nu _) ?_)
 | (with_reducible refine aJ hQ ?_;exact bA))
  ·simp only [c1,Bool.false_eq_true,if_false]at h2
   repeat' (first
 |simp only[go_sem,hD,gA,gB,gC,c1]
 |(with_reducible refine CU (nu _) ?_)
 | (with_reducible refine aJ hQ ?_;exact bA))
   refine fm 0 0 ?_ ?_ (IH (rest,k+1) ⟨g2,h2⟩ (Nat.lt_succ_self _))
   ·(simp only[go_sem,hD,gA,gB,gC,aM ct];try exact cd)
   ·(simp only[go_sem,hD,gA,gB,gC,aM ct];try exact cd)
theorem aeA {p:Pg} (ho:p.jE) (hb:p.may=true) {i:Nat} {f:Pc} (hf:p.procs[i]? = some f) (m:Im) (hm:m.proc=(i:Int)) (s:St) :
 aH Tryz.prog xH [.dS (gu p) 0, .agg (dP m)] s (.bool (kj f.labels m.s m.loop)) s:=by
 refine aH.pure ?_ (by simp[D.bM,D.ok,wy,Tg]) rfl s
 have td:=fun s=>aid ho hb hf m.s.name s
 have aie:=zh f.fin m.s.name (Sm.bN f.body)
 rw[← hm]at td
 obtain⟨A,hA⟩ : ∃ A,gQ f.fin m.s.name (Sm.bN f.body)=A:=⟨_,rfl⟩
 rw[hA]at td aie
 obtain⟨R,hR⟩ : ∃ R,kj f.labels m.s m.loop=R:=⟨_,rfl⟩
 rw[hR]
 unfold kj Pc.labels at hR
 unfold S0
 rcases Bool.eq_false_or_eq_true (m.s.kind==7)with c1|c1
 ·simp only [c1,Bool.true_or,if_true]at hR
  subst hR
  refine aH.go q7 rfl fun B Q hB hQ=>?_
  have⟨hD,gA,gB,gC⟩:=bX
  repeat' (first
 |simp only[go_sem,hD,gA,gB,gC,c1]
 |(with_reducible refine aJ hQ ?_;exact bA))
 rcases Bool.eq_false_or_eq_true (m.s.kind==8)with c2|c2
 ·simp only [c1,c2,Bool.or_true,if_true]at hR
  subst hR
  refine aH.go q7 rfl fun B Q hB hQ=>?_
  have⟨hD,gA,gB,gC⟩:=bX
  repeat' (first
 |simp only[go_sem,hD,gA,gB,gC,c1,c2]
 |(with_reducible refine aJ hQ ?_;exact bA))
 rcases Bool.eq_false_or_eq_true (m.s.kind==10)with c3|c3
 ·simp only [c1,c2,c3,Bool.or_self,Bool.false_eq_true,if_false,if_true, ← aie]at hR
  subst hR
  refine aH.go q7 rfl fun B Q hB hQ=>?_
  have⟨hD,gA,gB,gC⟩:=bX
  repeat' (first
 |simp only[go_sem,hD,gA,gB,gC,c1,c2,c3]
 |(with_reducible refine CU (td _) ?_)
 |(with_reducible refine aJ hQ ?_;exact bA))
 ·simp only [c1,c2,c3,Bool.or_self,Bool.false_eq_true,if_false]at hR
  subst hR
  refine aH.go q7 rfl fun B Q hB hQ=>?_
  have⟨hD,gA,gB,gC⟩:=bX
  repeat' (first
 |simp only[go_sem,hD,gA,gB,gC,c1,c2,c3]
 |(with_reducible refine aJ hQ ?_;exact bA))
end Go.Abs
namespace Go.Abs
def H8 (x:Int):Int:=IntKind.wrap .i64 x
def uS (b:Bool):Int:=if b then 1 else 0
def Tx (op a:Int):Int×Bool:=if op==3 then(H8 (0 - a),true)else if op==4 then(uS (a==0),true)else(0,false)
def Ty (op a b:Int):Int×Bool:=
 if b==0 then(0,false)
 else if b == -1 then if op==7 then(0,true)else if a == -9223372036854775808 then(a,true)else(H8 (0 - a),true)
 else if op==7 then(a.tmod b,true)else(H8 (a.tdiv b),true)
def Tz (op a b:Int):Int×Bool:=
 if op==10 then(uS (decide (a<b)),true)else if op==11 then(uS (decide (a≤b)),true)else if op==12 then(uS (decide (a > b)),true)
 else if op==13 then(uS (decide (a≥b)),true)else if op==14 then(uS (a==b),true)else if op==15 then(uS (!(a==b)),true)else(0,false)
def TA (op a b:Int):Int×Bool:=
 if op==8 then(H8 (a+b),true)else if op==9 then(H8 (a - b),true)else if op==5 then(H8 (a*b),true)
 else if op==6 ||op==7 then Ty op a b
 else if op==16 then(uS (!(a==0) && !(b==0)),true)else if op==17 then(uS (!(a==0) || !(b==0)),true)
 else Tz op a b
def TB (name:aK) (names:List aK) (bJ:List Int):Int:=if j7 name 0 names≥0 then bJ.getD (j7 name 0 names).toNat 0 else 0
def H9 (op:Int):List (Int×Bool)→Int×Bool
 | []=>(0,false)
 | [a]=>if a.2 then Tx op a.1 else(0,false)
 |a::b::_=>if !a.2 then(0,false)else if op==16 && a.1==0 then(0,true)else if op==17 && !(a.1==0)then(1,true)else if !b.2 then(0,false)else TA op a.1 b.1
mutual
def Ex.val (names:List aK) (bJ:List Int):Ex→Int×Bool
 |⟨op,n,name,kids⟩=>if op==1 then(n,true)else if op==2 then(TB name names bJ,true)else H9 op (Ex.NG names bJ kids)
def Ex.NG (names:List aK) (bJ:List Int):List Ex→List (Int×Bool)
 | []=> []
 |x::l=>x.val names bJ::Ex.NG names bJ l
end
def Ex.bj (x:Ex) (names:List aK) (bJ:List Int):Int×Bool:=if x.may then x.val names bJ else(0,false)
structure Fr where
 proc:Int
 names:List aK
 vars:List Nat
 call:Int
structure Mc where
 st:List Fr
 mem:List Int
 fin:Int
 steps:Int
 reads:Int
 out:List Int
 trace:List (Int×List Int)
def Mc.event (W:List Int) (m:Mc) (id:Int) (bJ:List Int):Mc:=if W.contains id then {m with trace:=m.trace++ [(id,bJ)]}else m
def Mc.top (m:Mc):Fr:=m.st.headD ⟨0,[],[],0⟩
def Mc.bJ (m:Mc):List Int:=m.top.vars.map fun c=>m.mem.getD c 0
def Mc.cell (m:Mc) (name:aK):Nat:=m.top.vars.getD (j7 name 0 m.top.names).toNat 0
def Mc.set (m:Mc) (name:aK) (v:Int):Mc:= {m with mem:=m.mem.set (m.cell name) v}
def Mc.bj (m:Mc) (x:Ex):(Int×Bool)×Mc:=
 let r:=x.bj m.top.names m.bJ
 (r,if r.2 then m else {m with fin:=4})
def Mc.open (p:Pg) (m:Mc) (i:Int) (params:List Nat) (call:Int):Int×Mc:=
 match p.procs[i.toNat]? with
 |none=>(-1,m)
 |some f=>(dD f.body (-1),{m with st:=⟨i,p.globals++f.own,List.range p.globals.length++params++(List.range f.vars.length).map (m.mem.length + ·),call⟩::m.st,mem:=m.mem++List.replicate f.vars.length 0})
def dY (L:List Im) (id:Int):Im:=L.getD (id - 1).toNat ⟨Ka,0,0,0,0⟩
def Mc.close (L:List Im) (m:Mc) (Ac:Int):Int×Mc:=
 let call:=m.top.call
 let m:= {m with st:=m.st.tail}
 if call==0 then(-1,{m with fin:=1})
 else
  let it:=dY L call
  (it.next,if it.s.name == []then m else m.set it.s.name Ac)
def Mc.fH (W:List Int) (m:Mc) (s:Sm):Int×Mc:=
 if s.has then
  let r:=m.bj s.x
  (r.1.1,if r.1.2 then r.2.event W s.id [r.1.1]else r.2)
 else(0,m.event W s.id [])
def Mc.args:List Ar→Mc→List Nat→Option (List Nat)×Mc
 | [],m,out=>(some out,m)
 | a::l,m,out=>
  if a.ref then Mc.args l m (out++ [m.cell a.name])
  else
   let r:=m.bj a.x
   if r.1.2 then Mc.args l {r.2 with mem:=r.2.mem++ [r.1.1]} (out++ [r.2.mem.length])else(none,r.2)
def Mc.call (p:Pg) (W:List Int) (m:Mc) (s:Sm):Int×Mc:=
 match Mc.args s.args m []with
 |(none,m)=>(-1,m)
 |(some l,m)=>if m.st.length > 100 then(-1,{m with fin:=5})else(m.event W s.id []).open p (p.at s.proc) l s.id
def firstM (l:List Sm) (other:Int):Int:=dD l other
def Mc.do (p:Pg) (L:List Im) (tape W:List Int) (m:Mc) (it:Im):Int×Mc:=
 let s:=it.s
 if s.kind==7 then((dY L it.loop).next,m.event W s.id [])
 else if s.kind==8 then(it.loop,m.event W s.id [])
 else if s.kind==10 then((match p.procs[it.proc.toNat]? with|some f=>(gQ f.fin s.name (Sm.bN f.body)).1|none=>0),m.event W s.id [])
 else if s.kind==2 then
  match tape[m.reads.toNat]? with
  |none=>(-1,{m with fin:=3})
  |some n=>(it.next,(({m with reads:=m.reads+1} : Mc).set s.name n).event W s.id [n])
 else
  let r:=m.bj s.x
  if r.1.2 then
   let m:=r.2.event W s.id [r.1.1]
   let n:=r.1.1
   if s.kind==1 then(it.next,m.set s.name n)
   else if s.kind==3 then(it.next,{m with out:=m.out++ [n]})
   else if s.kind==5 then(if n==0 then firstM s.aN it.next else firstM s.aQ it.next,m)
   else if s.kind==6 then(if n==0 then it.next else firstM s.aQ s.id,m)
   else(it.next,m)
  else(-1,r.2)
def Mc.back (L:List Im) (m:Mc) (Ac:Int):Option Int×Mc:=
 let r:=m.close L Ac
 (if r.2.fin==0 then some r.1 else none,r.2)
def Mc.next (p:Pg) (L:List Im) (tape W:List Int) (fuel:Int) (at_:Int) (m:Mc):Option Int×Mc:=
 if at_ == -1 then m.back L 0
 else if m.steps==fuel then(none,{m with fin:=2})
 else
  let m:= {m with steps:=m.steps+1}
  let it:=dY L at_
  if it.s.kind==4 then
   let r:=m.call p W it.s
   (if r.2.fin==0 then some r.1 else none,r.2)
  else if it.s.kind==9 then
   let r:=m.fH W it.s
   if r.2.fin==0 then r.2.back L r.1 else(none,r.2)
  else
   let r:=m.do p L tape W it
   (if r.2.fin==0 then some r.1 else none,r.2)
def Mc.go (p:Pg) (L:List Im) (tape W:List Int) (fuel:Int):Nat→Int→Mc→Option Mc
 | 0,_,_=>none
 |N+1,at_,m=>
  match m.next p L tape W fuel at_ with
  |(none,m)=>some m
  |(some a,m)=>Mc.go p L tape W fuel N a m
def kK (p:Pg):Mc:=⟨[],List.replicate p.globals.length 0,0,0,0,[],[]⟩
def runM (p:Pg) (tape W:List Int) (fuel:Int):Option Mc:=
 let r:=(kK p).open p (p.at jb) [] 0
 Mc.go p p.a7.L tape W fuel (2*fuel.toNat+3) r.1 r.2
theorem fF (W:List Int) (m:Mc) (id:Int) (bJ:List Int):(m.event W id bJ).st=m.st∧(m.event W id bJ).mem=m.mem∧(m.event W id bJ).fin=m.fin∧(m.event W id bJ).steps=m.steps∧(m.event W id bJ).reads=m.reads∧(m.event W id bJ).out=m.out:=by
 unfold Mc.event;split<;>exact⟨rfl,rfl,rfl,rfl,rfl,rfl⟩
theorem iR (m:Mc) (x:Ex):(m.bj x).2.st=m.st∧(m.bj x).2.mem=m.mem∧(m.bj x).2.steps=m.steps∧(m.bj x).2.reads=m.reads∧(m.bj x).2.out=m.out∧(m.bj x).2.trace=m.trace:=by
 unfold Mc.bj;dsimp only;split<;>exact⟨rfl,rfl,rfl,rfl,rfl,rfl⟩
theorem xb : ∀ (l:List Ar) (m:Mc) (out:List Nat),(Mc.args l m out).2.st=m.st∧(Mc.args l m out).2.steps=m.steps
 | [],m,out=>⟨rfl,rfl⟩
 | a::l,m,out=>by
  simp only[Mc.args]
  split
  ·exact xb l m _
  ·have h:=iR m a.x
   split
   ·have:=xb l {(m.bj a.x).2 with mem:=(m.bj a.x).2.mem++ [(m.bj a.x).1.1]} (out++ [(m.bj a.x).2.mem.length])
    exact⟨this.1.trans h.1,this.2.trans h.2.2.1⟩
   ·exact⟨h.1,h.2.2.1⟩
theorem Bc (p:Pg) (m:Mc) (i:Int) (l:List Nat) (c:Int):(m.open p i l c).2.st.length≤m.st.length+1∧(m.open p i l c).2.steps=m.steps:=by
 unfold Mc.open;split
 ·exact⟨Nat.le_succ _,rfl⟩
 ·exact⟨Nat.le_refl _,rfl⟩
theorem Qk (p:Pg) (W:List Int) (m:Mc) (s:Sm):(m.call p W s).2.st.length≤m.st.length+1∧(m.call p W s).2.steps=m.steps:=by
 have h:=xb s.args m []
 unfold Mc.call
 generalize Mc.args s.args m [] = r at *
 obtain⟨o,m1⟩:=r
 dsimp only at h
 cases o with
 |none=>dsimp only;rw[h.1,h.2];exact⟨Nat.le_succ _,rfl⟩
 | some l=>
  dsimp only
  split
  ·dsimp only;rw[h.1,h.2];exact⟨Nat.le_succ _,rfl⟩
  ·have h2:=Bc p (m1.event W s.id []) (p.at s.proc) l s.id
   rw[(fF ..).1,(fF ..).2.2.2.1,h.1,h.2]at h2
   exact h2
theorem B0 (W:List Int) (m:Mc) (s:Sm):(m.fH W s).2.st=m.st∧(m.fH W s).2.steps=m.steps:=by
 have h:=iR m s.x
 unfold Mc.fH
 dsimp only
 split
 ·split
  ·exact⟨(fF ..).1.trans h.1,(fF ..).2.2.2.1.trans h.2.2.1⟩
  ·exact⟨h.1,h.2.2.1⟩
 ·exact⟨(fF ..).1,(fF ..).2.2.2.1⟩
theorem TC (p:Pg) (L:List Im) (tape W:List Int) (m:Mc) (it:Im):(m.do p L tape W it).2.st=m.st∧(m.do p L tape W it).2.steps=m.steps:=by
 have h:=iR m it.s.x
 have e:=fun(m:Mc) id bJ=>(⟨(fF W m id bJ).1,(fF W m id bJ).2.2.2.1⟩:(m.event W id bJ).st=m.st∧(m.event W id bJ).steps=m.steps)
 unfold Mc.do
 dsimp only
 repeat' split
 all_goals first
  |exact e ..
  |exact⟨rfl,rfl⟩
  |exact⟨(e ..).1.trans h.1,(e ..).2.trans h.2.2.1⟩
  |exact⟨h.1,h.2.2.1⟩
theorem NH (L:List Im) (m:Mc) (g:Int):(m.close L g).2.st=m.st.tail∧(m.close L g).2.steps=m.steps∧(m.st = []→(m.close L g).2.fin=1):=by
 unfold Mc.close
 dsimp only
 split
 ·exact⟨rfl,rfl,fun _=>rfl⟩
 ·rename_i hc
  refine⟨by split<;>rfl,by split<;>rfl,fun e=>absurd ?_ hc⟩
  simp[Mc.top,e]
theorem back_eq {L:List Im} {m:Mc} {g:Int} {a:Int} {m':Mc} (h:m.back L g=(some a,m')):m'.st.length<m.st.length∧m'.steps=m.steps:=by
 obtain⟨h1,h2,h3⟩:=NH L m g
 unfold Mc.back at h
 dsimp only at h
 split at h
 ·rename_i hf
  simp only[Prod.mk.injEq]at h
  rw[← h.2]
  refine⟨?_,h2⟩
  rw[h1,List.length_tail]
  cases e:m.st with
  |nil=>rw[h3 e]at hf;cases hf
  |cons x l=>simp
 ·simp at h
theorem Ql {p:Pg} {L:List Im} {tape W:List Int} {fuel a a':Int} {m m':Mc} (hs:m.steps≤fuel) (h:m.next p L tape W fuel a=(some a',m')) :
 m'.steps≤fuel∧2*(fuel - m'.steps)+m'.st.length<2*(fuel - m.steps)+m.st.length:=by
 unfold Mc.next at h
 split at h
 ·have:=back_eq h;omega
 split at h
 ·simp at h
 rename_i fu
 have hD:m.steps<fuel:=by(have:m.steps≠fuel:=by simpa using fu);omega
 dsimp only at h
 split at h
 ·have h1:=Qk p W {m with steps:=m.steps+1} (dY L a).s
  simp only[Prod.mk.injEq]at h
  rw[← h.2]
  dsimp only at h1
  omega
 split at h
 ·have h1:=B0 W {m with steps:=m.steps+1} (dY L a).s
  dsimp only at h1
  split at h
  ·have h2:=back_eq h
   rw[h1.1,h1.2]at h2
   omega
  ·simp at h
 ·have h1:=TC p L tape W {m with steps:=m.steps+1} (dY L a)
  simp only[Prod.mk.injEq]at h
  rw[← h.2,h1.1,h1.2]
  dsimp only
  omega
theorem Qm (p:Pg) (L:List Im) (tape W:List Int) (fuel:Int) : ∀ (N:Nat) (a:Int) (m:Mc),m.steps≤fuel→2*(fuel - m.steps)+m.st.length<N→∃ m',Mc.go p L tape W fuel N a m=some m'
 | 0,_,_,_,h=>by omega
 | N+1,a,m,hs,h=>by
  simp only[Mc.go]
  cases e:m.next p L tape W fuel a with
  | mk o m1=>
   cases o with
   |none=>exact⟨m1,rfl⟩
   |some a1=>
    have:=Ql hs e
    exact Qm p L tape W fuel N a1 m1 this.1 (by omega)
theorem KA (p:Pg) (tape W:List Int) {fuel:Int} (h:0≤fuel) : ∃ m,runM p tape W fuel=some m:=by
 unfold runM
 have h1:=Bc p (kK p) (p.at jb) [] 0
 have e1:(kK p).st.length=0:=rfl
 have e2:(kK p).steps=0:=rfl
 rw[e1,e2]at h1
 exact Qm p _ tape W fuel _ _ _ (by rw[h1.2];exact h) (by rw[h1.2];omega)
structure Grow (m m':Mc):Prop where
 trace : ∃ t,m'.trace=m.trace++t
 out : ∃ t,m'.out=m.out++t
 reads:m.reads≤m'.reads
 steps:m.steps≤m'.steps
def pN (L:List Im) (a:Int):Prop:=a = -1∨(1≤a∧a≤(L.length:Int))
theorem qR {L:List Im} {a:Int} (h:pN L a) (hn:a≠ -1):dY L a∈L:=by
 rcases h with h|⟨h1,h2⟩
 ·exact absurd h hn
 ·unfold dY
  rw[List.getD_eq_getElem?_getD,List.getElem?_eq_getElem (show(a - 1).toNat<L.length by omega)]
  exact List.getElem_mem _
structure CS (p:Pg) (L:List Im):Prop where
 id : ∀ x∈L,1≤x.s.id∧x.s.id≤(L.length:Int)
 next : ∀ x∈L,pN L x.next
 loop : ∀ x∈L,x.s.kind=7∨x.s.kind=8→1≤x.loop∧x.loop≤(L.length:Int)
 uT : ∀ x∈L,x.s.kind=10→∃ f,p.procs[x.proc.toNat]? = some f∧pN L (gQ f.fin x.s.name (Sm.bN f.body)).1
 aQ : ∀ x∈L,pN L (dD x.s.aQ (-1))
 aN : ∀ x∈L,pN L (dD x.s.aN (-1))
 ja : ∀ f∈p.procs,pN L (dD f.body (-1))
def qn (L:List Im) (m:Mc):Prop:=∀ fr∈m.st,fr.call=0∨(1≤fr.call∧fr.call≤(L.length:Int))
theorem Gp {L:List Im} {l:List Sm} {o:Int} (h:pN L (dD l (-1))) (ho:pN L o):pN L (firstM l o):=by
 cases l with
 |nil=>exact ho
 |cons s l=>exact h
theorem qn.of {L:List Im} {m m':Mc} (h:qn L m) (e:m'.st=m.st):qn L m':=by unfold qn;rw[e];exact h
def Told (L:List Im) (r:Option Int×Mc):Prop:=
 match r.1 with
 |some a=>pN L a∧qn L r.2∧r.2.fin=0∧(r.2.trace.length:Int)=r.2.steps
 |none=>((r.2.fin=1∨r.2.fin=2)∧(r.2.trace.length:Int)=r.2.steps)∨((r.2.fin=3∨r.2.fin=4∨r.2.fin=5)∧(r.2.trace.length:Int)+1=r.2.steps)
theorem w8 {W:List Int} {m:Mc} {id:Int} {bJ:List Int} (h:W.contains id=true):(m.event W id bJ).trace=m.trace++ [(id,bJ)]∧(m.event W id bJ).fin=m.fin:=by
 unfold Mc.event;rw[if_pos h];exact⟨rfl,rfl⟩
theorem Ee (m:Mc) (x:Ex) (h:m.fin=0):((m.bj x).1.2=true→(m.bj x).2.fin=0)∧((m.bj x).1.2=false→(m.bj x).2.fin=4):=by
 unfold Mc.bj
 dsimp only
 constructor
 ·intro e;rw[if_pos e];exact h
 ·intro e;rw[e];rfl
theorem KB {p:Pg} {L:List Im} (hL:CS p L) {m:Mc} {g:Int} (hs:qn L m) (hf:m.fin=0) (ht:(m.trace.length:Int)=m.steps):Told L (m.back L g):=by
 unfold Mc.back Mc.close
 dsimp only
 by_cases hc:(m.top.call==0)=true
 ·rw [if_pos hc]
  exact .inl ⟨.inl rfl,ht⟩
 ·rw [if_neg hc]
  have fu:m.top.call≠0:=by simpa using hc
  have Tt:1≤m.top.call∧m.top.call≤(L.length:Int):=by
   cases e:m.st with
   |nil=>simp[Mc.top,e]at fu
   |cons fr l=>
    have:m.top=fr:=by simp[Mc.top,e]
    rw[this]at fu ⊢
    exact(hs fr (by rw[e];exact List.mem_cons_self ..)).resolve_left fu
  have iO:=qR (L:=L) (.inr Tt) (by omega)
  have jr:qn L {m with st:=m.st.tail}:=fun fr uv=>hs fr (List.mem_of_mem_tail uv)
  have e0 : ∀ m1:Mc,m1.fin=0→(m1.fin==0)=true:=fun m1 h=>by rw[h];rfl
  split
  ·rw[if_pos (e0 _ hf)];exact⟨hL.next _ iO,jr,hf,ht⟩
  ·rw[if_pos (e0 _ (by exact hf))];exact⟨hL.next _ iO,jr.of rfl,hf,ht⟩
theorem B1 : ∀ (l:List Ar) (m:Mc) (out:List Nat),m.fin=0→(Mc.args l m out).2.trace=m.trace∧(match (Mc.args l m out).1 with|some _=>(Mc.args l m out).2.fin=0|none=>(Mc.args l m out).2.fin=4)
 | [],m,out,h=>⟨rfl,h⟩
 | a::l,m,out,h=>by
  have hw:=Ee m a.x h
  have he:=iR m a.x
  simp only[Mc.args]
  by_cases c:a.ref=true
  ·rw[if_pos c];exact B1 l m _ h
  ·rw [if_neg c]
   by_cases c2:(m.bj a.x).1.2=true
   ·rw [if_pos c2]
    obtain⟨h1,h2⟩:=B1 l {(m.bj a.x).2 with mem:=(m.bj a.x).2.mem++ [(m.bj a.x).1.1]} (out++ [(m.bj a.x).2.mem.length]) (hw.1 c2)
    exact⟨h1.trans he.2.2.2.2.2,h2⟩
   ·rw [if_neg c2]
    exact⟨he.2.2.2.2.2,hw.2 (by simpa using c2)⟩
def Ef (L:List Im) (r:Int×Mc):Prop:=
 (r.2.fin=0∧pN L r.1∧qn L r.2∧(r.2.trace.length:Int)=r.2.steps)∨((r.2.fin=3∨r.2.fin=4∨r.2.fin=5)∧(r.2.trace.length:Int)+1=r.2.steps)
theorem Ef.told {L:List Im} {r:Int×Mc} (h:Ef L r):Told L (if r.2.fin==0 then some r.1 else none,r.2):=by
 obtain⟨a,m⟩:=r
 rcases h with ⟨h1,h2,h3,h4⟩|⟨h1,h2⟩
 ·dsimp only at h1 h2 h3 h4 ⊢
  rw[if_pos (by rw[h1];rfl)]
  exact⟨h2,h3,h1,h4⟩
 ·dsimp only at h1 h2 ⊢
  rw[if_neg (by simp only[beq_iff_eq];omega)]
  exact .inr ⟨h1,h2⟩
theorem WC {p:Pg} {L:List Im} (hL:CS p L) {W:List Int} {m:Mc} {x:Im} (hx:x∈L) (hw:W.contains x.s.id=true) (hs:qn L m) (hf:m.fin=0) (ht:(m.trace.length:Int)+1=m.steps) :
 Ef L (m.call p W x.s):=by
 have h:=xb x.s.args m []
 have h2:=B1 x.s.args m [] hf
 unfold Mc.call
 generalize Mc.args x.s.args m [] = r at *
 obtain⟨o,m1⟩:=r
 dsimp only at h h2
 cases o with
 |none=>
  dsimp only at h2 ⊢
  exact .inr ⟨.inr (.inl h2.2),by dsimp only;rw[h2.1,h.2];exact ht⟩
 | some l=>
  dsimp only at h2 ⊢
  by_cases c:m1.st.length > 100
  ·rw [if_pos c]
   exact .inr ⟨.inr (.inr rfl),by dsimp only;rw[h2.1,h.2];exact ht⟩
  ·rw [if_neg c]
   obtain⟨e1,e2⟩:=w8 (m:=m1) (bJ:= []) hw
   have e3:=fF W m1 x.s.id []
   have xk:qn L (m1.event W x.s.id []):=hs.of (e3.1.trans h.1)
   have yU:((m1.event W x.s.id []).trace.length:Int)=(m1.event W x.s.id []).steps:=by
    rw[e1,e3.2.2.2.1,h2.1,h.2,List.length_append]
    simp only[List.length_cons,List.length_nil];omega
   have Qb:(m1.event W x.s.id []).fin=0:=e2.trans h2.2
   unfold Mc.open
   cases hp:p.procs[(p.at x.s.proc).toNat]? with
   |none=>exact .inl ⟨Qb, .inl rfl,xk,yU⟩
   |some f=>
    refine .inl ⟨Qb,hL.ja f (List.mem_of_getElem? hp),fun fr uv=>?_,yU⟩
    rcases List.mem_cons.1 uv with rfl|uv
    ·exact .inr (hL.id x hx)
    ·exact xk fr uv
theorem TD {p:Pg} {L:List Im} (hL:CS p L) {W:List Int} {m:Mc} {x:Im} (hw:W.contains x.s.id=true) (hs:qn L m) (hf:m.fin=0) (ht:(m.trace.length:Int)+1=m.steps) :
 Told L (if(m.fH W x.s).2.fin==0 then(m.fH W x.s).2.back L (m.fH W x.s).1 else(none,(m.fH W x.s).2)):=by
 have he:=B0 W m x.s
 have key:((m.fH W x.s).2.fin=0∧((m.fH W x.s).2.trace.length:Int)=(m.fH W x.s).2.steps)∨((m.fH W x.s).2.fin=4∧((m.fH W x.s).2.trace.length:Int)+1=(m.fH W x.s).2.steps):=by
  rw[he.2]
  unfold Mc.fH
  have WD:=Ee m x.s.x hf
  have KD:=iR m x.s.x
  by_cases c:x.s.has=true
  ·rw [if_pos c]
   dsimp only
   by_cases c2:(m.bj x.s.x).1.2=true
   ·rw [if_pos c2]
    obtain⟨e1,e2⟩:=w8 (m:=(m.bj x.s.x).2) (bJ:= [(m.bj x.s.x).1.1]) hw
    refine .inl ⟨e2.trans (WD.1 c2), ?_⟩
    rw[e1,KD.2.2.2.2.2,List.length_append]
    simp only[List.length_cons,List.length_nil];omega
   ·rw [if_neg c2]
    exact .inr ⟨WD.2 (by simpa using c2),by rw[KD.2.2.2.2.2];exact ht⟩
  ·rw [if_neg c]
   obtain⟨e1,e2⟩:=w8 (m:=m) (bJ:= []) hw
   refine .inl ⟨e2.trans hf, ?_⟩
   dsimp only
   rw[e1,List.length_append]
   simp only[List.length_cons,List.length_nil];omega
 generalize m.fH W x.s=r at *
 rcases key with ⟨k1,k2⟩|⟨k1,k2⟩
 ·rw [if_pos (by rw [k1];rfl)]
  exact KB hL (hs.of he.1) k1 k2
 ·rw [if_neg (by simp only [beq_iff_eq];omega)]
  exact .inr ⟨.inr (.inl k1),k2⟩
theorem aeB {p:Pg} {L:List Im} (hL:CS p L) {tape W:List Int} {m:Mc} {x:Im} (hx:x∈L) (hw:W.contains x.s.id=true) (hs:qn L m) (hf:m.fin=0) (ht:(m.trace.length:Int)+1=m.steps) :
 Ef L (m.do p L tape W x):=by
 have go : ∀ {m1:Mc} {a:Int} {bJ:List Int},m1.trace=m.trace→m1.steps=m.steps→m1.st=m.st→m1.fin=0→pN L a→Ef L (a,m1.event W x.s.id bJ):=fun {m1 a bJ} e1 e2 e3 e4 ha=>by
  obtain⟨g1,g2⟩:=w8 (m:=m1) (bJ:=bJ) hw
  have g3:=fF W m1 x.s.id bJ
  refine .inl ⟨g2.trans e4,ha,hs.of (g3.1.trans e3), ?_⟩
  dsimp only
  rw[g1,g3.2.2.2.1,e1,e2,List.length_append]
  simp only[List.length_cons,List.length_nil];omega
 have WD:=Ee m x.s.x hf
 have KD:=iR m x.s.x
 have Ia:=hL.id x hx
 unfold Mc.do
 dsimp only
 split
 ·rename_i c
  have hl:=hL.loop x hx (.inl (by simpa using c))
  exact go rfl rfl rfl hf (hL.next _ (qR (.inr hl) (by omega)))
 split
 ·rename_i c
  exact go rfl rfl rfl hf (.inr (hL.loop x hx (.inr (by simpa using c))))
 split
 ·rename_i c
  obtain⟨f,h1,h2⟩:=hL.uT x hx (by simpa using c)
  rw[h1]
  exact go rfl rfl rfl hf h2
 split
 ·split
  ·exact .inr ⟨.inl rfl,ht⟩
  ·exact go rfl rfl rfl hf (hL.next x hx)
 ·by_cases c2:(m.bj x.s.x).1.2=true
  ·rw [if_pos c2]
   have base:=fun(a:Int) (ha:pN L a)=>go (m1:=(m.bj x.s.x).2) (a:=a) (bJ:= [(m.bj x.s.x).1.1]) KD.2.2.2.2.2 KD.2.2.1 KD.1 (WD.1 c2) ha
   have same : ∀ {a:Int} {m1 m2:Mc},Ef L (a,m1)→m2.fin=m1.fin→m2.st=m1.st→m2.trace=m1.trace→m2.steps=m1.steps→Ef L (a,m2):=fun {a m1 m2} h q1 q2 q3 q4=>by
    unfold Ef qn at *
    dsimp only at *
    rw[q1,q2,q3,q4];exact h
   split
   ·exact same (base _ (hL.next x hx)) rfl rfl rfl rfl
   split
   ·exact same (base _ (hL.next x hx)) rfl rfl rfl rfl
   split
   ·refine base _ ?_
    split
    ·exact Gp (hL.aN x hx) (hL.next x hx)
    ·exact Gp (hL.aQ x hx) (hL.next x hx)
   split
   ·refine base _ ?_
    split
    ·exact hL.next x hx
    ·exact Gp (hL.aQ x hx) (.inr Ia)
   ·exact base _ (hL.next x hx)
  ·rw [if_neg c2]
   exact .inr ⟨.inr (.inl (WD.2 (by simpa using c2))),by dsimp only;rw[KD.2.2.2.2.2,KD.2.2.1];exact ht⟩
theorem KE {p:Pg} {L:List Im} (hL:CS p L) {tape W:List Int} (hW : ∀ x∈L,W.contains x.s.id=true) {fuel a:Int} {m:Mc} (ha:pN L a) (hs:qn L m) (hf:m.fin=0) (ht:(m.trace.length:Int)=m.steps) :
 Told L (m.next p L tape W fuel a):=by
 unfold Mc.next
 by_cases c1:(a == -1)=true
 ·rw[if_pos c1];exact KB hL hs hf ht
 ·rw [if_neg c1]
  by_cases c2:(m.steps==fuel)=true
  ·rw[if_pos c2];exact .inl ⟨.inr rfl,ht⟩
  ·rw [if_neg c2]
   have hx:=qR ha (by simpa using c1)
   have oG:qn L {m with steps:=m.steps+1}:=hs.of rfl
   have Cx:((({m with steps:=m.steps+1} : Mc).trace.length:Nat):Int)+1=({m with steps:=m.steps+1} : Mc).steps:=by dsimp only;omega
   dsimp only
   split
   ·exact(WC hL hx (hW _ hx) oG hf Cx).told
   split
   ·exact TD hL (hW _ hx) oG hf Cx
   ·exact(aeB hL hx (hW _ hx) oG hf Cx).told
def Z6 (m:Mc):Prop:=((m.fin=1∨m.fin=2)∧(m.trace.length:Int)=m.steps)∨((m.fin=3∨m.fin=4∨m.fin=5)∧(m.trace.length:Int)+1=m.steps)
theorem Qn {p:Pg} {L:List Im} (hL:CS p L) {tape W:List Int} (hW : ∀ x∈L,W.contains x.s.id=true) {fuel:Int} : ∀ (N:Nat) (a:Int) (m m':Mc),pN L a→qn L m→m.fin=0→(m.trace.length:Int)=m.steps→
 Mc.go p L tape W fuel N a m=some m'→Z6 m'
 | 0,_,_,_,_,_,_,_,h=>by simp[Mc.go]at h
 |N+1,a,m,m',ha,hs,hf,ht,h=>by
  have hn:=KE (fuel:=fuel) (tape:=tape) hL hW ha hs hf ht
  simp only[Mc.go]at h
  split at h
  ·rename_i m1 e;rw[e]at hn;cases h;exact hn
  ·rename_i a1 m1 e;rw[e]at hn;exact Qn hL hW N a1 m1 m' hn.1 hn.2.1 hn.2.2.1 hn.2.2.2 h
theorem NK {p:Pg} {L:List Im} (hL:CS p L):pN L ((kK p).open p (p.at jb) [] 0).1∧qn L ((kK p).open p (p.at jb) [] 0).2∧((kK p).open p (p.at jb) [] 0).2.fin=0∧
 ((((kK p).open p (p.at jb) [] 0).2.trace.length:Nat):Int)=((kK p).open p (p.at jb) [] 0).2.steps:=by
 unfold Mc.open
 cases hp:p.procs[(p.at jb).toNat]? with
 |none=>exact⟨.inl rfl,fun fr h=>by simp[kK]at h,rfl,rfl⟩
 |some f=>
  refine⟨hL.ja f (List.mem_of_getElem? hp),fun fr h=>?_,rfl,rfl⟩
  rcases List.mem_cons.1 h with rfl|h
  ·exact .inl rfl
  ·simp[kK]at h
theorem WE {p:Pg} (hL:CS p p.a7.L) {tape W:List Int} (hW : ∀ x∈p.a7.L,W.contains x.s.id=true) {fuel:Int} {m:Mc} (h:runM p tape W fuel=some m):Z6 m:=by
 obtain⟨h1,h2,h3,h4⟩:=NK hL
 exact Qn hL hW _ _ _ _ h1 h2 h3 h4 h
theorem NL (p:Pg) (L:List Im) (tape W:List Int) {fuel:Int} : ∀ (N:Nat) (a:Int) (m m':Mc),m.steps≤fuel→Mc.go p L tape W fuel N a m=some m'→m'.steps≤fuel
 | 0,_,_,_,_,h=>by simp[Mc.go]at h
 | N+1,a,m,m',hs,h=>by
  simp only[Mc.go]at h
  cases e:m.next p L tape W fuel a with
  | mk o m1=>
   rw[e]at h
   cases o with
   |some a1=>exact NL p L tape W N a1 m1 m' (Ql hs e).1 h
   | none=>
    cases h
    unfold Mc.next at e
    have hb : ∀ {m:Mc} {g:Int} {o:Option Int} {m2:Mc},m.back L g=(o,m2)→m2.steps=m.steps:=fun {m g o m2} h=>by
     have:=(NH L m g).2.1
     unfold Mc.back at h
     simp only[Prod.mk.injEq]at h
     rw[← h.2];exact this
    split at e
    ·rw[hb e];exact hs
    split at e
    ·simp only[Prod.mk.injEq,true_and]at e;rw[← e];exact hs
    rename_i fu
    have hD:m.steps<fuel:=by(have:m.steps≠fuel:=by simpa using fu);omega
    dsimp only at e
    split at e
    ·have h1:=(Qk p W {m with steps:=m.steps+1} (dY L a).s).2
     simp only[Prod.mk.injEq]at e
     rw[← e.2,h1];dsimp only;omega
    split at e
    ·have h1:=(B0 W {m with steps:=m.steps+1} (dY L a).s).2
     split at e
     ·rw[hb e,h1];dsimp only;omega
     ·simp only[Prod.mk.injEq,true_and]at e;rw[← e,h1];dsimp only;omega
    ·have h1:=(TC p L tape W {m with steps:=m.steps+1} (dY L a)).2
     simp only[Prod.mk.injEq]at e
     rw[← e.2,h1];dsimp only;omega
def FD (a b t:aK):aK:=if t==a then b else if t==b then a else t
mutual
def Ex.swap (a b:aK):Ex→Ex
 |⟨op,n,name,kids⟩=>⟨op,n,FD a b name,Ex.B2 a b kids⟩
def Ex.B2 (a b:aK):List Ex→List Ex
 | []=> []
 |x::l=>x.swap a b::Ex.B2 a b l
end
def Ar.swap (a b:aK) (x:Ar):Ar:=⟨x.ref,FD a b x.name,x.x.swap a b⟩
mutual
def Sm.swap (a b:aK):Sm→Sm
 |⟨id,kind,labels,name,proc,x,has,args,aQ,aN⟩=>⟨id,kind,labels.map (FD a b),FD a b name,FD a b proc,x.swap a b,has,args.map (Ar.swap a b),Sm.B2 a b aQ,Sm.B2 a b aN⟩
def Sm.B2 (a b:aK):List Sm→List Sm
 | []=> []
 |s::l=>s.swap a b::Sm.B2 a b l
end
def Pm.swap (a b:aK) (x:Pm):Pm:=⟨FD a b x.name,x.ref⟩
def Pc.swap (a b:aK) (f:Pc):Pc:=⟨FD a b f.name,f.params.map (Pm.swap a b),f.vars.map (FD a b),Sm.B2 a b f.body,f.fin.map (FD a b)⟩
def Pg.swap (a b:aK) (p:Pg):Pg:=⟨p.globals.map (FD a b),p.procs.map (Pc.swap a b)⟩
def It.swap (a b:aK) (i:It):It:=⟨i.s.swap a b,i.deep,i.db,i.aN⟩
theorem WG {out:List aK} {x y:aK} : y∈vl out x↔y∈out∨y=x:=by
 unfold vl
 split
 ·rename_i e
  have:=(fx _ _).1 e
  constructor
  ·exact .inl
  ·rintro(h|rfl)<;>assumption
 ·simp
theorem xX {y:aK} : ∀ {l out:List aK},y∈uQ out l↔y∈out∨y∈l
 | [],out=>by simp[uQ]
 |x::l,out=>by
  simp only[uQ,xX (l:=l),WG,List.mem_cons,or_assoc]
theorem NM (p:Pg) {y:aK} : ∀ (n i:Nat) (out:List aK),y∈out→y∈ov p n i out
 | 0,i,out,h=>h
 |n+1,i,out,h=>by
  simp only[ov]
  split
  ·exact NM p n _ _ (xX.2 (.inl h))
  ·exact h
theorem NN : ∀ (l out:List aK),∃ e,uQ out l=out++e
 | [],out=>⟨[],by simp[uQ]⟩
 |x::l,out=>by
  obtain⟨e,h⟩:=NN l (vl out x)
  simp only[uQ,h]
  unfold vl
  split
  ·exact⟨e,rfl⟩
  ·exact⟨x::e,by simp⟩
theorem FE {p:Pg} (ni:(p.scope.1==0)=true) : ∀ (n i:Nat) (out:List aK),Good p out→n+i=p.procs.length+1→(∀ (j:Nat) (x:aK),j<i→out[j]? = some x→∀ y∈p8 p x,y∈out)→
 ∀ x∈ov p n i out,∀ y∈p8 p x,y∈ov p n i out
 | 0,i,out,hg,hn,hc,x,hx,y,hy=>by
  simp only[ov]at hx ⊢
  obtain⟨j,hj⟩:=List.getElem?_of_mem hx
  have:=hg.len
  have:=(List.getElem?_eq_some_iff.1 hj).1
  exact hc j x (by omega) hj y hy
 | n+1,i,out,hg,hn,hc,x,hx,y,hy=>by
  simp only[ov]at hx ⊢
  split at hx
  ·rename_i z hz
   obtain⟨g,nR⟩:=hg.2 z (List.mem_of_getElem? hz)
   refine FE ni n (i+1) _ (hg.add fun y m=>?_) (by omega) (fun j x hj hjx y hy=>?_) x hx y hy
   ·unfold p8 at m
    rw[nR]at m
    exact Ab ni (sB nR).1 m
   ·obtain⟨e,he⟩:=NN (p8 p z) out
    have hi:=(List.getElem?_eq_some_iff.1 hz).1
    rw[he,List.getElem?_append_left (by omega)]at hjx
    rcases Nat.lt_or_ge j i with h1|h1
    ·exact xX.2 (.inl (hc j x h1 hjx y hy))
    ·have:j=i:=by omega
     subst this
     rw[hz]at hjx
     cases hjx
     exact xX.2 (.inr hy)
  ·rename_i hz
   obtain⟨j,hj⟩:=List.getElem?_of_mem hx
   have h1:=(List.getElem?_eq_some_iff.1 hj).1
   have h2:=List.getElem?_eq_none_iff.1 hz
   exact hc j x (by omega) hj y hy
theorem Ib {p:Pg} {S:aK→Prop} (hS : ∀ x,S x→∀ y∈p8 p x,S y) : ∀ (n i:Nat) (out:List aK),(∀ x∈out,S x)→∀ x∈ov p n i out,S x
 | 0,i,out,h,x,hx=>h x hx
 | n+1,i,out,h,x,hx=>by
  simp only[ov]at hx
  split at hx
  ·rename_i z hz
   exact Ib hS n _ _ (fun y hy=>(xX.1 hy).elim (h y) (hS z (h z (List.mem_of_getElem? hz)) y)) x hx
  ·exact h x hx
theorem KF {p:Pg} {x:aK} : ∀ {l out:List aK},x∈rf p out l↔x∈out∨(x∈l∧x∈p.globals)
 | [],out=>by simp[rf]
 | v::l,out=>by
  simp only[rf,KF (l:=l),List.mem_cons]
  cases e:fG p.globals v
  ·have:v∉p.globals:=fun m=>by rw [(fx _ _).2 m]at e;cases e
   simp only[Bool.false_eq_true,if_false]
   constructor
   ·rintro(h | ⟨h,k⟩)
    ·exact .inl h
    ·exact .inr ⟨.inr h,k⟩
   ·rintro(h | ⟨rfl | h,k⟩)
    ·exact .inl h
    ·exact absurd k this
    ·exact .inr ⟨h,k⟩
  ·have:v∈p.globals:=(fx _ _).1 e
   simp only[if_true,List.mem_append,List.mem_singleton]
   constructor
   ·rintro((h | rfl) | ⟨h,k⟩)
    ·exact .inl h
    ·exact .inr ⟨.inl rfl,this⟩
    ·exact .inr ⟨.inr h,k⟩
   ·rintro(h | ⟨rfl | h,k⟩)
    ·exact .inl (.inl h)
    ·exact .inl (.inr rfl)
    ·exact .inr ⟨h,k⟩
def si:List Sm→List aK
 | []=> []
 |v::l=>v.said++si l
theorem KH {p:Pg} {x:aK} : ∀ {l:List Sm} {out:List aK},x∈rh p out l↔x∈out∨(x∈si l∧x∈p.globals)
 | [],out=>by simp[rh,si]
 | v::l,out=>by
  simp only[rh,KH (l:=l),KF,si,List.mem_append]
  constructor
  ·rintro((h | ⟨h,k⟩) | ⟨h,k⟩)
   ·exact .inl h
   ·exact .inr ⟨.inl h,k⟩
   ·exact .inr ⟨.inr h,k⟩
  ·rintro(h | ⟨h | h,k⟩)
   ·exact .inl (.inl h)
   ·exact .inl (.inr ⟨h,k⟩)
   ·exact .inr ⟨h,k⟩
def B3 (p:Pg):List aK→List aK
 | []=> []
 |n::l=>si (oY p n)++B3 p l
theorem KI {p:Pg} {x:aK} : ∀ {l:List aK},x∈B3 p l↔∃ n∈l,x∈si (oY p n)
 | []=>by simp[B3]
 |n::l=>by simp[B3,KI (l:=l)]
theorem KK {p:Pg} {x:aK} : ∀ {l out:List aK},x∈sg p out l↔x∈out∨(x∈B3 p l∧x∈p.globals)
 | [],out=>by simp[sg,B3]
 | v::l,out=>by
  simp only[sg,KK (l:=l),KH,B3,List.mem_append]
  constructor
  ·rintro((h | ⟨h,k⟩) | ⟨h,k⟩)
   ·exact .inl h
   ·exact .inr ⟨.inl h,k⟩
   ·exact .inr ⟨.inr h,k⟩
  ·rintro(h | ⟨h | h,k⟩)
   ·exact .inl (.inl h)
   ·exact .inl (.inr ⟨h,k⟩)
   ·exact .inr ⟨h,k⟩
theorem KM {p:Pg} {nm x:aK} {f:Pc} (h:p.uR nm=some f):x∈p.nj nm↔(∃ n∈p.work nm,x∈si (oY p n))∧x∈p.globals:=by
 unfold Pg.nj
 rw[h]
 dsimp only
 rw[(lH _).2]
 unfold Pg.sC
 rw[KK,KI]
 simp only[(lH _).2,List.not_mem_nil,false_or]
set_option maxRecDepth 8000
open Go.Proofs
def nJ (nm:aK) (T:List aK) (seen:List aK):List Ar→Bool
 | []=>true
 |a::l=>if a.ref then(if fG seen a.name ||(a.name==nm ||fG T a.name)then false else nJ nm T (seen++ [a.name]) l)else nJ nm T seen l
def apM (T:List aK) (seen:List aK):List Ar→Bool
 | []=>true
 |a::l=>if a.ref then(if fG seen a.name ||fG T a.name then false else apM T (seen++ [a.name]) l)else apM T seen l
def Sm.atZ (v:Sm):List aK:=if v.name != []then [v.name]else []
theorem Z7 {v:Sm} (sO:v.args.length<1000000000) {T:List aK} (hT:T.length<4611686018427387904) (s:St) :
 aH Tryz.prog uL [.agg (bd v), .slice .shared 1 (T.map encStr)] s (.bool (nJ v.name T [] v.args)) s:=by
 refine aH.pure ?_ (by simp[D.bM,D.ok,qh,Tag.ok,fL]) rfl s
 generalize hR:nJ v.name T [] v.args=R
 have hcT:=fun x s=>tL hT x s
 unfold S0
 refine aH.go Ge rfl fun B Q hB hQ=>?_
 have⟨hD,gA,gB,gC⟩:=bX
 repeat' (first
 |simp only[go_sem,hD,gA,gB,gC]
 |(with_reducible refine aJ hQ ?_;exact bA))
 refine bp.rD 5 1 rfl ?_
 simp only[go_sem,hD,gA,gB,gC]
 refine fI 1 1 (bp.ind (ι:=List Ar×Nat×List aK×Nat) (fun i=>v.args.drop i.2.1=i.1∧nJ v.name T i.2.2.1 i.1=R∧i.2.2.1.length≤i.2.1∧i.2.2.2=i.2.2.1.length) (fun i=>i.1.length)
  (fun i=> [(1, .slice .shared 1 (T.map encStr)),(2, .ptr 0 0),(5, .slice (.tok 0) 1 (i.2.2.1.map encStr)),(9, .slice .shared 6 (v.args.map fi)),(10, .int .i64 (v.args.length:Int)),(11, .int .i64 (i.2.1:Int))]) (fun i=>⟨[bd v],[some i.2.2.2]⟩) ?_ (v.args,0,[],0) ⟨rfl,hR,Nat.le_refl _,rfl⟩)
 clear hR
 rintro⟨rest,k,seen,n'⟩ ⟨h1,h2,h3,h4⟩ IH
 dsimp only at h1 h2 h3 h4
 subst h4
 cases rest with
 |nil=>
  have hD:=drop_nil h1
  simp only[nJ]at h2
  subst h2
  repeat' (first
 |simp only[go_sem,hD,gA,gB,gC]
 |(with_reducible refine aJ hQ ?_;exact bA))
 | cons a rest=>
  obtain⟨gA,g2,hD,g4⟩:=drop_cons h1
  have ct:k<4611686018427387904:=by omega
  have gB:(seen.length+1)*17≤bD:=by unfold bD;omega
  have po:=fun g s=>kI (l:=seen) (by omega) a.name g s
  simp only[nJ]at h2
  rcases Bool.eq_false_or_eq_true a.ref with c1|c1
  case inr=>
   simp only[c1,Bool.false_eq_true,if_false]at h2
   repeat' (first
 |simp only[go_sem,hD,gA,gB,gC,c1,Bool.not_false]
 | (with_reducible refine aJ hQ ?_;exact bA))
   refine fm 1 1 ?_ ?_ (IH (rest,k+1,seen,_) ⟨g2,h2,by dsimp only;omega,rfl⟩ (Nat.lt_succ_self _))
   ·(simp only[go_sem,hD,gA,gB,gC,aM ct];try exact cd)
   ·(simp only[go_sem,hD,gA,gB,gC,aM ct];try exact cd)
  simp only[c1,if_true]at h2
  rcases Bool.eq_false_or_eq_true (fG seen a.name)with c2|c2
  ·simp only [c2,Bool.true_or,if_true]at h2
   subst h2
   repeat' (first
 |simp only[go_sem,hD,gA,gB,gC,c1,c2,Bool.not_true]
 |(with_reducible refine CU (po _ _) ?_)
 |(with_reducible refine CU (hcT _ _) ?_)
 | (with_reducible refine aJ hQ ?_;exact bA))
  rcases Bool.eq_false_or_eq_true (a.name==v.name)with c3|c3
  ·simp only [c2,c3,Bool.false_or,Bool.true_or,if_true]at h2
   subst h2
   repeat' (first
 |simp only[go_sem,hD,gA,gB,gC,c1,c2,c3,Bool.not_true]
 |(with_reducible refine CU (po _ _) ?_)
 |(with_reducible refine CU (hcT _ _) ?_)
 | (with_reducible refine aJ hQ ?_;exact bA))
  rcases Bool.eq_false_or_eq_true (fG T a.name)with c4|c4
  ·simp only [c2,c3,c4,Bool.false_or,if_true]at h2
   subst h2
   repeat' (first
 |simp only[go_sem,hD,gA,gB,gC,c1,c2,c3,c4,Bool.not_true]
 |(with_reducible refine CU (po _ _) ?_)
 |(with_reducible refine CU (hcT _ _) ?_)
 | (with_reducible refine aJ hQ ?_;exact bA))
  ·simp only [c2,c3,c4,Bool.false_or,Bool.false_eq_true,if_false]at h2
   repeat' (first
 |simp only[go_sem,hD,gA,gB,gC,c1,c2,c3,c4,Bool.not_true]
 |(with_reducible refine CU (po _ _) ?_)
 |(with_reducible refine CU (hcT _ _) ?_)
 | (with_reducible refine aJ hQ ?_;exact bA))
   refine fm 1 1 ?_ ?_ (IH (rest,k+1,seen++ [a.name],seen.length+1) ⟨g2,h2,by simp;omega,by simp⟩ (Nat.lt_succ_self _))
   ·(simp only[go_sem,hD,gA,gB,gC,aM ct,List.map_append,List.map_cons,List.map_nil,encStr];try exact cd)
   ·(simp only[go_sem,hD,gA,gB,gC,aM ct,List.map_append,List.map_cons,List.map_nil,encStr];try exact cd)
def oZ (p:Pg):List Pc→List D
 | []=> []
 |f::l=> .str f.name:: .slice .shared 1 ((p.nj f.name).map encStr)::oZ p l
theorem WH (p:Pg) : ∀ l,D.bM 0 0 (oZ p l)=true
 | []=>rfl
 |f::l=>by simp only[oZ,D.bM,D.ok,Tag.ok,fL,WH p l];rfl
theorem aeC (n m:Nat) (p:Pg) (l:List Pc):D.iG n m (oZ p l)=oZ p l:=jh n m _ (WH p l)
attribute [go_sem] aeC
theorem NO (p:Pg) : ∀ l m,oZ p (l++m)=oZ p l++oZ p m
 | [],m=>rfl
 |f::l,m=>by simp only[List.cons_append,oZ,NO p l m]
theorem NP {p:Pg} {nm:aK} {d:D} : ∀ {l:List Pc},nm∉l.map (·.name)→zA nm d (oZ p l)=some (oZ p l++ [.str nm,d])
 | [],_=>rfl
 |f::l,h=>by
  simp only[List.map_cons,List.mem_cons,not_or]at h
  have:(f.name==nm)=false:=by simpa using fun e=>h.1 e.symm
  simp only[oZ,zA,this,Bool.false_eq_true,if_false,NP h.2,List.cons_append]
theorem NQ {p:Pg} {nm:aK} {z:D} : ∀ {l:List Pc} {f:Pc},iF nm l=some f→Bh nm z (oZ p l)=some (.slice .shared 1 ((p.nj nm).map encStr))
 | g::l,f,h=>by
  simp only[iF]at h
  simp only[oZ,Bh]
  split at h
  ·rename_i e
   rw[if_pos e,eq_of_beq e]
  ·rename_i e
   rw[if_neg e]
   exact NQ h
theorem aeD (l:List aK) : ∀ (s:List aK),rU s l=false→∀ a x b,l=a++x::b→x∉s++a:=by
 induction l with
 |nil=>intro s _ a x b e;cases a<;>cases e
 | cons y l ih=>
  intro s h a x b e
  simp only[rU]at h
  split at h
  ·cases h
  ·rename_i hy
   cases a with
   |nil=>cases e;simpa[← fx]using hy
   |cons z a=>
    cases e
    have:=ih (s++ [y]) h a x b rfl
    simpa using this
end Go.Abs
namespace Go.Abs
set_option maxRecDepth 8000
open Go.Proofs
theorem NR {p:Pg} (h:(p.arity.1==0)=true):(p.scope.1==0)=true∧∀ v∈p.pre,(v.kind==4)=true→v.pM p=true:=by
 unfold Pg.arity at h
 split at h
 ·rename_i e
  refine⟨e,fun v hv hk=>?_⟩
  have : ∀ l:List Sm,((rW 6 (HY p l)).1==0)=true→∀ v∈l,(v.kind==4)=true→v.pM p=true:=by
   intro l
   induction l with
   |nil=>intro _ v m;cases m
   | cons a l ih=>
    intro h v m hk
    simp only[HY]at h
    split at h
    ·cases h
    ·rename_i c
     rcases List.mem_cons.1 m with rfl|m
     ·simpa[hk]using c
     ·exact ih h v m hk
  exact this _ h v hv hk
 ·cases h
theorem KN {p:Pg} {v:Sm} (h:v.pM p=true) : ∃ f,p.find v.proc=some f:=by
 unfold Sm.pM at h
 cases e:p.find v.proc with
 |some f=>exact⟨f,rfl⟩
 |none=>rw[e]at h;simp at h
theorem NS : ∀ {l:List It} {n:Nat} {i:It},It.gL n l=true→i∈l→i.s.one=true
 | j::l,n,i,h,m=>by
  simp only[It.gL]at h
  split at h
  ·cases h
  ·rename_i c
   simp only[Bool.or_eq_true,not_or,Bool.not_eq_true',Bool.not_eq_false]at c
   rcases List.mem_cons.1 m with rfl|m
   ·exact c.2
   ·exact NS h m
theorem ET {p:Pg} (h:p.may=true) : ∀ v∈p.pre,v.one=true:=fun v m=>by
 rw[← (xR h).2,List.mem_map]at m
 obtain⟨i,hi,rfl⟩:=m
 exact NS (A6 h).2 hi
def Sm.uU (p:Pg) (v:Sm):Bool:=nJ v.name (p.nj v.proc) [] v.args
def Ic (p:Pg):List Sm→Option Sm
 | []=>none
 |v::l=>if v.kind==4 && !(v.uU p)then some v else Ic p l
def Pg.alias (p:Pg):Int×Int:=if p.arity.1==0 then rW 8 (Ic p p.pre)else(1,0)
theorem NT {p:Pg} (h:p.jE) (nm:aK):(p.nj nm).length<4611686018427387904:=by
 unfold Pg.nj
 cases hs:p.uR nm with
 |none=>dsimp only;decide
 |some f=>
  obtain⟨ni,hf⟩:=Ea hs
  have h1:=(NC ni hf).len
  have h2:=h.procs
  have h3:=(BW h (ly (p.work nm)) []).2
  have h4:(ly (p.work nm)).length*1800000≤900000*1800000:=Nat.mul_le_mul_right _ (by omega)
  have h5:(ly (p.sC nm)).length≤(p.sC nm).length:=zc _ _ (w5 (lH _).1) fun x m=>((lH _).2 x).1 m
  dsimp only
  unfold Pg.sC at *
  simp only[List.length_nil]at h3
  omega
theorem TE {v:Sm} (hv:v.oU):v.args.length<1000000000:=by have:=Ar.dR v.args;have:=hv.2.2;omega
theorem WI {p:Pg} (h:p.jE) (s:St):aH Tryz.prog wi [.agg (bV p)] s (.agg [.int .i64 p.alias.1, .int .i64 p.alias.2]) s:=by
 refine aH.pure ?_ (by simp[D.bM,D.ok,jj]) rfl s
 obtain⟨s9,p7,sR⟩:=h.procs
 have ri:=fun s=>Nw h s
 have dB:=fun s=>EL (p:=p) (by omega) s
 have hL:=(kU p).1
 have xU:=qO p
 generalize hR:p.alias=R
 simp only[Pg.alias]at hR
 unfold S0
 have b0:(p.arity.1 != 0) = !(p.arity.1==0):=rfl
 rcases Bool.eq_false_or_eq_true (p.arity.1==0)with b1|b1
 case inr=>
  rw[b1]at b0
  simp only[b1,Bool.false_eq_true,if_false]at hR
  subst hR
  refine aH.go yP rfl fun B Q hB hQ=>?_
  have⟨hD,gA,gB,gC⟩:=bX
  repeat' (first
 |simp only[go_sem,hD,gA,gB,gC,b0,Bool.not_false]
 |(with_reducible refine CU (ri _) ?_)
 |(with_reducible refine aJ hQ ?_;exact bA))
 rw[b1]at b0
 obtain⟨ni,kn⟩:=NR b1
 have htw:=(Gk ni).2.1
 simp only[b1,if_true, ← hL]at hR
 refine aH.go yP rfl fun B Q hB hQ=>?_
 have⟨hD,gA,gB,gC⟩:=bX
 repeat' (first
 |simp only[go_sem,hD,gA,gB,gC,b0,Bool.not_true]
 |(with_reducible refine CU (ri _) ?_)
 |(with_reducible refine aJ hQ ?_;exact bA))
 refine fm 3 0 ?_ ?_ (bp.ind (ι:=List Pc×Nat×List Pc) (fun i=>p.procs.drop i.2.1=i.1∧p.procs=i.2.2++i.1) (fun i=>i.1.length)
  (fun i=> [(1, .ptr 0 0),(2, .ptr 1 0),(3, .gT 2),(15, .slice .shared 5 (p.procs.map bS)),(16, .int .i64 (p.procs.length:Int)),(17, .int .i64 (i.2.1:Int))]) (fun i=>⟨[bV p,[.int .i64 0, .int .i64 0],oZ p i.2.2],[]⟩) ?_ (p.procs,0,[]) ⟨rfl,rfl⟩)
 ·(simp only[go_sem,hD,gA,gB,gC,oZ];try exact cd)
 ·(simp only[go_sem,hD,gA,gB,gC,oZ];try exact cd)
 rintro⟨rest,k,done⟩ ⟨h1,h2⟩ IH
 dsimp only at h1 h2
 cases rest with
 | cons a rest=>
  obtain⟨gA,g2,hD,g4⟩:=drop_cons h1
  have ct:k<4611686018427387904:=by omega
  have uk:=fun s=>Wu h a.name s
  have hnm:a.name∉done.map (·.name):=by
   have:=aeD _ [] htw (done.map (·.name)) a.name (rest.map (·.name)) (by simp[Pg.pn,h2])
   simpa using this
  have hmp:zA a.name (.slice .shared 1 ((p.nj a.name).map encStr)) (oZ p done)=some (oZ p (done++ [a])):=by
   rw[NP hnm,NO];rfl
  repeat' (first
 |simp only[go_sem,hD,gA,gB,gC,hmp]
 |(with_reducible refine CU (uk _) ?_)
 |(with_reducible refine aJ hQ ?_;exact bA))
  refine fm 3 0 ?_ ?_ (IH (rest,k+1,done++ [a]) ⟨g2,by rw[h2];simp⟩ (Nat.lt_succ_self _))
  ·(simp only[go_sem,hD,gA,gB,gC,aM ct];try exact cd)
  ·(simp only[go_sem,hD,gA,gB,gC,aM ct];try exact cd)
 |nil=>
  have hD:=drop_nil h1
  rw[List.append_nil]at h2
  subst h2
  repeat' (first
 |simp only[go_sem,hD,gA,gB,gC,pL]
 |(with_reducible refine CU (dB _) ?_)
 | (with_reducible refine aJ hQ ?_;exact bA))
  refine fI 3 0 (bp.ind (ι:=List Im×Nat) (fun i=>p.a7.L.drop i.2=i.1∧rW 8 (Ic p (i.1.map Im.s))=R) (fun i=>i.1.length)
   (fun i=> [(1, .ptr 0 0),(2, .ptr 1 0),(3, .gT 2),(33, .slice .shared 17 (p.a7.L.map dP)),(34, .int .i64 (p.a7.L.length:Int)),(35, .int .i64 (i.2:Int))]) (fun i=>⟨[bV p,[.int .i64 0, .int .i64 0],oZ p p.procs],[]⟩) ?_ (p.a7.L,0) ⟨rfl,hR⟩)
  clear hR
  rintro⟨rest,k⟩ ⟨h1,hR⟩ IH
  dsimp only at h1 hR
  cases rest with
  |nil=>
   have hD:=drop_nil h1
   simp only[List.map_nil,Ic,rW]at hR
   subst hR
   repeat' (first
 |simp only[go_sem,hD,gA,gB,gC]
 | (with_reducible refine aJ hQ ?_;exact bA))
  | cons a rest=>
   obtain⟨gA,g2,hD,g4⟩:=drop_cons h1
   have ct:k<4611686018427387904:=by omega
   have CQ:a.s∈p.pre:=by rw[← hL];exact List.mem_map_of_mem (List.mem_of_getElem? gA)
   have xk:=fun s=>Z7 (TE (h.pre _ CQ)) (NT h a.s.proc) s
   simp only[List.map_cons,Ic,Sm.uU]at hR
   rcases Bool.eq_false_or_eq_true (a.s.kind==4)with c1|c1
   ·obtain⟨f,hf⟩:=KN (kn _ CQ c1)
    have hmg:=fun z=>NQ (p:=p) (z:=z) hf
    rcases Bool.eq_false_or_eq_true (nJ a.s.name (p.nj a.s.proc) [] a.s.args)with c2|c2
    ·simp only [c1,c2,Bool.not_true,Bool.and_false,Bool.false_eq_true,if_false]at hR
     repeat' (first
 |simp only[go_sem,hD,gA,gB,gC,c1,c2,hmg]
 |(with_reducible refine CU (xk _) ?_)
 | (with_reducible refine aJ hQ ?_;exact bA))
     refine fm 3 0 ?_ ?_ (IH (rest,k+1) ⟨g2,hR⟩ (Nat.lt_succ_self _))
     ·(simp only[go_sem,hD,gA,gB,gC,aM ct];try exact cd)
     ·(simp only[go_sem,hD,gA,gB,gC,aM ct];try exact cd)
    ·simp only [c1,c2,Bool.not_false,Bool.and_true,if_true,rW]at hR
     subst hR
     repeat' (first
 |simp only[go_sem,hD,gA,gB,gC,c1,c2,hmg]
 |(with_reducible refine CU (xk _) ?_)
 | (with_reducible refine aJ hQ ?_;exact bA))
   ·simp only [c1,Bool.false_and,Bool.false_eq_true,if_false]at hR
    repeat' (first
 |simp only[go_sem,hD,gA,gB,gC,c1]
 |(with_reducible refine CU (xk _) ?_)
 | (with_reducible refine aJ hQ ?_;exact bA))
    refine fm 3 0 ?_ ?_ (IH (rest,k+1) ⟨g2,hR⟩ (Nat.lt_succ_self _))
    ·(simp only[go_sem,hD,gA,gB,gC,aM ct];try exact cd)
    ·(simp only[go_sem,hD,gA,gB,gC,aM ct];try exact cd)
def Sm.aii (p:Pg) (v:Sm):Bool:=v.pM p && apM (p.nj v.proc) v.atZ v.args
def apF (p:Pg):List Sm→Option Sm
 | []=>none
 |v::l=>if v.kind==4 && !(v.aii p)then some v else apF p l
def rd0 (l:List rl):Rd:=⟨l,0,0,0,0⟩
def aAM (m:Nat) (text:aK):Option (Pg×Int×Int):=
 if(A0 text).2.1 != 0 then some (pg0,(A0 text).2)
 else(Rd.program m (rd0 (A0 text).1)).bind fun p=>if p.2.code != 0 then some (pg0,p.2.code,p.2.MU)else(p.1.ad7).bind fun q=>some (q,0,0)
def aBK (m:Nat) (text:aK):Option (Ex×Int×Int):=
 if(A0 text).2.1 != 0 then some (rm,(A0 text).2)
 else(Rd.whole m (rd0 (A0 text).1)).bind fun x=>x.2.VR.bind fun b=>
  if b then(x.2.bad 3).bind fun r=>if !r.good then some (rm,r.code,r.MU)else some (x.1,0,0)
  else if !x.2.good then some (rm,x.2.code,x.2.MU)else some (x.1,0,0)
def Ad (n k:Int):Int:=if Int.tmod n k<0 then Int.tmod n k+k else Int.tmod n k
theorem aeE (n:Int) {k:Int} (hk:1≤k):0≤Ad n k∧Ad n k<k:=by
 unfold Ad
 have h1:=Int.tmod_lt_of_pos n (by omega:0<k)
 have h2:=Int.lt_tmod_of_pos n (by omega:0<k)
 split<;>omega
theorem ami (n:Int) {k:Int} (hk:1≤k) (ct:k<1000000) (s:St):aH Tryz.prog BA [.int .i64 n, .int .i64 k] s (.int .i64 (Ad n k)) s:=by
 refine aH.pure ?_ rfl rfl s
 have h1:=Int.tmod_lt_of_pos n (by omega:0<k)
 have h2:=Int.lt_tmod_of_pos n (by omega:0<k)
 have c1:decide (k<1)=false:=by simp;omega
 have w1:IntKind.wrap .i64 (Int.tmod n k)=Int.tmod n k:=eA (by omega) (by omega)
 have w2:IntKind.wrap .i64 (Int.tmod n k+k)=Int.tmod n k+k:=eA (by omega) (by omega)
 have k0:(k=0)=False:=by simp;omega
 unfold S0
 by_cases hm:Int.tmod n k<0
 ·have c2:decide (Int.tmod n k<0)=true:=by simp;omega
  rw[show Ad n k=Int.tmod n k+k from if_pos hm]
  refine aH.go DO rfl fun B Q hB hQ=>?_
  have⟨hD,gA,gB,gC⟩:=bX
  repeat' (first
 |simp only[go_sem,hD,gA,gB,gC,c1,c2,w1,w2,k0]
 |(with_reducible refine aJ hQ ?_;exact bA))
 ·have c2:decide (Int.tmod n k<0)=false:=by simp;omega
  rw[show Ad n k=Int.tmod n k from if_neg hm]
  refine aH.go DO rfl fun B Q hB hQ=>?_
  have⟨hD,gA,gB,gC⟩:=bX
  repeat' (first
 |simp only[go_sem,hD,gA,gB,gC,c1,c2,w1,w2,k0]
 |(with_reducible refine aJ hQ ?_;exact bA))
def amj (t:aK):Nat→aK
 | 0=> []
 |n+1=>amj t n++t
def two (i:Nat):aK:= [UInt8.ofNat (48+i / 10),UInt8.ofNat (48+i % 10)]
def aij (ahead:aK):Nat→aK
 | 0=> []
 |n+1=>(if n=0 then aij ahead n else aij ahead n++ [44])++(ahead++ [97]++two n)
def aik:Nat→aK
 | 0=> []
 |n+1=>aik n++([112,114,111,99,32,112]++two n++ [40,41,123,125])
def ku (k:Int):List It→List Int
 | []=> []
 |i::l=>if k==0 ||i.s.kind==k then i.s.id::ku k l else ku k l
theorem B4 (k:Int) : ∀ l,(ku k l).length≤l.length
 | []=>Nat.le_refl _
 |i::l=>by
  have:=B4 k l
  simp only[ku]
  split<;>simp<;>omega
theorem acH {p:Pg} (hs:Pc.aU p.procs<4611686018427387000) (xU:p.all.length≤1000) (kd:Int) (s:St):aH Tryz.prog wV [.agg (bV p), .int .i64 kd] s (.slice .shared 1 ((ku kd p.all).map cO)) s:=by
 refine aH.pure ?_ (by simp[D.bM,D.ok,jj]) (by simp only[D.ok,Tag.ok,ju];rfl) s
 have sO:=fun s=>amc hs s
 obtain⟨R,hR⟩ : ∃ R,ku kd p.all=R:=⟨_,rfl⟩
 rw[hR]
 have hRl:R.length≤1000:=by rw[← hR];exact Nat.le_trans (B4 kd p.all) xU
 unfold S0
 refine aH.go M6 rfl fun B Q hB hQ=>?_
 have⟨hD,gA,gB,gC⟩:=bX
 repeat' (first
 |simp only[go_sem,hD,gA,gB,gC]
 |(with_reducible refine CU (sO _) ?_)
 |(with_reducible refine aJ hQ ?_;exact bA))
 refine bp.rD 5 1 rfl ?_
 simp only[go_sem,hD,gA,gB,gC]
 refine fI 1 1 (bp.ind (ι:=List It×Nat×List Int×Nat) (fun i=>p.all.drop i.2.1=i.1∧i.2.2.1++ku kd i.1=R∧i.2.2.2=i.2.2.1.length) (fun i=>i.1.length)
  (fun i=> [(1, .int .i64 kd),(2, .ptr 0 0),(5, .slice (.tok 0) 1 (i.2.2.1.map cO)),(9, .slice .shared 16 (p.all.map gM)),(10, .int .i64 (p.all.length:Int)),(11, .int .i64 (i.2.1:Int))]) (fun i=>⟨[bV p],[some i.2.2.2]⟩) ?_ (p.all,0,[],0) ⟨rfl,hR,rfl⟩)
 clear hR
 rintro⟨rest,k,out,n'⟩ ⟨h1,h2,h3⟩ IH
 dsimp only at h1 h2 h3
 subst h3
 have jC:out.length≤1000:=by have:=congrArg List.length h2;rw[List.length_append]at this;omega
 cases rest with
 |nil=>
  have hD:=drop_nil h1
  simp only[ku,List.append_nil]at h2
  subst h2
  repeat' (first
 |simp only[go_sem,hD,gA,gB,gC]
 |(with_reducible refine aJ hQ ?_;exact bA))
 | cons a rest=>
  obtain⟨gA,g2,hD,g4⟩:=drop_cons h1
  have ct:k<4611686018427387904:=by omega
  have gB:(out.length+1)*9≤bD:=by unfold bD;omega
  simp only[ku]at h2
  rcases Bool.eq_false_or_eq_true (kd==0)with c1|c1
  ·simp only [c1,Bool.true_or,if_true]at h2
   repeat' (first
 |simp only[go_sem,hD,gA,gB,gC,c1]
 | (with_reducible refine aJ hQ ?_;exact bA))
   refine fm 1 1 ?_ ?_ (IH (rest,k+1,out++ [a.s.id],out.length+1) ⟨g2,by rw[← h2];simp,by simp⟩ (Nat.lt_succ_self _))
   ·(simp only[go_sem,hD,gA,gB,gC,aM ct,List.map_append,List.map_cons,List.map_nil,cO];try exact cd)
   ·(simp only[go_sem,hD,gA,gB,gC,aM ct,List.map_append,List.map_cons,List.map_nil,cO];try exact cd)
  rcases Bool.eq_false_or_eq_true (a.s.kind==kd)with c2|c2
  ·simp only [c1,c2,Bool.or_true,if_true]at h2
   repeat' (first
 |simp only[go_sem,hD,gA,gB,gC,c1,c2]
 | (with_reducible refine aJ hQ ?_;exact bA))
   refine fm 1 1 ?_ ?_ (IH (rest,k+1,out++ [a.s.id],out.length+1) ⟨g2,by rw[← h2];simp,by simp⟩ (Nat.lt_succ_self _))
   ·(simp only[go_sem,hD,gA,gB,gC,aM ct,List.map_append,List.map_cons,List.map_nil,cO];try exact cd)
   ·(simp only[go_sem,hD,gA,gB,gC,aM ct,List.map_append,List.map_cons,List.map_nil,cO];try exact cd)
  ·simp only [c1,c2,Bool.or_false,Bool.false_eq_true,if_false]at h2
   repeat' (first
 |simp only[go_sem,hD,gA,gB,gC,c1,c2]
 | (with_reducible refine aJ hQ ?_;exact bA))
   refine fm 1 1 ?_ ?_ (IH (rest,k+1,out,_) ⟨g2,h2,rfl⟩ (Nat.lt_succ_self _))
   ·(simp only[go_sem,hD,gA,gB,gC,aM ct];try exact cd)
   ·(simp only[go_sem,hD,gA,gB,gC,aM ct];try exact cd)
def pO (l:List Int) (n:Int):Int:=match l[(Ad n l.length).toNat]? with|some x=>x|none=>0
theorem ail {l:List Int} (hl:l.length<1000000) (n:Int) (s:St):aH Tryz.prog zN [.slice .shared 1 (l.map cO), .int .i64 n] s (.int .i64 (pO l n)) s:=by
 refine aH.pure ?_ (by simp[D.bM,D.ok,Tag.ok,ju]) rfl s
 unfold S0
 by_cases hz:l.length=0
 ·have hz':l = []:=List.eq_nil_of_length_eq_zero hz
  have c1:((l.length:Int)==0)=true:=by rw[hz];rfl
  have e:pO l n=0:=by unfold pO;rw[hz'];rfl
  rw[e]
  refine aH.go CH rfl fun B Q hB hQ=>?_
  have⟨hD,gA,gB,gC⟩:=bX
  repeat' (first
 |simp only[go_sem,hD,gA,gB,gC,c1]
 |(with_reducible refine aJ hQ ?_;exact bA))
 ·have c1:((l.length:Int)==0)=false:=by simp only [beq_eq_false_iff_ne,ne_eq];omega
  have hk:=aeE n (k:=(l.length:Int)) (by omega)
  have hm:=fun s=>ami n (k:=(l.length:Int)) (by omega) (by omega) s
  obtain⟨j,hj⟩ : ∃ j:Nat,Ad n l.length=(j:Int):=⟨(Ad n l.length).toNat,(Int.toNat_of_nonneg hk.1).symm⟩
  have PO:j<l.length:=by have h2:=hk.2;rw[hj]at h2;omega
  obtain⟨f,hf⟩ : ∃ f,l[j]? = some f:=⟨_,List.getElem?_eq_getElem PO⟩
  have e:pO l n=f:=by unfold pO;rw[hj,Int.toNat_natCast,hf]
  rw[hj]at hm
  rw[e]
  have yF:decide ((j:Int)<(l.length:Int))=true:=by simp;omega
  refine aH.go CH rfl fun B Q hB hQ=>?_
  have⟨hD,gA,gB,gC⟩:=bX
  repeat' (first
 |simp only[go_sem,hD,gA,gB,gC,c1,hf,yF,cO]
 |(with_reducible refine CU (hm _) ?_)
 |(with_reducible refine aJ hQ ?_;exact bA))
def EU (id:Int):List It→Option It
 | []=>none
 |i::l=>if i.s.id==id then some i else EU id l
def B5 (id:Int):List Pc→Option (It×aK)
 | []=>none
 |f::l=>match EU id f.flat with|some i=>some (i,f.name)|none=>B5 id l
def it0:It:=⟨Ka,0,0,false⟩
def at0 (r:Option (It×aK)):D:=match r with
 |some (i,nm)=> .tuple [.agg (gM i), .str nm, .bool true]
 |none=> .tuple [.agg (gM it0), .str [], .bool false]
def Pg.B6 (p:Pg) (id:Int):Sm:=match B5 id p.procs with|some (i,_)=>i.s|none=>Ka
def dw (t:aK) (n:Int):Int:=if n > 20000 then 20001 else if(t.length:Int)≥20000 - n then 20001 else n+1+t.length
mutual
def fR:Ex→Int→Int
 |⟨_,_,name,kids⟩,n=>o7 kids (dw name n)
def o7:List Ex→Int→Int
 | [],n=>n
 |x::l,n=>if n≤20000 then o7 l (fR x n)else n
end
theorem nW {t:aK} {n:Int} (h0:0≤n):dw t n≤20001∧(n≤20000→n+1≤dw t n)∧0≤dw t n∧(dw t n≤20000→n+1+t.length=dw t n):=by
 unfold dw;split
 ·omega
 ·split<;>omega
theorem xY : ∀ (m:Nat) (x:Ex),x.size≤m→∀ n:Int,0≤n→fR x n≤20001∧(n≤20000→n+1≤fR x n)∧0≤fR x n∧(fR x n≤20000→(x.size:Int)+1≤2*(fR x n - n)∧x.texts):=by
 intro m
 induction m with
 |zero=>rintro⟨op,v,name,kids⟩ h;simp only[Ex.size]at h;omega
 | succ m ih=>
  rintro⟨op,v,name,kids⟩ h n h0
  simp only[Ex.size]at h
  obtain⟨t1,t2,t3,t4⟩:=nW (t:=name) h0
  have go : ∀ (l:List Ex),Ex.aU l≤m→∀ c:Int,0≤c→c≤20001→o7 l c≤20001∧c≤o7 l c∧(o7 l c≤20000→(Ex.aU l:Int)≤2*(o7 l c - c)∧Ex.xN l):=by
   intro l
   induction l with
   |nil=>intro _ c h0 h1;simp only[o7,Ex.aU];exact⟨h1,Int.le_refl _,fun _=>⟨by omega,trivial⟩⟩
   | cons y l WB=>
    intro hs c h0 h1
    simp only[Ex.aU]at hs ⊢
    simp only[o7]
    split
    ·rename_i hc
     obtain⟨a1,a2,a3,a4⟩:=ih y (by omega) c h0
     obtain⟨b1,b2,b3⟩:=WB (by omega) (fR y c) a3 a1
     have:=a2 hc
     refine⟨b1,by omega,fun hw=>?_⟩
     obtain⟨c1,c2⟩:=b3 hw
     obtain⟨d1,d2⟩:=a4 (by omega)
     exact⟨by omega,d2,c2⟩
    ·exact⟨h1,Int.le_refl _,fun hw=>by omega⟩
  obtain⟨g1,g2,g3⟩:=go kids (by omega) (dw name n) t3 t1
  simp only[fR,Ex.size]
  refine⟨g1,fun hn=>by have:=t2 hn;omega,by omega,fun hw=>?_⟩
  obtain⟨k1,k2⟩:=g3 hw
  have:=t4 (by omega)
  exact⟨by omega,by omega,k2⟩
theorem sE (t:aK) {n:Int} (h0:0≤n) (h1:n≤20001) (s:St):aH Tryz.prog iD [.str t, .int .i64 n] s (.int .i64 (dw t n)) s:=by
 refine aH.pure ?_ rfl rfl s
 unfold S0
 have w1:IntKind.wrap .i64 (20000 - n)=20000 - n:=eA (by omega) (by omega)
 have w2:IntKind.wrap .i64 (n+1)=n+1:=eA (by omega) (by omega)
 by_cases c:n > 20000
 ·have c1:decide (n > 20000)=true:=by simp;omega
  have e:dw t n=20001:=by simp[dw,c]
  rw[e]
  refine aH.go qM rfl fun B Q hB hQ=>?_
  have⟨hD,gA,gB,gC⟩:=bX
  repeat' (first
 |simp only[go_sem,hD,gA,gB,gC,c1,w1,w2]
 |(with_reducible refine aJ hQ ?_;exact bA))
 ·have c1:decide (n > 20000)=false:=by simp;omega
  by_cases d:(t.length:Int)≥20000 - n
  ·have d1:decide ((t.length:Int)≥20000 - n)=true:=by simp;omega
   have e:dw t n=20001:=by unfold dw;rw[if_neg c,if_pos d]
   rw[e]
   refine aH.go qM rfl fun B Q hB hQ=>?_
   have⟨hD,gA,gB,gC⟩:=bX
   repeat' (first
 |simp only[go_sem,hD,gA,gB,gC,c1,d1,w1,w2]
 | (with_reducible refine aJ hQ ?_;exact bA))
  ·have d1:decide ((t.length:Int)≥20000 - n)=false:=by simp;omega
   have e:dw t n=n+1+t.length:=by unfold dw;rw[if_neg c,if_neg d]
   have w3:IntKind.wrap .i64 (n+1+t.length)=n+1+t.length:=eA (by omega) (by omega)
   rw[e]
   refine aH.go qM rfl fun B Q hB hQ=>?_
   have⟨hD,gA,gB,gC⟩:=bX
   repeat' (first
 |simp only[go_sem,hD,gA,gB,gC,c1,d1,w1,w2,w3]
 |(with_reducible refine aJ hQ ?_;exact bA))
theorem NU : ∀ (m:Nat) (x:Ex),x.size≤m→∀ {n:Int},0≤n→n≤20000→∀ s:St,aH Tryz.prog lg [.agg (cb x), .int .i64 n] s (.int .i64 (fR x n)) s:=by
 intro m
 induction m with
 |zero=>rintro⟨op,v,name,kids⟩ h;simp only[Ex.size]at h;omega
 |succ m ih=>
  rintro⟨op,v,name,kids⟩ dU n h0 h1 s
  refine aH.pure ?_ (by simp[D.bM,D.ok,lE]) rfl s
  simp only[Ex.size]at dU
  have hk : ∀ y∈kids,∀ {n:Int},0≤n→n≤20000→∀ s:St,aH Tryz.prog lg [.agg (cb y), .int .i64 n] s (.int .i64 (fR y n)) s:=fun y hy=>ih y (by have:=Ex.cZ hy;omega)
  have ht:=fun s=>sE name h0 (by omega) s
  obtain⟨t1,t2,t3,t4⟩:=nW (t:=name) h0
  unfold S0
  generalize h:fR ⟨op,v,name,kids⟩ n=p
  simp only[fR]at h
  refine aH.go DP rfl fun B Q hB hQ=>?_
  have⟨hD,gA,gB,gC⟩:=bX
  repeat' (first
 |simp only[go_sem,hD,gA,gB,gC]
 |(with_reducible refine CU (ht _) ?_)
 |(with_reducible first|refine bq fun hc=>?_|refine br fun hc=>?_|refine bt (fun hc=>?_) fun hc=>?_)<;>(try simp only[hc,bs,↓reduceIte]at h)<;>try simp only[hc]
 | (with_reducible refine aJ hQ ?_;exact fU))
  refine fI 1 0 (bp.ind (ι:=List Ex×Nat×Int) (fun i=>kids.drop i.2.1=i.1∧o7 i.1 i.2.2=p∧(i.2.1:Int)≤i.2.2∧i.2.2≤20001) (fun i=>i.1.length)
   (fun i=> [(1, .int .i64 i.2.2),(2, .ptr 0 0),(5, .int .i64 (i.2.1:Int))]) (fun i=>⟨[cb ⟨op,v,name,kids⟩],[]⟩) ?_ (kids,0,dw name n) ⟨rfl,h,t3,t1⟩)
  rintro⟨rest,k,c⟩ ⟨g1,h,g3,g4⟩ IH
  dsimp only at g1 h g3 g4
  cases rest with
  |nil=>
   have hD:=drop_nil g1
   simp only[o7]at h
   repeat' (first
 |simp only[go_sem,hD,gA,gB,gC]
 |(with_reducible first|refine bq fun hc=>?_|refine br fun hc=>?_|refine bt (fun hc=>?_) fun hc=>?_)<;>(try simp only[hc,bs,↓reduceIte]at h)<;>try simp only[hc]
 | (with_reducible refine aJ hQ ?_;exact fU))
  | cons y rest=>
   obtain⟨gA,g2,hD,g5⟩:=drop_cons g1
   simp only[o7]at h
   by_cases hc:c≤20000
   ·have c1:decide (c≤20000)=true:=by simp;omega
    have hy:=fun s=>hk y (List.mem_of_getElem? gA) (n:=c) (by omega) hc s
    obtain⟨a1,a2,a3,a4⟩:=xY _ y (Nat.le_refl _) c (by omega)
    have:=a2 hc
    have w3:IntKind.wrap .i64 ((k:Int)+1)=((k+1:Nat):Int):=by rw[eA]<;>omega
    rw[if_pos hc]at h
    repeat' (first
 |simp only[go_sem,hD,gA,gB,gC,c1,w3]
 |(with_reducible refine CU (hy _) ?_)
 |(with_reducible first|refine bq fun hc=>?_|refine br fun hc=>?_|refine bt (fun hc=>?_) fun hc=>?_)<;>(try simp only[hc,bs,↓reduceIte]at h)<;>try simp only[hc]
 | (with_reducible refine aJ hQ ?_;(try cases h);simp only [bh,bk,bO,bP,go_sem,hD,gA,gB,gC,c1,w3];try exact cJ))
    refine fI 1 0 (IH (rest,k+1,fR y c) ⟨g2,h,by dsimp only;omega,a1⟩ (Nat.lt_succ_self _))
   ·have c1:decide (c≤20000)=false:=by simp;omega
    rw[if_neg hc]at h
    repeat' (first
 |simp only[go_sem,hD,gA,gB,gC,c1]
 |(with_reducible first|refine bq fun hc=>?_|refine br fun hc=>?_|refine bt (fun hc=>?_) fun hc=>?_)<;>(try simp only[hc,bs,↓reduceIte]at h)<;>try simp only[hc]
 |(with_reducible refine aJ hQ ?_;(try cases h);simp only[bh,bk,bO,bP,go_sem,hD,gA,gB,gC,c1];try exact cJ))
def eJ:List aK→Int→Int
 | [],n=>n
 |t::l,n=>if n≤20000 then eJ l (dw t n)else n
def jH:List Ar→Int→Int
 | [],n=>n
 |a::l,n=>if n≤20000 then jH l (dw a.name (fR a.x n))else n
def lN:List Pm→Int→Int
 | [],n=>n
 |a::l,n=>if n≤20000 then lN l (dw a.name n)else n
mutual
def tU:Sm→Int→Int
 |⟨_,_,labels,name,proc,x,_,args,aQ,aN⟩,n=>gD aN (gD aQ (jH args (dw proc (dw name (eJ labels (fR x n))))))
def gD:List Sm→Int→Int
 | [],n=>n
 |s::l,n=>if n≤20000 then gD l (tU s n)else n
end
theorem WK (s:Sm) (n:Int):tU s n=gD s.aN (gD s.aQ (jH s.args (dw s.proc (dw s.name (eJ s.labels (fR s.x n)))))):=by cases s;simp only[tU]
def vS (f:Pc) (n:Int):Int:=gD f.body (lN f.params (eJ f.fin (eJ f.vars (dw f.name n))))
def o8:List Pc→Int→Int
 | [],n=>n
 |f::l,n=>if n≤20000 then o8 l (vS f n)else n
def Pg.EV (p:Pg):Int:=o8 p.procs (eJ p.globals 0)
theorem mA : ∀ (l:List aK) {n:Int},0≤n→n≤20001→eJ l n≤20001∧n≤eJ l n∧(eJ l n≤20000→n+l.length≤eJ l n∧∀ t∈l,t.length<4611686018427387904)
 | [],n,h0,h1=>by simp only[eJ];exact⟨h1,Int.le_refl _,fun _=>⟨by simp,by simp⟩⟩
 | t::l,n,h0,h1=>by
  simp only[eJ]
  split
  ·rename_i hc
   obtain⟨a1,a2,a3,a4⟩:=nW (t:=t) h0
   obtain⟨b1,b2,b3⟩:=mA l (n:=dw t n) a3 a1
   have:=a2 hc
   refine⟨b1,by omega,fun hw=>?_⟩
   obtain⟨c1,c2⟩:=b3 hw
   have:=a4 (by omega)
   refine⟨by simp only[List.length_cons];omega,fun s m=>?_⟩
   rcases List.mem_cons.1 m with rfl|m
   ·omega
   ·exact c2 s m
  ·exact⟨h1,Int.le_refl _,fun hw=>by omega⟩
theorem B7 : ∀ (l:List Pm) {n:Int},0≤n→n≤20001→lN l n≤20001∧n≤lN l n∧(lN l n≤20000→n+l.length≤lN l n∧∀ t∈l,t.name.length<4611686018427387904)
 | [],n,h0,h1=>by simp only[lN];exact⟨h1,Int.le_refl _,fun _=>⟨by simp,by simp⟩⟩
 | t::l,n,h0,h1=>by
  simp only[lN]
  split
  ·rename_i hc
   obtain⟨a1,a2,a3,a4⟩:=nW (t:=t.name) h0
   obtain⟨b1,b2,b3⟩:=B7 l (n:=dw t.name n) a3 a1
   have:=a2 hc
   refine⟨b1,by omega,fun hw=>?_⟩
   obtain⟨c1,c2⟩:=b3 hw
   have:=a4 (by omega)
   refine⟨by simp only[List.length_cons];omega,fun s m=>?_⟩
   rcases List.mem_cons.1 m with rfl|m
   ·omega
   ·exact c2 s m
  ·exact⟨h1,Int.le_refl _,fun hw=>by omega⟩
theorem B8 : ∀ (l:List Ar) {n:Int},0≤n→n≤20001→jH l n≤20001∧n≤jH l n∧
 (jH l n≤20000→(Ar.aU l:Int)≤2*(jH l n - n)∧∀ a∈l,a.x.size<4611686018427387904∧a.x.texts∧a.name.length<4611686018427387904)
 | [],n,h0,h1=>by simp only[jH];exact⟨h1,Int.le_refl _,fun _=>⟨by simp[Ar.aU],by simp⟩⟩
 | a::l,n,h0,h1=>by
  simp only[jH]
  split
  ·rename_i hc
   obtain⟨a1,a2,a3,a4⟩:=xY _ a.x (Nat.le_refl _) n h0
   obtain⟨e1,e2,e3,e4⟩:=nW (t:=a.name) a3
   obtain⟨b1,b2,b3⟩:=B8 l (n:=dw a.name (fR a.x n)) e3 e1
   have:=a2 hc
   have:fR a.x n≤dw a.name (fR a.x n):=by
    by_cases h:fR a.x n≤20000
    ·have:=e2 h;omega
    ·have:dw a.name (fR a.x n)=20001:=by unfold dw;rw [if_pos (by omega)]
     omega
   refine⟨b1,by omega,fun hw=>?_⟩
   obtain⟨c1,c2⟩:=b3 hw
   have:=e4 (by omega)
   obtain⟨d1,d2⟩:=a4 (by omega)
   refine⟨by simp only[Ar.aU];omega,fun s m=>?_⟩
   rcases List.mem_cons.1 m with rfl|m
   ·exact⟨by omega,d2,by omega⟩
   ·exact c2 s m
  ·exact⟨h1,Int.le_refl _,fun hw=>by omega⟩
theorem mI {t:aK} {n:Int} (h0:0≤n) (h1:n≤20001):n≤dw t n∧dw t n≤20001∧(dw t n≤20000→n+1≤dw t n∧t.length<4611686018427387904):=by
 obtain⟨e1,e2,e3,e4⟩:=nW (t:=t) h0
 by_cases h:n≤20000
 ·have:=e2 h
  exact⟨by omega,e1,fun hw=>⟨by omega,by have:=e4 hw;omega⟩⟩
 ·have:dw t n=20001:=by unfold dw;rw [if_pos (by omega)]
  exact⟨by omega,e1,fun hw=>by omega⟩
mutual
theorem KO : ∀ (s:Sm) {n:Int},0≤n→n≤20000→tU s n≤20001∧n+1≤tU s n∧(tU s n≤20000→(s.size:Int)+1≤2*(tU s n - n)∧s.mw)
 |⟨id,kind,labels,name,proc,x,has,args,aQ,aN⟩,n,h0,h1=>by
  obtain⟨a1,a2,a3,a4⟩:=xY _ x (Nat.le_refl _) n h0
  have a2:=a2 h1
  obtain⟨b1,b2,b3⟩:=mA labels a3 a1
  obtain⟨c1,c2,c3⟩:=mI (t:=name) (n:=eJ labels (fR x n)) (by omega) b1
  obtain⟨d1,d2,d3⟩:=mI (t:=proc) (n:=dw name (eJ labels (fR x n))) (by omega) c2
  obtain⟨e1,e2,e3⟩:=B8 args (n:=dw proc (dw name (eJ labels (fR x n)))) (by omega) d2
  obtain⟨f1,f2,f3⟩:=tV aQ (n:=jH args (dw proc (dw name (eJ labels (fR x n))))) (by omega) e1
  obtain⟨g1,g2,g3⟩:=tV aN (n:=gD aQ (jH args (dw proc (dw name (eJ labels (fR x n)))))) (by omega) f1
  simp only[tU,Sm.size]
  refine⟨g1,by omega,fun hw=>?_⟩
  obtain⟨g4,g5⟩:=g3 hw
  obtain⟨f4,f5⟩:=f3 (by omega)
  obtain⟨e4,e5⟩:=e3 (by omega)
  obtain⟨d4,d5⟩:=d3 (by omega)
  obtain⟨c4,c5⟩:=c3 (by omega)
  obtain⟨b4,b5⟩:=b3 (by omega)
  obtain⟨a5,a6⟩:=a4 (by omega)
  have:=Ar.dR args
  refine⟨by omega, ?_⟩
  rw[Gg]
  exact⟨⟨b5,by dsimp only;omega,c5,d5,by dsimp only;omega,a6,by dsimp only;omega,e5⟩,f5,g5⟩
theorem tV : ∀ (l:List Sm) {n:Int},0≤n→n≤20001→gD l n≤20001∧n≤gD l n∧(gD l n≤20000→(Sm.aU l:Int)≤2*(gD l n - n)∧Sm.gn l)
 | [],n,h0,h1=>by simp only[gD];exact⟨h1,Int.le_refl _,fun _=>⟨by simp[Sm.aU],by simp only[Sm.gn]⟩⟩
 | s::l,n,h0,h1=>by
  simp only[gD]
  split
  ·rename_i hc
   obtain⟨a1,a2,a3⟩:=KO s h0 hc
   obtain⟨b1,b2,b3⟩:=tV l (n:=tU s n) (by omega) a1
   refine⟨b1,by omega,fun hw=>?_⟩
   obtain⟨c1,c2⟩:=b3 hw
   obtain⟨d1,d2⟩:=a3 (by omega)
   exact⟨by simp only[Sm.aU];omega,d2,c2⟩
  ·exact⟨h1,Int.le_refl _,fun hw=>by omega⟩
end
theorem KP (f:Pc) {n:Int} (h0:0≤n) (h1:n≤20000):vS f n≤20001∧n+1≤vS f n∧(vS f n≤20000→(f.size:Int)+1≤2*(vS f n - n)∧
 (f.name.length<4611686018427387904∧(∀ t∈f.vars,t.length<4611686018427387904)∧(∀ t∈f.fin,t.length<4611686018427387904)∧∀ a∈f.params,a.name.length<4611686018427387904)∧Sm.gn f.body):=by
 obtain⟨c1,c2,c3⟩:=mI (t:=f.name) h0 (by omega:n≤20001)
 have c4:=(nW (t:=f.name) h0).2.1 h1
 obtain⟨d1,d2,d3⟩:=mA f.vars (n:=dw f.name n) (by omega) c2
 obtain⟨e1,e2,e3⟩:=mA f.fin (n:=eJ f.vars (dw f.name n)) (by omega) d1
 obtain⟨g1,g2,g3⟩:=B7 f.params (n:=eJ f.fin (eJ f.vars (dw f.name n))) (by omega) e1
 obtain⟨k1,k2,k3⟩:=tV f.body (n:=lN f.params (eJ f.fin (eJ f.vars (dw f.name n)))) (by omega) g1
 unfold vS Pc.size
 refine⟨k1,by omega,fun hw=>?_⟩
 obtain⟨k4,k5⟩:=k3 hw
 obtain⟨g4,g5⟩:=g3 (by omega)
 obtain⟨e4,e5⟩:=e3 (by omega)
 obtain⟨d4,d5⟩:=d3 (by omega)
 obtain⟨_,c5⟩:=c3 (by omega)
 exact⟨by omega,⟨c5,d5,e5,g5⟩,k5⟩
theorem Ie : ∀ (l:List Pc) {n:Int},0≤n→n≤20001→o8 l n≤20001∧n≤o8 l n∧(o8 l n≤20000→(Pc.aU l:Int)≤2*(o8 l n - n)∧∀ f∈l,
 (f.name.length<4611686018427387904∧(∀ t∈f.vars,t.length<4611686018427387904)∧(∀ t∈f.fin,t.length<4611686018427387904)∧∀ a∈f.params,a.name.length<4611686018427387904)∧Sm.gn f.body)
 | [],n,h0,h1=>by simp only[o8];exact⟨h1,Int.le_refl _,fun _=>⟨by simp[Pc.aU],by simp⟩⟩
 | f::l,n,h0,h1=>by
  simp only[o8]
  split
  ·rename_i hc
   obtain⟨a1,a2,a3⟩:=KP f h0 hc
   obtain⟨b1,b2,b3⟩:=Ie l (n:=vS f n) (by omega) a1
   refine⟨b1,by omega,fun hw=>?_⟩
   obtain⟨c1,c2⟩:=b3 hw
   obtain⟨d1,d2⟩:=a3 (by omega)
   refine⟨by simp only[Pc.aU];omega,fun s m=>?_⟩
   rcases List.mem_cons.1 m with rfl|m
   ·exact d2
   ·exact c2 s m
  ·exact⟨h1,Int.le_refl _,fun hw=>by omega⟩
theorem TF {p:Pg} (h:p.EV≤20000):p.size≤40001∧p.EO:=by
 unfold Pg.EV at h
 obtain⟨a1,a2,a3⟩:=mA p.globals (n:=0) (by omega) (by omega)
 obtain⟨b1,b2,b3⟩:=Ie p.procs (n:=eJ p.globals 0) (by omega) a1
 obtain⟨c1,c2⟩:=b3 h
 obtain⟨d1,d2⟩:=a3 (by omega)
 have:p.size≤40001:=by unfold Pg.size;omega
 exact⟨this,by omega,d2,fun f m=>(c2 f m).1,fun f m=>(c2 f m).2⟩
theorem zi {l:List aK} {n:Int} (h0:0≤n) (h1:n≤20001) (s:St):aH Tryz.prog kQ [.slice .shared 1 (l.map encStr), .int .i64 n] s (.int .i64 (eJ l n)) s:=by
 refine aH.pure ?_ (by simp[D.bM,D.ok,fL,Tag.ok]) rfl s
 unfold S0
 generalize h:eJ l n=p
 refine aH.go CY rfl fun B Q hB hQ=>?_
 have⟨hD,gA,gB,gC⟩:=bX
 repeat' (first
 |simp only[go_sem,hD,gA,gB,gC]
 |(with_reducible refine aJ hQ ?_;exact bA))
 refine fI 0 0 (bp.ind (ι:=List aK×Nat×Int) (fun i=>l.drop i.2.1=i.1∧eJ i.1 i.2.2=p∧(i.2.1:Int)≤i.2.2∧i.2.2≤20001) (fun i=>i.1.length)
  (fun i=> [(0, .slice .shared 1 (l.map encStr)),(1, .int .i64 i.2.2),(5, .int .i64 (i.2.1:Int))]) (fun i=>⟨[],[]⟩) ?_ (l,0,n) ⟨rfl,h,h0,h1⟩)
 rintro⟨rest,k,c⟩ ⟨g1,h,g3,g4⟩ IH
 dsimp only at g1 h g3 g4
 cases rest with
 |nil=>
  have hD:=drop_nil g1
  simp only[eJ]at h
  subst h
  repeat' (first
 |simp only[go_sem,hD,gA,gB,gC]
 |(with_reducible refine aJ hQ ?_;exact bA))
 | cons y rest=>
  obtain⟨gA,g2,hD,g5⟩:=drop_cons g1
  simp only[eJ]at h
  by_cases hc:c≤20000
  ·have c1:decide (c≤20000)=true:=by simp;omega
   have hy:=fun s=>sE y (n:=c) (by omega) g4 s
   obtain⟨a1,a2,a3,a4⟩:=nW (t:=y) (n:=c) (by omega)
   have:=a2 hc
   have w3:IntKind.wrap .i64 ((k:Int)+1)=((k+1:Nat):Int):=by rw[eA]<;>omega
   rw[if_pos hc]at h
   repeat' (first
 |simp only[go_sem,hD,gA,gB,gC,c1,w3]
 |(with_reducible refine CU (hy _) ?_)
 | (with_reducible refine aJ hQ ?_;exact bA))
   refine fI 0 0 (IH (rest,k+1,dw y c) ⟨g2,h,by dsimp only;omega,a1⟩ (Nat.lt_succ_self _))
  ·have c1:decide (c≤20000)=false:=by simp;omega
   rw[if_neg hc]at h
   subst h
   repeat' (first
 |simp only[go_sem,hD,gA,gB,gC,c1]
 |(with_reducible refine aJ hQ ?_;exact bA))
theorem WL : ∀ (m:Nat) (l:List Sm),Sm.aU l≤m→∀ {n:Int},0≤n→n≤20001→∀ s:St,aH Tryz.prog lW [.slice .shared 13 (l.map bd), .int .i64 n] s (.int .i64 (gD l n)) s:=by
 intro m
 induction m with
 | zero=>
  intro l h n h0 h1 s
  cases l with
  |nil=>
   have z:decide ((0:Int)<0)=false:=rfl
   refine aH.pure ?_ (by simp[D.bM,D.ok,D.jd,Tag.ok]) rfl s
   unfold S0
   simp only[gD]
   refine aH.go ux rfl fun B Q hB hQ=>?_
   have⟨hD,gA,gB,gC⟩:=bX
   repeat' (first
 |simp only[go_sem,hD,gA,gB,gC,z]
 |(with_reducible refine bp.ki ?_)
 |(with_reducible refine aJ hQ ?_;exact bA))
  |cons s l=>simp only[Sm.aU]at h;omega
 |succ m ih=>
  intro l h n h0 h1 s
  refine aH.pure ?_ (by simp[D.bM,D.ok,l8,Tag.ok]) rfl s
  unfold S0
  generalize hp:gD l n=p
  refine aH.go ux rfl fun B Q hB hQ=>?_
  have⟨hD,gA,gB,gC⟩:=bX
  repeat' (first
 |simp only[go_sem,hD,gA,gB,gC]
 | (with_reducible refine aJ hQ ?_;exact bA))
  refine fI 0 0 (bp.ind (ι:=List Sm×Nat×Int) (fun i=>l.drop i.2.1=i.1∧gD i.1 i.2.2=p∧(i.2.1:Int)≤i.2.2∧i.2.2≤20001) (fun i=>i.1.length)
   (fun i=> [(0, .slice .shared 13 (l.map bd)),(1, .int .i64 i.2.2),(5, .int .i64 (i.2.1:Int))]) (fun i=>⟨[],[]⟩) ?_ (l,0,n) ⟨rfl,hp,h0,h1⟩)
  rintro⟨rest,k,c⟩ ⟨g1,hp,g3,g4⟩ IH
  dsimp only at g1 hp g3 g4
  cases rest with
  |nil=>
   have hD:=drop_nil g1
   simp only[gD]at hp
   subst hp
   repeat' (first
 |simp only[go_sem,hD,gA,gB,gC]
 | (with_reducible refine aJ hQ ?_;exact bA))
  | cons y rest=>
   obtain⟨gA,g2,hD,g5⟩:=drop_cons g1
   simp only[gD]at hp
   by_cases hc:c≤20000
   ·have c1:decide (c≤20000)=true:=by simp;omega
    have iO:=List.mem_of_getElem? gA
    have dU:=Sm.cZ iO
    have X1:s.al.length≤s.al.length∧Sm.aU y.aQ<y.size∧Sm.aU y.aN<y.size:=by cases y;simp only[Sm.size];omega
    have w3:IntKind.wrap .i64 ((k:Int)+1)=((k+1:Nat):Int):=by rw[eA]<;>omega
    rw[if_pos hc]at hp
    obtain⟨a1,a2,a3,a4⟩:=xY _ y.x (Nat.le_refl _) c (by omega)
    have a2:=a2 hc
    obtain⟨b1,b2,b3⟩:=mA y.labels a3 a1
    obtain⟨Ig,c2,c3⟩:=mI (t:=y.name) (n:=eJ y.labels (fR y.x c)) (by omega) b1
    obtain⟨d1,d2,d3⟩:=mI (t:=y.proc) (n:=dw y.name (eJ y.labels (fR y.x c))) (by omega) c2
    have eE:=fun s=>NU _ y.x (Nat.le_refl _) (n:=c) (by omega) hc s
    have eL:=fun s=>zi (l:=y.labels) (n:=fR y.x c) (by omega) a1 s
    have eN:=fun s=>sE y.name (n:=eJ y.labels (fR y.x c)) (by omega) b1 s
    have eP:=fun s=>sE y.proc (n:=dw y.name (eJ y.labels (fR y.x c))) (by omega) c2 s
    obtain⟨r1,r2,r3⟩:=KO y (n:=c) (by omega) hc
    rw[WK]at hp r1 r2
    generalize hC:dw y.proc (dw y.name (eJ y.labels (fR y.x c)))=C at *
    obtain⟨s1,s2,s3⟩:=B8 y.args (n:=C) (by omega) d2
    obtain⟨t1,t2,t3⟩:=tV y.aQ (n:=jH y.args C) (by omega) s1
    have eT:=fun s=>ih y.aQ (by omega) (n:=jH y.args C) (by omega) s1 s
    have eS:=fun s=>ih y.aN (by omega) (n:=gD y.aQ (jH y.args C)) (by omega) t1 s
    generalize hW:jH y.args C=W at *
    repeat' (first
 |simp only[go_sem,hD,gA,gB,gC,c1,w3]
 |(with_reducible refine CU (eE _) ?_)
 |(with_reducible refine CU (eL _) ?_)
 |(with_reducible refine CU (eN _) ?_)
 |(with_reducible refine CU (eP _) ?_)
 | (with_reducible refine aJ hQ ?_;exact bA))
    refine fI 1 0 (bp.ind (ι:=List Ar×Nat×Int) (fun i=>y.args.drop i.2.1=i.1∧jH i.1 i.2.2=W∧(i.2.1:Int)≤i.2.2∧i.2.2≤20001) (fun i=>i.1.length)
     (fun i=> [(0, .slice .shared 13 (l.map bd)),(1, .int .i64 i.2.2),(5, .int .i64 (k:Int)),(6, .ptr 0 0),(7, .int .i64 (i.2.1:Int))]) (fun i=>⟨[bd y],[]⟩) ?_ (y.args,0,C) ⟨rfl,hW,by dsimp only;omega,d2⟩)
    rintro⟨ars,j,e⟩ ⟨k1,hw,k3,k4⟩ HQ
    dsimp only at k1 hw k3 k4
    cases ars with
    |nil=>
     have hD:=drop_nil k1
     simp only[jH]at hw
     subst hw
     repeat' (first
 |simp only[go_sem,hD,gA,gB,gC,w3]
 |(with_reducible refine CU (eT _) ?_)
 |(with_reducible refine CU (eS _) ?_)
 | (with_reducible refine aJ hQ ?_;exact bA))
     refine fI 0 0 (IH (rest,k+1,gD y.aN (gD y.aQ e)) ⟨g2,hp,by dsimp only;omega,r1⟩ (Nat.lt_succ_self _))
    | cons a ars=>
     obtain⟨gA,k2,hD,k5⟩:=drop_cons k1
     simp only[jH]at hw
     by_cases he:e≤20000
     ·have e1:decide (e≤20000)=true:=by simp;omega
      have w4:IntKind.wrap .i64 ((j:Int)+1)=((j+1:Nat):Int):=by rw[eA]<;>omega
      rw[if_pos he]at hw
      obtain⟨u1,u2,u3,u4⟩:=xY _ a.x (Nat.le_refl _) e (by omega)
      have u2:=u2 he
      obtain⟨v1,v2,v3⟩:=mI (t:=a.name) (n:=fR a.x e) u3 u1
      have eX:=fun s=>NU _ a.x (Nat.le_refl _) (n:=e) (by omega) he s
      have eM:=fun s=>sE a.name (n:=fR a.x e) u3 u1 s
      repeat' (first
 |simp only[go_sem,hD,gA,gB,gC,e1,w4]
 |(with_reducible refine CU (eX _) ?_)
 |(with_reducible refine CU (eM _) ?_)
 |(with_reducible refine aJ hQ ?_;exact bA))
      refine fI 1 0 (HQ (ars,j+1,dw a.name (fR a.x e)) ⟨k2,hw,by dsimp only;omega,v2⟩ (Nat.lt_succ_self _))
     ·have e1:decide (e≤20000)=false:=by simp;omega
      rw[if_neg he]at hw
      subst hw
      repeat' (first
 |simp only[go_sem,hD,gA,gB,gC,e1,w3]
 |(with_reducible refine CU (eT _) ?_)
 |(with_reducible refine CU (eS _) ?_)
 | (with_reducible refine aJ hQ ?_;exact bA))
      refine fI 0 0 (IH (rest,k+1,gD y.aN (gD y.aQ e)) ⟨g2,hp,by dsimp only;omega,r1⟩ (Nat.lt_succ_self _))
   ·have c1:decide (c≤20000)=false:=by simp;omega
    rw[if_neg hc]at hp
    subst hp
    repeat' (first
 |simp only[go_sem,hD,gA,gB,gC,c1]
 |(with_reducible refine aJ hQ ?_;exact bA))
theorem aiq (p:Pg) (s:St):aH Tryz.prog zM [.agg (bV p)] s (.bool (decide (p.EV≤20000))) s:=by
 refine aH.pure ?_ (by simp only[D.bM,D.ok,jj];rfl) rfl s
 unfold S0
 generalize hp:p.EV=W
 unfold Pg.EV at hp
 obtain⟨a1,a2,a3⟩:=mA p.globals (n:=0) (by omega) (by omega)
 have eG:=fun s=>zi (l:=p.globals) (n:=0) (by omega) (by omega) s
 refine aH.go Lb rfl fun B Q hB hQ=>?_
 have⟨hD,gA,gB,gC⟩:=bX
 repeat' (first
 |simp only[go_sem,hD,gA,gB,gC]
 |(with_reducible refine CU (eG _) ?_)
 |(with_reducible refine aJ hQ ?_;exact bA))
 refine fI 1 0 (bp.ind (ι:=List Pc×Nat×Int) (fun i=>p.procs.drop i.2.1=i.1∧o8 i.1 i.2.2=W∧(i.2.1:Int)≤i.2.2∧i.2.2≤20001) (fun i=>i.1.length)
  (fun i=> [(1, .ptr 0 0),(3, .int .i64 i.2.2),(4, .int .i64 (i.2.1:Int))]) (fun i=>⟨[bV p],[]⟩) ?_ (p.procs,0,eJ p.globals 0) ⟨rfl,hp,a2,a1⟩)
 rintro⟨rest,k,c⟩ ⟨g1,hp,g3,g4⟩ IH
 dsimp only at g1 hp g3 g4
 cases rest with
 |nil=>
  have hD:=drop_nil g1
  simp only[o8]at hp
  subst hp
  repeat' (first
 |simp only[go_sem,hD,gA,gB,gC]
 |(with_reducible refine aJ hQ ?_;exact bA))
 | cons f rest=>
  obtain⟨gA,g2,hD,g5⟩:=drop_cons g1
  simp only[o8]at hp
  by_cases hc:c≤20000
  ·have c1:decide (c≤20000)=true:=by simp;omega
   have w3:IntKind.wrap .i64 ((k:Int)+1)=((k+1:Nat):Int):=by rw[eA]<;>omega
   rw[if_pos hc]at hp
   obtain⟨r1,r2,r3⟩:=KP f (n:=c) (by omega) hc
   unfold vS at hp r1 r2
   obtain⟨Ig,c2,c3⟩:=mI (t:=f.name) (n:=c) (by omega) g4
   obtain⟨d1,d2,d3⟩:=mA f.vars (n:=dw f.name c) (by omega) c2
   obtain⟨e1,e2,e3⟩:=mA f.fin (n:=eJ f.vars (dw f.name c)) (by omega) d1
   have eN:=fun s=>sE f.name (n:=c) (by omega) g4 s
   have eV:=fun s=>zi (l:=f.vars) (n:=dw f.name c) (by omega) c2 s
   have eF:=fun s=>zi (l:=f.fin) (n:=eJ f.vars (dw f.name c)) (by omega) d1 s
   generalize hC:eJ f.fin (eJ f.vars (dw f.name c))=C at *
   obtain⟨s1,s2,s3⟩:=B7 f.params (n:=C) (by omega) e1
   have eT:=fun s=>WL _ f.body (Nat.le_refl _) (n:=lN f.params C) (by omega) s1 s
   generalize hM:lN f.params C=M at *
   repeat' (first
 |simp only[go_sem,hD,gA,gB,gC,c1,w3]
 |(with_reducible refine CU (eN _) ?_)
 |(with_reducible refine CU (eV _) ?_)
 |(with_reducible refine CU (eF _) ?_)
 | (with_reducible refine aJ hQ ?_;exact bA))
   refine fI 2 0 (bp.ind (ι:=List Pm×Nat×Int) (fun i=>f.params.drop i.2.1=i.1∧lN i.1 i.2.2=M∧(i.2.1:Int)≤i.2.2∧i.2.2≤20001) (fun i=>i.1.length)
    (fun i=> [(1, .ptr 0 0),(3, .int .i64 i.2.2),(4, .int .i64 (k:Int)),(5, .ptr 1 0),(6, .int .i64 (i.2.1:Int))]) (fun i=>⟨[bV p,bS f],[]⟩) ?_ (f.params,0,C) ⟨rfl,hM,by dsimp only;omega,e1⟩)
   rintro⟨ms,j,e⟩ ⟨k1,hw,k3,k4⟩ HQ
   dsimp only at k1 hw k3 k4
   cases ms with
   |nil=>
    have hD:=drop_nil k1
    simp only[lN]at hw
    subst hw
    repeat' (first
 |simp only[go_sem,hD,gA,gB,gC,w3]
 |(with_reducible refine CU (eT _) ?_)
 | (with_reducible refine aJ hQ ?_;exact bA))
    refine fI 1 0 (IH (rest,k+1,gD f.body e) ⟨g2,hp,by dsimp only;omega,r1⟩ (Nat.lt_succ_self _))
   | cons a ms=>
    obtain⟨gA,k2,hD,k5⟩:=drop_cons k1
    simp only[lN]at hw
    by_cases he:e≤20000
    ·have e1:decide (e≤20000)=true:=by simp;omega
     have w4:IntKind.wrap .i64 ((j:Int)+1)=((j+1:Nat):Int):=by rw[eA]<;>omega
     rw[if_pos he]at hw
     obtain⟨v1,v2,v3⟩:=mI (t:=a.name) (n:=e) (by omega) k4
     have v4:=(nW (t:=a.name) (n:=e) (by omega)).2.1 he
     have eM:=fun s=>sE a.name (n:=e) (by omega) k4 s
     repeat' (first
 |simp only[go_sem,hD,gA,gB,gC,e1,w4]
 |(with_reducible refine CU (eM _) ?_)
 | (with_reducible refine aJ hQ ?_;exact bA))
     refine fI 2 0 (HQ (ms,j+1,dw a.name e) ⟨k2,hw,by dsimp only;omega,v2⟩ (Nat.lt_succ_self _))
    ·have e1:decide (e≤20000)=false:=by simp;omega
     rw[if_neg he]at hw
     subst hw
     repeat' (first
 |simp only[go_sem,hD,gA,gB,gC,e1,w3]
 |(with_reducible refine CU (eT _) ?_)
 |(with_reducible first|refine bq fun hc=>?_|refine br fun hc=>?_|refine bt (fun hc=>?_) fun hc=>?_)<;>(try simp only[hc,bs,↓reduceIte]at h)<;>try simp only[hc]
 | (with_reducible refine aJ hQ ?_;simp only [bh,bk,bO,bP,go_sem,hD,gA,gB,gC,e1,w3];try exact cJ))
     refine fI 1 0 (IH (rest,k+1,gD f.body e) ⟨g2,hp,by dsimp only;omega,r1⟩ (Nat.lt_succ_self _))
  ·have c1:decide (c≤20000)=false:=by simp;omega
   rw[if_neg hc]at hp
   subst hp
   repeat' (first
 |simp only[go_sem,hD,gA,gB,gC,c1]
 |(with_reducible first|refine bq fun hc=>?_|refine br fun hc=>?_|refine bt (fun hc=>?_) fun hc=>?_)<;>(try simp only[hc,bs,↓reduceIte]at h)<;>try simp only[hc]
 |(with_reducible refine aJ hQ ?_;simp only[bh,bk,bO,bP,go_sem,hD,gA,gB,gC,c1];try exact cJ))
def air:List aK→List aK→Bool
 | [],_=>true
 |_::_,[]=>true
 |x::l,y::l'=>if !(x==y)then false else air l l'
def eqT (l l':List aK):Bool:=if(l.length:Int) != (l'.length:Int)then false else air l l'
def Ar.rE:List Ar→List Ar→Bool
 | [],_=>true
 |_::_,[]=>true
 |a::l,b::l'=>if !(a.ref==b.ref) || !(a.name==b.name) || !(Ex.beq a.x b.x)then false else Ar.rE l l'
mutual
def Sm.beq:Sm→Sm→Bool
 |⟨id,kind,labels,name,proc,x,has,args,aQ,aN⟩,⟨id',amk,aeF,S7,w7,x',at4,Hg,ais,ait⟩=>
  if id != id' ||kind != amk || !(name==S7) || !(proc==w7) || !(has==at4) || !(eqT labels aeF) || !(Ex.beq x x') ||(args.length:Int) != (Hg.length:Int)then false
  else if !(Ar.rE args Hg)then false
  else if(if(aQ.length:Int) != (ais.length:Int)then false else Sm.rE aQ ais)then(if(aN.length:Int) != (ait.length:Int)then false else Sm.rE aN ait)else false
def Sm.rE:List Sm→List Sm→Bool
 | [],_=>true
 |_::_,[]=>true
 |s::l,t::l'=>if !(Sm.beq s t)then false else Sm.rE l l'
end
def Sm.at5 (l l':List Sm):Bool:=if(l.length:Int) != (l'.length:Int)then false else Sm.rE l l'
def Pm.rE:List Pm→List Pm→Bool
 | [],_=>true
 |_::_,[]=>true
 |a::l,b::l'=>if !((a.name==b.name) && (a.ref==b.ref))then false else Pm.rE l l'
def Pc.rE:List Pc→List Pc→Bool
 | [],_=>true
 |_::_,[]=>true
 |f::l,g::l'=>
  if !(f.name==g.name) ||(f.params.length:Int) != (g.params.length:Int) || !(eqT f.vars g.vars) || !(eqT f.fin g.fin) || !(Sm.at5 f.body g.body)then false
  else if !(Pm.rE f.params g.params)then false else Pc.rE l l'
def Pg.beq (p q:Pg):Bool:=if !(eqT p.globals q.globals) ||(p.procs.length:Int) != (q.procs.length:Int)then false else Pc.rE p.procs q.procs
def EW (n:Int):Ex:=⟨1,n,[],[]⟩
def tW (s:aK):Ex:=⟨2,0,s,[]⟩
def Ih (op:Int) (a b:Ex):Ex:=⟨op,0,[],[a,b]⟩
theorem aml (n:Int) (s:St):aH Tryz.prog tr [.int .i64 n] s (.agg (cb (EW n))) s:=by
 refine aH.pure ?_ rfl (by simp[D.ok,lE]) s
 unfold S0
 refine aH.go Na rfl fun B Q hB hQ=>?_
 have⟨hD,gA,gB,gC⟩:=bX
 repeat' (first
 |simp only[go_sem,hD,gA,gB,gC,EW]
 |(with_reducible first|refine bq fun hc=>?_|refine br fun hc=>?_|refine bt (fun hc=>?_) fun hc=>?_)<;>(try simp only[hc,bs,↓reduceIte]at h)<;>try simp only[hc]
 |(with_reducible refine aJ hQ ?_;simp only[bh,bk,bO,bP,go_sem,hD,gA,gB,gC,EW];try exact cJ))
theorem TG (t:aK) (s:St):aH Tryz.prog mD [.str t] s (.agg (cb (tW t))) s:=by
 refine aH.pure ?_ rfl (by simp[D.ok,lE]) s
 unfold S0
 refine aH.go Lh rfl fun B Q hB hQ=>?_
 have⟨hD,gA,gB,gC⟩:=bX
 repeat' (first
 |simp only[go_sem,hD,gA,gB,gC,tW]
 |(with_reducible first|refine bq fun hc=>?_|refine br fun hc=>?_|refine bt (fun hc=>?_) fun hc=>?_)<;>(try simp only[hc,bs,↓reduceIte]at h)<;>try simp only[hc]
 |(with_reducible refine aJ hQ ?_;simp only[bh,bk,bO,bP,go_sem,hD,gA,gB,gC,tW];try exact cJ))
theorem WM (op:Int) (a b:Ex) (s:St):aH Tryz.prog wW [.int .i64 op, .agg (cb a), .agg (cb b)] s (.agg (cb (Ih op a b))) s:=by
 refine aH.pure ?_ (by simp[D.bM,D.ok,lE]) (by simp[D.ok,lE]) s
 unfold S0
 refine aH.go Nb rfl fun B Q hB hQ=>?_
 have⟨hD,gA,gB,gC⟩:=bX
 repeat' (first
 |simp only[go_sem,hD,gA,gB,gC,Ih]
 |(with_reducible first|refine bq fun hc=>?_|refine br fun hc=>?_|refine bt (fun hc=>?_) fun hc=>?_)<;>(try simp only[hc,bs,↓reduceIte]at h)<;>try simp only[hc]
 |(with_reducible refine aJ hQ ?_;simp only[bh,bk,bO,bP,go_sem,hD,gA,gB,gC,Ih];try exact cJ))
def source:aK:= [103,108,111,98,97,108,32,103,59,10,112,114,111,99,32,109,97,105,110,40,41,32,123,10,32,118,97,114,32,118,59,10,32,118,32,61,32,50,59,10,32,103,32,61,32,112,40,51,44,32,114,101,102,32,118,41,59,10,32,112,114,105,110,116,32,118,59,10,32,112,114,105,110,116,32,103,59,10,125,10,112,114,111,99,32,112,40,120,44,32,114,101,102,32,121,41,32,123,10,32,121,32,61,32,121,32,43,32,120,59,10,32,105,102,32,40,121,32,62,32,57,41,32,123,10,32,32,103,111,116,111,32,101,59,10,32,125,10,32,114,101,116,117,114,110,32,121,59,10,101,58,32,125,10]
def tX:Pg:=⟨[[103]],[
 ⟨[109,97,105,110],[],[[118]],[
  ⟨1,1,[],[118],[],EW 2,false,[],[],[]⟩,
  ⟨2,4,[],[103],[112],rm,false,[⟨false,[],EW 3⟩,⟨true,[118],rm⟩],[],[]⟩,
  ⟨3,3,[],[],[],tW [118],false,[],[],[]⟩,
  ⟨4,3,[],[],[],tW [103],false,[],[],[]⟩],[]⟩,
 ⟨[112],[⟨[120],false⟩,⟨[121],true⟩],[],[
  ⟨5,1,[],[121],[],Ih 8 (tW [121]) (tW [120]),false,[],[],[]⟩,
  ⟨6,5,[],[],[],Ih 12 (tW [121]) (EW 9),false,[],[⟨7,10,[],[101],[],rm,false,[],[],[]⟩],[]⟩,
  ⟨8,9,[],[],[],tW [121],true,[],[],[]⟩],[[101]]⟩]⟩
theorem aiu (s:St):aH Tryz.prog zP [] s (.agg (bV tX)) s:=by
 refine aH.pure ?_ rfl (by simp[D.ok,jj]) s
 unfold S0
 refine aH.go Lf rfl fun B Q hB hQ=>?_
 have⟨hD,gA,gB,gC⟩:=bX
 repeat' (first
 |simp only[go_sem,hD,gA,gB,gC,tX]
 |(with_reducible refine CU (aml _ _) ?_)
 |(with_reducible refine CU (TG _ _) ?_)
 |(with_reducible refine CU (WM _ _ _ _) ?_)
 |(with_reducible refine aJ hQ ?_;simp only[bh,bk,bO,bP,go_sem,hD,gA,gB,gC];repeat' (first|exact Ok.out|with_reducible refine jo ?_ ?_|(simp;done))))
 repeat' (first|exact Ok.out|with_reducible refine Wk.agg ?_|with_reducible refine Wk.rows ?_|with_reducible refine Wk.slice ?_|with_reducible refine ik.cons ?_ ?_|with_reducible refine kv.cons ?_ ?_)
def Pg.aAR (p:Pg) (n:Int):aK:=match p.procs[(Ad n p.procs.length).toNat]? with|some f=>f.name|none=> []
theorem Ii {id:Int} : ∀ {l:List It},EU id l=none→∀ i∈l,i.s.id≠id
 | a::l,h,i,m=>by
  simp only[EU]at h
  split at h
  ·cases h
  ·rename_i c
   rcases List.mem_cons.1 m with rfl|m
   ·simpa using c
   ·exact Ii h i m
theorem Ij {id:Int} {i:It} : ∀ {l:List It},EU id l=some i→i∈l∧i.s.id=id
 | a::l,h=>by
  simp only[EU]at h
  split at h
  ·rename_i c
   cases h
   exact⟨List.mem_cons_self ..,eq_of_beq c⟩
  ·obtain⟨h1,h2⟩:=Ij h
   exact⟨List.mem_cons_of_mem _ h1,h2⟩
theorem Ik {id:Int} {r:It×aK} : ∀ {l:List Pc},B5 id l=some r→∃ f∈l,r.1∈f.flat∧r.1.s.id=id∧r.2=f.name
 | f::l,h=>by
  simp only[B5]at h
  split at h
  ·rename_i i e
   cases h
   obtain⟨h1,h2⟩:=Ij e
   exact⟨f,List.mem_cons_self ..,h1,h2,rfl⟩
  ·obtain⟨g,h1,h2⟩:=Ik h
   exact⟨g,List.mem_cons_of_mem _ h1,h2⟩
theorem Il {id:Int} : ∀ {l:List Pc},B5 id l=none→∀ f∈l,∀ i∈f.flat,i.s.id≠id
 | f::l,h,g,m,i,hi=>by
  simp only[B5]at h
  split at h
  ·cases h
  ·rename_i e
   rcases List.mem_cons.1 m with rfl|m
   ·exact Ii e i hi
   ·exact Il h g m i hi
theorem Z8 {p:Pg} (hb:p.may=true) {id:Int} (h : ∃ v∈p.pre,v.id=id):p.B6 id∈p.pre∧(p.B6 id).id=id:=by
 obtain⟨v,hv,Ia⟩:=h
 have gY:=(xR hb).1
 unfold Pg.B6
 cases e:B5 id p.procs with
 |some r=>
  obtain⟨f,h1,h2,h3,_⟩:=Ik e
  refine⟨?_,h3⟩
  simp only[Pg.pre,List.mem_flatten,List.mem_map]
  exact⟨_,⟨f,h1,rfl⟩,by rw[← gY f h1];exact List.mem_map_of_mem h2⟩
 |none=>
  simp only[Pg.pre,List.mem_flatten,List.mem_map]at hv
  obtain⟨l,⟨f,hf,rfl⟩,m⟩:=hv
  rw[← gY f hf,List.mem_map]at m
  obtain⟨i,hi,rfl⟩:=m
  exact absurd Ia (Il e f hf i hi)
theorem Gr {k:Int} {x:Int} : ∀ {l:List It},x∈ku k l↔∃ i∈l,(k==0 ||i.s.kind==k)=true∧i.s.id=x
 | []=>by simp[ku]
 | a::l=>by
  simp only[ku]
  split
  ·rename_i c
   simp only[List.mem_cons,Gr (l:=l),exists_eq_or_imp,c,true_and]
   exact or_congr_left ⟨Eq.symm,Eq.symm⟩
  ·rename_i c
   have c':(k==0 ||a.s.kind==k)=false:=by simpa using c
   simp only[List.mem_cons,Gr (l:=l),exists_eq_or_imp,c',Bool.false_eq_true,false_and,false_or]
theorem WN {l:List Int} {n:Int} (h:pO l n≠0):pO l n∈l:=by
 unfold pO at *
 split
 ·rename_i x e;exact List.mem_of_getElem? e
 ·rename_i e;rw[e]at h;exact absurd rfl h
theorem Z9 {p:Pg} (h:(p.arity.1==0)=true) (h2:(p.alias.1==0)=true) : ∀ v∈p.pre,(v.kind==4)=true→v.uU p=true:=by
 unfold Pg.alias at h2
 rw[if_pos h]at h2
 intro v hv hk
 have : ∀ l:List Sm,((rW 8 (Ic p l)).1==0)=true→∀ v∈l,(v.kind==4)=true→v.uU p=true:=by
  intro l
  induction l with
  |nil=>intro _ v m;cases m
  | cons a l ih=>
   intro h v m hk
   simp only[Ic]at h
   split at h
   ·cases h
   ·rename_i c
    rcases List.mem_cons.1 m with rfl|m
    ·simpa[hk]using c
    ·exact ih h v m hk
 exact this _ h2 v hv hk
theorem NV {p:Pg} : ∀ {l:List Sm},(∀ v∈l,(v.kind==4)=true→v.uU p=true)→Ic p l=none
 | [],_=>rfl
 |v::l,h=>by
  simp only[Ic]
  rw[if_neg,NV fun w m=>h w (List.mem_cons_of_mem _ m)]
  intro c
  simp only[Bool.and_eq_true,Bool.not_eq_true']at c
  rw[h v (List.mem_cons_self ..) c.1]at c
  exact absurd c.2 (by simp)
section
variable {a b:aK}
end
section
variable {a b:aK} (ha:isName a=true) (hb:isName b=true)
include ha hb
end
def Pg.check (p:Pg):Int×Int:=if p.scope.1==0 then(if p.arity.1==0 then(if p.jump.1==0 then p.alias else p.jump)else p.arity)else p.scope
end Go.Abs
namespace Go.Abs
mutual
def Sm.fV (g:Sm→Sm):Sm→Sm
 |⟨id,kind,labels,name,proc,x,has,args,aQ,aN⟩=> {g ⟨id,kind,labels,name,proc,x,has,args,aQ,aN⟩with aQ:=Sm.lO g aQ,aN:=Sm.lO g aN}
def Sm.lO (g:Sm→Sm):List Sm→List Sm
 | []=> []
 |s::l=>s.fV g::Sm.lO g l
end
def It.fV (g:Sm→Sm) (i:It):It:= {i with s:=i.s.fV g}
def Pc.fV (g:Sm→Sm) (f:Pc):Pc:= {f with body:=Sm.lO g f.body}
def Pg.fV (g:Sm→Sm) (p:Pg):Pg:= {p with procs:=p.procs.map (Pc.fV g)}
theorem aeG (g:Sm→Sm) (s:Sm):s.fV g = {g s with aQ:=Sm.lO g s.aQ,aN:=Sm.lO g s.aN}:=by cases s;rfl
def fC (t:Sm) (v:Sm):Sm:=if v.id==t.id then t else v
theorem NW {p:Pg} {f:Pc} {procs:List aK} : ∀ {l:List Sm},(∀ v∈l,v.known p f procs=true)→zZ p f procs l=none
 | [],_=>rfl
 |v::l,h=>by
  simp only[zZ,h v (List.mem_cons_self ..),if_true]
  exact NW fun w m=>h w (List.mem_cons_of_mem _ m)
theorem Io {p:Pg} {procs:List aK} : ∀ {l:List Pc},(∀ f∈l,fe (p.globals++f.own)=false∧∀ v∈Sm.bN f.body,v.known p f procs=true)→tP p procs l=(0,0)
 | [],_=>rfl
 |f::l,h=>by
  obtain⟨h1,h2⟩:=h f (List.mem_cons_self ..)
  simp only[tP,h1,Bool.false_eq_true,if_false,NW h2]
  exact Io fun w m=>h w (List.mem_cons_of_mem _ m)
theorem KQ {p:Pg} (hm:p.may=true) (h1:fe p.globals=false) (h2:fe p.pn=false) (h3:p.oW=false) (h4 : ∀ f∈p.procs,fe (p.globals++f.own)=false∧∀ v∈Sm.bN f.body,v.known p f p.pn=true):p.scope=(0,0):=by
 unfold Pg.scope
 rw[if_pos hm,h1,h2,h3]
 exact Io h4
theorem Qo {p:Pg} : ∀ {l:List Sm},(∀ v∈l,(v.kind==4)=true→v.pM p=true)→HY p l=none
 | [],_=>rfl
 |v::l,h=>by
  simp only[HY]
  rw[if_neg,Qo fun w m=>h w (List.mem_cons_of_mem _ m)]
  intro c
  simp only[Bool.and_eq_true,Bool.not_eq_true']at c
  rw[h v (List.mem_cons_self ..) c.1]at c
  exact absurd c.2 (by simp)
theorem WO {p:Pg} (hs:(p.scope.1==0)=true) (h : ∀ v∈p.pre,(v.kind==4)=true→v.pM p=true):p.arity=(0,0):=by
 unfold Pg.arity
 rw[if_pos hs,Qo h]
 rfl
theorem Ip {lj fin:List aK} : ∀ {l:List (Sm×Int)} {seen:List aK},vn lj fin seen l=none↔rU seen (dO (l.map Prod.fst)++fin)=false∧∀ q∈l,kj lj q.1 q.2=true
 | [],seen=>by
  simp only[vn,List.map_nil,dO,List.nil_append,List.not_mem_nil,false_imp_iff,implies_true,and_true]
  rw[Ed]
  cases rU seen fin<;>simp
 | (v,lp)::l,seen=>by
  simp only[vn,List.map_cons,dO,List.append_assoc]
  rw[Ed,Qh v.labels]
  cases h:rU seen v.labels
  ·simp only [Bool.false_eq_true,if_false,if_true,Bool.false_or]
   cases h2:kj lj v lp
   ·simp only [Bool.false_eq_true,if_false,reduceCtorEq,false_iff,not_and]
    intro _ h3
    have:=h3 (v,lp) (List.mem_cons_self ..)
    rw[h2]at this;cases this
   ·simp only [if_true,Ip (l:=l),List.mem_cons]
    constructor
    ·rintro⟨h3,h4⟩
     refine⟨h3,fun q hq=>?_⟩
     rcases hq with rfl|hq
     ·exact h2
     ·exact h4 q hq
    ·rintro⟨h3,h4⟩
     exact⟨h3,fun q hq=>h4 q (.inr hq)⟩
  ·simp
theorem B9 : ∀ {l:List Pc},vq l=none↔∀ f∈l,fe f.labels=false∧∀ q∈f.sh,kj f.labels q.1 q.2=true
 | []=>by simp[vq]
 | f::l=>by
  have e:vn f.labels f.fin [] f.sh=none↔fe f.labels=false∧∀ q∈f.sh,kj f.labels q.1 q.2=true:=by
   rw[Ip,aez];rfl
  simp only[vq,List.mem_cons]
  split
  ·rename_i id h
   simp only[reduceCtorEq,false_iff]
   intro h3
   rw[e.2 (h3 f (.inl rfl))]at h
   cases h
  ·rename_i h
   rw[B9 (l:=l)]
   constructor
   ·intro h3 g hg
    rcases hg with rfl|hg
    ·exact e.1 h
    ·exact h3 g hg
   ·exact fun h3 g hg=>h3 g (.inr hg)
structure Pg.Right (p:Pg):Prop where
 may:p.may=true
 tg:fe p.globals=false
 tp:fe p.pn=false
 main:p.oW=false
 own : ∀ f∈p.procs,fe (p.globals++f.own)=false
 known : ∀ f∈p.procs,∀ v∈Sm.bN f.body,v.known p f p.pn=true
 lj : ∀ f∈p.procs,fe f.labels=false
 leads : ∀ f∈p.procs,∀ q∈f.sh,kj f.labels q.1 q.2=true
 fits : ∀ v∈p.pre,(v.kind==4)=true→v.pM p=true
 single : ∀ v∈p.pre,(v.kind==4)=true→v.uU p=true
theorem Pg.Right.scope {p:Pg} (h:p.Right):p.scope=(0,0):=KQ h.may h.tg h.tp h.main fun f hf=>⟨h.own f hf,h.known f hf⟩
theorem Pg.Right.arity {p:Pg} (h:p.Right):p.arity=(0,0):=WO (by rw[h.scope];rfl) h.fits
theorem Pg.Right.jump {p:Pg} (h:p.Right):p.jump=(0,0):=by
 unfold Pg.jump
 rw[h.scope,B9.2 fun f hf=>⟨h.lj f hf,h.leads f hf⟩]
 rfl
theorem Pg.Right.alias {p:Pg} (h:p.Right):p.alias=(0,0):=by
 unfold Pg.alias
 rw[h.arity,NV h.single]
 rfl
theorem Pg.Right.check {p:Pg} (h:p.Right):p.check=(0,0):=by
 unfold Pg.check
 rw[h.scope,h.arity,h.jump,h.alias]
 rfl
theorem Gs {p:Pg} (h:(p.check.1==0)=true):p.Right:=by
 unfold Pg.check at h
 by_cases h1:(p.scope.1==0)=true
 ·rw [if_pos h1]at h
  by_cases h2:(p.arity.1==0)=true
  ·rw [if_pos h2]at h
   by_cases h3:(p.jump.1==0)=true
   ·rw [if_pos h3]at h
    obtain⟨k1,k2,k3,k4⟩:=Gk h1
    have hj:vq p.procs=none:=by
     unfold Pg.jump at h3
     rw[if_pos h1]at h3
     cases e:vq p.procs with
     |none=>rfl
     |some id=>rw[e]at h3;cases h3
    rw[B9]at hj
    exact⟨D2 h1,k1,k2,k3,fun f hf=>(k4 f hf).1,fun f hf=>(k4 f hf).2,fun f hf=>(hj f hf).1,fun f hf=>(hj f hf).2,(NR h2).2,Z9 h2 h⟩
   ·rw[if_neg h3]at h;exact absurd h h3
  ·rw[if_neg h2]at h;exact absurd h h2
 ·rw[if_neg h1]at h;exact absurd h h1
def AtR (R:Int→Prop) (a:Int):Prop:=a = -1∨R a
theorem EX {R:Int→Prop} {l:List Sm} {o:Int} (h : ∀ v∈Sm.bN l,R v.id) (ho:AtR R o):AtR R (dD l o):=by
 cases l with
 |nil=>exact ho
 |cons s l=>exact .inr (h s (by rw[Sm.bN,Sm.nU];exact List.mem_append_left _ (List.mem_cons_self ..)))
mutual
theorem aiv {R:Int→Prop} (proc up next loop:Int) : ∀ s:Sm,(∀ v∈s.pre,R v.id)→AtR R next→(loop=0∨R loop)→
 ∀ x∈s.tR proc up next loop,x.proc=proc∧AtR R x.next∧(x.loop=0∨R x.loop)∧AtR R (dD x.s.aQ (-1))∧AtR R (dD x.s.aN (-1))∧x.s∈s.pre
 | ⟨id,kind,labels,name,pc,x,has,args,aQ,aN⟩,h,hn,hl,y,m=>by
  have qY:=h _ (by rw[Sm.nU];exact List.mem_cons_self ..)
  have h1 : ∀ v∈Sm.bN aQ,R v.id:=fun v m=>h v (by rw[Sm.nU];exact List.mem_cons_of_mem _ (List.mem_append_left _ m))
  have h2 : ∀ v∈Sm.bN aN,R v.id:=fun v m=>h v (by rw[Sm.nU];exact List.mem_cons_of_mem _ (List.mem_append_right _ m))
  have rj:AtR R (if kind==6 then id else next):=by split;exact .inr qY;exact hn
  have mU:(if kind==6 then id else loop)=0∨R (if kind==6 then id else loop):=by split;exact .inr qY;exact hl
  rw[Sm.nU]
  simp only[Sm.tR,List.mem_cons,List.mem_append]at m
  rcases m with rfl|m|m
  ·exact⟨rfl,hn,hl,EX h1 (.inl rfl),EX h2 (.inl rfl),List.mem_cons_self ..⟩
  ·obtain⟨g1,g2,g3,g4,g5,g6⟩:=xc proc id _ _ aQ h1 rj mU y m
   exact⟨g1,g2,g3,g4,g5,List.mem_cons_of_mem _ (List.mem_append_left _ g6)⟩
  ·obtain⟨g1,g2,g3,g4,g5,g6⟩:=xc proc id _ _ aN h2 rj mU y m
   exact⟨g1,g2,g3,g4,g5,List.mem_cons_of_mem _ (List.mem_append_right _ g6)⟩
theorem xc {R:Int→Prop} (proc up next loop:Int) : ∀ l:List Sm,(∀ v∈Sm.bN l,R v.id)→AtR R next→(loop=0∨R loop)→
 ∀ x∈Sm.fJ proc up next loop l,x.proc=proc∧AtR R x.next∧(x.loop=0∨R x.loop)∧AtR R (dD x.s.aQ (-1))∧AtR R (dD x.s.aN (-1))∧x.s∈Sm.bN l
 | [],_,_,_,x,m=>by simp[Sm.fJ]at m
 | s::l,h,hn,hl,x,m=>by
  simp only[Sm.bN,List.mem_append]at h
  simp only[Sm.fJ,List.mem_append]at m
  simp only[Sm.bN,List.mem_append]
  rcases m with m|m
  ·obtain⟨g1,g2,g3,g4,g5,g6⟩:=aiv proc up _ loop s (fun v m=>h v (.inl m)) (EX (fun v m=>h v (.inr m)) hn) hl x m
   exact⟨g1,g2,g3,g4,g5, .inl g6⟩
  ·obtain⟨g1,g2,g3,g4,g5,g6⟩:=xc proc up next loop l (fun v m=>h v (.inr m)) hn hl x m
   exact⟨g1,g2,g3,g4,g5, .inr g6⟩
end
theorem Gt {x:Im} : ∀ (l:List Pc) (k:Nat),x∈rI k l→∃ i f,l[i]? = some f∧x∈Sm.fJ ((k+i:Nat):Int) 0 (-1) 0 f.body
 | [],_,h=>by simp[rI]at h
 | f::l,k,h=>by
  simp only[rI,List.mem_append]at h
  rcases h with h|h
  ·exact⟨0,f,rfl,h⟩
  ·obtain⟨i,g,h1,h2⟩:=Gt l (k+1) h
   exact⟨i+1,g,by simpa using h1,by rw[show k+(i+1)=k+1+i by omega];exact h2⟩
theorem Gu {x:Im} : ∀ (l:List Pc) (k:Nat) {i:Nat} {f:Pc},l[i]? = some f→x∈Sm.fJ ((k+i:Nat):Int) 0 (-1) 0 f.body→x∈rI k l
 |f::l,k,0,g,h,m=>by simp at h;subst h;exact List.mem_append_left _ m
 |f::l,k,i+1,g,h,m=>List.mem_append_right _ (Gu l (k+1) (i:=i) (by simpa using h) (by rw[show k+1+i=k+(i+1) by omega];exact m))
theorem WQ : ∀ (l:List Pc) (k:Nat),(rI k l).map Im.s=(l.map fun f=>Sm.bN f.body).flatten
 | [],_=>rfl
 |f::l,k=>by simp only[rI,List.map_append,tT,WQ l,List.map_cons,List.flatten_cons]
theorem Qp {R:Int→Prop} {fin:List aK} {lG:aK} : ∀ {l:List Sm},(∀ v∈l,R v.id)→(gQ fin lG l).2=true→AtR R (gQ fin lG l).1
 | [],_,h=>by
  simp only[gQ]at h ⊢
  split at h
  ·rename_i c;rw[if_pos c];exact .inl rfl
  ·cases h
 | v::l,hv,h=>by
  simp only[gQ]at h ⊢
  split
  ·exact .inr (hv v (List.mem_cons_self ..))
  ·rename_i c
   rw[if_neg c]at h
   exact Qp (fun w m=>hv w (List.mem_cons_of_mem _ m)) h
def Hm (L:List Im) (k:Int) (a:Int):Prop:=1≤a∧a≤(L.length:Int)∧(dY L a).proc=k
structure Ca (p:Pg) (L:List Im) (x:Im) (f:Pc):Prop where
 self:dY L x.s.id=x∧1≤x.s.id∧x.s.id≤(L.length:Int)
 proc:p.procs[x.proc.toNat]? = some f∧0≤x.proc
 mem:x.s∈Sm.bN f.body
 next:AtR (Hm L x.proc) x.next
 loop:x.s.kind=7∨x.s.kind=8→Hm L x.proc x.loop
 aQ:AtR (Hm L x.proc) (dD x.s.aQ (-1))
 aN:AtR (Hm L x.proc) (dD x.s.aN (-1))
 uT:x.s.kind=10→AtR (Hm L x.proc) (gQ f.fin x.s.name (Sm.bN f.body)).1
structure WR (p:Pg) (L:List Im):Prop where
 im : ∀ x∈L,∃ f,Ca p L x f
 head : ∀ (i:Nat) (f:Pc),p.procs[i]? = some f→AtR (Hm L i) (dD f.body (-1))
theorem pA {p:Pg} (h:p.Right):WR p p.a7.L:=by
 have hL:=Ec h.may
 have hs:p.a7.L.map Im.s=p.pre:=by rw[hL,WQ];rfl
 have hlen:p.a7.L.length=p.pre.length:=by rw[← hs,List.length_map]
 have self : ∀ x∈p.a7.L,dY p.a7.L x.s.id=x∧1≤x.s.id∧x.s.id≤(p.a7.L.length:Int):=fun x m=>by
  obtain⟨i,hi⟩:=List.getElem?_of_mem m
  have h1:=rV h.may (i:=i) (v:=x.s) (by rw[← hs,List.getElem?_map,hi];rfl)
  have h2:=(List.getElem?_eq_some_iff.1 hi).1
  refine⟨?_,by omega,by omega⟩
  unfold dY
  rw[h1,show(((i+1:Nat):Int) - 1).toNat=i by omega,List.getD_eq_getElem?_getD,hi];rfl
 have there : ∀ (i:Nat) (f:Pc),p.procs[i]? = some f→∀ v∈Sm.bN f.body,Hm p.a7.L i v.id:=fun i f hf v m=>by
  rw[← tT (i:Int) 0 (-1) 0 f.body]at m
  obtain⟨x,hx,rfl⟩:=List.mem_map.1 m
  have hxL:x∈p.a7.L:=by rw[hL];exact Gu p.procs 0 hf (by simpa using hx)
  obtain⟨g1,g2,g3⟩:=self x hxL
  exact⟨g2,g3,by rw[g1];exact(xc (R:=fun _=>True) _ 0 (-1) 0 f.body (fun _ _=>trivial) (.inl rfl) (.inl rfl) x hx).1⟩
 refine⟨fun x m=>?_,fun i f hf=>EX (there i f hf) (.inl rfl)⟩
 have m':=m
 rw[hL]at m'
 obtain⟨i,f,h1,h2⟩:=Gt p.procs 0 m'
 have hf:=List.mem_of_getElem? h1
 rw[Nat.zero_add]at h2
 obtain⟨g1,g2,g3,g4,g5,g6⟩:=xc (R:=Hm p.a7.L i) _ 0 (-1) 0 f.body (there i f h1) (.inl rfl) (.inl rfl) x h2
 have hl:=h.leads f hf (x.s,x.loop) (by rw[← Gn (i:Int) f];exact List.mem_map.2 ⟨x,h2,rfl⟩)
 refine⟨f,self x m,⟨by rw[g1];simpa using h1,by rw[g1];exact Int.natCast_nonneg _⟩,g6,by rw[g1];exact g2,fun hk=>?_,by rw[g1];exact g4,by rw[g1];exact g5,fun hk=>?_⟩
 ·rw [g1]
  refine g3.resolve_left fun e=>?_
  unfold kj at hl
  rw[if_pos (by rcases hk with hk|hk<;>simp[hk]),e]at hl
  cases hl
 ·rw [g1]
  refine Qp (there i f h1) ?_
  unfold kj at hl
  rw[if_neg (by simp[hk]),if_pos (by simp[hk])]at hl
  rw[zh];exact hl
theorem Hm.at {L:List Im} {k a:Int} (h:AtR (Hm L k) a):pN L a:=h.imp_right fun h=>⟨h.1,h.2.1⟩
theorem WR.lok {p:Pg} {L:List Im} (h:WR p L):CS p L:=by
 refine⟨fun x m=>?_,fun x m=>?_,fun x m hk=>?_,fun x m hk=>?_,fun x m=>?_,fun x m=>?_,fun f hf=>?_⟩
 ·obtain⟨f,o⟩:=h.im x m;exact o.self.2
 ·obtain⟨f,o⟩:=h.im x m;exact Hm.at o.next
 ·obtain⟨f,o⟩:=h.im x m;exact⟨(o.loop hk).1,(o.loop hk).2.1⟩
 ·obtain⟨f,o⟩:=h.im x m;exact⟨f,o.proc.1,Hm.at (o.uT hk)⟩
 ·obtain⟨f,o⟩:=h.im x m;exact Hm.at o.aQ
 ·obtain⟨f,o⟩:=h.im x m;exact Hm.at o.aN
 ·obtain⟨i,hi⟩:=List.getElem?_of_mem hf
  exact Hm.at (h.head i f hi)
theorem WS {p:Pg} (h:p.Right):CS p p.a7.L:=(pA h).lok
theorem NZ {vars globals:List aK} {n:aK} : ∀ {l:List Pm},yY vars globals n l≠0→n∈l.map (·.name)∨n∈vars∨n∈globals
 | [],h=>by
  simp only[yY]at h
  split at h
  ·rename_i e;exact .inr (.inl ((fx _ _).1 e))
  ·split at h
   ·rename_i e;exact .inr (.inr ((fx _ _).1 e))
   ·exact absurd rfl h
 | a::l,h=>by
  simp only[yY]at h
  split at h
  ·rename_i e;exact .inl (by simp only[List.map_cons,List.mem_cons];exact .inl (by simpa using Eq.symm (by simpa using e)))
  ·rcases NZ h with h | h
   ·exact .inl (List.mem_cons_of_mem _ h)
   ·exact .inr h
theorem aac {p:Pg} {f:Pc} {v:Sm} (h:v.known p f p.pn=true) {n:aK} (m:n∈v.said):n∈p.globals++f.own:=by
 simp only[Sm.known,Bool.and_eq_true,Bool.not_eq_true']at h
 have h1:f.j9 p n≠0:=fun e=>by
  have:v.said.any (fun n=>f.j9 p n==0)=true:=List.any_eq_true.2 ⟨n,m,by simp[e]⟩
  rw[h.1]at this;cases this
 simp only[List.mem_append,Pc.own,Pc.tO]
 rcases NZ h1 with h2|h2|h2
 ·exact .inr (.inl h2)
 ·exact .inr (.inr h2)
 ·exact .inl h2
theorem w9 {n:aK} : ∀ {l:List Ar} {out:List aK},n∈out∨(∃ a∈l,a.ref=true∧a.name=n)→n∈Ar.said out l
 | [],out,h=>by rcases h with h|⟨a,m,_⟩;exact h;cases m
 | b::l,out,h=>by
  simp only[Ar.said]
  refine w9 ?_
  rcases h with h|⟨a,m,h1,h2⟩
  ·left;split<;>simp[h]
  ·rcases List.mem_cons.1 m with rfl | m
   ·left;rw[if_pos h1];simp[h2]
   ·exact .inr ⟨a,m,h1,h2⟩
theorem N0 {x:aK} : ∀ {l:List aK} {k:Nat},x∈l→∃ j:Nat,j7 x (k:Int) l=((k+j:Nat):Int)∧j<l.length
 | s::l,k,m=>by
  by_cases e:x=s
  ·subst e;exact⟨0,by simp[j7],by simp⟩
  ·have e':(x==s)=false:=by simp [e]
   obtain⟨j,h1,h2⟩:=N0 (l:=l) (k:=k+1) ((List.mem_cons.1 m).resolve_left e)
   refine⟨j+1, ?_,by simp;omega⟩
   simp only[j7,e',Bool.false_eq_true,if_false]
   rw[show(k:Int)+1=((k+1:Nat):Int) by omega,h1];congr 1;omega
theorem EY {name:aK} {f:Pc} : ∀ {l:List Pc} {k:Nat},iF name l=some f→∃ j:Nat,mr (fun f:Pc=>f.name==name) (k:Int) l=((k+j:Nat):Int)∧l[j]? = some f
 | g::l,k,h=>by
  simp only[iF]at h
  by_cases e:(g.name==name)=true
  ·rw [if_pos e]at h;cases h
   exact⟨0,by simp only[mr,e,if_true,Nat.add_zero],rfl⟩
  ·have e':(g.name==name)=false:=by simpa using e
   rw[if_neg e]at h
   obtain⟨j,h1,h2⟩:=EY (l:=l) (k:=k+1) h
   refine⟨j+1, ?_,by simpa using h2⟩
   simp only[mr,e',Bool.false_eq_true,if_false]
   rw[show(k:Int)+1=((k+1:Nat):Int) by omega,h1];congr 1;omega
def Gv (p:Pg) (n:Nat) (fr:Fr):Prop:=∃ f,p.procs[fr.proc.toNat]? = some f∧0≤fr.proc∧fr.names=p.globals++f.own∧fr.vars.length=fr.names.length∧∀ c∈fr.vars,c<n
def EZ (L:List Im):List Fr→Prop
 | []=>False
 | [fr]=>fr.call=0
 |fr::wN::l=>(Hm L wN.proc fr.call∧(dY L fr.call).s.kind=4)∧EZ L (wN::l)
structure qS (p:Pg) (L:List Im) (a:Int) (m:Mc):Prop where
 st:EZ L m.st
 fr : ∀ fr∈m.st,Gv p m.mem.length fr
 at_:AtR (Hm L m.top.proc) a
 sA:p.globals.length≤m.mem.length
theorem Gv.mono {p:Pg} {n n':Nat} {fr:Fr} (h:Gv p n fr) (hn:n≤n'):Gv p n' fr:=by
 obtain⟨f,h1,h2,h3,h4,h5⟩:=h
 exact⟨f,h1,h2,h3,h4,fun c m=>Nat.lt_of_lt_of_le (h5 c m) hn⟩
theorem EZ.ne {L:List Im} {l:List Fr} (h:EZ L l) : ∃ fr r,l=fr::r:=by
 cases l with
 |nil=>exact h.elim
 |cons fr r=>exact⟨fr,r,rfl⟩
theorem Mc.aeH {L:List Im} {m:Mc} (h:EZ L m.st):m.top∈m.st:=by
 obtain⟨fr,r,e⟩:=h.ne
 simp[Mc.top,e]
theorem qS.of {p:Pg} {L:List Im} {a a':Int} {m m':Mc} (h:qS p L a m) (h1:m'.st=m.st) (h2:m.mem.length≤m'.mem.length) (h3:AtR (Hm L m.top.proc) a'):qS p L a' m':=by
 have ht:m'.top=m.top:=by unfold Mc.top;rw[h1]
 exact⟨by rw[h1];exact h.st,fun fr hf=>(h.fr fr (by rw[← h1];exact hf)).mono h2,by rw[ht];exact h3,Nat.le_trans h.sA h2⟩
section
variable {p:Pg} {L:List Im} {m:Mc}
theorem aeI {n:aK} {k:Nat} (h:Gv p k m.top) (hn:n∈m.top.names):m.cell n<k∧∃ j:Nat,j7 n 0 m.top.names=(j:Int)∧m.top.vars[j]? = some (m.cell n):=by
 obtain⟨f,h1,h2,h3,h4,h5⟩:=h
 obtain⟨j,e1,e2⟩:=N0 (k:=0) hn
 have e3:j7 n 0 m.top.names=(j:Int):=by simpa using e1
 have e4:m.top.vars[j]? = some (m.cell n):=by
  unfold Mc.cell
  rw[e3,Int.toNat_natCast,List.getD_eq_getElem?_getD,List.getElem?_eq_getElem (by omega)];rfl
 exact⟨h5 _ (List.mem_of_getElem? e4),j,e3,e4⟩
theorem Jz {k:Nat} (hk:p.globals.length≤k) : ∀ (l:List Ar) (m:Mc) (out:List Nat),Gv p m.mem.length m.top→(∀ a∈l,a.ref=true→a.name∈m.top.names)→(∀ c∈out,c<m.mem.length)→
 m.mem.length≤(Mc.args l m out).2.mem.length∧∀ o,(Mc.args l m out).1=some o→o.length=out.length+l.length∧∀ c∈o,c<(Mc.args l m out).2.mem.length
 | [],m,out,h,_,ho=>⟨Nat.le_refl _,fun o e=>by cases e;exact⟨rfl,ho⟩⟩
 | a::l,m,out,h,hn,ho=>by
  simp only[Mc.args]
  by_cases c:a.ref=true
  ·rw [if_pos c]
   obtain⟨g1,g2⟩:=Jz hk l m (out++ [m.cell a.name]) h (fun b mb=>hn b (List.mem_cons_of_mem _ mb)) fun x mx=>by
    rcases List.mem_append.1 mx with mx|mx
    ·exact ho x mx
    ·rw[List.mem_singleton.1 mx];exact(aeI h (hn a (List.mem_cons_self ..) c)).1
   exact⟨g1,fun o e=>⟨by rw[(g2 o e).1];simp;omega,(g2 o e).2⟩⟩
  ·rw [if_neg c]
   have he:=iR m a.x
   by_cases c2:(m.bj a.x).1.2=true
   ·rw [if_pos c2]
    have ht:({(m.bj a.x).2 with mem:=(m.bj a.x).2.mem++ [(m.bj a.x).1.1]} : Mc).top=m.top:=by unfold Mc.top;rw[he.1]
    have hl:(m.bj a.x).2.mem.length=m.mem.length:=by rw[he.2.1]
    obtain⟨g1,g2⟩:=Jz hk l {(m.bj a.x).2 with mem:=(m.bj a.x).2.mem++ [(m.bj a.x).1.1]} (out++ [(m.bj a.x).2.mem.length]) (by rw[ht];exact h.mono (by simp[hl])) (by rw[ht];exact fun b mb=>hn b (List.mem_cons_of_mem _ mb)) fun x mx=>by
     rcases List.mem_append.1 mx with mx|mx
     ·have:=ho x mx;simp[hl];omega
     ·rw[List.mem_singleton.1 mx];simp
    exact⟨Nat.le_trans (by simp[hl]) g1,fun o e=>⟨by rw[(g2 o e).1];simp;omega,(g2 o e).2⟩⟩
   ·rw [if_neg c2]
    exact⟨by rw[he.2.1];exact Nat.le_refl _,fun o e=>by cases e⟩
theorem Qq (hP:WR p L) {i:Nat} {f:Pc} (hf:p.procs[i]? = some f) {l:List Nat} {call:Int} (hl:l.length=f.params.length) (hc : ∀ c∈l,c<m.mem.length) (hg:p.globals.length≤m.mem.length)
 (uv : ∀ fr∈m.st,Gv p m.mem.length fr) (jr:(m.st = []∧call=0)∨(EZ L m.st∧Hm L m.top.proc call∧(dY L call).s.kind=4)):qS p L (m.open p (i:Int) l call).1 (m.open p (i:Int) l call).2:=by
 unfold Mc.open
 rw[Int.toNat_natCast,hf]
 dsimp only
 refine⟨?_,fun fr h=>?_,by exact hP.head i f hf,by simp;omega⟩
 ·rcases jr with ⟨h1,h2⟩ | ⟨h1,h2⟩
  ·rw[h1];exact h2
  ·obtain⟨fr,r,e⟩:=h1.ne
   dsimp only
   rw[e]at h1 ⊢
   have:m.top=fr:=by simp[Mc.top,e]
   rw[this]at h2
   exact⟨h2,h1⟩
 ·rcases List.mem_cons.1 h with rfl | h
  ·refine⟨f,by rw [Int.toNat_natCast];exact hf,Int.natCast_nonneg _,rfl,by simp [Pc.own,Pc.tO,hl],fun c m=> ?_⟩
   simp only[List.mem_append,List.mem_range,List.mem_map]at m
   simp only[List.length_append,List.length_replicate]
   rcases m with (m|m)|⟨x,m,rfl⟩
   ·omega
   ·have:=hc c m;omega
   ·omega
  ·exact(uv fr h).mono (by simp)
theorem aeJ (hP:WR p L) {a:Int} (h:qS p L a m) {g:Int} {a':Int} {m':Mc} (e:m.back L g=(some a',m')):qS p L a' m':=by
 have hs:=h.st
 unfold Mc.back Mc.close at e
 dsimp only at e
 obtain⟨fr,r,es⟩:=hs.ne
 have ht:m.top=fr:=by simp[Mc.top,es]
 by_cases c:(m.top.call==0)=true
 ·rw[if_pos c]at e;cases e
 ·rw [if_neg c]at e
  rw[es]at hs
  cases r with
  |nil=>rw[ht]at c;exact absurd (beq_iff_eq.2 (show fr.call=0 from hs)) c
  | cons wN r=>
   obtain⟨⟨h1,_⟩,h2⟩:=hs
   have iO:dY L m.top.call∈L:=qR (.inr (by rw[ht];exact⟨h1.1,h1.2.1⟩)) (by have:=h1.1;rw[ht];omega)
   obtain⟨f,o⟩:=hP.im _ iO
   have ho:=o.next
   rw[show(dY L m.top.call).proc=wN.proc by rw[ht];exact h1.2.2]at ho
   rw[ht]at ho
   split at e<;>(dsimp only at e;split at e)<;>first|(cases e;done)|skip
   all_goals
    cases e
    refine⟨by simp only[Mc.set,es,List.tail_cons];exact h2,fun q hq=>?_,by simp only[Mc.set,Mc.top,es,List.tail_cons,List.headD_cons];exact ho,by simp only[Mc.set,List.length_set];exact h.sA⟩
    simp only[Mc.set,List.length_set]at hq ⊢
    exact h.fr q (by rw[es]at hq ⊢;exact List.mem_cons_of_mem _ hq)
end
theorem Cb {p:Pg} (hR:p.Right) {x:Im} {f:Pc} (h:Ca p p.a7.L x f) {n:aK} (m:n∈x.s.said):n∈p.globals++f.own:=
 aac (hR.known f (List.mem_of_getElem? h.proc.1) x.s h.mem) m
theorem aeK {p:Pg} (hR:p.Right) {x:Im} {f:Pc} (h:Ca p p.a7.L x f) (hk:x.s.kind=4) : ∃ (j:Nat) (q:Pc),p.at x.s.proc=(j:Int)∧p.procs[j]? = some q∧x.s.args.length=q.params.length:=by
 have rH:x.s∈p.pre:=by
  simp only[Pg.pre,List.mem_flatten,List.mem_map];exact⟨_,⟨f,List.mem_of_getElem? h.proc.1,rfl⟩,h.mem⟩
 have hf:=hR.fits x.s rH (by simp[hk])
 unfold Sm.pM at hf
 simp only[Bool.and_eq_true]at hf
 cases e:p.find x.s.proc with
 |none=>rw[e]at hf;cases hf.2
 |some q=>
  rw[e]at hf
  obtain⟨j,h1,h2⟩:=EY (k:=0) e
  refine⟨j,q,by simpa[Pg.at]using h1,h2, ?_⟩
  have:=hf.2
  simp only[ES]at this
  split at this
  ·rename_i h3;have:=(beq_iff_eq.1 h3);omega
  ·cases this
theorem aeL {p:Pg} (hR:p.Right) {m:Mc} {W:List Int} {x:Im} {f:Pc} {a a':Int} {m':Mc} (h:qS p p.a7.L a m) (hx:Ca p p.a7.L x f) (hk:x.s.kind=4) (hp:x.proc=m.top.proc) (N1:(m.call p W x.s).2.fin=0)
 (e:m.call p W x.s=(a',m')) (h0:m.fin=0):qS p p.a7.L a' m':=by
 have hP:=pA hR
 have Cc:=h.fr _ (Mc.aeH h.st)
 obtain⟨f',t1,t2,t3,t4,t5⟩:=Cc
 have ef:f'=f:=by have:=hx.proc.1;rw[hp,t1]at this;exact Option.some.inj this
 subst ef
 have aiy : ∀ b∈x.s.args,b.ref=true→b.name∈m.top.names:=fun b mb hb=>by
  rw[t3];exact Cb hR hx (w9 (.inr ⟨b,mb,hb,rfl⟩))
 obtain⟨j,q,c1,c2,c3⟩:=aeK hR hx hk
 have g1:=Jz h.sA x.s.args m [] ⟨f',t1,t2,t3,t4,t5⟩ aiy (by simp)
 have g2:=xb x.s.args m []
 have g3:=B1 x.s.args m [] h0
 unfold Mc.call at e N1
 generalize Mc.args x.s.args m [] = r at *
 obtain⟨o,m1⟩:=r
 cases o with
 |none=>
  dsimp only at N1 g3
  rw[g3.2]at N1;cases N1
 | some l=>
  dsimp only at e N1 g1 g2 g3
  by_cases c:m1.st.length > 100
  ·rw[if_pos c]at N1;cases N1
  ·rw [if_neg c]at e
   have he:=fF W m1 x.s.id []
   have ht:(m1.event W x.s.id []).top=m.top:=by unfold Mc.top;rw[he.1,g2.1]
   have:=Qq (m:=m1.event W x.s.id []) hP c2 (l:=l) (call:=x.s.id) (by rw[(g1.2 l rfl).1,c3];simp) (by rw[he.2.1];exact(g1.2 l rfl).2) (by rw[he.2.1];exact Nat.le_trans h.sA g1.1)
    (by rw[he.1,he.2.1,g2.1];exact fun fr uv=>(h.fr fr uv).mono g1.1) (.inr ⟨by rw[he.1,g2.1];exact h.st,by rw[ht];exact⟨hx.self.2.1,hx.self.2.2,by rw[hx.self.1];exact hp⟩,by rw[hx.self.1];exact hk⟩)
   rw[← c1,e]at this
   exact this
theorem amm {p:Pg} (hR:p.Right) {m:Mc} {T W:List Int} {x:Im} {f:Pc} {a:Int} (h:qS p p.a7.L a m) (hx:Ca p p.a7.L x f) (hp:x.proc=m.top.proc) :
 ((m.do p p.a7.L T W x).2.fin=0→qS p p.a7.L (m.do p p.a7.L T W x).1 (m.do p p.a7.L T W x).2):=by
 intro h0
 have ev : ∀ (m1:Mc) (id:Int) (bJ:List Int),(m1.event W id bJ).st=m1.st∧(m1.event W id bJ).mem=m1.mem:=fun m1 id bJ=>⟨(fF W m1 id bJ).1,(fF W m1 id bJ).2.1⟩
 have key : ∀ (m1:Mc) (b:Int),m1.st=m.st→m1.mem.length=m.mem.length→AtR (Hm p.a7.L x.proc) b→qS p p.a7.L b m1:=fun m1 b h1 h2 h3=>h.of h1 (Nat.le_of_eq h2.symm) (by rw[← hp];exact h3)
 have hw:=iR m x.s.x
 unfold Mc.do at h0 ⊢
 dsimp only at h0 ⊢
 by_cases c7:(x.s.kind==7)=true
 ·rw [if_pos c7]
  have hk:x.s.kind=7:=by simpa using c7
  have hl:=hx.loop (.inl hk)
  have iO:=qR (L:=p.a7.L) (a:=x.loop) (.inr ⟨hl.1,hl.2.1⟩) (by have:=hl.1;omega)
  obtain⟨g,o⟩:=(pA hR).im _ iO
  refine key _ _ (ev _ _ _).1 (by rw[(ev _ _ _).2]) ?_
  have:=o.next
  rw[hl.2.2]at this;exact this
 rw[if_neg c7]at h0 ⊢
 by_cases c8:(x.s.kind==8)=true
 ·rw [if_pos c8]
  exact key _ _ (ev _ _ _).1 (by rw[(ev _ _ _).2]) (.inr (hx.loop (.inr (by simpa using c8))))
 rw[if_neg c8]at h0 ⊢
 by_cases KR:(x.s.kind==10)=true
 ·rw [if_pos KR]
  refine key _ _ (ev _ _ _).1 (by rw[(ev _ _ _).2]) ?_
  have:=hx.uT (by simpa using KR)
  rw[hx.proc.1];exact this
 rw[if_neg KR]at h0 ⊢
 by_cases c2:(x.s.kind==2)=true
 ·rw [if_pos c2]at h0 ⊢
  split at h0
  ·cases h0
  ·rename_i n e
   exact key _ _ (ev _ _ _).1 (by rw[(ev _ _ _).2];simp[Mc.set]) hx.next
 rw[if_neg c2]at h0 ⊢
 by_cases cw:(m.bj x.s.x).1.2=true
 ·rw [if_pos cw]at h0 ⊢
  have e1:((m.bj x.s.x).2.event W x.s.id [(m.bj x.s.x).1.1]).st=m.st:=(ev _ _ _).1.trans hw.1
  have e2:((m.bj x.s.x).2.event W x.s.id [(m.bj x.s.x).1.1]).mem.length=m.mem.length:=by rw[(ev _ _ _).2,hw.2.1]
  have fo : ∀ (l:List Sm) (b:Int),AtR (Hm p.a7.L x.proc) (dD l (-1))→AtR (Hm p.a7.L x.proc) b→AtR (Hm p.a7.L x.proc) (firstM l b):=fun l b h1 h2=>by
   cases l with
   |nil=>exact h2
   |cons s l=>exact h1
  split
  ·exact key _ _ e1 (by simp only[Mc.set,List.length_set];exact e2) hx.next
  split
  ·exact key _ _ e1 e2 hx.next
  split
  ·refine key _ _ e1 e2 ?_
   split
   ·exact fo _ _ hx.aN hx.next
   ·exact fo _ _ hx.aQ hx.next
  split
  ·refine key _ _ e1 e2 ?_
   split
   ·exact hx.next
   ·exact fo _ _ hx.aQ (.inr ⟨hx.self.2.1,hx.self.2.2,by rw[hx.self.1]⟩)
  ·exact key _ _ e1 e2 hx.next
 ·rw [if_neg cw]at h0
  have:(m.bj x.s.x).2.fin=4:=by unfold Mc.bj;dsimp only;rw[if_neg (show ¬ (x.s.x.bj m.top.names m.bJ).2=true from cw)]
  rw[this]at h0;cases h0
end Go.Abs
