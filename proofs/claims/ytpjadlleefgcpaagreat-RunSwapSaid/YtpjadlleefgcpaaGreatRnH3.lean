/-
  What is proved here: part 3 of the road to the claim (MayEq2, Sc1, Sc2, Sc3, ScP, Sc4, Rng, FineM, Sc5, Ar1, Ar2, Ar3, Srt1, Shelf, SortR, SrtP, Tc1, Tc2, Tc3, Bsl, Tc4, Tc5, Tc6, FlP, JmpP, Jm1, Jm2, MirRun, RunTot, RunFu, RunOk, Swap0, Swap2p, ToP, Al1, Al2, Al3, MirParse, Room1, Al4, Full1, Fits1, Fits2, MirEq, RefEq2, LawTo1, AlP, LawAl2, SwP, MirMapS, RightP, RunLo, RunNm).
  No conditions.
-/
import Derived.Test.YtpjadlleefgcpaaGreatRnH2
import Derived.Shelf.Small.Bits
import Derived.Shelf.Strconv.Itoa0
import Derived.Shelf.Sort.Plain
import Derived.Shelf.Slices.Turned
import Derived.Ground.Names2Prog
import Derived.Shelf.Slices.Clone
import Derived.Shelf.Slices.CompactS
import Derived.Shelf.Slices.Cells
import Derived.Shelf.Slices.In.SortNone
import Derived.Ground.SlgnProg
import Derived.Shelf.SlicesE.Clone
import Derived.Test.YtpjadlleefgcpaaGreatProg
import Derived.Sort.Walk0

set_option linter.unusedSimpArgs false
set_option linter.unusedVariables false
namespace Go.Abs
theorem lL : ∀ (a b:List It) (n:Nat),It.fx n (a++b)=(It.fx n a && It.fx (n+a.length) b)
 | [],b,n=>by simp[It.fx]
 |i::a,b,n=>by
  simp only[List.cons_append,It.fx,lL a b (n+1),List.length_cons]
  have:n+1+a.length=n+(a.length+1):=by omega
  rw[this]
  split<;>simp
theorem F4 (n:Nat) (i:It):It.fx n [i] = true↔i.s.id=((n+1:Nat):Int)∧i.deep≤12∧i.s.one=true:=by
 simp only[It.fx]
 split
 ·rename_i h
  simp only[Bool.or_eq_true,bne_iff_ne,ne_eq,decide_eq_true_eq,Bool.not_eq_true']at h
  refine⟨fun h=>(Bool.false_ne_true h).elim,fun⟨h1,h2,h3⟩=>?_⟩
  rcases h with (h|h)|h
  ·exact(h h1).elim
  ·omega
  ·rw[h]at h3;cases h3
 ·rename_i h
  simp only[Bool.or_eq_true,bne_iff_ne,ne_eq,decide_eq_true_eq,Bool.not_eq_true',not_or,Decidable.not_not,Bool.not_eq_false]at h
  exact⟨fun _=>⟨h.1.1,by omega,h.2⟩,fun _=>rfl⟩
mutual
theorem Cx (deep cu:Int) (aP:Bool) : ∀ (s:Sm) (out:List It),∃ new,iu deep cu aP out s=out++(⟨s,deep,cu,aP⟩::new)
 | ⟨id,kind,labels,name,proc,x,has,args,bb,e⟩,out=>by
  simp only[iu]
  split
  ·obtain⟨n1,h1⟩:=rJ (deep+1) id false bb (out++ [⟨⟨id,kind,labels,name,proc,x,has,args,bb,e⟩,deep,cu,aP⟩])
   obtain⟨n2,h2⟩:=rJ (deep+1) id true e (dN (deep+1) id false (out++ [⟨⟨id,kind,labels,name,proc,x,has,args,bb,e⟩,deep,cu,aP⟩]) bb)
   rw[h2,h1]
   exact⟨n1++n2,by simp⟩
  ·exact⟨[],rfl⟩
theorem rJ (deep cu:Int) (aP:Bool) : ∀ (l:List Sm) (out:List It),∃ new,dN deep cu aP out l=out++new
 | [],out=>⟨[],by simp[dN]⟩
 | s::l,out=>by
  simp only[dN]
  split
  ·obtain⟨n1,h1⟩:=Cx deep cu aP s out
   obtain⟨n2,h2⟩:=rJ deep cu aP l (iu deep cu aP out s)
   rw[h2,h1]
   exact⟨⟨s,deep,cu,aP⟩::n1++n2,by simp⟩
  ·exact⟨[],by simp⟩
end
theorem Ir {nest:Int} {n:Nat} {s:Sm} (h:(Sm.qJ nest n s).1=true) :
 n+1≤200∧s.id=((n+1:Nat):Int)∧s.one=true∧(Sm.gI (nest+1) (n+1) s.bb).1=true∧(Sm.gI (nest+1) (Sm.gI (nest+1) (n+1) s.bb).2 s.aP).1=true∧
 (Sm.qJ nest n s).2=(Sm.gI (nest+1) (Sm.gI (nest+1) (n+1) s.bb).2 s.aP).2:=by
 rw[Hr]at h ⊢
 split at h
 ·cases h
 rename_i h1
 simp only[Bool.or_eq_true,bne_iff_ne,ne_eq,decide_eq_true_eq,Bool.not_eq_true',not_or,Decidable.not_not,Bool.not_eq_false]at h1
 split at h
 ·cases h
 rename_i h2
 have vt:(Sm.gI (nest+1) (n+1) s.bb).1=true:=by simpa using h2
 refine⟨by omega,h1.1.1.2, ?_,vt,h, ?_⟩
 ·rw[F3,h1.1.2,h1.2];rfl
 ·rw[if_neg (by simp only[Bool.or_eq_true,bne_iff_ne,ne_eq,decide_eq_true_eq,Bool.not_eq_true',not_or,Decidable.not_not,Bool.not_eq_false];exact h1),if_neg h2]
theorem uy {nest:Int} {n:Nat} {l:List Sm} (h:(Sm.gI nest n l).1=true):(l = []∨nest≤12)∧Sm.gI nest n l=Sm.fz nest n l:=by
 unfold Sm.gI gate at *
 split at h
 ·cases h
 ·rename_i hc
  rw[if_neg hc]
  refine⟨?_,rfl⟩
  simp only[Bool.and_eq_true,decide_eq_true_eq,not_and]at hc
  cases l with
  |nil=>exact .inl rfl
  |cons s l=>right;simp only[List.length_cons]at hc;omega
mutual
theorem T5 : ∀ (s:Sm) (nest cu:Int) (aP:Bool) (n:Nat) (out:List It),nest≤12→out.length≤n→n≤200→(Sm.qJ nest n s).1=true→
 ∃ new,iu nest cu aP out s=out++new∧It.fx n new=true∧n+new.length=(Sm.qJ nest n s).2∧(Sm.qJ nest n s).2≤200
 | ⟨id,kind,labels,name,proc,x,has,args,bb,e⟩,nest,cu,aP,n,out,T6,ho,hn,h=>by
  obtain⟨h1,h2,h3,h4,h5,h6⟩:=Ir h
  dsimp only at h2 h4 h5 h6
  rw[h6]
  obtain⟨g1,e1⟩:=uy h4
  rw[e1]at h4 h5 ⊢
  obtain⟨g2,e2⟩:=uy h5
  rw[e2]at h5 ⊢
  have qA:It.fx n [(⟨⟨id,kind,labels,name,proc,x,has,args,bb,e⟩,nest,cu,aP⟩:It)] = true:=(F4 _ _).2 ⟨h2,T6,h3⟩
  obtain⟨n1,k1,k2,k3,k4⟩:=xH bb (nest+1) id false (n+1) (out++ [⟨⟨id,kind,labels,name,proc,x,has,args,bb,e⟩,nest,cu,aP⟩]) g1 (by simp;omega) h1 h4
  obtain⟨n2,j1,j2,j3,j4⟩:=xH e (nest+1) id true _ (out++ [⟨⟨id,kind,labels,name,proc,x,has,args,bb,e⟩,nest,cu,aP⟩]++n1) g2 (by simp;omega) k4 h5
  simp only[iu]
  rw[if_pos (by simpa using T6),k1,j1]
  refine⟨⟨⟨id,kind,labels,name,proc,x,has,args,bb,e⟩,nest,cu,aP⟩::(n1++n2),by simp, ?_, ?_,j4⟩
  ·have:(⟨⟨id,kind,labels,name,proc,x,has,args,bb,e⟩,nest,cu,aP⟩:It)::(n1++n2) = [⟨⟨id,kind,labels,name,proc,x,has,args,bb,e⟩,nest,cu,aP⟩]++n1++n2:=by simp
   rw[this,lL,lL,qA,Bool.true_and]
   have e3:n+([(⟨⟨id,kind,labels,name,proc,x,has,args,bb,e⟩,nest,cu,aP⟩:It)]++n1).length=(Sm.fz (nest+1) (n+1) bb).2:=by simp;omega
   rw[e3,j2]
   have e4:n + [(⟨⟨id,kind,labels,name,proc,x,has,args,bb,e⟩,nest,cu,aP⟩:It)].length=n+1:=rfl
   rw[e4,k2];rfl
  ·simp only[List.length_cons,List.length_append];omega
theorem xH : ∀ (l:List Sm) (nest cu:Int) (aP:Bool) (n:Nat) (out:List It),(l = []∨nest≤12)→out.length≤n→n≤200→(Sm.fz nest n l).1=true→
 ∃ new,dN nest cu aP out l=out++new∧It.fx n new=true∧n+new.length=(Sm.fz nest n l).2∧(Sm.fz nest n l).2≤200
 | [],nest,cu,aP,n,out,T6,ho,hn,h=>⟨[],by simp[dN],rfl,by simp[Sm.fz],by simpa[Sm.fz]using hn⟩
 |s::l,nest,cu,aP,n,out,T6,ho,hn,h=>by
  have afq:nest≤12:=T6.resolve_left (by simp)
  simp only[Sm.fz]at h ⊢
  split at h
  ·cases h
  rename_i hc
  rw[if_neg hc]
  obtain⟨n1,k1,k2,k3,k4⟩:=T5 s nest cu aP n out afq ho hn (by simpa using hc)
  obtain⟨n2,j1,j2,j3,j4⟩:=xH l nest cu aP _ (out++n1) (.inr afq) (by simp;omega) k4 h
  simp only[dN]
  rw[if_pos (by simp only[decide_eq_true_eq];omega),k1,j1]
  refine⟨n1++n2,by simp, ?_,by simp;omega,j4⟩
  rw[lL,k2,k3,j2];rfl
end
mutual
theorem T7 : ∀ (s:Sm) (nest cu:Int) (aP:Bool) (n:Nat) (out new:List It),iu nest cu aP out s=out++new→It.fx n new=true→out.length≤n→n+new.length≤200→
 Sm.qJ nest n s=(true,n+new.length)∧nest≤12
 | ⟨id,kind,labels,name,proc,x,has,args,bb,e⟩,nest,cu,aP,n,out,new,iJ,hm,ho,hn=>by
  obtain⟨n0,h0⟩:=Cx nest cu aP ⟨id,kind,labels,name,proc,x,has,args,bb,e⟩ out
  have e0:new = ⟨⟨id,kind,labels,name,proc,x,has,args,bb,e⟩,nest,cu,aP⟩::n0:=List.append_cancel_left (iJ.symm.trans h0)
  subst e0
  have ajD:(⟨⟨id,kind,labels,name,proc,x,has,args,bb,e⟩,nest,cu,aP⟩:It)::n0 = [⟨⟨id,kind,labels,name,proc,x,has,args,bb,e⟩,nest,cu,aP⟩]++n0:=rfl
  rw[ajD,lL,Bool.and_eq_true]at hm
  obtain⟨nV,jX⟩:=hm
  obtain⟨c1,c2,c3⟩:=(F4 _ _).1 nV
  dsimp only at c1 c2 c3
  simp only[List.length_cons]at hn ⊢
  have Xu:dN (nest+1) id true (dN (nest+1) id false (out++ [⟨⟨id,kind,labels,name,proc,x,has,args,bb,e⟩,nest,cu,aP⟩]) bb) e=out++([⟨⟨id,kind,labels,name,proc,x,has,args,bb,e⟩,nest,cu,aP⟩]++n0):=by
   simp only[iu]at iJ
   rw[if_pos (by simpa using c2)]at iJ
   exact iJ
  obtain⟨n1,g1⟩:=rJ (nest+1) id false bb (out++ [⟨⟨id,kind,labels,name,proc,x,has,args,bb,e⟩,nest,cu,aP⟩])
  obtain⟨n2,g2⟩:=rJ (nest+1) id true e (dN (nest+1) id false (out++ [⟨⟨id,kind,labels,name,proc,x,has,args,bb,e⟩,nest,cu,aP⟩]) bb)
  have en:n0=n1++n2:=by
   rw[g2,g1]at Xu
   simp only[List.append_assoc,List.append_cancel_left_eq]at Xu
   exact Xu.symm
  subst en
  have Xv:It.fx (n+1) (n1++n2)=true:=jX
  rw[lL,Bool.and_eq_true]at Xv
  simp only[List.length_append]at hn ⊢
  obtain⟨r1,r2⟩:=xI bb (nest+1) id false (n+1) _ n1 g1 Xv.1 (by simp;omega) (by omega)
  obtain⟨q1,q2⟩:=xI e (nest+1) id true (n+1+n1.length) _ n2 g2 Xv.2 (by rw[g1];simp;omega) (by omega)
  refine⟨?_,c2⟩
  have gg : ∀ {l:List Sm} {m:Nat} {r:Bool×Nat},Sm.fz (nest+1) m l=r→(l = []∨nest+1≤12)→Sm.gI (nest+1) m l=r:=by
   intro l m r h1 h2
   unfold Sm.gI gate
   rw[if_neg]
   ·exact h1
   ·simp only [Bool.and_eq_true,decide_eq_true_eq,not_and]
    rcases h2 with h2|h2
    ·subst h2;simp
    ·omega
  have t1:=gg r1 r2
  have t2:=gg q1 q2
  rw[Hr]
  dsimp only
  rw[t1]
  dsimp only
  rw[t2]
  rw[F3,Bool.and_eq_true]at c3
  rw[if_neg]
  ·simp;omega
  ·simp only [Bool.or_eq_true,bne_iff_ne,ne_eq,decide_eq_true_eq,Bool.not_eq_true',not_or,Decidable.not_not,Bool.not_eq_false]
   exact⟨⟨⟨by omega,c1⟩,c3.1⟩,c3.2⟩
theorem xI : ∀ (l:List Sm) (nest cu:Int) (aP:Bool) (n:Nat) (out new:List It),dN nest cu aP out l=out++new→It.fx n new=true→out.length≤n→n+new.length≤200→
 Sm.fz nest n l=(true,n+new.length)∧(l = []∨nest≤12)
 | [],nest,cu,aP,n,out,new,iJ,hm,ho,hn=>by
  simp only[dN]at iJ
  have:new = []:=by simpa using iJ
  subst this
  exact⟨by simp[Sm.fz], .inl rfl⟩
 | s::l,nest,cu,aP,n,out,new,iJ,hm,ho,hn=>by
  simp only[dN]at iJ
  rw[if_pos (by simp only[decide_eq_true_eq];omega)]at iJ
  obtain⟨n1,g1⟩:=Cx nest cu aP s out
  obtain⟨n2,g2⟩:=rJ nest cu aP l (iu nest cu aP out s)
  have en:new=(⟨s,nest,cu,aP⟩::n1)++n2:=by
   rw[g2,g1,List.append_assoc,List.append_cancel_left_eq]at iJ
   exact iJ.symm
  subst en
  rw[lL,Bool.and_eq_true]at hm
  rw[List.length_append]at hn ⊢
  obtain⟨r1,r2⟩:=T7 s nest cu aP n out _ g1 hm.1 ho (by omega)
  obtain⟨q1,q2⟩:=xI l nest cu aP (n+(⟨s,nest,cu,aP⟩::n1:List It).length) _ n2 g2 hm.2 (by rw[g1,List.length_append];omega) (by omega)
  refine⟨?_, .inr r2⟩
  simp only[Sm.fz,r1,Bool.not_true,Bool.false_eq_true,↓reduceIte,q1]
  congr 1;omega
end
theorem Cy : ∀ (l:List Pc) (out:List It),out.length≤200→(Pc.fz out.length l=true↔Pc.mC l=true∧∃ new,allM out l=out++new∧(out++new).length≤200∧It.fx out.length new=true)
 | [],out,ho=>by simp[Pc.fz,Pc.mC,allM,It.fx];exact ho
 | f::l,out,ho=>by
  have qL : ∀ (l:List Pc) (out:List It),∃ new,allM out l=out++new:=by
   intro l
   induction l with
   |nil=>intro out;exact⟨[],by simp[allM]⟩
   | cons f l ih=>
    intro out
    simp only[allM]
    split
    ·exact⟨_,rfl⟩
    ·obtain⟨n1,h1⟩:=ih (out++f.flat)
     exact⟨f.flat++n1,by rw[h1,List.append_assoc]⟩
  simp only[Pc.fz,Pc.mC]
  have ajE:(decide ((f.params.length:Int) > 8) ||decide ((f.vars.length:Int) > 16) || !(isName f.name) || !(e7 f.vars) || !(e7 f.fin))=(!(isName f.name) ||decide ((f.params.length:Int) > 8) ||decide ((f.vars.length:Int) > 16) || !(e7 f.vars) || !(e7 f.fin)):=by
   cases isName f.name<;>simp
  rw[ajE]
  split
  ·simp
  split
  ·simp
  have hg:Sm.gI 1 out.length f.body=Sm.fz 1 out.length f.body:=by unfold Sm.gI gate;rw[if_neg (by simp)]
  rw[hg]
  constructor
  ·intro h
   split at h
   ·cases h
   rename_i hc
   obtain⟨n1,k1,k2,k3,k4⟩:=xH f.body 1 0 false out.length [] (.inr (by omega)) (by simp) ho (by simpa using hc)
   have iJ:f.flat=n1:=by unfold Pc.flat;rw[k1];rfl
   rw[← k3, ← List.length_append]at h
   obtain⟨hh,n2,j1,j2,j3⟩:=(Cy l (out++n1) (by rw[List.length_append];omega)).1 h
   refine⟨hh,n1++n2, ?_,by simpa using j2, ?_⟩
   ·simp only [allM,iJ]
    rw[if_neg (by simp only[List.length_append,decide_eq_true_eq];omega),j1,List.append_assoc]
   ·rw[lL,k2, ← List.length_append,j3];rfl
  ·rintro⟨hh,new,j1,j2,j3⟩
   simp only[allM]at j1
   split at j1
   ·rename_i hc
    have:new=f.flat:=(List.append_cancel_left j1).symm
    subst this
    simp only[decide_eq_true_eq]at hc
    omega
   rename_i hc
   simp only[decide_eq_true_eq]at hc
   obtain⟨n2,g2⟩:=qL l (out++f.flat)
   have en:new=f.flat++n2:=by
    rw[g2,List.append_assoc]at j1
    exact(List.append_cancel_left j1).symm
   subst en
   rw[lL,Bool.and_eq_true]at j3
   rw[List.length_append,List.length_append]at j2
   obtain⟨r1,_⟩:=xI f.body 1 0 false out.length [] f.flat (by unfold Pc.flat;rfl) j3.1 (by simp) (by omega)
   rw[r1]
   simp only[Bool.not_true,Bool.false_eq_true,↓reduceIte]
   rw[← List.length_append]
   exact(Cy l (out++f.flat) (by rw[List.length_append];omega)).2 ⟨hh,n2,g2,by simp;omega,by rw[List.length_append];exact j3.2⟩
theorem Ds (p:Pg):p.Ht=p.may:=by
 have h:=Cy p.procs [] (by simp)
 unfold Pg.Ht Pg.may
 split
 ·rfl
 ·have e:Pc.fz 0 p.procs=(if !(Pc.mC p.procs)then false else if decide ((p.all.length:Int) > 200)then false else It.fx 0 p.all):=by
   rw[Bool.eq_iff_iff]
   have h':Pc.fz 0 p.procs=true↔_:=h
   rw[h']
   have ha:p.all=allM [] p.procs:=rfl
   constructor
   ·rintro⟨h1,new,h2,h3,h4⟩
    rw[ha,h2,h1]
    simp only[List.nil_append]at h3 ⊢
    simp only[Bool.not_true,Bool.false_eq_true,↓reduceIte]
    rw[if_neg (by simp only[decide_eq_true_eq];omega)]
    exact h4
   ·intro h1
    cases hh:Pc.mC p.procs
    ·rw[hh]at h1;simp at h1
    ·rw [hh]at h1
     simp only[Bool.not_true,Bool.false_eq_true,↓reduceIte]at h1
     split at h1
     ·cases h1
     ·rename_i hc
      simp only[decide_eq_true_eq]at hc
      exact⟨rfl,p.all,by rw[ha];rfl,by simp;omega,h1⟩
  exact e
set_option maxRecDepth 8000
open Go.Proofs
def aqz (x:az):List az→Bool
 | []=>false
 |s::l=>if x==s then true else aqz x l
def pG (pre:List az):List az→Bool
 | []=>false
 |s::l=>if e9 pre s then true else pG (pre++ [s]) l
def fJ (l:List az):Bool:=pG [] l
theorem T8 {l:List az} {k:Nat} {a:az} (h:l[k]? = some a):l.take (k+1)=l.take k++ [a]:=by rw[List.take_add_one,h];rfl
theorem EN {l:List az} (hl:l.length<4611686018427387904) (g:Tag) (s:St):aF Tryz.prog oR [.slice g 1 (l.map encStr)] s (.bool (fJ l)) s:=by
 refine aF.ZW (d':= .slice .shared 1 (l.map encStr)) ?_ (Wk.shared _ _ _)
 refine aF.pure ?_ (by simp[D.bJ,D.ok,Tag.ok,ff]) rfl s
 generalize h:fJ l=p
 simp only[fJ]at h
 unfold S0
 refine aF.go FM rfl fun B Q hB hQ=>?_
 have⟨hD,hY,hZ,gA⟩:=bN
 repeat' (first
 |simp only[go_sem,hD,hY,hZ,gA]
 |(with_reducible first|refine bk fun hc=>?_|refine bl fun hc=>?_|refine bm (fun hc=>?_) fun hc=>?_)<;>(try simp only[hc,bs,↓reduceIte]at h)<;>try simp only[hc]
 |(with_reducible refine aE hQ ?_;exact fD))
 refine fc 0 0 (br.ind (ι:=List az×Nat) (fun i=>l.drop i.2=i.1∧pG (l.take i.2) i.1=p) (fun i=>i.1.length)
  (fun i=> [(0, .slice .shared 1 (l.map encStr)),(5, .slice .shared 1 (l.map encStr)),(6, .int .i64 (l.length:Int)),(7, .int .i64 (i.2:Int))]) (fun i=>⟨[],[]⟩) ?_ (l,0) ⟨rfl,h⟩)
 rintro⟨rest,k⟩ ⟨h1,h⟩ IH
 dsimp only at h1 h
 cases rest with
 |nil=>
  have hD:=drop_nil h1
  simp only[pG]at h
  repeat' (first
 |simp only[go_sem,hD,hY,hZ,gA]
 |(with_reducible first|refine bk fun hc=>?_|refine bl fun hc=>?_|refine bm (fun hc=>?_) fun hc=>?_)<;>(try simp only[hc,bs,↓reduceIte]at h)<;>try simp only[hc]
 |(with_reducible refine aE hQ ?_;exact fD))
 |cons a rest=>
  obtain⟨hY,g2,hD,g4⟩:=drop_cons h1
  have bW:k<4611686018427387904:=by omega
  simp only[pG]at h
  have hc:=jW (l:=l.take k) (by rw[List.length_take];omega) a
  have e1:List.drop 0 (List.take k (l.map encStr))=(l.take k).map encStr:=by simp[List.map_take]
  have c1:((0:Int)≤(k:Int))=True:=by simp
  have c2:((k:Int)≤(l.length:Int))=True:=by simp only[eq_iff_iff,iff_true];omega
  have e2:List.take k (l.map encStr)=(l.take k).map encStr:=by simp[List.map_take]
  repeat' (first
 |simp only[go_sem,hD,hY,hZ,gA,e1,e2,c1,c2,or_true,true_and,and_self,ite_self,Int.toNat_natCast,List.drop_zero]
 |(with_reducible refine CU (hc _ _) ?_)
 |(with_reducible first|refine bk fun hc=>?_|refine bl fun hc=>?_|refine bm (fun hc=>?_) fun hc=>?_)<;>(try simp only[hc,bs,↓reduceIte]at h)<;>try simp only[hc]
 |(with_reducible refine aE hQ ?_;(try cases h);simp only[aT,aV,bE,bF,go_sem,hD,hY,hZ,gA,e1,e2,c1,c2,or_true,true_and,and_self,ite_self,Int.toNat_natCast,List.drop_zero];try exact cf))
  refine fe 0 0 ?_ ?_ (IH (rest,k+1) ⟨g2,by dsimp only;rw[T8 (by assumption)];exact h⟩ (Nat.lt_succ_self _))
  ·(simp only[go_sem,hD,hY,hZ,gA,aJ bW];try exact cq)
  ·(simp only[go_sem,hD,hY,hZ,gA,aJ bW];try exact cq)
set_option maxRecDepth 8000
open Go.Proofs
def q8 (vars globals:List az) (name:az):List Pm→Int
 | []=>if e9 vars name then 4 else if e9 globals name then 1 else 0
 |a::l=>if a.name==name then(if a.ref then 3 else 2)else q8 vars globals name l
def Pc.kp (p:Pg) (f:Pc) (name:az):Int:=q8 f.vars p.globals name f.params
theorem Lo {p:Pg} {f:Pc} (hp:f.params.length<1000000000) (hv:f.vars.length<1000000000) (hg:p.globals.length<1000000000) (name:az) (s:St):aF Tryz.prog wB [.agg (cB p), .agg (cy f), .str name] s (.int .i64 (f.kp p name)) s:=by
 refine aF.pure ?_ (by simp[D.bJ,D.ok,jq,yj]) rfl s
 have sU:=jW (l:=f.vars) (by omega) name
 have vt:=jW (l:=p.globals) (by omega) name
 generalize h:f.kp p name=q
 simp only[Pc.kp]at h
 unfold S0
 refine aF.go Hh rfl fun B Q hB hQ=>?_
 have⟨hD,hY,hZ,gA⟩:=bN
 repeat' (first
 |simp only[go_sem,hD,hY,hZ,gA]
 |(with_reducible refine aE hQ ?_;exact bo))
 refine fc 2 0 (br.ind (ι:=List Pm×Nat) (fun i=>f.params.drop i.2=i.1∧q8 f.vars p.globals name i.1=q) (fun i=>i.1.length)
  (fun i=> [(2, .str name),(3, .ptr 0 0),(4, .ptr 1 0),(10, .slice .shared 2 (f.params.map il)),(11, .int .i64 (f.params.length:Int)),(12, .int .i64 (i.2:Int))]) (fun i=>⟨[cB p,cy f],[]⟩) ?_ (f.params,0) ⟨rfl,h⟩)
 rintro⟨rest,k⟩ ⟨h1,h⟩ IH
 dsimp only at h1 h
 cases rest with
 | nil=>
  have hD:=drop_nil h1
  simp only[q8]at h
  rcases Bool.eq_false_or_eq_true (e9 f.vars name)with b1|b1
  ·simp only [b1,if_true]at h
   subst h
   repeat' (first
 |simp only[go_sem,hD,hY,hZ,gA,b1]
 |(with_reducible refine CU (sU _ _) ?_)
 |(with_reducible refine CU (vt _ _) ?_)
 | (with_reducible refine aE hQ ?_;exact bo))
  ·simp only [b1,Bool.false_eq_true,if_false]at h
   rcases Bool.eq_false_or_eq_true (e9 p.globals name)with b2|b2
   ·simp only [b2,if_true]at h
    subst h
    repeat' (first
 |simp only[go_sem,hD,hY,hZ,gA,b1,b2]
 |(with_reducible refine CU (sU _ _) ?_)
 |(with_reducible refine CU (vt _ _) ?_)
 | (with_reducible refine aE hQ ?_;exact bo))
   ·simp only [b2,Bool.false_eq_true,if_false]at h
    subst h
    repeat' (first
 |simp only[go_sem,hD,hY,hZ,gA,b1,b2]
 |(with_reducible refine CU (sU _ _) ?_)
 |(with_reducible refine CU (vt _ _) ?_)
 |(with_reducible refine aE hQ ?_;exact bo))
 | cons a rest=>
  obtain⟨hY,g2,hD,g4⟩:=drop_cons h1
  have bW:k<4611686018427387904:=by omega
  simp only[q8]at h
  rcases Bool.eq_false_or_eq_true (a.name==name)with b1|b1
  ·simp only [b1,if_true]at h
   rcases Bool.eq_false_or_eq_true a.ref with b2|b2
   ·simp only [b2,if_true]at h
    subst h
    repeat' (first
 |simp only[go_sem,hD,hY,hZ,gA,b1,b2]
 | (with_reducible refine aE hQ ?_;exact bo))
   ·simp only [b2,Bool.false_eq_true,if_false]at h
    subst h
    repeat' (first
 |simp only[go_sem,hD,hY,hZ,gA,b1,b2]
 | (with_reducible refine aE hQ ?_;exact bo))
  ·simp only [b1,Bool.false_eq_true,if_false]at h
   repeat' (first
 |simp only[go_sem,hD,hY,hZ,gA,b1]
 | (with_reducible refine aE hQ ?_;exact bo))
   refine fe 2 0 ?_ ?_ (IH (rest,k+1) ⟨g2,h⟩ (Nat.lt_succ_self _))
   ·(simp only[go_sem,hD,hY,hZ,gA,aJ bW];try exact cq)
   ·(simp only[go_sem,hD,hY,hZ,gA,aJ bW];try exact cq)
def iw (name:az):List Pc→Option Pc
 | []=>none
 |f::l=>if f.name==name then some f else iw name l
def Pg.find (p:Pg) (name:az):Option Pc:=iw name p.procs
def pc0:Pc:=⟨[],[],[],[],[]⟩
def aro (r:Option Pc):D:= .tuple [.agg (cy (r.getD pc0)), .bool r.isSome]
set_option maxRecDepth 8000
open Go.Proofs
def Pc.sG (f:Pc):List az:=f.params.map (·.name)
def Pc.own (f:Pc):List az:=f.sG++f.vars
theorem Z0 {f:Pc} (hp:f.params.length<1000000) (hv:f.vars.length<1000000) (s:St):aF Tryz.prog tQ [.agg (cy f)] s (.slice .shared 1 (f.own.map encStr)) s:=by
 refine aF.pure ?_ (by simp[D.bJ,D.ok,yj]) (by simp only[D.ok,Tag.ok,ff];rfl) s
 generalize hR:f.own=R
 simp only[Pc.own]at hR
 unfold S0
 refine aF.go Jw rfl fun B Q hB hQ=>?_
 have⟨hD,hY,hZ,gA⟩:=bN
 repeat' (first
 |simp only[go_sem,hD,hY,hZ,gA]
 |(with_reducible refine aE hQ ?_;exact bo))
 refine br.rn 3 1 rfl ?_
 simp only[go_sem,hD,hY,hZ,gA]
 refine fc 1 1 (br.ind (ι:=List Pm×Nat×List az×Nat) (fun i=>f.params.drop i.2.1=i.1∧i.2.2.1++i.1.map (·.name)=f.sG∧i.2.2.2=i.2.2.1.length) (fun i=>i.1.length)
  (fun i=> [(1, .ptr 0 0),(3, .slice (.tok 0) 1 (i.2.2.1.map encStr)),(7, .slice .shared 2 (f.params.map il)),(8, .int .i64 (f.params.length:Int)),(9, .int .i64 (i.2.1:Int))]) (fun i=>⟨[cy f],[some i.2.2.2]⟩) ?_ (f.params,0,[],0) ⟨rfl,rfl,rfl⟩)
 rintro⟨rest,k,out,n⟩ ⟨h1,h2,h3⟩ IH
 dsimp only at h1 h2 h3
 subst h3
 have hlo:out.length+rest.length<1000000:=by
  have:=congrArg List.length h2
  simp only[List.length_append,List.length_map,Pc.sG]at this
  omega
 cases rest with
 |nil=>
  have hD:=drop_nil h1
  simp only[List.map_nil,List.append_nil]at h2
  subst hR
  rw[← h2]at hQ
  have fb:=ln (l:=out) (nx:=f.vars) rfl (by omega) (g:= .shared)
  repeat' (first
 |simp only[go_sem,hD,hY,hZ,gA,fb]
 |(with_reducible refine aE hQ ?_;exact bo))
 |cons a rest=>
  obtain⟨hY,g2,hD,g4⟩:=drop_cons h1
  have bW:k<4611686018427387904:=by omega
  have hZ:(out.length+1)*17≤bx:=by unfold bx;omega
  repeat' (first
 |simp only[go_sem,hD,hY,hZ,gA]
 |(with_reducible refine aE hQ ?_;exact bo))
  refine fe 1 1 ?_ ?_ (IH (rest,k+1,out++ [a.name],out.length+1) ⟨g2,by rw[← h2];simp,by simp⟩ (Nat.lt_succ_self _))
  ·(simp only[go_sem,hD,hY,hZ,gA,aJ bW,List.map_append,List.map_cons,List.map_nil,encStr];try exact cq)
  ·(simp only[go_sem,hD,hY,hZ,gA,aJ bW,List.map_append,List.map_cons,List.map_nil,encStr];try exact cq)
def dG:az:= [109,97,105,110]
def Sm.known (p:Pg) (f:Pc) (procs:List az) (v:Sm):Bool:=
 !(v.said.any fun n=>f.kp p n==0) && (v.kind != 4 ||(v.proc != dG && e9 procs v.proc))
structure Pc.Small (p:Pg) (f:Pc):Prop where
 par:f.params.length<1000000
 vars:f.vars.length<1000000
 ve:p.globals.length<1000000
def Dt (p:Pg) (f:Pc):List az→Bool
 | []=>true
 |n::l=>if f.kp p n==0 then false else Dt p f l
theorem Is (p:Pg) (f:Pc) : ∀ l,Dt p f l = !(l.any fun n=>f.kp p n==0)
 | []=>rfl
 |n::l=>by
  simp only[Dt,List.any_cons,Is p f l]
  cases (f.kp p n==0)<;>simp
theorem Lp (v:Sm) (h:v.nU):v.said.length<3000000:=by
 have : ∀ (l:List Ar) (out:List az),(Ar.said out l).length≤out.length+2*Ar.a7 l:=by
  intro l
  induction l with
  |nil=>intro out;simp[Ar.said]
  |cons a l ih=>
   intro out
   simp only[Ar.said,Ar.a7]
   refine Nat.le_trans (ih _) ?_
   have:=lT a.x
   have:1≤a.x.size:=by obtain⟨_,_,_,_⟩:=a.x;simp[Ex.size]
   simp only[List.length_append]
   split<;>simp<;>omega
 have h1:=this v.args (v.sF++v.x.names)
 have h2:=lT v.x
 have h3:=h.2.2
 have h4:v.sF.length≤1:=by unfold Sm.sF;split<;>simp
 simp only[List.length_append]at h1
 unfold Sm.said
 omega
theorem abQ {p:Pg} {f:Pc} {procs:List az} {v:Sm} (hs:f.Small p) (xJ:procs.length<1000000) (hv:v.nU) (s:St):aF Tryz.prog q7 [.agg (cB p), .agg (cy f), .slice .shared 1 (procs.map encStr), .agg (bj v)] s (.bool (v.known p f procs)) s:=by
 refine aF.pure ?_ (by simp[D.bJ,D.ok,jq,yj,sf,Tag.ok,ff]) rfl s
 have hn:=fun s=>Cw hv s
 have hk:=fun n s=>Lo (p:=p) (f:=f) (by have:=hs.par;omega) (by have:=hs.vars;omega) (by have:=hs.ve;omega) n s
 have afr:=jW (l:=procs) (by omega) v.proc
 have hl:=Lp v hv
 generalize h:v.known p f procs=q
 simp only[Sm.known, ← Is]at h
 unfold S0
 refine aF.go FN rfl fun B Q hB hQ=>?_
 have⟨hD,hY,hZ,gA⟩:=bN
 repeat' (first
 |simp only[go_sem,hD,hY,hZ,gA]
 |(with_reducible refine CU (hn _) ?_)
 |(with_reducible refine aE hQ ?_;exact bo))
 refine fc 3 0 (br.ind (ι:=List az×Nat) (fun i=>v.said.drop i.2=i.1∧(Dt p f i.1 && (v.kind != 4 ||(v.proc != dG && e9 procs v.proc)))=q) (fun i=>i.1.length)
  (fun i=> [(2, .slice .shared 1 (procs.map encStr)),(4, .ptr 0 0),(5, .ptr 1 0),(7, .ptr 2 0),(12, .slice .shared 1 (v.said.map encStr)),(13, .int .i64 (v.said.length:Int)),(14, .int .i64 (i.2:Int))]) (fun i=>⟨[cB p,cy f,bj v],[]⟩) ?_ (v.said,0) ⟨rfl,h⟩)
 rintro⟨rest,k⟩ ⟨h1,h⟩ IH
 dsimp only at h1 h
 cases rest with
 | nil=>
  have hD:=drop_nil h1
  simp only[Dt,Bool.true_and]at h
  rcases Bool.eq_false_or_eq_true (v.kind != 4)with b1|b1
  ·simp only [b1,Bool.true_or]at h
   subst h
   repeat' (first
 |simp only[go_sem,hD,hY,hZ,gA,b1]
 | (with_reducible refine aE hQ ?_;exact bo))
  ·simp only [b1,Bool.false_or]at h
   rcases Bool.eq_false_or_eq_true (v.proc != dG)with b2|b2
   ·simp only [b2,Bool.true_and]at h
    unfold dG at b2
    have b3:(v.proc == [109,97,105,110]) = !(v.proc != [109,97,105,110]):=by simp only[bne,Bool.not_not]
    rw[b2]at b3
    simp only[Bool.not_true,Bool.not_false]at b3
    subst h
    repeat' (first
 |simp only[go_sem,hD,hY,hZ,gA,b1,b2,b3]
 |(with_reducible refine CU (afr _ _) ?_)
 | (with_reducible refine aE hQ ?_;exact bo))
   ·simp only [b2,Bool.false_and]at h
    unfold dG at b2
    have b3:(v.proc == [109,97,105,110]) = !(v.proc != [109,97,105,110]):=by simp only[bne,Bool.not_not]
    rw[b2]at b3
    simp only[Bool.not_true,Bool.not_false]at b3
    subst h
    repeat' (first
 |simp only[go_sem,hD,hY,hZ,gA,b1,b2,b3]
 |(with_reducible refine CU (afr _ _) ?_)
 |(with_reducible refine aE hQ ?_;exact bo))
 | cons a rest=>
  obtain⟨hY,g2,hD,g4⟩:=drop_cons h1
  have bW:k<4611686018427387904:=by omega
  simp only[Dt]at h
  rcases Bool.eq_false_or_eq_true (f.kp p a==0)with b1|b1
  ·simp only [b1,if_true,Bool.false_and]at h
   subst h
   repeat' (first
 |simp only[go_sem,hD,hY,hZ,gA,b1]
 |(with_reducible refine CU (hk _ _) ?_)
 | (with_reducible refine aE hQ ?_;exact bo))
  ·simp only [b1,Bool.false_eq_true,if_false]at h
   repeat' (first
 |simp only[go_sem,hD,hY,hZ,gA,b1]
 |(with_reducible refine CU (hk _ _) ?_)
 | (with_reducible refine aE hQ ?_;exact bo))
   refine fe 3 0 ?_ ?_ (IH (rest,k+1) ⟨g2,h⟩ (Nat.lt_succ_self _))
   ·(simp only[go_sem,hD,hY,hZ,gA,aJ bW];try exact cq)
   ·(simp only[go_sem,hD,hY,hZ,gA,aJ bW];try exact cq)
theorem NQ : ∀ (l pre:List az),pG pre l=true↔(∃ x∈l,x∈pre)∨¬ l.Nodup
 | [],pre=>by simp[pG]
 | s::l,pre=>by
  simp only[pG]
  by_cases h:e9 pre s=true
  ·simp only [h,if_true,true_iff]
   exact .inl ⟨s,List.mem_cons_self,(fP _ _).1 h⟩
  ·have h':s∉pre:=fun m=>h ((fP _ _).2 m)
   simp only[h,if_false,Bool.false_eq_true]
   rw[NQ l (pre++ [s])]
   simp only[List.mem_append,List.mem_singleton,List.mem_cons,List.nodup_cons,exists_eq_or_imp]
   constructor
   ·rintro(⟨x,m,h1 | h1⟩ | h1)
    ·exact .inl (.inr ⟨x,m,h1⟩)
    ·have h1:x=s:=by simpa using h1
     subst h1;exact .inr fun h=>h.1 m
    ·exact .inr fun h=>h1 h.2
   ·rintro((h1 | ⟨x,m,h1⟩) | h1)
    ·exact absurd h1 h'
    ·exact .inl ⟨x,m, .inl h1⟩
    ·by_cases m:s∈l
     ·exact .inl ⟨s,m, .inr (.inl rfl)⟩
     ·exact .inr fun h=>h1 ⟨m,h⟩
theorem Iu (l:List az):fJ l=true↔¬ l.Nodup:=by
 unfold fJ;rw[NQ];simp
theorem T9 (a b:List az):fJ (a++b)=(fJ a ||(fJ b ||b.any (e9 a))):=by
 have h:fJ (a++b)=true↔(fJ a ||(fJ b ||b.any (e9 a)))=true:=by
  rw[Iu,List.nodup_append]
  simp only[Bool.or_eq_true,Iu,List.any_eq_true,fP]
  constructor
  ·intro h
   by_cases ha:a.Nodup
   ·by_cases hb:b.Nodup
    ·refine .inr (.inr (Classical.byContradiction fun hn=>h ⟨ha,hb,fun x hx y hy e=>hn ⟨y,hy,e ▸ hx⟩⟩))
    ·exact .inr (.inl hb)
   ·exact .inl ha
  ·rintro(h | h | ⟨x,h1,h2⟩) ⟨h3,h4,h5⟩
   ·exact h h3
   ·exact h h4
   ·exact h5 x h2 x h1 rfl
 cases h1:fJ (a++b)<;>cases h2:(fJ a ||(fJ b ||b.any (e9 a)))<;>simp_all
theorem Lq (name:az) : ∀ (l:List Pc) (k:Nat),(iw name l=none∧iF name (k:Int) (l.map (·.name)) = -1)∨∃ f j,iw name l=some f∧l[j]? = some f∧iF name (k:Int) (l.map (·.name))=((k+j:Nat):Int)
 | [],k=> .inl ⟨rfl,rfl⟩
 | f::l,k=>by
  by_cases h:f.name=name
  ·subst h
   refine .inr ⟨f,0,by simp[iw],rfl,by simp[iF]⟩
  ·have h1:(f.name==name)=false:=by simp [h]
   have h2:(name==f.name)=false:=by simp[Ne.symm h]
   simp only[iw,h1,Bool.false_eq_true,if_false,List.map_cons,iF,h2]
   rcases Lq name l (k+1)with ⟨g1,g2⟩|⟨g,j,g1,g2,g3⟩
   ·exact .inl ⟨g1,by rw[← g2];rfl⟩
   ·refine .inr ⟨g,j+1,g1,by simpa using g2, ?_⟩
    rw[show((k:Int)+1)=((k+1:Nat):Int)from rfl,g3]
    congr 1;omega
theorem ry {name:az} {f:Pc} : ∀ {l:List Pc},iw name l=some f→f∈l∧f.name=name
 |g::l,h=>by
  simp only[iw]at h
  split at h
  ·rename_i e;cases h;exact⟨List.mem_cons_self,by simpa using e⟩
  ·have:=ry h;exact⟨List.mem_cons_of_mem _ this.1,this.2⟩
mutual
theorem Ua (deep cu:Int) (aP:Bool) (out:List It) : ∀ s:Sm,∃ e,iu deep cu aP out s=out++e
 | ⟨id,kind,labels,name,proc,x,has,args,bb,e⟩=>by
  simp only[iu]
  split
  ·obtain⟨e1,h1⟩:=uz (deep+1) id false (out++ [⟨⟨id,kind,labels,name,proc,x,has,args,bb,e⟩,deep,cu,aP⟩]) bb
   obtain⟨e2,h2⟩:=uz (deep+1) id true (dN (deep+1) id false (out++ [⟨⟨id,kind,labels,name,proc,x,has,args,bb,e⟩,deep,cu,aP⟩]) bb) e
   rw[h2,h1]
   exact⟨_,by rw[List.append_assoc,List.append_assoc]⟩
  ·exact⟨_,rfl⟩
theorem uz (deep cu:Int) (aP:Bool) (out:List It) : ∀ l:List Sm,∃ e,dN deep cu aP out l=out++e
 | []=>⟨[],by simp[dN]⟩
 | s::l=>by
  simp only[dN]
  split
  ·obtain⟨e1,h1⟩:=Ua deep cu aP out s
   obtain⟨e2,h2⟩:=uz deep cu aP (iu deep cu aP out s) l
   rw[h2,h1]
   exact⟨_,by rw[List.append_assoc]⟩
  ·exact⟨[],by simp⟩
end
mutual
theorem Ub (deep cu:Int) (aP:Bool) (out:List It) : ∀ s:Sm,(iu deep cu aP out s).length≤200→(∀ i∈iu deep cu aP out s,i.deep≤12)→(iu deep cu aP out s).map It.s=out.map It.s++s.pre
 | ⟨id,kind,labels,name,proc,x,has,args,bb,e⟩,h1,h2=>by
  simp only[iu,Sm.pre]at h1 h2 ⊢
  by_cases hd:deep≤12
  ·simp only [hd,decide_true,if_true]at h1 h2 ⊢
   obtain⟨e2,g2⟩:=uz (deep+1) id true (dN (deep+1) id false (out++ [⟨⟨id,kind,labels,name,proc,x,has,args,bb,e⟩,deep,cu,aP⟩]) bb) e
   have k1:(dN (deep+1) id false (out++ [⟨⟨id,kind,labels,name,proc,x,has,args,bb,e⟩,deep,cu,aP⟩]) bb).length≤200:=by
    rw[g2,List.length_append]at h1;omega
   have k2 : ∀ i∈dN (deep+1) id false (out++ [⟨⟨id,kind,labels,name,proc,x,has,args,bb,e⟩,deep,cu,aP⟩]) bb,i.deep≤12:=fun i m=>h2 i (by rw[g2];exact List.mem_append_left _ m)
   rw[xK (deep+1) id true _ e h1 h2,xK (deep+1) id false _ bb k1 k2]
   simp
  ·simp only [hd,decide_false,Bool.false_eq_true,if_false]at h1 h2
   exact absurd (h2 _ (List.mem_append_right _ (List.mem_singleton.2 rfl))) (by simpa using hd)
theorem xK (deep cu:Int) (aP:Bool) (out:List It) : ∀ l:List Sm,(dN deep cu aP out l).length≤200→(∀ i∈dN deep cu aP out l,i.deep≤12)→(dN deep cu aP out l).map It.s=out.map It.s++Sm.cL l
 | [],h1,h2=>by simp[dN,Sm.cL]
 | s::l,h1,h2=>by
  simp only[dN,Sm.cL]at h1 h2 ⊢
  by_cases hc:(out.length:Int)≤200
  ·simp only [hc,decide_true,if_true]at h1 h2 ⊢
   obtain⟨e2,g2⟩:=uz deep cu aP (iu deep cu aP out s) l
   have k1:(iu deep cu aP out s).length≤200:=by rw[g2,List.length_append]at h1;omega
   have k2 : ∀ i∈iu deep cu aP out s,i.deep≤12:=fun i m=>h2 i (by rw[g2];exact List.mem_append_left _ m)
   rw[xK deep cu aP _ l h1 h2,Ub deep cu aP out s k1 k2]
   simp
  ·simp only [hc,decide_false,Bool.false_eq_true,if_false]at h1
   omega
end
theorem Lr : ∀ (l:List Pc) (out:List It),(allM out l).length≤200→(∀ i∈allM out l,i.deep≤12)→(∀ f∈l,f.flat.map It.s=Sm.cL f.body)∧(allM out l).map It.s=out.map It.s++(l.map fun f=>Sm.cL f.body).flatten
 | [],out,h1,h2=>⟨fun f m=>(by cases m),by simp[allM]⟩
 | f::l,out,h1,h2=>by
  simp only[allM]at h1 h2 ⊢
  by_cases hc:(((out++f.flat).length:Nat):Int) > 200
  ·simp only[hc,decide_true,if_true]at h1;omega
  ·simp only [hc,decide_false,Bool.false_eq_true,if_false]at h1 h2 ⊢
   obtain⟨k1,k2⟩:=Lr l (out++f.flat) h1 h2
   have qL : ∀ (l:List Pc) (out:List It),∃ e,allM out l=out++e:=by
    intro l
    induction l with
    |nil=>intro out;exact⟨[],by simp[allM]⟩
    |cons g l ih=>
     intro out
     simp only[allM]
     split
     ·exact⟨_,rfl⟩
     ·obtain⟨e,h⟩:=ih (out++g.flat);exact⟨g.flat++e,by rw[h];simp⟩
   obtain⟨e,he⟩:=qL l (out++f.flat)
   have k3:f.flat.map It.s=Sm.cL f.body:=by
    have:=xK 1 0 false [] f.body (by
     have:f.flat.length≤200:=by simp only[List.length_append]at hc;omega
     exact this) (fun i m=>h2 i (by rw[he];exact List.mem_append_left _ (List.mem_append_right _ m)))
    simpa[Pc.flat]using this
   refine⟨fun g m=>?_, ?_⟩
   ·rcases List.mem_cons.1 m with rfl | m
    ·exact k3
    ·exact k1 g m
   ·rw[k2];simp[k3]
theorem Cz : ∀ (l:List It) (n:Nat),It.fx n l=true→(∀ i∈l,i.deep≤12)∧∀ (j:Nat) (i:It),l[j]? = some i→i.s.id=((n+j+1:Nat):Int)
 | [],n,h=>⟨fun i m=>(by cases m),fun j i h=>by simp at h⟩
 | a::l,n,h=>by
  simp only[It.fx]at h
  split at h
  ·cases h
  ·rename_i c
   simp only[Bool.or_eq_true,not_or,bne_iff_ne,ne_eq,Decidable.not_not,decide_eq_true_eq,Int.not_lt,gt_iff_lt]at c
   obtain⟨k1,k2⟩:=Cz l (n+1) h
   refine⟨fun i m=>?_,fun j i hj=>?_⟩
   ·rcases List.mem_cons.1 m with rfl | m
    ·exact c.1.2
    ·exact k1 i m
   ·cases j with
    |zero=>simp at hj;subst hj;rw[c.1.1]
    |succ j=>simp at hj;rw[k2 j i hj];congr 1;omega
theorem zD {p:Pg} (h:p.may=true):p.all.length≤200∧It.fx 0 p.all=true:=by
 unfold Pg.may at h
 split at h
 ·cases h
 ·split at h
  ·cases h
  ·split at h
   ·cases h
   ·rename_i c
    exact⟨by simp only[decide_eq_true_eq,Int.not_lt,gt_iff_lt]at c;omega,h⟩
theorem AA {p:Pg} (h:p.may=true):(∀ f∈p.procs,f.flat.map It.s=Sm.cL f.body)∧p.all.map It.s=p.pre:=by
 obtain⟨h1,h2⟩:=zD h
 have:=Lr p.procs [] h1 (Cz _ 0 h2).1
 simpa[Pg.pre,Pg.all]using this
theorem CA {p:Pg} (h:p.may=true) {i:Nat} {v:Sm} (hv:p.pre[i]? = some v):v.id=((i+1:Nat):Int):=by
 rw[← (AA h).2,List.getElem?_map,Option.map_eq_some_iff]at hv
 obtain⟨it,h1,rfl⟩:=hv
 have:=(Cz _ 0 (zD h).2).2 i it h1
 rw[this];congr 1;omega
set_option maxRecDepth 8000
open Go.Proofs
structure Pg.iX (p:Pg):Prop where
 Rc:p.JQ
 sz:p.size≤900000
mutual
theorem afs : ∀ s:Sm,s.xE→s.size<1000000→∀ v∈s.pre,v.nU∧v.va
 |⟨id,kind,labels,name,proc,x,has,args,bb,aP⟩,h,hs,v,m=>by
  simp only[Sm.xE]at h
  simp only[Sm.size]at hs
  simp only[Sm.pre,List.mem_cons,List.mem_append]at m
  rcases m with rfl|m|m
  ·exact⟨⟨h.1.xt,fun a ha=>(h.1.arg a ha).2.1,by dsimp only;omega⟩,h.1⟩
  ·exact Du bb h.2.1 (by omega) v m
  ·exact Du aP h.2.2 (by omega) v m
theorem Du : ∀ l:List Sm,Sm.kX l→Sm.a7 l<1000000→∀ v∈Sm.cL l,v.nU∧v.va
 | [],h,hs,v,m=>by simp[Sm.cL]at m
 |s::l,h,hs,v,m=>by
  simp only[Sm.kX]at h
  simp only[Sm.a7]at hs
  simp only[Sm.cL,List.mem_append]at m
  rcases m with m|m
  ·exact afs s h.1 (by omega) v m
  ·exact Du l h.2 (by omega) v m
end
theorem Pg.iX.said {p:Pg} (h:p.iX) {f:Pc} (hf:f∈p.procs) : ∀ v∈Sm.cL f.body,v.nU:=fun v m=>by
 have h1:=Pc.df hf
 have h2:=h.sz
 simp only[Pg.size]at h2
 simp only[Pc.size]at h1
 exact(Du f.body (h.Rc.body f hf) (by omega) v m).1
theorem Pg.iX.small {p:Pg} (h:p.iX) {f:Pc} (hf:f∈p.procs):f.Small p:=by
 have h1:=Pc.df hf
 have h2:=h.sz
 simp only[Pg.size]at h2
 simp only[Pc.size]at h1
 exact⟨by omega,by omega,by omega⟩
theorem Pg.iX.procs {p:Pg} (h:p.iX):p.procs.length≤900000∧Pc.a7 p.procs≤900000∧p.globals.length≤900000:=by
 have h2:=h.sz
 have h3:=Pc.dS p.procs
 simp only[Pg.size]at h2
 omega
def Pg.pn (p:Pg):List az:=p.procs.map (·.name)
def vf (p:Pg) (f:Pc) (procs:List az):List Sm→Option Sm
 | []=>none
 |v::l=>if v.known p f procs then vf p f procs l else some v
def qV (p:Pg) (procs:List az):List Pc→Int×Int
 | []=>(0,0)
 |f::l=>if fJ (p.globals++f.own)then(5,0)else match vf p f procs (Sm.cL f.body)with|some v=>(5,v.id)|none=>qV p procs l
def Pg.p8 (p:Pg):Bool:=match p.find dG with|none=>true|some m=>decide ((m.params.length:Int) > 0)
def Pg.scope (p:Pg):Int×Int:=
 if p.may then if fJ p.globals ||(fJ p.pn ||p.p8)then(5,0)else qV p p.pn p.procs else(1,0)
theorem Xw (p:Pg) (hl:p.globals.length<1000000) (n:az):aF Tryz.prog pE ([.str n]++ [.ptr 0 0]) ⟨[cB p],[]⟩ (.bool (e9 p.globals n)) ⟨[cB p],[]⟩:=by
 show aF Tryz.prog pE [.str n, .ptr 0 0] _ _ _
 have qv:=jW (l:=p.globals) (by omega) n
 refine aF.go DR rfl fun B Q hB hQ=>?_
 have⟨hD,hY,hZ,gA⟩:=bN
 repeat' (first
 |simp only[go_sem,hD,hY,hZ,gA]
 |(with_reducible refine CU (qv _ _) ?_)
 |(with_reducible refine aE hQ ?_;exact bo))
theorem Z1 (n m:Nat) (p:Pg):D.gH n m (fL p)=fL p:=iC n m _ (vb p)
attribute [go_sem] Z1
theorem abR {p:Pg} {f:Pc} {procs:List az} {v:Sm} (hs:f.Small p) (xJ:procs.length<1000000) (hv:v.nU) (g:Tag) (s:St):aF Tryz.prog q7 [.agg (cB p), .agg (cy f), .slice g 1 (procs.map encStr), .agg (bj v)] s (.bool (v.known p f procs)) s:=
 bP.sb (.cons (Wk.refl _) (.cons (Wk.refl _) (.cons (Wk.shared g 1 _) (jK.refl _)))) (abQ hs xJ hv s)
theorem wN {p:Pg} (h:p.iX) (s:St):aF Tryz.prog mJ [.agg (cB p)] s (.agg [.int .i64 p.scope.1, .int .i64 p.scope.2]) s:=by
 refine aF.pure ?_ (by simp[D.bJ,D.ok,jq]) rfl s
 have hm:=fun s=>Lj h.Rc s
 simp only[Ds]at hm
 obtain⟨sR,sE,sD⟩:=h.procs
 have dw:=fun s=>Dp (p:=p) (by omega) s
 have qx:=fun s=>EN (l:=p.globals) (by omega) .shared s
 have hpn:p.pn.length=p.procs.length:=by simp[Pg.pn]
 have Fo:=fun g s=>EN (l:=p.pn) (by omega) g s
 have Ls:=fun g s=>(Dq (l:=p.pn) (by omega) dG s).ZW (Wk.shared g 1 (p.pn.map encStr))
 have EO:=fun g s=>(show aF Tryz.prog gk [.slice g 1 (p.pn.map encStr), .str [109,97,105,110]] s (.int .i64 (iF dG 0 p.pn)) s from Ls g s)
 generalize hR:p.scope=R
 simp only[Pg.scope]at hR
 unfold S0
 rcases Bool.eq_false_or_eq_true p.may with hb|hb
 case inr=>
  simp only[hb]at hm
  simp only[hb,Bool.false_eq_true,if_false]at hR
  subst hR
  refine aF.go xy rfl fun B Q hB hQ=>?_
  have⟨hD,hY,hZ,gA⟩:=bN
  repeat' (first
 |simp only[go_sem,hD,hY,hZ,gA]
 |(with_reducible refine CU (hm _) ?_)
 |(with_reducible refine aE hQ ?_;exact bo))
 simp only[hb]at hm
 simp only[hb,if_true]at hR
 refine aF.go xy rfl fun B Q hB hQ=>?_
 have⟨hD,hY,hZ,gA⟩:=bN
 repeat' (first
 |simp only[go_sem,hD,hY,hZ,gA]
 |(with_reducible refine CU (hm _) ?_)
 |(with_reducible refine aE hQ ?_;exact bo))
 refine br.rn 3 1 rfl ?_
 simp only[go_sem,hD,hY,hZ,gA]
 refine fc 2 1 (br.ind (ι:=List Pc×Nat×List az×Nat) (fun i=>p.procs.drop i.2.1=i.1∧i.2.2.1++i.1.map (·.name)=p.pn∧i.2.2.2=i.2.2.1.length) (fun i=>i.1.length)
  (fun i=> [(1, .ptr 0 0),(2, .ptr 1 0),(3, .slice (.tok 0) 1 (i.2.2.1.map encStr)),(18, .slice .shared 5 (p.procs.map cy)),(19, .int .i64 (p.procs.length:Int)),(20, .int .i64 (i.2.1:Int))]) (fun i=>⟨[cB p,[.int .i64 0, .int .i64 0]],[some i.2.2.2]⟩) ?_ (p.procs,0,[],0) ⟨rfl,rfl,rfl⟩)
 rintro⟨rest,k,out,n⟩ ⟨h1,h2,h3⟩ IH
 dsimp only at h1 h2 h3
 subst h3
 have hlo:out.length+rest.length≤900000:=by
  have:=congrArg List.length h2
  simp only[List.length_append,List.length_map]at this
  omega
 cases rest with
 |cons a rest=>
  obtain⟨hY,g2,hD,g4⟩:=drop_cons h1
  have bW:k<4611686018427387904:=by omega
  have hZ:(out.length+1)*17≤bx:=by unfold bx;omega
  repeat' (first
 |simp only[go_sem,hD,hY,hZ,gA]
 |(with_reducible refine aE hQ ?_;exact bo))
  refine fe 2 1 ?_ ?_ (IH (rest,k+1,out++ [a.name],out.length+1) ⟨g2,by rw[← h2];simp,by simp⟩ (Nat.lt_succ_self _))
  ·(simp only[go_sem,hD,hY,hZ,gA,aJ bW,List.map_append,List.map_cons,List.map_nil,encStr];try exact cq)
  ·(simp only[go_sem,hD,hY,hZ,gA,aJ bW,List.map_append,List.map_cons,List.map_nil,encStr];try exact cq)
 | nil=>
  have hD:=drop_nil h1
  simp only[List.map_nil,List.append_nil]at h2
  subst h2
  rcases Bool.eq_false_or_eq_true (fJ p.globals)with b1|b1
  ·simp only [b1,Bool.true_or,if_true]at hR
   subst hR
   repeat' (first
 |simp only[go_sem,hD,hY,hZ,gA,b1]
 |(with_reducible refine CU (EO _ _) ?_)
 |(with_reducible refine CU (qx _) ?_)
 |(with_reducible refine CU (Fo _ _) ?_)
 | (with_reducible refine aE hQ ?_;exact bo))
  rcases Bool.eq_false_or_eq_true (fJ p.pn)with b2|b2
  ·simp only [b1,b2,Bool.true_or,Bool.or_true,if_true]at hR
   subst hR
   repeat' (first
 |simp only[go_sem,hD,hY,hZ,gA,b1,b2]
 |(with_reducible refine CU (EO _ _) ?_)
 |(with_reducible refine CU (qx _) ?_)
 |(with_reducible refine CU (Fo _ _) ?_)
 | (with_reducible refine aE hQ ?_;exact bo))
  rcases Lq dG p.procs 0 with ⟨e1,e2⟩|⟨m,j,e1,e2,e3⟩
  ·have b3:p.p8=true:=by unfold Pg.p8 Pg.find;rw [e1]
   have hi:iF dG 0 p.pn = -1:=e2
   simp only[b1,b2,b3,Bool.or_true,if_true]at hR
   subst hR
   simp only[hi]at EO
   have d1:decide ((-1:Int)<0)=true:=by decide
   repeat' (first
 |simp only[go_sem,hD,hY,hZ,gA,b1,b2,d1]
 |(with_reducible refine CU (EO _ _) ?_)
 |(with_reducible refine CU (qx _) ?_)
 |(with_reducible refine CU (Fo _ _) ?_)
 | (with_reducible refine aE hQ ?_;exact bo))
  have hi:iF dG 0 p.pn=((j:Nat):Int):=by rw[show p.pn=p.procs.map (·.name)from rfl];simpa using e3
  simp only[hi]at EO
  have d1:decide (((j:Nat):Int)<0)=false:=by simp
  have hj:j<p.procs.length:=(List.getElem?_eq_some_iff.1 e2).1
  have b3:p.p8=decide ((m.params.length:Int) > 0):=by unfold Pg.p8 Pg.find;rw[e1]
  rw[b3]at hR
  rcases Bool.eq_false_or_eq_true (decide ((m.params.length:Int) > 0))with b4|b4
  ·simp only [b1,b2,b4,Bool.or_true,if_true]at hR
   subst hR
   repeat' (first
 |simp only[go_sem,hD,hY,hZ,gA,b1,b2,d1,e2,b4]
 |(with_reducible refine CU (EO _ _) ?_)
 |(with_reducible refine CU (qx _) ?_)
 |(with_reducible refine CU (Fo _ _) ?_)
 |(with_reducible refine aE hQ ?_;exact bo))
  simp only[b1,b2,b4,Bool.or_false,Bool.false_eq_true,if_false]at hR
  repeat' (first
 |simp only[go_sem,hD,hY,hZ,gA,b1,b2,d1,e2,b4]
 |(with_reducible refine CU (EO _ _) ?_)
 |(with_reducible refine CU (qx _) ?_)
 |(with_reducible refine CU (Fo _ _) ?_)
 |(with_reducible refine CU (dw _) ?_)
 | (with_reducible refine aE hQ ?_;exact bo))
  refine fc 2 1 (br.ind (ι:=List Pc×Nat) (fun i=>p.procs.drop i.2=i.1∧qV p p.pn i.1=R) (fun i=>i.1.length)
   (fun i=> [(1, .ptr 0 0),(2, .ptr 1 0),(3, .slice (.tok 0) 1 (p.pn.map encStr)),(7, .dI (fL p) 0),(57, .slice .shared 5 (p.procs.map cy)),(58, .int .i64 (p.procs.length:Int)),(59, .int .i64 (i.2:Int))]) (fun i=>⟨[cB p,[.int .i64 0, .int .i64 0]],[some p.pn.length]⟩) ?_ (p.procs,0) ⟨rfl,hR⟩)
  clear IH h1 hD hR
  rintro⟨rest,k⟩ ⟨h1,hR⟩ IH
  dsimp only at h1 hR
  cases rest with
  |nil=>
   have hD:=drop_nil h1
   simp only[qV]at hR
   subst hR
   repeat' (first
 |simp only[go_sem,hD,hY,hZ,gA]
 | (with_reducible refine aE hQ ?_;exact bo))
  | cons f rest=>
   obtain⟨hY,g2,hD,g4⟩:=drop_cons h1
   have bW:k<4611686018427387904:=by omega
   have Bu:=List.mem_of_getElem? hY
   have wO:=h.small Bu
   have Uc:=fun s=>Z0 (f:=f) wO.par wO.vars s
   have jA:f.own.length<4611686018427387904:=by have h1:=wO.par;have h2:=wO.vars;unfold Pc.own Pc.sG;simp;omega
   have hto:=fun s=>EN (l:=f.own) jA .shared s
   have Ee:=fun {s:St} {o:Nat} (ho:s.ah[o]? = some (cB p))=>zB (l:=f.own) jA (f:=pE) (row:=cB p) (b:=e9 p.globals) (jq p) (by with_unfolding_all rfl) (fun x _=>Xw p wO.ve x) ho
   have Xx:=fun {s:St} {o:Nat} (ho:s.ah[o]? = some (cB p))=>(show aF Tryz.prog gn [.slice .shared 1 (f.own.map encStr), .gw 130 [.ptr o 0]] s (.bool (f.own.any (e9 p.globals))) s from Ee ho)
   simp only[qV,T9,b1,Bool.false_or]at hR
   rcases Bool.eq_false_or_eq_true (fJ f.own)with c1|c1
   ·simp only [c1,Bool.true_or,if_true]at hR
    subst hR
    repeat' (first
 |simp only[go_sem,hD,hY,hZ,gA,c1]
 |(with_reducible refine CU (Uc _) ?_)
 |(with_reducible refine CU (hto _) ?_)
 |(with_reducible refine CU (Xx (by with_unfolding_all rfl)) ?_)
 | (with_reducible refine aE hQ ?_;exact bo))
   rcases Bool.eq_false_or_eq_true (f.own.any (e9 p.globals))with c2|c2
   ·simp only [c1,c2,Bool.false_or,if_true]at hR
    subst hR
    repeat' (first
 |simp only[go_sem,hD,hY,hZ,gA,c1,c2]
 |(with_reducible refine CU (Uc _) ?_)
 |(with_reducible refine CU (hto _) ?_)
 |(with_reducible refine CU (Xx (by with_unfolding_all rfl)) ?_)
 | (with_reducible refine aE hQ ?_;exact bo))
   simp only[c1,c2,Bool.or_self,Bool.false_eq_true,if_false]at hR
   obtain⟨it,qA,xL⟩:=Xc hY (by omega)
   rw[← qA]at hR
   have afu:it.length≤900000:=by
    have e:=congrArg List.length qA
    have e2:=(lR p).2 k f hY
    obtain⟨a,b,e',_,_,e3,e4⟩:=e2
    have e5:=p6 p
    have e6:=congrArg List.length e3
    rw[e4]at e5
    simp only[List.length_map,List.length_append]at e e5 e6
    omega
   repeat' (first
 |simp only[go_sem,hD,hY,hZ,gA,c1,c2]
 |(with_reducible refine CU (Uc _) ?_)
 |(with_reducible refine CU (hto _) ?_)
 |(with_reducible refine CU (Xx (by with_unfolding_all rfl)) ?_)
 |(with_reducible refine CU (xL _) ?_)
 | (with_reducible refine aE hQ ?_;exact bo))
   obtain⟨q,hq⟩ : ∃ q,vf p f p.pn (it.map Im.s)=q:=⟨_,rfl⟩
   rw[hq]at hR
   refine fc 3 1 (br.ind (ι:=List Im×Nat) (fun i=>it.drop i.2=i.1∧vf p f p.pn (i.1.map Im.s)=q) (fun i=>i.1.length)
    (fun i=> [(1, .ptr 0 0),(2, .ptr 1 0),(3, .slice (.tok 0) 1 (p.pn.map encStr)),(7, .dI (fL p) 0),(9, .ptr 2 0),(57, .slice .shared 5 (p.procs.map cy)),(58, .int .i64 (p.procs.length:Int)),(59, .int .i64 (k:Int)),(76, .slice .shared 17 (it.map dF)),(77, .int .i64 (it.length:Int)),(78, .int .i64 (i.2:Int))]) (fun i=>⟨[cB p,[.int .i64 0, .int .i64 0],cy f],[some p.pn.length]⟩) ?_ (it,0) ⟨rfl,hq⟩)
   rintro⟨Df,n⟩ ⟨j1,j2⟩ Z2
   dsimp only at j1 j2
   have Bl:=hD
   cases Df with
   |nil=>
    have aqA:=drop_nil j1
    simp only[List.map_nil,vf]at j2
    subst j2
    simp only at hR
    repeat' (first
 |simp only[go_sem,hD,hY,hZ,gA,aqA]
 | (with_reducible refine aE hQ ?_;exact bo))
    refine fe 2 1 ?_ ?_ (IH (rest,k+1) ⟨g2,hR⟩ (Nat.lt_succ_self _))
    ·(simp only[go_sem,hD,hY,hZ,gA,aJ bW];try exact cq)
    ·(simp only[go_sem,hD,hY,hZ,gA,aJ bW];try exact cq)
   | cons i Df=>
    obtain⟨p9,NR,zE,jg4⟩:=drop_cons j1
    have zF:n<4611686018427387904:=by omega
    have F5:i.s∈Sm.cL f.body:=by rw[← qA];exact List.mem_map_of_mem (List.mem_of_getElem? p9)
    have hkn:=abR (v:=i.s) wO (procs:=p.pn) (by omega) (h.said Bu _ F5)
    simp only[List.map_cons,vf]at j2
    rcases Bool.eq_false_or_eq_true (i.s.known p f p.pn)with c3|c3
    ·simp only [c3,if_true]at j2
     repeat' (first
 |simp only[go_sem,hD,hY,hZ,gA,zE,p9,c3]
 |(with_reducible refine CU (hkn _ _) ?_)
 | (with_reducible refine aE hQ ?_;exact bo))
     refine fe 3 1 ?_ ?_ (Z2 (Df,n+1) ⟨NR,j2⟩ (Nat.lt_succ_self _))
     ·(simp only[go_sem,hD,hY,hZ,gA,aJ zF];try exact cq)
     ·(simp only[go_sem,hD,hY,hZ,gA,aJ zF];try exact cq)
    ·simp only [c3,Bool.false_eq_true,if_false]at j2
     subst j2
     simp only at hR
     subst hR
     repeat' (first
 |simp only[go_sem,hD,hY,hZ,gA,zE,p9,c3]
 |(with_reducible refine CU (hkn _ _) ?_)
 |(with_reducible refine aE hQ ?_;exact bo))
end Go.Abs
namespace Go.Abs
mutual
def Ex.oV:Ex→Prop
 |⟨_,n,_,kids⟩=>n≤9223372036854775807∧Ex.qM kids
def Ex.qM:List Ex→Prop
 | []=>True
 |x::l=>x.oV∧Ex.qM l
end
mutual
def Sm.oV:Sm→Prop
 |⟨_,_,_,_,_,x,_,args,bb,aP⟩=>x.oV∧(∀ a∈args,a.x.oV)∧Sm.qM bb∧Sm.qM aP
def Sm.qM:List Sm→Prop
 | []=>True
 |s::l=>s.oV∧Sm.qM l
end
def Pg.oV (p:Pg):Prop:=∀ f∈p.procs,Sm.qM f.body
theorem Iv {f:Pc} : ∀ {l:List Pc} {n:Nat},Pc.fz n l=true→f∈l→(isName f.name=true∧e7 f.vars=true∧e7 f.fin=true∧Pm.fx f.params=true)∧∃ n,(Sm.gI 1 n f.body).1=true
 |g::l,n,h,m=>by
  simp only[Pc.fz]at h
  split at h
  ·cases h
  rename_i c1
  split at h
  ·cases h
  rename_i c2
  split at h
  ·cases h
  rename_i c3
  simp only[Bool.or_eq_true,Bool.not_eq_true',not_or,Bool.not_eq_false]at c1 c2 c3
  rcases List.mem_cons.1 m with rfl|m
  ·exact⟨⟨c1.1.1.2,c1.1.2,c1.2,c2⟩,n,c3⟩
  ·exact Iv h m
mutual
theorem Re : ∀ (s:Sm) (nest:Int) (n:Nat),(Sm.qJ nest n s).1=true→s.size<4611686018427387000→s.xE
 |⟨id,kind,labels,name,proc,x,has,args,bb,aP⟩,nest,n,hm,hs=>by
  obtain⟨_,_,h1,h2,h3,_⟩:=Ir hm
  rw[EL]
  rw[(uy h2).2]at h2
  rw[(uy h3).2]at h3
  refine⟨Lm h1 hs,vL bb _ _ h2 ?_,vL aP _ _ h3 ?_⟩<;>simp only[Sm.size]at hs<;>omega
theorem vL : ∀ (l:List Sm) (nest:Int) (n:Nat),(Sm.fz nest n l).1=true→Sm.a7 l<4611686018427387000→Sm.kX l
 | [],_,_,_,_=>by simp only[Sm.kX]
 |s::l,nest,n,hm,hs=>by
  simp only[Sm.fz]at hm
  simp only[Sm.a7]at hs
  split at hm
  ·cases hm
  rename_i hc
  simp only[Bool.not_eq_true',Bool.not_eq_false]at hc
  exact⟨Re s nest n hc (by omega),vL l nest _ hm (by omega)⟩
end
theorem Iw {p:Pg} (h:p.may=true) (hs:p.size<4611686018427387000):p.JQ:=by
 have hf:=Xq h hs
 rw[← Ds]at h
 unfold Pg.Ht at h
 split at h
 ·cases h
 refine⟨hf.sz,hf.ve,hf.mC,fun f m=>?_⟩
 obtain⟨_,n,e⟩:=Iv h m
 rw[(uy e).2]at e
 have:=Pc.df m
 simp only[Pg.size]at hs
 exact vL f.body 1 n e (by unfold Pc.size at this;omega)
set_option maxRecDepth 8000
open Go.Proofs
theorem Xy (x:It):(fW x)[1]? = some (.int .i64 x.s.kind):=nd rfl
theorem Xz (x:It):(fW x)[3]? = some (.str x.s.name):=nd rfl
theorem XA (x:It):(fW x)[4]? = some (.str x.s.proc):=nd rfl
theorem abS (x:It):List.take 16 (fW x)=fW x:=nd rfl
attribute [go_sem] Xy Xz XA abS
end Go.Abs
namespace Go.Abs
set_option maxRecDepth 8000
open Go.Proofs
def xM:List Pm→List Ar→Bool
 | [],_=>true
 |_,[]=>true
 |a::l,b::m=>if a.ref==b.ref then xM l m else false
def xN (l:List Pm) (m:List Ar):Bool:=if(l.length:Int)==(m.length:Int)then xM l m else false
def Sm.oD (p:Pg) (v:Sm):Bool:=v.kind==4 && match p.find v.proc with|none=>false|some q=>xN q.params v.args
theorem afv {l:List Pm} {m:List Ar} (hl:l.length<1000000000) (hm:m.length<1000000000) (s:St):aF Tryz.prog wC [.slice .shared 2 (l.map il), .slice .shared 6 (m.map eC)] s (.bool (xN l m)) s:=by
 refine aF.pure ?_ (by simp[D.bJ,D.ok,Tag.ok,ahV,JL]) rfl s
 generalize h:xN l m=q
 simp only[xN]at h
 unfold S0
 have b0:((l.length:Int) != (m.length:Int)) = !((l.length:Int)==(m.length:Int)):=rfl
 rcases Bool.eq_false_or_eq_true ((l.length:Int)==(m.length:Int))with b1|b1
 case inr=>
  rw[b1]at b0
  simp only[b1,Bool.false_eq_true,if_false]at h
  subst h
  refine aF.go zt rfl fun B Q hB hQ=>?_
  have⟨hD,hY,hZ,gA⟩:=bN
  repeat' (first
 |simp only[go_sem,hD,hY,hZ,gA,b0,Bool.not_false]
 |(with_reducible refine aE hQ ?_;exact bo))
 rw[b1]at b0
 simp only[b1,if_true]at h
 have Z3:l.length=m.length:=by have:=eq_of_beq b1;omega
 refine aF.go zt rfl fun B Q hB hQ=>?_
 have⟨hD,hY,hZ,gA⟩:=bN
 repeat' (first
 |simp only[go_sem,hD,hY,hZ,gA,b0,Bool.not_true]
 |(with_reducible refine aE hQ ?_;exact bo))
 refine fc 0 0 (br.ind (ι:=List Pm×List Ar×Nat) (fun i=>l.drop i.2.2=i.1∧m.drop i.2.2=i.2.1∧xM i.1 i.2.1=q) (fun i=>i.1.length)
  (fun i=> [(1, .slice .shared 6 (m.map eC)),(12, .slice .shared 2 (l.map il)),(13, .int .i64 (l.length:Int)),(14, .int .i64 (i.2.2:Int))]) (fun i=>⟨[],[]⟩) ?_ (l,m,0) ⟨rfl,rfl,h⟩)
 rintro⟨r1,r2,k⟩ ⟨h1,h2,h⟩ IH
 dsimp only at h1 h2 h
 cases r1 with
 |nil=>
  have hD:=drop_nil h1
  simp only[xM]at h
  subst h
  repeat' (first
 |simp only[go_sem,hD,hY,hZ,gA]
 |(with_reducible refine aE hQ ?_;exact bo))
 | cons a r1=>
  obtain⟨hY,g2,hD,g4⟩:=drop_cons h1
  cases r2 with
  |nil=>have:=List.drop_eq_nil_iff.1 h2;omega
  | cons b r2=>
   obtain⟨Z4,b2,Rf,_⟩:=drop_cons h2
   have bW:k<4611686018427387904:=by omega
   simp only[xM]at h
   have w1:(true==true)=true:=rfl
   have w2:(false==false)=true:=rfl
   have w3:(true==false)=false:=rfl
   have w4:(false==true)=false:=rfl
   have v1:(true != true)=false:=rfl
   have v2:(false != false)=false:=rfl
   have v3:(true != false)=true:=rfl
   have v4:(false != true)=true:=rfl
   rcases Bool.eq_false_or_eq_true a.ref with ea|ea
   ·rcases Bool.eq_false_or_eq_true b.ref with eb | eb
    ·simp only [ea,eb,w1,w2,if_true]at h
     repeat' (first
 |simp only[go_sem,hD,hY,hZ,gA,Z4,Rf,ea,eb,w1,w2,v1,v2]
 | (with_reducible refine aE hQ ?_;exact bo))
     refine fe 0 0 ?_ ?_ (IH (r1,r2,k+1) ⟨g2,b2,h⟩ (Nat.lt_succ_self _))
     ·(simp only[go_sem,hD,hY,hZ,gA,aJ bW];try exact cq)
     ·(simp only[go_sem,hD,hY,hZ,gA,aJ bW];try exact cq)
    ·simp only [ea,eb,w3,w4,Bool.false_eq_true,if_false]at h
     subst h
     repeat' (first
 |simp only[go_sem,hD,hY,hZ,gA,Z4,Rf,ea,eb,w3,w4,v3,v4]
 | (with_reducible refine aE hQ ?_;exact bo))
   ·rcases Bool.eq_false_or_eq_true b.ref with eb | eb
    ·simp only [ea,eb,w3,w4,Bool.false_eq_true,if_false]at h
     subst h
     repeat' (first
 |simp only[go_sem,hD,hY,hZ,gA,Z4,Rf,ea,eb,w3,w4,v3,v4]
 | (with_reducible refine aE hQ ?_;exact bo))
    ·simp only [ea,eb,w1,w2,if_true]at h
     repeat' (first
 |simp only[go_sem,hD,hY,hZ,gA,Z4,Rf,ea,eb,w1,w2,v1,v2]
 |(with_reducible refine aE hQ ?_;exact bo))
     refine fe 0 0 ?_ ?_ (IH (r1,r2,k+1) ⟨g2,b2,h⟩ (Nat.lt_succ_self _))
     ·(simp only[go_sem,hD,hY,hZ,gA,aJ bW];try exact cq)
     ·(simp only[go_sem,hD,hY,hZ,gA,aJ bW];try exact cq)
theorem afw {p:Pg} {v:Sm} (h:p.iX) (hv:v.nU) (s:St):aF Tryz.prog wz [.agg (cB p), .agg (bj v)] s (.bool (v.oD p)) s:=by
 refine aF.pure ?_ (by simp[D.bJ,D.ok,jq,sf]) rfl s
 obtain⟨sR,sE,sD⟩:=h.procs
 have vw:v.args.length<1000000000:=by have:=Ar.dS v.args;have:=hv.2.2;omega
 generalize hR:v.oD p=R
 simp only[Sm.oD]at hR
 unfold S0
 have b0:(v.kind != 4) = !(v.kind==4):=rfl
 rcases Bool.eq_false_or_eq_true (v.kind==4)with b1|b1
 case inr=>
  rw[b1]at b0
  simp only[b1,Bool.false_and]at hR
  subst hR
  refine aF.go zv rfl fun B Q hB hQ=>?_
  have⟨hD,hY,hZ,gA⟩:=bN
  repeat' (first
 |simp only[go_sem,hD,hY,hZ,gA,b0,Bool.not_false]
 |(with_reducible refine aE hQ ?_;exact bo))
 rw[b1]at b0
 simp only[b1,Bool.true_and,Pg.find]at hR
 refine aF.go zv rfl fun B Q hB hQ=>?_
 have⟨hD,hY,hZ,gA⟩:=bN
 repeat' (first
 |simp only[go_sem,hD,hY,hZ,gA,b0,Bool.not_true]
 |(with_reducible refine aE hQ ?_;exact bo))
 refine fc 2 0 (br.ind (ι:=List Pc×Nat) (fun i=>p.procs.drop i.2=i.1∧(match iw v.proc i.1 with|none=>false|some q=>xN q.params v.args)=R) (fun i=>i.1.length)
  (fun i=> [(3, .ptr 1 0),(11, .slice .shared 5 (p.procs.map cy)),(12, .int .i64 (p.procs.length:Int)),(13, .int .i64 (i.2:Int))]) (fun i=>⟨[cB p,bj v],[]⟩) ?_ (p.procs,0) ⟨rfl,hR⟩)
 clear hR
 rintro⟨rest,k⟩ ⟨h1,hR⟩ IH
 dsimp only at h1 hR
 cases rest with
 |nil=>
  have hD:=drop_nil h1
  simp only[iw]at hR
  subst hR
  repeat' (first
 |simp only[go_sem,hD,hY,hZ,gA]
 |(with_reducible refine aE hQ ?_;exact bo))
 | cons a rest=>
  obtain⟨hY,g2,hD,g4⟩:=drop_cons h1
  have bW:k<4611686018427387904:=by omega
  have wO:=h.small (List.mem_of_getElem? hY)
  have ZY:=fun s=>afv (l:=a.params) (m:=v.args) (by have:=wO.par;omega) vw s
  simp only[iw]at hR
  rcases Bool.eq_false_or_eq_true (a.name==v.proc)with c1|c1
  ·simp only [c1,if_true]at hR
   subst hR
   repeat' (first
 |simp only[go_sem,hD,hY,hZ,gA,c1]
 |(with_reducible refine CU (ZY _) ?_)
 | (with_reducible refine aE hQ ?_;exact bo))
  ·simp only [c1,Bool.false_eq_true,if_false]at hR
   repeat' (first
 |simp only[go_sem,hD,hY,hZ,gA,c1]
 | (with_reducible refine aE hQ ?_;exact bo))
   refine fe 2 0 ?_ ?_ (IH (rest,k+1) ⟨g2,hR⟩ (Nat.lt_succ_self _))
   ·(simp only[go_sem,hD,hY,hZ,gA,aJ bW];try exact cq)
   ·(simp only[go_sem,hD,hY,hZ,gA,aJ bW];try exact cq)
def Ef (p:Pg):List Sm→Option Sm
 | []=>none
 |v::l=>if v.kind==4 && !(v.oD p)then some v else Ef p l
def oW (c:Int):Option Sm→Int×Int
 |some v=>(c,v.id)
 |none=>(0,0)
def Pg.arity (p:Pg):Int×Int:=if p.scope.1==0 then oW 6 (Ef p p.pre)else(1,0)
theorem Pg.iX.pre {p:Pg} (h:p.iX) : ∀ v∈p.pre,v.nU:=fun v m=>by
 simp only[Pg.pre,List.mem_flatten,List.mem_map]at m
 obtain⟨l,⟨f,hf,rfl⟩,m⟩:=m
 exact h.said hf v m
theorem Lt {p:Pg} (h:p.iX) (s:St):aF Tryz.prog q6 [.agg (cB p)] s (.agg [.int .i64 p.arity.1, .int .i64 p.arity.2]) s:=by
 refine aF.pure ?_ (by simp[D.bJ,D.ok,jq]) rfl s
 obtain⟨sR,sE,sD⟩:=h.procs
 have qv:=fun s=>wN h s
 have dw:=fun s=>Dp (p:=p) (by omega) s
 have hL:=(lR p).1
 have xO:=p6 p
 generalize hR:p.arity=R
 simp only[Pg.arity]at hR
 unfold S0
 have b0:(p.scope.1 != 0) = !(p.scope.1==0):=rfl
 rcases Bool.eq_false_or_eq_true (p.scope.1==0)with b1|b1
 case inr=>
  rw[b1]at b0
  simp only[b1,Bool.false_eq_true,if_false]at hR
  subst hR
  refine aF.go xA rfl fun B Q hB hQ=>?_
  have⟨hD,hY,hZ,gA⟩:=bN
  repeat' (first
 |simp only[go_sem,hD,hY,hZ,gA,b0,Bool.not_false]
 |(with_reducible refine CU (qv _) ?_)
 |(with_reducible refine aE hQ ?_;exact bo))
 rw[b1]at b0
 simp only[b1,if_true, ← hL]at hR
 refine aF.go xA rfl fun B Q hB hQ=>?_
 have⟨hD,hY,hZ,gA⟩:=bN
 repeat' (first
 |simp only[go_sem,hD,hY,hZ,gA,b0,Bool.not_true,oA]
 |(with_reducible refine CU (qv _) ?_)
 |(with_reducible refine CU (dw _) ?_)
 |(with_reducible refine aE hQ ?_;exact bo))
 refine fc 2 0 (br.ind (ι:=List Im×Nat) (fun i=>p.bg.L.drop i.2=i.1∧oW 6 (Ef p (i.1.map Im.s))=R) (fun i=>i.1.length)
  (fun i=> [(1, .ptr 0 0),(2, .ptr 1 0),(14, .slice .shared 17 (p.bg.L.map dF)),(15, .int .i64 (p.bg.L.length:Int)),(16, .int .i64 (i.2:Int))]) (fun i=>⟨[cB p,[.int .i64 0, .int .i64 0]],[]⟩) ?_ (p.bg.L,0) ⟨rfl,hR⟩)
 clear hR
 rintro⟨rest,k⟩ ⟨h1,hR⟩ IH
 dsimp only at h1 hR
 cases rest with
 |nil=>
  have hD:=drop_nil h1
  simp only[List.map_nil,Ef,oW]at hR
  subst hR
  repeat' (first
 |simp only[go_sem,hD,hY,hZ,gA]
 |(with_reducible refine aE hQ ?_;exact bo))
 | cons a rest=>
  obtain⟨hY,g2,hD,g4⟩:=drop_cons h1
  have bW:k<4611686018427387904:=by omega
  have F5:a.s∈p.pre:=by rw[← hL];exact List.mem_map_of_mem (List.mem_of_getElem? hY)
  have NS:=fun s=>afw h (h.pre _ F5) s
  simp only[List.map_cons,Ef]at hR
  rcases Bool.eq_false_or_eq_true (a.s.kind==4)with c1|c1
  ·rcases Bool.eq_false_or_eq_true (a.s.oD p)with c2 | c2
   ·simp only [c1,c2,Bool.not_true,Bool.and_false,Bool.false_eq_true,if_false]at hR
    repeat' (first
 |simp only[go_sem,hD,hY,hZ,gA,c1,c2]
 |(with_reducible refine CU (NS _) ?_)
 | (with_reducible refine aE hQ ?_;exact bo))
    refine fe 2 0 ?_ ?_ (IH (rest,k+1) ⟨g2,hR⟩ (Nat.lt_succ_self _))
    ·(simp only[go_sem,hD,hY,hZ,gA,aJ bW];try exact cq)
    ·(simp only[go_sem,hD,hY,hZ,gA,aJ bW];try exact cq)
   ·simp only [c1,c2,Bool.not_false,Bool.and_true,if_true,oW]at hR
    subst hR
    repeat' (first
 |simp only[go_sem,hD,hY,hZ,gA,c1,c2]
 |(with_reducible refine CU (NS _) ?_)
 | (with_reducible refine aE hQ ?_;exact bo))
  ·simp only [c1,Bool.false_and,Bool.false_eq_true,if_false]at hR
   repeat' (first
 |simp only[go_sem,hD,hY,hZ,gA,c1]
 |(with_reducible refine CU (NS _) ?_)
 | (with_reducible refine aE hQ ?_;exact bo))
   refine fe 2 0 ?_ ?_ (IH (rest,k+1) ⟨g2,hR⟩ (Nat.lt_succ_self _))
   ·(simp only[go_sem,hD,hY,hZ,gA,aJ bW];try exact cq)
   ·(simp only[go_sem,hD,hY,hZ,gA,aJ bW];try exact cq)
theorem CC {p:Pg} (h:(p.scope.1==0)=true):p.may=true:=by
 unfold Pg.scope at h
 split at h
 ·assumption
 ·cases h
def nW (out:List az):List az→az→Bool→az×Bool
 | [],c,a=>(c,a)
 |s::l,c,a=>if !(e9 out s) && (!a ||bytesLess s c)then nW out l s true else nW out l c a
def Ue (l out:List az):List az:=if(nW out l [] false).2 then out++ [(nW out l [] false).1]else out
def qo (l:List az):Nat→List az→List az
 | 0,out=>out
 |n+1,out=>qo l n (Ue l out)
def jY (l:List az):List az:=qo l l.length []
end Go.Abs
namespace Go.Proofs
open Go.Shelf
def Tryz.M9:Go.Shelf.Ren:=⟨fun| 190=>173| 125=>194| 258=>193| 128=>217| 129=>218| 302=>208| 303=>209| 304=>210| 305=>211| 306=>212| 307=>213| 308=>214| 309=>215| 310=>216| 333=>224| 329=>225| 330=>226| 334=>227| 335=>228| 336=>229| 344=>230|n=>n,fun| 31=>22| 9=>9| 3=>3| 46=>208| 0=>0| 51=>227| 53=>194| 4=>4| 183=>220| 182=>219| 131=>139| 5=>5| 218=>231| 222=>235| 228=>237| 229=>238|n=>n,fun|n=>n⟩
theorem Tryz.NT:Go.Proofs.Lays.n190 Tryz.prog Tryz.M9:= {
 mixed:=by kernel_rfl
 f125:=Tryz.func194.trans (congrArg some (by kernel_rfl))
 f128:=Tryz.func217.trans (congrArg some (by kernel_rfl))
 f129:=Tryz.func218.trans (congrArg some (by kernel_rfl))
 f190:=Tryz.func173.trans (congrArg some (by kernel_rfl))
 f258:=Tryz.func193.trans (congrArg some (by kernel_rfl))
 f302:=Tryz.func208.trans (congrArg some (by kernel_rfl))
 f303:=Tryz.func209.trans (congrArg some (by kernel_rfl))
 f304:=Tryz.func210.trans (congrArg some (by kernel_rfl))
 f305:=Tryz.func211.trans (congrArg some (by kernel_rfl))
 f306:=Tryz.func212.trans (congrArg some (by kernel_rfl))
 f307:=Tryz.func213.trans (congrArg some (by kernel_rfl))
 f308:=Tryz.func214.trans (congrArg some (by kernel_rfl))
 f309:=Tryz.func215.trans (congrArg some (by kernel_rfl))
 f310:=Tryz.func216.trans (congrArg some (by kernel_rfl))
 f329:=Tryz.func225.trans (congrArg some (by kernel_rfl))
 f330:=Tryz.func226.trans (congrArg some (by kernel_rfl))
 f333:=Tryz.func224.trans (congrArg some (by kernel_rfl))
 f334:=Tryz.func227.trans (congrArg some (by kernel_rfl))
 f335:=Tryz.func228.trans (congrArg some (by kernel_rfl))
 f336:=Tryz.func229.trans (congrArg some (by kernel_rfl))
 f344:=Tryz.func230.trans (congrArg some (by kernel_rfl))
 t0:=Tryz.underlying0
 a0:=Tryz.isAgg0
 z0:=Tryz.sizeOf0
 v0:=Tryz.zeroValue0
 t3:=Tryz.underlying3
 a3:=Tryz.isAgg3
 z3:=Tryz.sizeOf3
 v3:=Tryz.zeroValue3
 t4:=Tryz.underlying4
 a4:=Tryz.isAgg4
 z4:=Tryz.sizeOf4
 v4:=Tryz.zeroValue4
 t5:=Tryz.underlying5
 a5:=Tryz.isAgg5
 z5:=Tryz.sizeOf5
 v5:=Tryz.zeroValue5
 t9:=Tryz.underlying9
 a9:=Tryz.isAgg9
 z9:=Tryz.sizeOf9
 v9:=Tryz.zeroValue9
 t31:=Tryz.underlying22
 a31:=Tryz.isAgg22
 z31:=Tryz.sizeOf22
 v31:=Tryz.zeroValue22
 t46:=Tryz.underlying208
 a46:=Tryz.isAgg208
 z46:=Tryz.sizeOf208
 v46:=Tryz.zeroValue208
 t51:=Tryz.underlying227
 a51:=Tryz.isAgg227
 z51:=Tryz.sizeOf227
 v51:=Tryz.zeroValue227
 t53:=Tryz.underlying194
 a53:=Tryz.isAgg194
 z53:=Tryz.sizeOf194
 v53:=Tryz.zeroValue194
 t131:=Tryz.underlying139
 a131:=Tryz.isAgg139
 z131:=Tryz.sizeOf139
 v131:=Tryz.zeroValue139
 t182:=Tryz.underlying219
 a182:=Tryz.isAgg219
 z182:=Tryz.sizeOf219
 v182:=Tryz.zeroValue219
 t183:=Tryz.underlying220
 a183:=Tryz.isAgg220
 z183:=Tryz.sizeOf220
 v183:=Tryz.zeroValue220
 t218:=Tryz.underlying231
 a218:=Tryz.isAgg231
 z218:=Tryz.sizeOf231
 v218:=Tryz.zeroValue231
 t222:=Tryz.underlying235
 a222:=Tryz.isAgg235
 z222:=Tryz.sizeOf235
 v222:=Tryz.zeroValue235
 t228:=Tryz.underlying237
 a228:=Tryz.isAgg237
 z228:=Tryz.sizeOf237
 v228:=Tryz.zeroValue237
 t229:=Tryz.underlying238
 a229:=Tryz.isAgg238
 z229:=Tryz.sizeOf238
 v229:=Tryz.zeroValue238}
open Go.Sort Go.RowKit in
theorem Tryz.slices_Sort_string (CD off cap:Nat) (ss:List (List UInt8)) (w:World) (hH:Holds encStr w CD off ss.toArray) (aqB:CD<w.heap.size) (dP:ss.length<4611686018427387904) :
 Calls Tryz.prog 173 #[.slice (some ⟨CD,off,none⟩) ss.length cap] w fun e w'=>
  e = .returned (.tuple #[])∧∃ n os,w'=grow (putRow encStr (Sort.ahead w n) CD off (ss.mergeSort fun x y=>decide (x≤y)).toArray) os:=Any.slices_Sort_string Tryz.NT CD off cap ss w hH aqB dP
def Tryz.Na:Go.Shelf.Ren:=⟨fun| 194=>174|n=>n,fun| 31=>22| 9=>9| 3=>3| 4=>4| 0=>0|n=>n,fun|n=>n⟩
theorem Tryz.NU:Go.Proofs.Lays.n194 Tryz.prog Tryz.Na:= {
 mixed:=by kernel_rfl
 f194:=Tryz.func174.trans (congrArg some (by kernel_rfl))
 t0:=Tryz.underlying0
 a0:=Tryz.isAgg0
 z0:=Tryz.sizeOf0
 v0:=Tryz.zeroValue0
 t3:=Tryz.underlying3
 a3:=Tryz.isAgg3
 z3:=Tryz.sizeOf3
 v3:=Tryz.zeroValue3
 t4:=Tryz.underlying4
 a4:=Tryz.isAgg4
 z4:=Tryz.sizeOf4
 v4:=Tryz.zeroValue4
 t9:=Tryz.underlying9
 a9:=Tryz.isAgg9
 z9:=Tryz.sizeOf9
 v9:=Tryz.zeroValue9
 t31:=Tryz.underlying22
 a31:=Tryz.isAgg22
 z31:=Tryz.sizeOf22
 v31:=Tryz.zeroValue22}
open Go.RowKit Go.Lib Go.Sort in
theorem Tryz.slices_Compact_string (CD off cap:Nat) (zs:List (List UInt8)) (w:World) (hH:Holds encStr w CD off zs.toArray) (dP:zs.length≤9223372036854775807) (uL:zs.length≤cap) :
 Calls Tryz.prog 174 #[.slice (some ⟨CD,off,none⟩) zs.length cap] w fun e w'=>e = .returned (.slice (some ⟨CD,off,none⟩) (Lib.compact zs).length cap)∧∃ q,w'=putRow encStr (Sort.ahead w q) CD off (Lib.compact zs++List.replicate (zs.length - (Lib.compact zs).length) []).toArray:=Any.slices_Compact_string Tryz.NU CD off cap zs w hH dP uL
open Go.RowKit Go.Lib Go.Sort in
theorem Tryz.slices_Compact_string_empty (a:Option Addr) (cap:Nat) (w:World) :
 Calls Tryz.prog 174 #[.slice a 0 cap] w fun e w'=>e = .returned (.slice a 0 cap)∧w'=w:=Any.slices_Compact_string_empty Tryz.NU a cap w
open Go.RowKit Go.Sort in
theorem Tryz.slices_Sort_string_none (p:Option Addr) (cap:Nat) (w:World) :
 Calls Tryz.prog 173 #[.slice p 0 cap] w fun e w'=>e = .returned (.tuple #[])∧w'=w:=Any.slices_Sort_string_none Tryz.NT p cap w
end Go.Proofs
namespace Go.Abs
open Go.Proofs
section
variable {P:Program} {B:gi} {nt:Nat}
theorem abT {x:Operand} {t:Nat} (h:cX x=some (.s t)):x = .tmp t:=by
 unfold cX at h
 split at h
 ·cases h;rfl
 ·obtain⟨d,_,h⟩:=map_some h;cases h
 ·cases h
 ·cases h
theorem Rh {ops:Array Oper} {o:Oper} {g g':Option (Nat×Bool)} {dst:Option Nat} {f:Nat} {xs:List X} (h:tA P ops o g=some (.call dst g' f xs)) :
 g'=g∧∃ args nr,o.op = .call ⟨.value (.func f),args,nr⟩∧enters P f=true∧yR args.toList=some xs:=by
 unfold tA at h
 split at h
 ·rename_i f' args nr nq
  split at h
  ·rename_i he
   obtain⟨xs',h1,h2⟩:=map_some h
   cases h2
   exact⟨rfl,args,nr,nq,he,h1⟩
  ·cases h
 ·obtain⟨_,_,h⟩:=map_some h;cases h
 ·split at h
  ·cases h
  ·split at h<;>cases h
theorem Uf {ops:Array Oper} {o:Oper} {tmps:Array Value} (hg:v7 ops o.guard=some none):Region.wanted o (yielded ops tmps)=true:=by
 have:o.guard=none:=by
  cases HV:o.guard with
  |none=>rfl
  |some p=>
   obtain⟨j,b⟩:=p
   rw[HV]at hg
   unfold v7 at hg
   simp only at hg
   split at hg<;>cases hg
 simp[Region.wanted,this]
theorem Sem.afy {a k b f:Nat} {is:List AI} {Q:Exit→Tm→St→Prop} {tm:Tm} {s:St}
 (Ri : ∀ act w,Holds B nt (tm.put (some a) (tm.get k)) s act w→Calls P f #[act.tmps.getD a Go.undef] w fun e w'=>∃ v,e = .returned v∧∃ bD s',Holds B nt bD s' (act.put (some b) v) w'∧jm P is (Q .normal) bD s') :
 Sem P B nt (.run (.op (some a) none (.mv (.s k)):: .call (some b) none f [.s a]::is)) Q tm s:=by
 intro c hc act w hh
 obtain⟨id,ops,rfl,hi⟩:=mr hc
 refine wp_region ?_
 have key : ∀ (l:List Nat) (ol:List Oper),l.map (ops[·]?)=ol.map some→rR P nt ops ol=some (.op (some a) none (.mv (.s k)):: .call (some b) none f [.s a]::is)→wpOps P ops (qD B nt Q) l act w:=by
  intro l ol hl yi
  match ol,l,hl with
  | [],_,_=>simp[rR]at yi
  |o0::ol,[],hl=>simp at hl
  | o0::ol,j0::l,hl=>
   simp only[List.map_cons,List.cons.injEq]at hl
   obtain⟨hj0,hl⟩:=hl
   unfold rR at yi
   split at yi
   ·rename_i i0 is0 h1 h2
    cases yi
    match ol,l,hl,h2 with
    | [],_,_,h2=>simp[rR]at h2
    |o1::ol,[],hl,_=>simp at hl
    | o1::ol,j1::l,hl,h2=>
     simp only[List.map_cons,List.cons.injEq]at hl
     obtain⟨hj1,hl⟩:=hl
     unfold rR at h2
     split at h2
     ·rename_i i1 is1 h3 h4
      cases h2
      obtain⟨M,e,r,ht,hn,hd⟩:=hh
      have Ii:=ui h1
      have Ix:=ui h3
      simp only[AI.dst]at Ii Ix
      refine yh (K':=fun bD s'=>bD=tm.put (some a) (tm.get k)∧s'=s) hj0 h1 r (B.laid.ext e) ht (by simp only[jm,guarded,aM,X.ev,and_self]) (fun d v s1 w1 M1 hk e1 r1 hv=>?_)
      obtain⟨xg,rfl⟩:=hk
      have hH:=Holds.put e ht hn hd (ze h1) e1 r1 hv
      simp only[AI.dst]at xg
      rw[← Ii]at hH ⊢
      rw[xg]at hH
      obtain⟨g,hg,_,hb⟩:=Cd h3
      obtain⟨rfl,args,nr,nq,Ab,pB⟩:=Rh hb
      simp only[wpOps,hj1,Uf hg,if_true]
      left
      have aqC:args.map (act.put (some a) v).eval = #[(act.put (some a) v).tmps.getD a Go.undef]:=by
       have:args.toList = [.tmp a]:=by
        match hA:args.toList with
        | []=>rw[hA]at pB;simp[yR]at pB
        | [x]=>
         rw[hA]at pB
         simp only[yR]at pB
         split at pB
         ·rename_i x' r' hx hr
          cases pB
          rw[abT hx]
         ·cases pB
        | x::y::z=>
         rw[hA]at pB
         simp only[yR]at pB
         split at pB
         ·rename_i x' r' hx hr
          cases pB
          split at hr
          ·cases hr
          ·cases hr
         ·cases pB
       have:args = #[.tmp a]:=by rw[← Array.toArray_toList (xs:=args),this]
       rw[this]
       simp only[List.map_toArray,List.map_cons,List.map_nil]
       rfl
      have hex:(execOp (act.put (some a) v).eval o1).run P w1 = .ok (.enter f #[(act.put (some a) v).tmps.getD a Go.undef]) w1:=by
       obtain⟨dst,op,type,pos,after,guard⟩:=o1
       simp only at nq
       subst nq
       rw[← aqC]
       exact ya (act.put (some a) v).eval dst f args nr type pos after guard rfl Ab w1
      unfold Oper.wp
      rw[hex,Oper.upon_enter]
      refine(Ri _ _ hH).mono ?_
      rintro en w' ⟨v',rfl,bD,s',hH',hvc⟩
      rw[← Ix]
      exact B9 (Q:=Q) l ol _ hl h4 bD s' _ w' hvc hH'
     ·cases h2
   ·cases yi
 exact key _ _ (Ca ops) hi
theorem Iy (hB:B.s = ⟨[],[]⟩) {tm:Tm} {s:St} {act:Act} {w:World} (h:Holds B nt tm s act w) {t:Nat} {l:List az} (ht:s.ay[t]? = some (some l.length)) {k0:Nat} (hk0:tm.get k0 = .slice (.tok t) 1 (l.map encStr)) :
 (l = []∧∀ k,tm.get k = .slice (.tok t) 1 (l.map encStr)→(act.tmps.getD k Go.undef = .slice none 0 0∨∃ b q,act.tmps.getD k Go.undef = .slice (some ⟨b,q,none⟩) 0 0))∨
 ∃ (b cap:Nat) (vs:Array Value) (T:TypeId),(∀ k,tm.get k = .slice (.tok t) 1 (l.map encStr)→act.tmps.getD k Go.undef = .slice (some ⟨b,0,none⟩) l.length cap)∧l.length≤cap∧w.heap[b]? = some (.cells vs T (0,0))∧vs.size=cap∧B.w.heap.size≤b∧
  ∀ j (hj:j<l.length),vs[j]? = some (.string ⟨⟨l[j]⟩⟩):=by
 obtain⟨M,e,r,hr,_,_⟩:=h
 rcases r.tok t _ ht with ⟨h3,h4⟩|⟨b,cap,z,vs,T,h3,h4,h5,h6,h7⟩
 ·have hl:l = []:=List.eq_nil_of_length_eq_zero h4
  subst hl
  refine .inl ⟨rfl,fun k hk=>?_⟩
  have hv:=hr k
  rw[hk]at hv
  generalize act.tmps.getD k Go.undef=v at hv
  cases hv with
  |jb _ _ cap hc qx=>subst hc;exact .inl rfl
  |slice _ _ _ b q cap hl hs h1 h2 qx=>
   rcases(qx.2 _ ht).2 rfl with ⟨_,h0,_⟩|⟨b',_,lr⟩
   ·subst h0;exact .inr ⟨b,q,rfl⟩
   ·rw[h3]at lr;cases lr
 ·right
  have each : ∀ k,tm.get k = .slice (.tok t) 1 (l.map encStr)→z=1∧act.tmps.getD k Go.undef = .slice (some ⟨b,0,none⟩) l.length cap∧l.length≤cap∧∀ j (hj:j<l.length),∃ u,M.G b j=some u∧RD M s (.str l[j]) u:=by
   intro k hk
   have hv:=hr k
   rw[hk]at hv
   generalize act.tmps.getD k Go.undef=v at hv
   generalize kN:l.map encStr=rows at hv
   cases hv with
   |jb _ _ cap hc qx=>
    have hl:l = []:=by cases l<;>simp at kN;rfl
    subst hl
    rcases(qx.2 _ ht).2 rfl with ⟨h0,_⟩|⟨b',h0,_⟩
    ·rw[h3]at h0;cases h0
    ·cases h0
   | slice _ _ _ b2 q ayQ hl hs h1 h2 qx=>
    subst kN
    rw[List.length_map]at hl qx
    rcases(qx.2 _ ht).2 rfl with ⟨h0,_⟩|⟨b',hb,lr⟩
    ·rw[h3]at h0;cases h0
    ·cases hb
     rw[h3]at lr
     cases lr
     refine⟨rfl,by rw[List.length_map],hl,fun j hj=>?_⟩
     have e1:(l.map encStr)[j]? = some [.str l[j]]:=by rw[List.getElem?_map,List.getElem?_eq_getElem hj];rfl
     obtain⟨u,hu⟩:=h1 j _ 0 _ e1 rfl
     refine⟨u,by simpa using hu,h2 j _ 0 _ u e1 rfl hu⟩
  obtain⟨rfl,_,uL,mQ⟩:=each k0 hk0
  have dw:B.w.heap.size≤b:=by
   rcases e.rf t b cap 1 ⟨_,ht⟩ h3 with ⟨⟨n,hn⟩,_⟩|h
   ·rw[hB]at hn;simp at hn
   ·exact h
  refine⟨b,cap,vs,T,fun k hk=>(each k hk).2.1,uL,h4,by simpa[zs]using h5,dw,fun j hj=>?_⟩
  obtain⟨u,hu,jO⟩:=mQ j hj
  have:=(r.comm _ _ _ hu).1
  rw[jx h4,jO.lY]at this
  exact this
theorem Lu (hB:B.s = ⟨[],[]⟩) {tm:Tm} {s:St} {act vg:Act} {w w':World} (h:Holds B nt tm s act w) {b cap:Nat} {vs:Array Value} {T:TypeId} (dP:vs.size=cap) (xv:B.w.heap.size≤b)
 (mL : ∀ q,q<B.w.heap.size→w'.heap[q]? = w.heap[q]?) (eH:w'.heap[b]? = some (.cells vs T (0,0))) (vq:w.heap.size≤w'.heap.size) (vr:w'.os=w.os) (Fo:w'.tape=w.tape) (Vy:w'.output=w.output)
 {l:List az} (hl:l.length≤cap) (mQ : ∀ j (hj:j<l.length),vs[j]? = some (.string ⟨⟨l[j]⟩⟩)) {k:Nat} (Rj:vg.tmps.getD k Go.undef = .slice (some ⟨b,0,none⟩) l.length cap) (hn:vg.tmps.size=nt) (hd:vg.defers = []) :
 Holds B nt [(k, .slice (.tok 0) 1 (l.map encStr))] ⟨[],[some l.length]⟩ vg w':=by
 obtain⟨M,e,r,hr,_,_⟩:=h
 let M':Map:=⟨fun q o=>if q=b then(if o<l.length then(l[o]?).map fun x=>Value.string ⟨⟨x⟩⟩else none)else B.M.G q o,B.M.loc,fun _=>some (b,cap,1)⟩
 have hGb : ∀ q o v,B.M.G q o=some v→q<B.w.heap.size∧w'.cell? ⟨q,o,none⟩=some v∧v.oneCell'=true:=by
  intro q o v hq
  obtain⟨h1,h2⟩:=r.comm q o v (e.le.G q o v hq)
  have hD:=B.D2 q o v hq
  refine⟨hD, ?_,h2⟩
  rw[← h1]
  simp[World.cell?,mL q hD]
 have iV : ∀ j (hj:j<l.length),w'.cell? ⟨b,j,none⟩=some (.string ⟨⟨l[j]⟩⟩):=fun j hj=>by rw[jx eH];exact mQ j hj
 have hY : ∀ (j:Nat) v,(if j<l.length then(l[j]?).map fun x=>Value.string ⟨⟨x⟩⟩else none)=some v→∃ hj:j<l.length,v = .string ⟨⟨l[j]⟩⟩:=by
  intro j v hv
  split at hv
  ·rename_i hj
   rw[List.getElem?_eq_getElem hj]at hv
   exact⟨hj,by simpa using hv.symm⟩
  ·cases hv
 refine⟨M',⟨⟨fun q o v hq=>?_,by simp[hB],fun o ho=> .refl _,by rw[hB];exact Nat.zero_le _,fun t n' ht _=>by rw[hB]at ht;exact absurd ht (Nat.not_lt_zero _)⟩,fun q hq _ _=>?_,fun o _ h2=>absurd h2 (Nat.not_lt_zero _),fun t q c z _ hb=>?_,fun q o eW=>?_,Nat.le_trans e.size vq,vr.trans e.os,Fo.trans e.tape,Vy.trans e.output⟩,
  ⟨fun q o v hq=>?_,fun o ds ho=>by simp at ho,fun o ho=>absurd ho (Nat.not_lt_zero _),fun o o' ho=>absurd ho (Nat.not_lt_zero _),fun t n ht=>?_,fun t q c z o _ _ ho=>absurd ho (Nat.not_lt_zero _),fun t t' q c z c' z' wK jc _ _=>?_⟩,fun u=>?_,hn,hd⟩
 ·show(if q=b then _ else B.M.G q o)=some v
  rw[if_neg (by have:=(hGb q o v hq).1;omega)]
  exact hq
 ·rw [mL q hq]
  exact e.kept q hq (fun o ho=>by rw[hB]at ho;exact absurd ho (Nat.not_lt_zero _)) (fun t c z jc=>by rw[hB]at jc;obtain⟨n,Bt⟩:=jc;simp at Bt)
 ·cases hb;exact .inr xv
 ·by_cases hq:q=b
  ·subst hq;exact .inl xv
  ·exact absurd (show(if q=b then _ else B.M.G q o)=B.M.G q o from if_neg hq) eW
 ·have np:(if q=b then(if o<l.length then(l[o]?).map fun x=>Value.string ⟨⟨x⟩⟩else none)else B.M.G q o)=some v:=hq
  by_cases hqb:q=b
  ·rw [if_pos hqb]at np
   obtain⟨hj,rfl⟩:=hY o v np
   rw[hqb]
   exact⟨iV o hj,rfl⟩
  ·rw [if_neg hqb]at np
   exact(hGb q o v np).2
 ·match t with
  | 0=>
   simp at ht
   subst ht
   refine .inr ⟨b,cap,1,vs,T,rfl,eH,by simp[zs,dP],hl,fun off ho=>?_,fun h=>by cases h⟩
   show(if b=b then(if off<l.length then _ else none)else B.M.G b off)=none
   rw[if_pos rfl,if_neg (by simp[zs]at ho;omega)]
  |t+1=>simp at ht
 ·obtain⟨n1,h1⟩:=wK
  obtain⟨n2,h2⟩:=jc
  have a1:=(List.getElem?_eq_some_iff.1 h1).1
  have a2:=(List.getElem?_eq_some_iff.1 h2).1
  simp at a1 a2
  omega
 ·simp only [Tm.get]
  split
  ·rename_i hku
   subst hku
   rw[Rj]
   have:=RD.slice (M:=M') (s:=⟨[],[some l.length]⟩) (.tok 0) 1 (l.map encStr) b 0 cap (by simpa using hl) (fun row hr=>by
    obtain⟨x,_,rfl⟩:=List.mem_map.1 hr;rfl) (fun i row j d e1 e2=>?_) (fun i row j d u e1 e2 eu=>?_) ⟨by simp,fun n Bt=>by
    simp at Bt
    subst Bt
    exact⟨by simp,fun _=> .inr ⟨b,rfl,rfl⟩⟩⟩
   ·simpa using this
   ·rw [List.getElem?_map]at e1
    cases Bn:l[i]? with
    |none=>rw[Bn]at e1;cases e1
    |some x=>
     have rG:=(List.getElem?_eq_some_iff.1 Bn).1
     rw[Bn]at e1
     cases e1
     have hj:j=0:=by cases j with|zero=>rfl|succ j=>simp[encStr]at e2
     subst hj
     refine⟨.string ⟨⟨x⟩⟩, ?_⟩
     show(if b=b then(if 0+(i*1+0)<l.length then _ else none)else _)=_
     rw[if_pos rfl,if_pos (by omega)]
     simp[Bn]
   ·rw [List.getElem?_map]at e1
    cases Bn:l[i]? with
    |none=>rw[Bn]at e1;cases e1
    |some x=>
     have rG:=(List.getElem?_eq_some_iff.1 Bn).1
     rw[Bn]at e1
     cases e1
     have hj:j=0:=by cases j with|zero=>rfl|succ j=>simp[encStr]at e2
     subst hj
     have FC:(if b=b then(if 0+(i*1+0)<l.length then(l[0+(i*1+0)]?).map fun x=>Value.string ⟨⟨x⟩⟩else none)else B.M.G b (0+(i*1+0)))=some u:=eu
     rw[if_pos rfl,if_pos (by omega)]at FC
     simp[Bn]at FC
     subst FC
     simp[encStr]at e2
     subst e2
     exact .str x
  ·exact .junk _
theorem NV (hB:B.s = ⟨[],[]⟩) {tm:Tm} {s:St} {act vg:Act} {w:World} (h:Holds B nt tm s act w) {k:Nat} (Rj:vg.tmps.getD k Go.undef = .slice none 0 0∨∃ b q,vg.tmps.getD k Go.undef = .slice (some ⟨b,q,none⟩) 0 0) (hn:vg.tmps.size=nt) (hd:vg.defers = []) :
 Holds B nt [(k, .slice (.tok 0) 1 (([] : List az).map encStr))] ⟨[],[some 0]⟩ vg w:=by
 obtain⟨M,e,r,hr,_,_⟩:=h
 let M':Map:=⟨B.M.G,B.M.loc,fun _=>none⟩
 refine⟨M',⟨⟨fun q o v hq=>hq,by simp[hB],fun o ho=> .refl _,by rw[hB];exact Nat.zero_le _,fun t n' ht _=>by rw[hB]at ht;exact absurd ht (Nat.not_lt_zero _)⟩,fun q hq _ _=>?_,fun o _ h2=>absurd h2 (Nat.not_lt_zero _),fun t q c z _ hb=>(by cases hb),fun q o eW=>absurd rfl eW,e.size,e.os,e.tape,e.output⟩,
  ⟨fun q o v hq=>r.comm q o v (e.le.G q o v hq),fun o ds ho=>by simp at ho,fun o ho=>absurd ho (Nat.not_lt_zero _),fun o o' ho=>absurd ho (Nat.not_lt_zero _),fun t n ht=>?_,fun t q c z o _ _ ho=>absurd ho (Nat.not_lt_zero _),fun t t' q c z c' z' wK jc h1 _=>by cases h1⟩,fun u=>?_,hn,hd⟩
 ·exact e.kept q hq (fun o ho=>by rw[hB]at ho;exact absurd ho (Nat.not_lt_zero _)) (fun t c z jc=>by rw[hB]at jc;obtain⟨n,Bt⟩:=jc;simp at Bt)
 ·match t with
  | 0=>simp at ht;subst ht;exact .inl ⟨rfl,rfl⟩
  |t+1=>simp at ht
 ·simp only [Tm.get]
  split
  ·rename_i hku
   subst hku
   have qx : ∀ base,jg M' ⟨[],[some 0]⟩ (.tok 0) 1 0 base 0:=fun base=>⟨by simp,fun n Bt=>by
    simp at Bt
    subst Bt
    exact⟨Nat.le_refl _,fun _=> .inl ⟨rfl,rfl,fun h=>by cases h⟩⟩⟩
   rcases Rj with h|⟨b,q,h⟩
   ·rw[h];exact .jb _ _ 0 rfl (qx none)
   ·rw[h];exact .slice (.tok 0) 1 [] b q 0 (Nat.le_refl _) (by simp) (by simp) (by simp) (qx _)
  ·exact .junk _
theorem Lv {α:Type} [Inhabited α] (enc:α→Value) (d:Array α) (c:Array Value) (j:Nat):(Sort.putCells enc 0 d c)[j]? = if j<d.size then(c[j]?).map fun _=>enc d[j]! else c[j]? :=by
 simp only[Sort.putCells,Array.getElem?_mapIdx]
 cases h:c[j]? with
 |none=>simp
 |some x=>by_cases hj:j<d.size<;>simp[hj]
theorem Iz {w:World} {b n cap:Nat} {vs:Array Value} {T:TypeId} (eH:w.heap[b]? = some (.cells vs T (0,0))) (dP:vs.size=cap) (l:List az) (hl:l.length≤cap) (os:Array Obj) :
 (∀ q,q≠b→q<w.heap.size→(Sort.grow (Sort.putRow Go.Proofs.encStr (Sort.ahead w n) b 0 l.toArray) os).heap[q]? = w.heap[q]?)∧
 (Sort.grow (Sort.putRow Go.Proofs.encStr (Sort.ahead w n) b 0 l.toArray) os).heap[b]? = some (.cells (Sort.putCells Go.Proofs.encStr 0 l.toArray vs) T (0,0))∧w.heap.size≤(Sort.grow (Sort.putRow Go.Proofs.encStr (Sort.ahead w n) b 0 l.toArray) os).heap.size∧
 (Sort.putCells Go.Proofs.encStr 0 l.toArray vs).size=cap∧∀ j (hj:j<l.length),(Sort.putCells Go.Proofs.encStr 0 l.toArray vs)[j]? = some (.string ⟨⟨l[j]⟩⟩):=by
 have hb:b<w.heap.size:=(Array.getElem?_eq_some_iff.1 eH).1
 refine⟨fun q hq hD=>?_, ?_, ?_, ?_,fun j hj=>?_⟩
 ·simp only [Sort.grow,Sort.putRow,Sort.mapBlock,Sort.ahead]
  rw[Array.getElem?_append_left (by simpa using hD),Array.getElem?_modify]
  simp[Ne.symm hq]
 ·simp only [Sort.grow,Sort.putRow,Sort.mapBlock,Sort.ahead]
  rw[Array.getElem?_append_left (by simpa using hb),Array.getElem?_modify]
  simp[eH,Sort.onCells]
 ·simp[Sort.grow,Sort.putRow,Sort.mapBlock,Sort.ahead]
 ·simp[Sort.putCells,dP]
 ·rw [Lv]
  have h1:j<l.toArray.size:=by simpa using hj
  have h2:vs[j]? = some vs[j]:=Array.getElem?_eq_getElem (by omega)
  rw[if_pos h1,h2]
  simp[hj]
def mW (l:List az):List az:=l.mergeSort fun x y=>decide (x≤y)
theorem Lw {act:Act} {b:Nat} {v:Value} {u:Nat} (h:u≠b):(act.put (some b) v).tmps.getD u Go.undef=act.tmps.getD u Go.undef:=by
 simp only[Act.put,Array.getD_eq_getD_getElem?]
 rw[Array.getElem?_setIfInBounds_ne (fun e=>h e.symm)]
theorem IA {act:Act} {b:Nat} {v:Value} (h:b<act.tmps.size):(act.put (some b) v).tmps.getD b Go.undef=v:=by
 simp only[Act.put,Array.getD_eq_getD_getElem?]
 simp[h]
theorem Sem.sort (hB:B.s = ⟨[],[]⟩) {a k b t:Nat} {l:List az} {is:List AI} {Q:Exit→Tm→St→Prop} {tm:Tm} {s:St} (hak:a≠k) (hbk:b≠k) (ZX:a≠b)
 (hk:tm.get k = .slice (.tok t) 1 (l.map encStr)) (ht:s.ay[t]? = some (some l.length)) (hl:l.length<4611686018427387904)
 (h:jm Tryz.prog is (Q .normal) [(k, .slice (.tok 0) 1 ((mW l).map encStr))] ⟨[],[some l.length]⟩) :
 Sem Tryz.prog B nt (.run (.op (some a) none (.mv (.s k)):: .call (some b) none jT [.s a]::is)) Q tm s:=by
 refine Sem.afy fun act w hh=>?_
 have Bj:(tm.put (some a) (tm.get k)).get k = .slice (.tok t) 1 (l.map encStr):=by rw[Tm.l6,if_neg (by simpa using hak)];exact hk
 have Lx:(tm.put (some a) (tm.get k)).get a = .slice (.tok t) 1 (l.map encStr):=by rw[Tm.l6,if_pos rfl];exact hk
 have F6:(mW l).length=l.length:=List.length_mergeSort l
 have hn:(act.put (some b) (.tuple #[])).tmps.size=nt:=by obtain⟨_,_,_,_,h1,_⟩:=hh;simpa[Act.put]using h1
 have hd:(act.put (some b) (.tuple #[])).defers = []:=by obtain⟨_,_,_,_,_,h1⟩:=hh;simpa[Act.put]using h1
 have dP:(act.tmps).size=nt:=by obtain⟨_,_,_,_,h1,_⟩:=hh;exact h1
 rcases Iy hB hh ht Lx with ⟨rfl,hv⟩|⟨b',cap,vs,T,hv,uL,eH,pQ,xv,mQ⟩
 ·rw [show mW [] = [] by simp [mW]]at h
  have call : ∀ p,act.tmps.getD a Go.undef = .slice p 0 0→Calls Tryz.prog jT #[act.tmps.getD a Go.undef] w fun e w'=>∃ v,e = .returned v∧∃ bD s',Holds B nt bD s' (act.put (some b) v) w'∧jm Tryz.prog is (Q .normal) bD s':=by
   intro p hp
   rw[hp]
   refine(Tryz.slices_Sort_string_none p 0 w).mono ?_
   rintro e w' ⟨rfl,rfl⟩
   refine⟨_,rfl,_,_,NV hB hh (k:=k) ?_ hn hd,h⟩
   rw[Lw (Ne.symm hbk)]
   exact hv k Bj
  rcases hv a Lx with h1|⟨b',q,h1⟩
  ·exact call _ h1
  ·exact call _ h1
 ·rw [hv a Lx]
  have hD:b'<w.heap.size:=(Array.getElem?_eq_some_iff.1 eH).1
  refine(Tryz.slices_Sort_string b' 0 cap l w (fun j hj=>?_) hD hl).mono ?_
  ·have Ug:j<l.length:=by simpa using hj
   refine⟨?_,by simp[World.frozen?,eH]⟩
   rw[Nat.zero_add,jx eH,mQ j Ug]
   simp[Ug]
  ·rintro e w' ⟨rfl,n,os,rfl⟩
   obtain⟨p1,p2,p3,p4,p5⟩:=Iz (n:=n) eH pQ (mW l) (by omega) os
   have hH:=Lu hB hh (vg:=act.put (some b) (.tuple #[])) (l:=mW l) (k:=k) p4 xv (fun q hq=>p1 q (by omega) (by obtain⟨M,e,_⟩:=hh;exact Nat.lt_of_lt_of_le hq e.size)) p2 p3 rfl rfl rfl (by omega) p5 (by rw[Lw (Ne.symm hbk),hv k Bj,F6]) hn hd
   rw[F6]at hH
   exact⟨_,rfl,_,_,hH,h⟩
theorem Nb (l:List az):(Lib.compact l).length≤l.length:=by
 unfold Lib.compact Lib.compactUpTo
 rw[List.length_map]
 exact Nat.le_trans (List.length_filter_le _ _) (by simp)
theorem Sem.compact (hB:B.s = ⟨[],[]⟩) {a k b t:Nat} {l:List az} {is:List AI} {Q:Exit→Tm→St→Prop} {tm:Tm} {s:St} (hbt:b<nt)
 (hk:tm.get k = .slice (.tok t) 1 (l.map encStr)) (ht:s.ay[t]? = some (some l.length)) (hl:l.length<4611686018427387904)
 (h:jm Tryz.prog is (Q .normal) [(b, .slice (.tok 0) 1 ((Lib.compact l).map encStr))] ⟨[],[some (Lib.compact l).length]⟩) :
 Sem Tryz.prog B nt (.run (.op (some a) none (.mv (.s k)):: .call (some b) none ko [.s a]::is)) Q tm s:=by
 refine Sem.afy fun act w hh=>?_
 have Lx:(tm.put (some a) (tm.get k)).get a = .slice (.tok t) 1 (l.map encStr):=by rw[Tm.l6,if_pos rfl];exact hk
 have dP:(act.tmps).size=nt:=by obtain⟨_,_,_,_,h1,_⟩:=hh;exact h1
 have hn : ∀ v,(act.put (some b) v).tmps.size=nt:=fun v=>by simpa[Act.put]using dP
 have hd : ∀ v,(act.put (some b) v).defers = []:=by obtain⟨_,_,_,_,_,h1⟩:=hh;intro v;simpa[Act.put]using h1
 rcases Iy hB hh ht Lx with ⟨rfl,hv⟩|⟨b',cap,vs,T,hv,uL,eH,pQ,xv,mQ⟩
 ·rw [show Lib.compact ([] : List az) = []from rfl]at h
  have call : ∀ p,act.tmps.getD a Go.undef = .slice p 0 0→(p=none∨∃ b q,p=some ⟨b,q,none⟩)→Calls Tryz.prog ko #[act.tmps.getD a Go.undef] w fun e w'=>∃ v,e = .returned v∧∃ bD s',Holds B nt bD s' (act.put (some b) v) w'∧jm Tryz.prog is (Q .normal) bD s':=by
   intro p hp hq
   rw[hp]
   refine(Tryz.slices_Compact_string_empty p 0 w).mono ?_
   rintro e w' ⟨rfl,rfl⟩
   refine⟨_,rfl,_,_,NV hB hh (k:=b) ?_ (hn _) (hd _),h⟩
   rw[IA (by omega)]
   rcases hq with rfl|⟨x,y,rfl⟩
   ·exact .inl rfl
   ·exact .inr ⟨x,y,rfl⟩
  rcases hv a Lx with h1|⟨b',q,h1⟩
  ·exact call _ h1 (.inl rfl)
  ·exact call _ h1 (.inr ⟨b',q,rfl⟩)
 ·rw [hv a Lx]
  have pA:(Lib.compact l).length≤l.length:=Nb l
  refine(Tryz.slices_Compact_string b' 0 cap l w (fun j hj=>?_) (by omega) uL).mono ?_
  ·have Ug:j<l.length:=by simpa using hj
   refine⟨?_,by simp[World.frozen?,eH]⟩
   rw[Nat.zero_add,jx eH,mQ j Ug]
   simp[Ug]
  ·rintro e w' ⟨rfl,q,rfl⟩
   obtain⟨p1,p2,p3,p4,p5⟩:=Iz (n:=q) eH pQ (Lib.compact l++List.replicate (l.length - (Lib.compact l).length) []) (by simp;omega) #[]
   rw[Sort.grow_empty]at p1 p2 p3
   have hH:=Lu hB hh (vg:=act.put (some b) (.slice (some ⟨b',0,none⟩) (Lib.compact l).length cap)) (l:=Lib.compact l) (k:=b) p4 xv (fun q hq=>p1 q (by omega) (by obtain⟨M,e,_⟩:=hh;exact Nat.lt_of_lt_of_le hq e.size)) p2 p3 rfl rfl rfl (by omega)
    (fun j hj=>by
     have:=p5 j (by simp;omega)
     rw[List.getElem_append_left hj]at this
     exact this) (IA (by omega)) (hn _) (hd _)
   exact⟨_,rfl,_,_,hH,h⟩
end
end Go.Abs
namespace Go.Abs
theorem F7 {a b:UInt8} : a<b↔a.toNat<b.toNat:=UInt8.lt_iff_toNat_lt
theorem zH : ∀ a:az,bytesLess a a=false
 | []=>rfl
 |x::a=>by
  show Go.Op.bytesLess (x::a) (x::a)=false
  have h:=zH a
  have h:Go.Op.bytesLess a a=false:=h
  simp[Go.Op.bytesLess,h]
theorem zI : ∀ a b:az,bytesLess a b=true∨a=b∨bytesLess b a=true
 | [],[]=> .inr (.inl rfl)
 | [],y::b=> .inl rfl
 |x::a,[]=> .inr (.inr rfl)
 | x::a,y::b=>by
  show Go.Op.bytesLess (x::a) (y::b)=true∨_∨Go.Op.bytesLess (y::b) (x::a)=true
  have h:Go.Op.bytesLess a b=true∨a=b∨Go.Op.bytesLess b a=true:=zI a b
  simp only[Go.Op.bytesLess,Bool.or_eq_true,Bool.and_eq_true,decide_eq_true_eq,beq_iff_eq,List.cons.injEq]
  by_cases e:x=y
  ·subst e
   rcases h with h|h|h
   ·exact .inl (.inr ⟨rfl,h⟩)
   ·exact .inr (.inl ⟨rfl,h⟩)
   ·exact .inr (.inr (.inr ⟨rfl,h⟩))
  ·have:x.toNat≠y.toNat:=fun h=>e (UInt8.toNat_inj.1 h)
   rcases Nat.lt_or_gt_of_ne this with h|h
   ·exact .inl (.inl (F7.2 h))
   ·exact .inr (.inr (.inl (F7.2 h)))
theorem F8 : ∀ a b c:az,bytesLess a b=true→bytesLess b c=true→bytesLess a c=true
 |a,b,[],h1,h2=>by cases b<;>cases h2
 |a,[],z::c,h1,h2=>by cases a<;>cases h1
 | [],y::b,z::c,h1,h2=>rfl
 | x::a,y::b,z::c,h1,h2=>by
  have h1:Go.Op.bytesLess (x::a) (y::b)=true:=h1
  have h2:Go.Op.bytesLess (y::b) (z::c)=true:=h2
  show Go.Op.bytesLess (x::a) (z::c)=true
  simp only[Go.Op.bytesLess,Bool.or_eq_true,Bool.and_eq_true,decide_eq_true_eq,beq_iff_eq]at h1 h2 ⊢
  rcases h1 with e1|⟨i1,e1⟩
  ·rcases h2 with e2 | ⟨i2,e2⟩
   ·exact .inl (F7.2 (Nat.lt_trans (F7.1 e1) (F7.1 e2)))
   ·exact .inl (i2 ▸ e1)
  ·rcases h2 with e2 | ⟨i2,e2⟩
   ·exact .inl (i1 ▸ e2)
   ·exact .inr ⟨i1.trans i2,F8 a b c e1 e2⟩
def CF (l:List az):Prop:=l.Pairwise fun a b=>bytesLess a b=true
theorem yC : ∀ {a b:List az},CF a→CF b→(∀ x,x∈a↔x∈b)→a=b
 | [],[],_,_,_=>rfl
 | [],y::b,_,_,h=>absurd ((h y).2 List.mem_cons_self) (by simp)
 |x::a,[],_,_,h=>absurd ((h x).1 List.mem_cons_self) (by simp)
 | x::a,y::b,h1,h2,h=>by
  obtain⟨g1,g2⟩:=List.pairwise_cons.1 h1
  obtain⟨g3,g4⟩:=List.pairwise_cons.1 h2
  have e:x=y:=by
   rcases List.mem_cons.1 ((h x).1 List.mem_cons_self)with e|m
   ·exact e
   ·rcases List.mem_cons.1 ((h y).2 List.mem_cons_self)with e | m'
    ·exact e.symm
    ·have:=F8 _ _ _ (g3 x m) (g1 y m');rw[zH]at this;cases this
  subst e
  rw[yC g2 g4 fun z=>?_]
  constructor
  ·intro m
   rcases List.mem_cons.1 ((h z).1 (List.mem_cons_of_mem _ m))with e|m'
   ·subst e;have:=g1 z m;rw[zH]at this;cases this
   ·exact m'
  ·intro m
   rcases List.mem_cons.1 ((h z).2 (List.mem_cons_of_mem _ m))with e|m'
   ·subst e;have:=g3 z m;rw[zH]at this;cases this
   ·exact m'
theorem vM (out:List az) : ∀ (l:List az) (c:az) (a:Bool),
 let q:=nW out l c a
 (q.2=false↔a=false∧∀ x∈l,x∈out)∧(q.2=true→((a=true∧q.1=c)∨(q.1∈l∧q.1∉out))∧(a=true→bytesLess c q.1=false)∧∀ x∈l,x∉out→bytesLess x q.1=false)
 | [],c,a=>by
  simp only[nW]
  refine⟨by simp,fun h=>⟨.inl ⟨h,by trivial⟩,fun _=>zH c,fun x m=>(by cases m)⟩⟩
 | s::l,c,a=>by
  simp only[nW]
  by_cases h1:e9 out s=true
  ·have m:=(fP _ _).1 h1
   simp only[h1,Bool.not_true,Bool.false_and,Bool.false_eq_true,if_false]
   obtain⟨k1,k2⟩:=vM out l c a
   refine⟨k1.trans ⟨fun h=>⟨h.1,fun x hx=>?_⟩,fun h=>⟨h.1,fun x hx=>h.2 x (List.mem_cons_of_mem _ hx)⟩⟩,fun h=>?_⟩
   ·rcases List.mem_cons.1 hx with rfl | hx
    ·exact m
    ·exact h.2 x hx
   ·obtain⟨g1,g2,g3⟩:=k2 h
    refine⟨g1.imp_right fun h=>⟨List.mem_cons_of_mem _ h.1,h.2⟩,g2,fun x hx hn=>?_⟩
    rcases List.mem_cons.1 hx with rfl|hx
    ·exact absurd m hn
    ·exact g3 x hx hn
  ·have m:s∉out:=fun m=>h1 ((fP _ _).2 m)
   have sU:e9 out s=false:=by simpa using h1
   by_cases h2:(!a ||bytesLess s c)=true
   ·simp only [sU,h2,Bool.not_false,Bool.and_self,if_true]
    obtain⟨k1,k2⟩:=vM out l s true
    refine⟨⟨fun h=>absurd (k1.1 h).1 (by simp),fun h=>absurd (h.2 s List.mem_cons_self) m⟩,fun h=>?_⟩
    obtain⟨g1,g2,g3⟩:=k2 h
    have g4:=g2 rfl
    refine⟨.inr ?_,fun ha=>?_,fun x hx hn=>?_⟩
    ·rcases g1 with ⟨_,e⟩ | g1
     ·rw[e];exact⟨List.mem_cons_self,m⟩
     ·exact⟨List.mem_cons_of_mem _ g1.1,g1.2⟩
    ·have h3:bytesLess s c=true:=by simpa [ha]using h2
     cases hh:bytesLess c (nW out l s true).1
     ·rfl
     ·have:=F8 _ _ _ h3 hh;rw[g4]at this;cases this
    ·rcases List.mem_cons.1 hx with rfl | hx
     ·exact g4
     ·exact g3 x hx hn
   ·have vt:(!a || bytesLess s c)=false:=by simpa using h2
    have ha:a=true:=by cases a<;>simp_all
    have h3:bytesLess s c=false:=by cases a<;>simp_all
    simp only[sU,vt,Bool.not_false,Bool.and_false,Bool.false_eq_true,if_false]
    obtain⟨k1,k2⟩:=vM out l c a
    refine⟨⟨fun h=>absurd (k1.1 h).1 (by simp[ha]),fun h=>absurd h.1 (by simp[ha])⟩,fun h=>?_⟩
    obtain⟨g1,g2,g3⟩:=k2 h
    refine⟨g1.imp_right fun h=>⟨List.mem_cons_of_mem _ h.1,h.2⟩,g2,fun x hx hn=>?_⟩
    rcases List.mem_cons.1 hx with rfl|hx
    ·cases hh:bytesLess x (nW out l c a).1
     ·rfl
     ·have g4:=g2 ha
      rcases zI x c with e|e|e
      ·rw[h3]at e;cases e
      ·subst e;rw[g4]at hh;cases hh
      ·have:=F8 _ _ _ e hh;rw[g4]at this;cases this
    ·exact g3 x hx hn
theorem yD (l:List az) : ∀ (n:Nat) (out:List az),CF out→(∀ x∈out,x∈l)→(∀ x∈out,∀ y∈l,y∉out→bytesLess x y=true)→
 CF (qo l n out)∧(∀ x∈qo l n out,x∈l)∧(∀ x∈out,x∈qo l n out)∧((∀ x∈l,x∈qo l n out)∨(qo l n out).length=out.length+n)
 | 0,out,h1,h2,h3=>⟨h1,h2,fun x m=>m, .inr rfl⟩
 | n+1,out,h1,h2,h3=>by
  simp only[qo,Ue]
  obtain⟨k1,k2⟩:=vM out l [] false
  cases hq:(nW out l [] false).2
  ·simp only [Bool.false_eq_true,if_false]
   obtain⟨g1,g2,g3,g4⟩:=yD l n out h1 h2 h3
   exact⟨g1,g2,g3, .inl fun x m=>g3 x ((k1.1 hq).2 x m)⟩
  ·simp only [if_true]
   obtain⟨g1,_,g3⟩:=k2 hq
   have g1:(nW out l [] false).1∈l∧(nW out l [] false).1∉out:=by
    rcases g1 with ⟨h,_⟩|g1
    ·cases h
    ·exact g1
   generalize (nW out l [] false).1=c at g1 g3
   obtain⟨r1,r2,r3,r4⟩:=yD l n (out++ [c])
    (by
     refine List.pairwise_append.2 ⟨h1,by simp,fun x hx y hy=>?_⟩
     have:y=c:=by simpa using hy
     subst this
     exact h3 x hx y g1.1 g1.2)
    (fun x hx=>by
     rcases List.mem_append.1 hx with hx|hx
     ·exact h2 x hx
     ·have:x=c:=by simpa using hx
      subst this;exact g1.1)
    (fun x hx y hy hn=>by
     have hyo:y∉out:=fun m=>hn (List.mem_append_left _ m)
     have hyc:y≠c:=fun e=>hn (List.mem_append_right _ (by simp[e]))
     rcases List.mem_append.1 hx with hx|hx
     ·exact h3 x hx y hy hyo
     ·have:x=c:=by simpa using hx
      subst this
      rcases zI x y with h|h|h
      ·exact h
      ·exact absurd h.symm hyc
      ·rw[g3 y hy hyo]at h;cases h)
   refine⟨r1,r2,fun x m=>r3 x (List.mem_append_left _ m),r4.imp_right fun h=>?_⟩
   rw[h];simp;omega
theorem xP : ∀ (a l:List az),a.Nodup→(∀ x∈a,x∈l)→a.length≤l.length
 | [],l,_,_=>Nat.zero_le _
 |x::a,l,h,hm=>by
  obtain⟨h1,h2⟩:=List.nodup_cons.1 h
  have m:=hm x List.mem_cons_self
  have:=xP a (l.erase x) h2 fun y hy=>(List.mem_erase_of_ne (fun e=>h1 (by rw[← e];exact hy))).2 (hm y (List.mem_cons_of_mem _ hy))
  rw[List.length_erase_of_mem m]at this
  have:0<l.length:=List.length_pos_of_mem m
  simp only[List.length_cons];omega
theorem vN {l:List az} (h:CF l):l.Nodup:=h.imp fun {a b} h e=>by subst e;rw[zH]at h;cases h
theorem jE (l:List az):CF (jY l)∧∀ x,x∈jY l↔x∈l:=by
 obtain⟨h1,h2,h3,h4⟩:=yD l l.length [] List.Pairwise.nil (fun x m=>(by cases m)) (fun x m=>(by cases m))
 refine⟨h1,fun x=>⟨h2 x,fun m=>?_⟩⟩
 rcases h4 with h4|h4
 ·exact h4 x m
 ·refine Classical.byContradiction fun hn=> ?_
  have:=xP (x::qo l l.length []) l (List.nodup_cons.2 ⟨hn,vN h1⟩) fun y hy=>by
   rcases List.mem_cons.1 hy with rfl|hy
   ·exact m
   ·exact h2 y hy
  simp only[List.length_cons,h4,List.length_nil]at this
  omega
theorem Nc (zs:List az) (hs:zs.Pairwise fun a b=>bytesLess b a=false) : ∀ m,m≤zs.length→
 CF (Lib.compactUpTo zs.toArray m)∧(∀ x,x∈Lib.compactUpTo zs.toArray m↔x∈zs.take m):=by
 intro m
 induction m with
 |zero=>intro _;exact⟨by simp[Lib.compactUpTo,CF],fun x=>by simp[Lib.compactUpTo]⟩
 | succ m ih=>
  intro hm
  obtain⟨h1,h2⟩:=ih (by omega)
  have hz:zs[m]? = some zs[m]:=List.getElem?_eq_getElem (by omega)
  have e1:zs.toArray[m]! = zs[m]:=by simp[hm,Nat.lt_of_succ_le hm]
  have et:zs.take (m+1)=zs.take m++ [zs[m]]:=by rw[List.take_add_one,hz];rfl
  rw[Lib.compactUpTo_succ,e1,et]
  by_cases hk:Lib.keeps zs.toArray m=true
  ·rw [if_pos hk]
   refine⟨List.pairwise_append.2 ⟨h1,by simp,fun x hx y hy=>?_⟩,fun x=>by rw[List.mem_append,List.mem_append,h2]⟩
   have hy:y=zs[m]:=by simpa using hy
   subst hy
   have hx:=(h2 x).1 hx
   simp only[Lib.keeps,decide_eq_true_eq]at hk
   rcases hk with rfl|hk
   ·simp at hx
   ·have nV:m - 1<zs.length:=by omega
    have e2:zs.toArray[m - 1]! = zs[m - 1]:=by simp[nV]
    rw[e1,e2]at hk
    have h0:0<m:=by
     cases m with
     |zero=>simp at hx
     |succ m=>omega
    have hle : ∀ i j (hi:i<zs.length) (hj:j<zs.length),i<j→bytesLess zs[j] zs[i] = false:=fun i j hi hj YF=>List.pairwise_iff_getElem.1 hs i j hi hj YF
    have g1:bytesLess zs[m] zs[m - 1] = false:=hle (m - 1) m nV (by omega) (by omega)
    have g2:bytesLess zs[m - 1] zs[m] = true:=by
     rcases zI zs[m - 1] zs[m]with h|h|h
     ·exact h
     ·exact absurd h.symm hk
     ·rw[g1]at h;cases h
    obtain⟨i,hi,rfl⟩:=List.mem_iff_getElem.1 hx
    rw[List.length_take]at hi
    rw[List.getElem_take]
    by_cases og:i=m - 1
    ·subst og;exact g2
    ·have g3:=hle i (m - 1) (by omega) nV (by omega)
     rcases zI zs[i] zs[m - 1]with h|h|h
     ·exact F8 _ _ _ h g2
     ·rw[h];exact g2
     ·rw[g3]at h;cases h
  ·rw [if_neg hk]
   simp only[List.append_nil]
   refine⟨h1,fun x=>?_⟩
   rw[h2]
   simp only[Lib.keeps,decide_eq_true_eq,not_or,ne_eq,Decidable.not_not]at hk
   obtain⟨k1,k2⟩:=hk
   have nV:m - 1<zs.length:=by omega
   have e2:zs.toArray[m - 1]! = zs[m - 1]:=by simp[nV]
   rw[e1,e2]at k2
   simp only[List.mem_append,List.mem_singleton]
   constructor
   ·exact .inl
   ·rintro(h | rfl)
    ·exact h
    ·rw [k2]
     exact List.mem_iff_getElem.2 ⟨m - 1,by rw[List.length_take];omega,by rw[List.getElem_take]⟩
theorem IB (l:List az):(mW l).Pairwise fun a b=>bytesLess b a=false:=by
 have h:=List.pairwise_mergeSort (le:=fun x y:az=>decide (x≤y)) (fun a b c h1 h2=>?_) (fun a b=>?_) l
 ·refine h.imp fun {a b} h=> ?_
  rw[decide_eq_true_eq]at h
  show Go.Op.bytesLess b a=false
  rw[Go.Proofs.bytesLess_eq]
  simpa using h
 ·rw [decide_eq_true_eq]at h1 h2 ⊢
  exact List.le_trans h1 h2
 ·have:=List.le_total a b
  simpa using this
theorem CG (l:List az):Lib.compact (mW l)=jY l:=by
 obtain⟨h1,h2⟩:=Nc (mW l) (IB l) (mW l).length (Nat.le_refl _)
 obtain⟨h3,h4⟩:=jE l
 refine yC h1 h3 fun x=>?_
 rw[h4]
 refine(h2 x).trans ?_
 rw[List.take_length]
 exact(List.mergeSort_perm _ _).mem_iff
set_option maxRecDepth 8000
open Go.Proofs
def jF:List Sm→List az
 | []=> []
 |v::l=>if v.kind==4 then v.proc::jF l else jF l
theorem Eg : ∀ l:List Sm,(jF l).length≤l.length
 | []=>Nat.le_refl _
 |v::l=>by
  simp only[jF]
  have:=Eg l
  split<;>simp<;>omega
def Pc.calls (f:Pc):List az:=jY (jF (Sm.cL f.body))
theorem CH {name:az} : ∀ {l:List Pc} {k:Nat} {f:Pc},iw name l=some f→∃ j,l[j]? = some f∧kJ (fun f:Pc=>f.name==name) (k:Int) l=((k+j:Nat):Int)
 | g::l,k,f,h=>by
  simp only[iw]at h
  cases e:(g.name==name)
  ·rw [e]at h
   simp only[Bool.false_eq_true,if_false]at h
   obtain⟨j,h1,h2⟩:=CH (k:=k+1) h
   refine⟨j+1,by simpa using h1, ?_⟩
   simp only[kJ,e,Bool.false_eq_true,if_false]
   rw[show((k:Int)+1)=((k+1:Nat):Int)from rfl,h2]
   congr 1;omega
  ·rw [e]at h
   simp only[if_true,Option.some.injEq]at h
   exact⟨0,by simpa using h,by simp[kJ,e]⟩
theorem abU {p:Pg} (h:p.iX) {name:az} {f:Pc} (hf:p.find name=some f) (s:St):aF Tryz.prog uY [.dI (fL p) 0, .str name] s (.slice .shared 1 (f.calls.map encStr)) s:=by
 refine aF.pure ?_ (by simp[D.bJ,D.ok,vb]) (by simp only[D.ok,Tag.ok,ff];rfl) s
 obtain⟨sR,sE,sD⟩:=h.procs
 obtain⟨j,hj,rZ⟩:=CH (k:=0) hf
 have rZ:p.at name=((j:Nat):Int):=by unfold Pg.at;simpa using rZ
 have xJ:=fun s=>FU (p:=p) (by omega) name s
 rw[rZ]at xJ
 obtain⟨it,qA,xL⟩:=Xc hj (by omega)
 have afu:it.length≤900000:=by
  have e:=congrArg List.length qA
  obtain⟨a,b,e',_,_,e3,e4⟩:=(lR p).2 j f hj
  have e5:=p6 p
  have e6:=congrArg List.length e3
  rw[e4]at e5
  simp only[List.length_map,List.length_append]at e e5 e6
  omega
 unfold S0
 obtain⟨fn,Bv,Ee⟩:=FK
 refine aF.intro ⟨fn,Bv,Ee⟩ (Nat.le_of_ble_eq_true rfl) fun B hB=>?_
 generalize hQ:qE (⟨[],[]⟩:St).ah.length (⟨[],[]⟩:St).ay.length _ _ (⟨[],[]⟩:St)=Q
 have⟨hD,hY,hZ,gA⟩:=bN
 refine Sem.nN ?_
 repeat' (first
 |simp only[go_sem,hD,hY,hZ,gA]
 |(with_reducible refine aE hQ ?_;exact bo))
 refine Sem.nN ?_
 repeat' (first
 |simp only[go_sem,hD,hY,hZ,gA]
 |(with_reducible refine aE hQ ?_;exact bo))
 refine Sem.nN ?_
 repeat' (first
 |simp only[go_sem,hD,hY,hZ,gA]
 |(with_reducible refine CU (xJ _) ?_)
 |(with_reducible refine CU (xL _) ?_)
 |(with_reducible refine aE hQ ?_;exact bo))
 refine br.rn 5 1 rfl ?_
 simp only[go_sem,hD,hY,hZ,gA]
 obtain⟨R,hR⟩ : ∃ R,R=jF (Sm.cL f.body):=⟨_,rfl⟩
 have hRl:R.length≤900000:=by rw[hR, ← qA];have:=Eg (it.map Im.s);rw[List.length_map]at this;omega
 refine fc 0 1 (br.ind (ι:=List Im×Nat×List az×Nat) (fun i=>it.drop i.2.1=i.1∧i.2.2.1++jF (i.1.map Im.s)=R∧i.2.2.2=i.2.2.1.length) (fun i=>i.1.length)
  (fun i=> [(5, .slice (.tok 0) 1 (i.2.2.1.map encStr)),(12, .slice .shared 17 (it.map dF)),(13, .int .i64 (it.length:Int)),(14, .int .i64 (i.2.1:Int))]) (fun i=>⟨[],[some i.2.2.2]⟩) ?_ (it,0,[],0) ⟨rfl,by rw[hR,qA];rfl,rfl⟩)
 rintro⟨rest,k,out,n⟩ ⟨h1,h2,h3⟩ IH
 dsimp only at h1 h2 h3
 subst h3
 have jA:out.length≤900000:=by have:=congrArg List.length h2;rw[List.length_append]at this;omega
 cases rest with
 | cons a rest=>
  obtain⟨hY,g2,hD,g4⟩:=drop_cons h1
  have bW:k<4611686018427387904:=by omega
  have hZ:(out.length+1)*17≤bx:=by unfold bx;omega
  simp only[List.map_cons,jF]at h2
  rcases Bool.eq_false_or_eq_true (a.s.kind==4)with c1|c1
  ·simp only [c1,if_true]at h2
   repeat' (first
 |simp only[go_sem,hD,hY,hZ,gA,c1]
 | (with_reducible refine aE hQ ?_;exact bo))
   refine fe 0 1 ?_ ?_ (IH (rest,k+1,out++ [a.s.proc],out.length+1) ⟨g2,by rw[← h2];simp,by simp⟩ (Nat.lt_succ_self _))
   ·(simp only[go_sem,hD,hY,hZ,gA,aJ bW,List.map_append,List.map_cons,List.map_nil,encStr];try exact cq)
   ·(simp only[go_sem,hD,hY,hZ,gA,aJ bW,List.map_append,List.map_cons,List.map_nil,encStr];try exact cq)
  ·simp only [c1,Bool.false_eq_true,if_false]at h2
   repeat' (first
 |simp only[go_sem,hD,hY,hZ,gA,c1]
 | (with_reducible refine aE hQ ?_;exact bo))
   refine fe 0 1 ?_ ?_ (IH (rest,k+1,out,_) ⟨g2,h2,rfl⟩ (Nat.lt_succ_self _))
   ·(simp only[go_sem,hD,hY,hZ,gA,aJ bW];try exact cq)
   ·(simp only[go_sem,hD,hY,hZ,gA,aJ bW];try exact cq)
 |nil=>
  have hD:=drop_nil h1
  simp only[List.map_nil,jF,List.append_nil]at h2
  subst h2
  have F6:(mW out).length=out.length:=List.length_mergeSort out
  repeat' (first
 |simp only[go_sem,hD,hY,hZ,gA]
 |(with_reducible refine aE hQ ?_;exact bo))
  refine Sem.seq (Sem.sort (k:=5) (t:=0) (l:=out) hB (by decide) (by decide) (by decide) rfl rfl (by omega) ?_)
  show Sem _ _ _ _ _ _ _
  refine Sem.seq (Sem.compact (k:=5) (t:=0) (l:=mW out) hB (by decide) rfl (by rw[F6];rfl) (by rw[F6];omega) ?_)
  rw[CG]
  have aqE:f.calls=jY out:=by unfold Pc.calls;rw[hR]
  rw[aqE]at hQ
  refine iW (ac:= .ret) (Q:=Q) (tm:= [(32, .slice (.tok 0) 1 ((jY out).map encStr)),(4, .slice (.tok 0) 1 ((jY out).map encStr))]) (s:=⟨[],[some (jY out).length]⟩) ?_
  repeat' (first
 |simp only[go_sem,hD,hY,hZ,gA]
 |(with_reducible refine aE hQ ?_;exact bo))
theorem IC {name:az} : ∀ {l:List Pc},name∈l.map (·.name)→∃ f,iw name l=some f
 | f::l,h=>by
  simp only[iw]
  cases e:(f.name==name)
  ·simp only [Bool.false_eq_true,if_false]
   refine IC ?_
   rcases List.mem_cons.1 h with h|h
   ·rw[h]at e;simp at e
   ·exact h
  ·exact⟨f,rfl⟩
theorem ID {p:Pg} {f:Pc} {procs:List az} : ∀ {l:List Sm},vf p f procs l=none→∀ v∈l,v.known p f procs=true
 | v::l,h,w,m=>by
  simp only[vf]at h
  split at h
  ·rename_i e
   rcases List.mem_cons.1 m with rfl|m
   ·exact e
   ·exact ID h w m
  ·cases h
theorem IE {p:Pg} {procs:List az} : ∀ {l:List Pc},((qV p procs l).1==0)=true→∀ f∈l,fJ (p.globals++f.own)=false∧∀ v∈Sm.cL f.body,v.known p f procs=true
 | g::l,h,f,m=>by
  simp only[qV]at h
  split at h
  ·cases h
  ·rename_i e
   split at h
   ·cases h
   ·rename_i e2
    rcases List.mem_cons.1 m with rfl|m
    ·exact⟨by simpa using e,ID e2⟩
    ·exact IE h f m
theorem ER {p:Pg} (h:(p.scope.1==0)=true):fJ p.globals=false∧fJ p.pn=false∧p.p8=false∧∀ f∈p.procs,fJ (p.globals++f.own)=false∧∀ v∈Sm.cL f.body,v.known p f p.pn=true:=by
 unfold Pg.scope at h
 split at h
 ·split at h
  ·cases h
  ·rename_i e
   simp only[Bool.or_eq_true,not_or,Bool.not_eq_true]at e
   exact⟨e.1,e.2.1,e.2.2,IE h⟩
 ·cases h
theorem yE {x:az} : ∀ {l:List Sm},x∈jF l↔∃ v∈l,v.kind=4∧v.proc=x
 | []=>by simp[jF]
 | v::l=>by
  simp only[jF]
  cases e:(v.kind==4)
  ·have:v.kind≠4:=by simpa using e
   simp[this,yE (l:=l)]
  ·have:v.kind=4:=by simpa using e
   simp only[if_true,List.mem_cons,yE (l:=l),exists_eq_or_imp,this,true_and]
   constructor
   ·rintro(h | h)
    ·exact .inl h.symm
    ·exact .inr h
   ·rintro(h | h)
    ·exact .inl h.symm
    ·exact .inr h
theorem Uh {f:Pc} {x:az} : x∈f.calls↔∃ v∈Sm.cL f.body,v.kind=4∧v.proc=x:=by
 unfold Pc.calls;rw[(jE _).2,yE]
theorem yF {p:Pg} (h:(p.scope.1==0)=true) {f:Pc} (hf:f∈p.procs) {x:az} (m:x∈f.calls) : ∃ g,p.find x=some g:=by
 obtain⟨v,hv,h4,rfl⟩:=Uh.1 m
 have hk:=((ER h).2.2.2 f hf).2 v hv
 simp only[Sm.known,h4,Bool.and_eq_true,Bool.or_eq_true]at hk
 rcases hk.2 with h|⟨_,h⟩
 ·simp at h
 ·exact IC ((fP _ _).1 h)
def oX (p:Pg) (x:az):List az:=match p.find x with|some f=>f.calls|none=> []
def tu (out:List az):List az→List az
 | []=>out
 |x::l=>tu (tR out x) l
def nB (p:Pg):Nat→Nat→List az→List az
 | 0,_,out=>out
 |n+1,i,out=>match out[i]? with
  |some x=>nB p n (i+1) (tu out (oX p x))
  |none=>out
def Pg.work (p:Pg) (name:az):List az:=nB p (p.procs.length+1) 0 [name]
def Good (p:Pg) (out:List az):Prop:=out.Nodup∧∀ x∈out,∃ f,p.find x=some f
theorem Good.len {p:Pg} {out:List az} (h:Good p out):out.length≤p.procs.length:=by
 have:=xP out p.pn h.1 fun x m=>by
  obtain⟨f,hf⟩:=h.2 x m
  obtain⟨h1,h2⟩:=ry hf
  rw[← h2];exact List.mem_map_of_mem h1
 simpa[Pg.pn]using this
theorem Good.spk {p:Pg} {out:List az} (h:Good p out) {x:az} (hx : ∃ f,p.find x=some f):Good p (tR out x):=by
 unfold tR
 split
 ·exact h
 ·rename_i e
  have:x∉out:=fun m=>e ((fP _ _).2 m)
  refine⟨List.nodup_append.2 ⟨h.1,by simp,fun a ha b hb e'=>?_⟩,fun y hy=>?_⟩
  ·have hbx:b=x:=by simpa using hb
   rw[e',hbx]at ha;exact this ha
  ·rcases List.mem_append.1 hy with hy | hy
   ·exact h.2 y hy
   ·have:y=x:=by simpa using hy
    subst this;exact hx
theorem Good.add {p:Pg} : ∀ {l out:List az},Good p out→(∀ x∈l,∃ f,p.find x=some f)→Good p (tu out l)
 | [],out,h,_=>h
 |x::l,out,h,hx=>Good.add (l:=l) (out:=tR out x) (Good.spk h (hx x List.mem_cons_self)) fun y m=>hx y (List.mem_cons_of_mem _ m)
def tgB:Bool→Tag
 |true=> .tok 0
 |false=> .full
def tkB:Bool→Nat→List (Option Nat)
 |true,n=> [some n]
 |false,_=> []
def AB:AI→AI
 | .op d g (.dq z k n ps)=> .op d g (.vX z k n ps)
 |a=>a
section
variable {P:Program}
theorem Nd {nt:Nat} {ops:Array Oper} {i:Nat} {o:Oper} {ai:AI} (hi:ops[i]? = some o) (hc:cI P nt ops o=some ai)
 {M:Map} {s:St} {w:World} {tm:Tm} {act:Act} (r:Rel M s w) (k6:Laid M s w) (ht:mM M s tm act.tmps) {K':Tm→St→Prop} (h:jm P [AB ai] K' tm s)
 {K:Act→World→Prop} {Q:Exit→Act→World→Prop}
 (hK : ∀ d v s1 w1 M1,K' (tm.put ai.dst d) s1→Ext M s w M1 s1 w1→Rel M1 s1 w1→RD M1 s1 d v→K (act.put o.dst v) w1):wpOp P ops Q i K act w:=by
 by_cases hb : ∃ d g z k n ps,ai = .op d g (.dq z k n ps)
 ·obtain⟨d0,g0,z,k,n,ps,rfl⟩:=hb
  obtain⟨g,hg,_,hb⟩:=Cd hc
  rw[uh hb]at hK
  simp only[wpOp,hi]
  have skip:K' (tm.put o.dst (.tuple [])) s→K (act.put o.dst Go.undef) w:=fun hk=>hK _ _ _ _ _ hk (Ext.refl M s w) r .undef
  have hd:=uh hb
  simp only[AI.dst]at hd
  subst hd
  have oP:Fe P o=some (.dq z k n ps)∧g0=g:=by
   unfold tA at hb
   split at hb
   ·split at hb
    ·obtain⟨xs,_,h⟩:=map_some hb;cases h
    ·cases hb
   ·obtain⟨xs,_,h⟩:=map_some hb;cases h
   ·split at hb
    ·cases hb
    ·split at hb
     ·rename_i oP
      simp only[Option.some.injEq,AI.op.injEq,true_and]at hb
      obtain⟨h1,h2⟩:=hb
      split at h2
      ·cases h2
      ·cases h2;exact⟨oP,h1.symm⟩
     ·rename_i ao eW oP
      simp only[Option.some.injEq,AI.op.injEq,true_and]at hb
      obtain⟨h1,h2⟩:=hb
      subst h2
      exact⟨oP,h1.symm⟩
     ·cases hb
  obtain⟨oP,rfl⟩:=oP
  simp only[AB,jm]at h
  rcases kO hg ht h with ⟨hw,hA⟩|⟨hw,hB⟩
  ·simp only [hw,if_true]
   left
   split at hA
   ·rename_i d s' rF
    obtain⟨v,w',M',dM,r',hv,e'⟩:=Aa oP r ht rF
    unfold Oper.wp
    rcases dM with dM|⟨dM,rfl⟩
    ·rw [dM,Oper.upon_value]
     exact hK _ _ _ _ _ hA e' r' hv
    ·rw [dM,Oper.upon_skip]
     exact hK _ _ _ _ _ hA e' r' hv
   ·exact hA.elim
  ·simp only [hw]
   exact skip hB
 ·have hs:AB ai=ai:=by
   unfold AB
   split
   ·rename_i d g z k n ps;exact absurd ⟨d,g,z,k,n,ps,rfl⟩ hb
   ·rfl
  rw[hs]at h
  exact yh hi hc r k6 ht h hK
theorem abV {a:AI} {r:List AI} {K:Tm→St→Prop} {tm:Tm} {s:St} (h:jm P (a::r) K tm s):jm P [a] (jm P r K) tm s:=by
 cases a<;>exact h
theorem IF {B:gi} {nt:Nat} {ops:Array Oper} {Q:Exit→Tm→St→Prop} : ∀ (l:List Nat) (ol:List Oper) (is:List AI),l.map (ops[·]?)=ol.map some→rR P nt ops ol=some is→
 ∀ (tm:Tm) (s:St) (act:Act) (w:World),jm P (is.map AB) (Q .normal) tm s→Holds B nt tm s act w→wpOps P ops (qD B nt Q) l act w
 | [],[],is,_,hc,tm,s,act,w,h,hh=>by cases hc;exact⟨tm,s,h,hh⟩
 | [],_::_,_,hl,_,_,_,_,_,_,_=>by simp at hl
 |_::_,[],_,hl,_,_,_,_,_,_,_=>by simp at hl
 | i::l,o::ol,is,hl,hc,tm,s,act,w,h,hh=>by
  simp only[List.map_cons,List.cons.injEq]at hl
  obtain⟨hi,hl⟩:=hl
  unfold rR at hc
  split at hc
  ·rename_i ai SA h1 h2
   cases hc
   obtain⟨M,e,r,ht,hn,hd⟩:=hh
   have rl:=ze h1
   have hdd:=ui h1
   rw[List.map_cons]at h
   have key:=Nd (K:=fun act w=>wpOps P ops (qD B nt Q) l act w) (Q:=qD B nt Q) hi h1 r (B.laid.ext e) ht (abV h) (fun d v s1 w1 M1 hk e1 r1 hv=>
    IF (Q:=Q) l ol SA hl h2 _ _ _ _ hk (hdd ▸ Holds.put e ht hn hd rl e1 r1 hv))
   simpa only[wpOps,wpOp,hi]using key
  ·cases hc
theorem Sem.swap {B:gi} {nt:Nat} {is:List AI} {Q:Exit→Tm→St→Prop} {tm:Tm} {s:St} (h:kL P B nt (.run (is.map AB)) Q tm s):Sem P B nt (.run is) Q tm s:=by
 intro c hc act w hh
 obtain⟨id,ops,rfl,hi⟩:=mr hc
 refine wp_region ?_
 exact IF _ _ is (Ca ops) hi tm s act w (o6 h) hh
end
end Go.Abs
namespace Go.Abs
set_option maxRecDepth 8000
open Go.Proofs
theorem Rk {l:List az} (h:l.Nodup):mW l=jY l:=by
 refine yC ?_ (jE l).1 fun x=>?_
 ·have h1:=IB l
  have h2:(mW l).Nodup:=(List.mergeSort_perm l _).nodup_iff.2 h
  refine(List.pairwise_and_iff.2 ⟨h1,h2⟩).imp fun {a b} ZX=>?_
  rcases zI a b with e|e|e
  ·exact e
  ·exact absurd e ZX.2
  ·rw[ZX.1]at e;cases e
 ·rw[(jE l).2];exact(List.mergeSort_perm l _).mem_iff
theorem CI {p:Pg} (kv:(p.scope.1==0)=true) : ∀ (n i:Nat) (out:List az),Good p out→Good p (nB p n i out)
 | 0,i,out,h=>h
 | n+1,i,out,h=>by
  simp only[nB]
  split
  ·rename_i x hx
   obtain⟨g,hg⟩:=h.2 x (List.mem_of_getElem? hx)
   refine CI kv n _ _ (h.add fun y m=>?_)
   unfold oX at m
   rw[hg]at m
   exact yF kv (ry hg).1 m
  ·exact h
theorem AE {p:Pg} {name:az} {f:Pc} (hf:p.find name=some f):Good p [name]:=
 ⟨by simp,fun x m=>by
  have:x=name:=by simpa using m
  subst this;exact⟨f,hf⟩⟩
theorem abW {p:Pg} (h:p.iX) (kv:(p.scope.1==0)=true) {name:az} {f:Pc} (hf:p.find name=some f) (s:St):aF Tryz.prog yw [.dI (fL p) 0, .str name] s (.slice .shared 1 ((jY (p.work name)).map encStr)) s:=by
 refine aF.pure ?_ (by simp[D.bJ,D.ok,vb]) (by simp only[D.ok,Tag.ok,ff];rfl) s
 obtain⟨sR,sE,sD⟩:=h.procs
 obtain⟨R,hR⟩ : ∃ R,p.work name=R:=⟨_,rfl⟩
 have hgR:Good p R:=hR ▸ CI kv _ _ _ (AE hf)
 rw[hR, ← Rk hgR.1]
 unfold Pg.work at hR
 have hg0:Good p [name]:=AE hf
 have hRl:=hgR.len
 unfold S0
 obtain⟨fn,Bv,Ee⟩:=Jt
 refine aF.intro ⟨fn,Bv,Ee⟩ (Nat.le_of_ble_eq_true rfl) fun B hB=>?_
 generalize hQ:qE (⟨[],[]⟩:St).ah.length (⟨[],[]⟩:St).ay.length _ _ (⟨[],[]⟩:St)=Q
 have⟨hD,hY,hZ,gA⟩:=bN
 refine Sem.nN ?_
 repeat' (first
 |simp only[go_sem,hD,hY,hZ,gA]
 |(with_reducible first|refine bk fun hc=>?_|refine bl fun hc=>?_|refine bm (fun hc=>?_) fun hc=>?_)<;>(try simp only[hc,bs,↓reduceIte]at h)<;>try simp only[hc]
 |(with_reducible refine aE hQ ?_;exact fD)
 |(cases h;done))
 refine Sem.seq (Sem.swap ?_)
 simp only[List.map_cons,List.map_nil,AB]
 repeat' (first
 |simp only[go_sem,hD,hY,hZ,gA]
 |(with_reducible first|refine bk fun hc=>?_|refine bl fun hc=>?_|refine bm (fun hc=>?_) fun hc=>?_)<;>(try simp only[hc,bs,↓reduceIte]at h)<;>try simp only[hc]
 |(with_reducible refine aE hQ ?_;exact fD)
 |(cases h;done))
 refine Sem.nN ?_
 repeat' (first
 |simp only[go_sem,hD,hY,hZ,gA]
 |(with_reducible first|refine bk fun hc=>?_|refine bl fun hc=>?_|refine bm (fun hc=>?_) fun hc=>?_)<;>(try simp only[hc,bs,↓reduceIte]at h)<;>try simp only[hc]
 |(with_reducible refine aE hQ ?_;exact fD)
 |(cases h;done))
 refine fc 0 1 (br.ind (ι:=Nat×Nat×List az×Nat) (fun i=>nB p i.1 i.2.1 i.2.2.1=R∧Good p i.2.2.1∧i.1+i.2.1=p.procs.length+1∧i.2.2.2=i.2.2.1.length) (fun i=>i.1)
  (fun i=> [(0, .dI (fL p) 0),(5, .slice (.tok 0) 1 (i.2.2.1.map encStr)),(6, .int .i64 (i.2.1:Int))]) (fun i=>⟨[],[some i.2.2.2]⟩) ?_ (p.procs.length+1,0,[name],1) ⟨hR,hg0,rfl,rfl⟩)
 rintro⟨n,i,out,no⟩ ⟨h1,h2,h3,h4⟩ IH
 dsimp only at h1 h2 h3 h4
 subst h4
 have jA:=h2.len
 cases hx:out[i]? with
 | none=>
  have hD:decide ((i:Int)<(out.length:Int))=false:=by have:=List.getElem?_eq_none_iff.1 hx;simp;omega
  have:R=out:=by
   cases n with
   |zero=>simpa[nB]using h1.symm
   |succ n=>simp only[nB,hx]at h1;exact h1.symm
  subst this
  repeat' (first
 |simp only[go_sem,hD,hY,hZ,gA]
 |(with_reducible first|refine bk fun hc=>?_|refine bl fun hc=>?_|refine bm (fun hc=>?_) fun hc=>?_)<;>(try simp only[hc,bs,↓reduceIte]at h)<;>try simp only[hc]
 |(with_reducible refine aE hQ ?_;exact fD)
 |(cases h;done))
  refine Sem.seq (Sem.sort (k:=5) (t:=0) (l:=R) hB (by decide) (by decide) (by decide) rfl rfl (by omega) ?_)
  refine iW (ac:=ae7) (Q:=Q) (tm:= [(5, .slice (.tok 0) 1 ((mW R).map encStr))]) (s:=⟨[],[some R.length]⟩) ?_
  repeat' (first
 |simp only[go_sem,hD,hY,hZ,gA]
 |(with_reducible first|refine bk fun hc=>?_|refine bl fun hc=>?_|refine bm (fun hc=>?_) fun hc=>?_)<;>(try simp only[hc,bs,↓reduceIte]at h)<;>try simp only[hc]
 |(with_reducible refine aE hQ ?_;exact fD)
 |(cases h;done))
 |some x=>
  have rG:=(List.getElem?_eq_some_iff.1 hx).1
  have hD:decide ((i:Int)<(out.length:Int))=true:=by simp;omega
  have og:i<4611686018427387904:=by omega
  cases n with
  |zero=>omega
  |succ n=>
  simp only[nB,hx]at h1
  obtain⟨g,Ly⟩:=h2.2 x (List.mem_of_getElem? hx)
  have Ui:=(ry Ly).1
  have Z5:=fun s=>abU h Ly s
  have hcn:oX p x=g.calls:=by unfold oX;rw[Ly]
  rw[hcn]at h1
  have hth : ∀ y∈g.calls,∃ f,p.find y=some f:=fun y m=>yF kv Ui m
  have ayR:g.calls.length≤p.procs.length:=Good.len ⟨vN (jE _).1,hth⟩
  obtain⟨W,hW⟩ : ∃ W,tu out g.calls=W:=⟨_,rfl⟩
  rw[hW]at h1
  repeat' (first
 |simp only[go_sem,hD,hY,hZ,gA,hx]
 |(with_reducible refine CU (Z5 _) ?_)
 |(with_reducible first|refine bk fun hc=>?_|refine bl fun hc=>?_|refine bm (fun hc=>?_) fun hc=>?_)<;>(try simp only[hc,bs,↓reduceIte]at h)<;>try simp only[hc]
 |(with_reducible refine aE hQ ?_;(try cases h);simp only[aT,aV,bE,bF,go_sem,hD,hY,hZ,gA,hx];try exact cf)
 | (cases h;done))
  refine fc 0 1 (br.ind (ι:=List az×Nat×List az×Nat) (fun j=>g.calls.drop j.2.1=j.1∧tu j.2.2.1 j.1=W∧Good p j.2.2.1∧j.2.2.2=j.2.2.1.length) (fun j=>j.1.length)
   (fun j=> [(0, .dI (fL p) 0),(5, .slice (.tok 0) 1 (j.2.2.1.map encStr)),(6, .int .i64 (i:Int)),(22, .slice .shared 1 (g.calls.map encStr)),(23, .int .i64 (g.calls.length:Int)),(24, .int .i64 (j.2.1:Int))]) (fun j=>⟨[],[some j.2.2.2]⟩) ?_ (g.calls,0,out,out.length) ⟨rfl,hW,h2,rfl⟩)
  clear hW
  rintro⟨rest,k,cW,n'⟩ ⟨j1,j2,j3,j4⟩ Z2
  dsimp only at j1 j2 j3 j4
  subst j4
  have ayS:=j3.len
  cases rest with
  |nil=>
   have afD:=drop_nil j1
   simp only[tu]at j2
   subst j2
   repeat' (first
 |simp only[go_sem,hD,hY,hZ,gA,afD]
 |(with_reducible first|refine bk fun hc=>?_|refine bl fun hc=>?_|refine bm (fun hc=>?_) fun hc=>?_)<;>(try simp only[hc,bs,↓reduceIte]at h)<;>try simp only[hc]
 |(with_reducible refine aE hQ ?_;(try cases h);simp only[aT,aV,bE,bF,go_sem,hD,hY,hZ,gA,afD];try exact cf)
 | (cases h;done))
   refine fe 0 1 ?_ ?_ (IH (n,i+1,cW,cW.length) ⟨h1,j3,by dsimp only;omega,rfl⟩ (Nat.lt_succ_self _))
   ·(simp only[go_sem,hD,hY,hZ,gA,aJ og];try exact cq)
   ·(simp only[go_sem,hD,hY,hZ,gA,aJ og];try exact cq)
  | cons y rest=>
   obtain⟨p9,NR,zE,jg4⟩:=drop_cons j1
   have zF:k<4611686018427387904:=by omega
   have hZ:(cW.length+1)*17≤bx:=by unfold bx;omega
   have IG:=fun g s=>jW (l:=cW) (by omega) y g s
   have hy:=hth y (List.mem_of_getElem? p9)
   have D6:=j3.spk hy
   simp only[tu]at j2
   rcases Bool.eq_false_or_eq_true (e9 cW y)with c1|c1
   ·simp only [tR,c1,if_true]at j2
    repeat' (first
 |simp only[go_sem,hD,hY,hZ,gA,zE,p9,c1]
 |(with_reducible refine CU (IG _ _) ?_)
 |(with_reducible first|refine bk fun hc=>?_|refine bl fun hc=>?_|refine bm (fun hc=>?_) fun hc=>?_)<;>(try simp only[hc,bs,↓reduceIte]at h)<;>try simp only[hc]
 |(with_reducible refine aE hQ ?_;(try cases h);simp only[aT,aV,bE,bF,go_sem,hD,hY,hZ,gA,zE,p9,c1];try exact cf)
 | (cases h;done))
    refine fe 0 1 ?_ ?_ (Z2 (rest,k+1,cW,cW.length) ⟨NR,j2,j3,rfl⟩ (Nat.lt_succ_self _))
    ·(simp only[go_sem,hD,hY,hZ,gA,aJ zF];try exact cq)
    ·(simp only[go_sem,hD,hY,hZ,gA,aJ zF];try exact cq)
   ·simp only [tR,c1,Bool.false_eq_true,if_false]at j2 D6
    repeat' (first
 |simp only[go_sem,hD,hY,hZ,gA,zE,p9,c1]
 |(with_reducible refine CU (IG _ _) ?_)
 |(with_reducible first|refine bk fun hc=>?_|refine bl fun hc=>?_|refine bm (fun hc=>?_) fun hc=>?_)<;>(try simp only[hc,bs,↓reduceIte]at h)<;>try simp only[hc]
 |(with_reducible refine aE hQ ?_;(try cases h);simp only[aT,aV,bE,bF,go_sem,hD,hY,hZ,gA,zE,p9,c1];try exact cf)
 | (cases h;done))
    refine fe 0 1 ?_ ?_ (Z2 (rest,k+1,cW++ [y],cW.length+1) ⟨NR,j2,D6,by simp⟩ (Nat.lt_succ_self _))
    ·(simp only[go_sem,hD,hY,hZ,gA,aJ zF,List.map_append,List.map_cons,List.map_nil,encStr];try exact cq)
    ·(simp only[go_sem,hD,hY,hZ,gA,aJ zF,List.map_append,List.map_cons,List.map_nil,encStr];try exact cq)
theorem Lz (name:az) : ∀ l:List Pc,l.any (fun f=>f.name==name)=(iw name l).isSome
 | []=>rfl
 |f::l=>by
  simp only[List.any_cons,iw]
  cases e:(f.name==name)
  ·simp[Lz name l]
  ·simp
theorem XC (name:az) (f:Pc):aF Tryz.prog pF ([.agg (cy f)]++ [.ptr 0 0]) ⟨[[.str name]],[]⟩ (.bool (f.name==name)) ⟨[[.str name]],[]⟩:=by
 show aF Tryz.prog pF [.agg (cy f), .ptr 0 0] _ _ _
 refine aF.go DP rfl fun B Q hB hQ=>?_
 have⟨hD,hY,hZ,gA⟩:=bN
 repeat' (first
 |simp only[go_sem,hD,hY,hZ,gA]
 |(with_reducible refine aE hQ ?_;exact bo))
def Pg.sH (p:Pg) (name:az):Option Pc:=if p.scope.1==0 then p.find name else none
theorem XD {p:Pg} (h:p.iX) (name:az) (s:St):aF Tryz.prog uX [.agg (cB p), .str name] s (.bool (p.sH name).isSome) s:=by
 refine aF.pure ?_ (by simp[D.bJ,D.ok,jq]) rfl s
 obtain⟨sR,sE,sD⟩:=h.procs
 have qv:=fun s=>wN h s
 have hi:=fun {s:St} {o:Nat} (ho:s.ah[o]? = some [.str name])=>Cu (BB (l:=p.procs) (f:=pF) (row:= [.str name]) (b:=fun f:Pc=>f.name==name) (by omega) rfl (by with_unfolding_all rfl) (fun x _=>XC name x)) rfl (xr _) rfl ho
 have iA:=fun {s:St} {o:Nat} (ho:s.ah[o]? = some [.str name])=>(show aF Tryz.prog gY [.slice .shared 5 (p.procs.map cy), .gw 191 [.ptr o 0]] s (.bool (p.procs.any fun f:Pc=>f.name==name)) s from hi ho)
 simp only[Lz]at iA
 unfold Pg.sH Pg.find
 unfold S0
 rcases Bool.eq_false_or_eq_true (p.scope.1==0)with b1|b1
 ·simp only [b1,if_true]
  refine aF.go xC rfl fun B Q hB hQ=>?_
  have⟨hD,hY,hZ,gA⟩:=bN
  repeat' (first
 |simp only[go_sem,hD,hY,hZ,gA,b1]
 |(with_reducible refine CU (qv _) ?_)
 |(with_reducible refine CU (iA (by with_unfolding_all rfl)) ?_)
 |(with_reducible refine aE hQ ?_;exact bo))
 ·simp only [b1,Bool.false_eq_true,if_false,Option.isSome_none]
  refine aF.go xC rfl fun B Q hB hQ=>?_
  have⟨hD,hY,hZ,gA⟩:=bN
  repeat' (first
 |simp only[go_sem,hD,hY,hZ,gA,b1]
 |(with_reducible refine CU (qv _) ?_)
 |(with_reducible refine CU (iA (by with_unfolding_all rfl)) ?_)
 |(with_reducible refine aE hQ ?_;exact bo))
def Pg.axv (p:Pg) (name:az):List az:=match p.sH name with|some f=>f.calls|none=> []
def Pg.aqF (p:Pg) (name:az):List az:=match p.sH name with|some _=>jY (p.work name)|none=> []
theorem CJ {p:Pg} {name:az} {f:Pc} (h:p.sH name=some f):(p.scope.1==0)=true∧p.find name=some f:=by
 unfold Pg.sH at h
 split at h
 ·exact⟨by assumption,h⟩
 ·cases h
def qp (p:Pg) (out:List az):List az→List az
 | []=>out
 |v::l=>qp p (if e9 p.globals v then out++ [v]else out) l
def qq (p:Pg) (out:List az):List Sm→List az
 | []=>out
 |v::l=>qq p (qp p out v.said) l
def lA (p:Pg) (n:az):List Sm:=match p.find n with|some f=>Sm.cL f.body|none=> []
def q9 (p:Pg) (out:List az):List az→List az
 | []=>out
 |n::l=>q9 p (qq p out (lA p n)) l
theorem AG (p:Pg) : ∀ (l out:List az),out.length≤(qp p out l).length∧(qp p out l).length≤out.length+l.length
 | [],out=>⟨Nat.le_refl _,Nat.le_refl _⟩
 |v::l,out=>by
  simp only[qp]
  have h:=AG p l (if e9 p.globals v then out++ [v]else out)
  have h2:out.length≤(if e9 p.globals v then out++ [v]else out).length∧(if e9 p.globals v then out++ [v]else out).length≤out.length+1:=by split<;>simp
  simp only[List.length_cons]
  omega
def pH:List Sm→Nat
 | []=>0
 |v::l=>v.said.length+pH l
theorem CK : ∀ a b:List Sm,pH (a++b)=pH a+pH b
 | [],b=>by simp[pH]
 |v::a,b=>by simp only[List.cons_append,pH,CK a b];omega
theorem abX (v:Sm):v.said.length≤1+v.x.size+2*Ar.a7 v.args:=by
 have : ∀ (l:List Ar) (out:List az),(Ar.said out l).length≤out.length+2*Ar.a7 l:=by
  intro l
  induction l with
  |nil=>intro out;simp[Ar.said]
  |cons a l ih=>
   intro out
   simp only[Ar.said,Ar.a7]
   refine Nat.le_trans (ih _) ?_
   have:=lT a.x
   have:1≤a.x.size:=by obtain⟨_,_,_,_⟩:=a.x;simp[Ex.size]
   simp only[List.length_append]
   split<;>simp<;>omega
 have h1:=this v.args (v.sF++v.x.names)
 have h2:=lT v.x
 have h4:v.sF.length≤1:=by unfold Sm.sF;split<;>simp
 simp only[List.length_append]at h1
 unfold Sm.said
 omega
mutual
theorem Uj : ∀ s:Sm,pH s.pre≤2*s.size
 |⟨id,kind,labels,name,proc,x,has,args,bb,aP⟩=>by
  simp only[Sm.pre,pH,CK,Sm.size]
  have h1:=abX ⟨id,kind,labels,name,proc,x,has,args,bb,aP⟩
  have h2:=vO bb
  have h3:=vO aP
  dsimp only at h1
  omega
theorem vO : ∀ l:List Sm,pH (Sm.cL l)≤2*Sm.a7 l
 | []=>by simp[Sm.cL,pH,Sm.a7]
 |s::l=>by
  simp only[Sm.cL,CK,Sm.a7]
  have:=Uj s;have:=vO l;omega
end
theorem AH (p:Pg) : ∀ (l:List Sm) (out:List az),out.length≤(qq p out l).length∧(qq p out l).length≤out.length+pH l
 | [],out=>⟨Nat.le_refl _,Nat.le_refl _⟩
 |v::l,out=>by
  simp only[qq,pH]
  have h:=AH p l (qp p out v.said)
  have h2:=AG p v.said out
  omega
theorem AJ {p:Pg} (h:p.iX) : ∀ (l out:List az),out.length≤(q9 p out l).length∧(q9 p out l).length≤out.length+l.length*1800000
 | [],out=>⟨Nat.le_refl _,by simp[q9]⟩
 | n::l,out=>by
  simp only[q9]
  have h1:=AJ h l (qq p out (lA p n))
  have h2:=AH p (lA p n) out
  have h3:pH (lA p n)≤1800000:=by
   unfold lA
   split
   ·rename_i f hf
    have:=vO f.body
    have h4:=Pc.df (ry hf).1
    have h5:=h.procs.2.1
    simp only[Pc.size]at h4
    omega
   ·simp[pH]
  simp only[List.length_cons]
  omega
theorem Uk {p:Pg} (h:p.may=true):p.procs.length≤16:=by
 unfold Pg.may at h
 split at h
 ·cases h
 ·rename_i c
  simp only[Bool.or_eq_true,decide_eq_true_eq,not_or,Int.not_lt,gt_iff_lt]at c
  have:=c.1.2
  omega
def Pg.rz (p:Pg) (name:az):List az:=q9 p [] (jY (p.work name))
def Pg.mA (p:Pg) (name:az):List az:=match p.sH name with|some _=>jY (p.rz name)|none=> []
theorem LA {p:Pg} (kv:(p.scope.1==0)=true) {name:az} {f:Pc} (hf:p.find name=some f):Good p (jY (p.work name)):=by
 have h:=CI kv (p.procs.length+1) 0 [name] (AE hf)
 refine⟨vN (jE _).1,fun x m=>h.2 x ?_⟩
 exact((jE _).2 x).1 m
theorem Ul {p:Pg} (h:p.iX) (name:az) (s:St):aF Tryz.prog sq [.agg (cB p), .str name] s (.slice .shared 1 ((p.mA name).map encStr)) s:=by
 refine aF.pure ?_ (by simp[D.bJ,D.ok,jq]) (by simp only[D.ok,Tag.ok,ff];rfl) s
 have hk:=fun s=>XD h name s
 have dw:=fun s=>Dp (p:=p) (by have:=h.procs;omega) s
 unfold Pg.mA
 unfold S0
 cases XE:p.sH name with
 |none=>
  simp only[XE,Option.isSome_none]at hk
  simp only[List.map_nil]
  refine aF.go vz rfl fun B Q hB hQ=>?_
  have⟨hD,hY,hZ,gA⟩:=bN
  repeat' (first
 |simp only[go_sem,hD,hY,hZ,gA]
 |(with_reducible refine CU (hk _) ?_)
 |(with_reducible refine aE hQ ?_;exact bo))
 |some f=>
 obtain⟨kv,hf⟩:=CJ XE
 simp only[XE,Option.isSome_some]at hk
 dsimp only
 obtain⟨sR,sE,sD⟩:=h.procs
 have hN:=LA kv hf
 obtain⟨N,hNe⟩ : ∃ N,jY (p.work name)=N:=⟨_,rfl⟩
 rw[hNe]at hN
 have hNl:=hN.len
 obtain⟨R,hR⟩ : ∃ R,p.rz name=R:=⟨_,rfl⟩
 rw[hR]
 unfold Pg.rz at hR
 rw[hNe]at hR
 have hRl:R.length≤28800000:=by
  have:=(AJ h N []).2
  rw[hR]at this
  have h4:=Uk (CC kv)
  have h3:N.length*1800000≤16*1800000:=Nat.mul_le_mul_right _ (by omega)
  simp only[List.length_nil]at this
  omega
 have Z5:=fun s=>abW h kv hf s
 simp only[hNe]at Z5
 obtain⟨fn,Bv,Ee⟩:=vz
 refine aF.intro ⟨fn,Bv,Ee⟩ (Nat.le_of_ble_eq_true rfl) fun B hB=>?_
 generalize hQ:qE (⟨[],[]⟩:St).ah.length (⟨[],[]⟩:St).ay.length _ _ (⟨[],[]⟩:St)=Q
 have⟨hD,hY,hZ,gA⟩:=bN
 refine Sem.nN ?_
 repeat' (first
 |simp only[go_sem,hD,hY,hZ,gA]
 |(with_reducible refine aE hQ ?_;exact bo))
 refine Sem.nN ?_
 repeat' (first
 |simp only[go_sem,hD,hY,hZ,gA]
 |(with_reducible refine CU (hk _) ?_)
 |(with_reducible refine aE hQ ?_;exact bo))
 refine Sem.nN ?_
 repeat' (first
 |simp only[go_sem,hD,hY,hZ,gA]
 |(with_reducible refine CU (dw _) ?_)
 |(with_reducible refine aE hQ ?_;exact bo))
 refine Sem.nN ?_
 repeat' (first
 |simp only[go_sem,hD,hY,hZ,gA]
 |(with_reducible refine aE hQ ?_;exact bo))
 refine Sem.nN ?_
 repeat' (first
 |simp only[go_sem,hD,hY,hZ,gA]
 |(with_reducible refine CU (Z5 _) ?_)
 |(with_reducible refine aE hQ ?_;exact bo))
 refine br.rn 6 1 rfl ?_
 simp only[go_sem,hD,hY,hZ,gA]
 refine fc 1 1 (br.ind (ι:=List az×Nat×List az×Nat) (fun i=>N.drop i.2.1=i.1∧q9 p i.2.2.1 i.1=R∧i.2.2.1.length≤R.length∧i.2.2.2=i.2.2.1.length) (fun i=>i.1.length)
  (fun i=> [(2, .ptr 0 0),(5, .dI (fL p) 0),(6, .slice (.tok 0) 1 (i.2.2.1.map encStr)),(21, .slice .shared 1 (N.map encStr)),(22, .int .i64 (N.length:Int)),(23, .int .i64 (i.2.1:Int))]) (fun i=>⟨[cB p],[some i.2.2.2]⟩) ?_ (N,0,[],0) ⟨rfl,hR,Nat.zero_le _,rfl⟩)
 rintro⟨rest,k,out,no⟩ ⟨h1,h2,h3,h4⟩ IH
 dsimp only at h1 h2 h3 h4
 subst h4
 cases rest with
 |nil=>
  have hD:=drop_nil h1
  simp only[q9]at h2
  subst h2
  have F6:(mW out).length=out.length:=List.length_mergeSort out
  repeat' (first
 |simp only[go_sem,hD,hY,hZ,gA]
 |(with_reducible refine aE hQ ?_;exact bo))
  refine Sem.seq (Sem.sort (k:=6) (t:=0) (l:=out) hB (by decide) (by decide) (by decide) rfl rfl (by omega) ?_)
  refine Sem.seq (Sem.compact (k:=6) (t:=0) (l:=mW out) hB (by decide) rfl (by rw[F6];rfl) (by rw[F6];omega) ?_)
  rw[CG]
  refine iW (ac:= .ret) (Q:=Q) (tm:= [(59, .slice (.tok 0) 1 ((jY out).map encStr)),(4, .slice (.tok 0) 1 ((jY out).map encStr))]) (s:=⟨[],[some (jY out).length]⟩) ?_
  repeat' (first
 |simp only[go_sem,hD,hY,hZ,gA]
 |(with_reducible refine aE hQ ?_;exact bo))
 | cons x rest=>
  obtain⟨hY,g2,hD,g4⟩:=drop_cons h1
  have bW:k<4611686018427387904:=by omega
  obtain⟨g,Ly⟩:=hN.2 x (List.mem_of_getElem? hY)
  have Ui:=(ry Ly).1
  have hbd:lA p x=Sm.cL g.body:=by unfold lA;rw[Ly]
  simp only[q9,hbd]at h2
  obtain⟨j,hj,rZ⟩:=CH (k:=0) Ly
  have rZ:p.at x=((j:Nat):Int):=by unfold Pg.at;simpa using rZ
  have xJ:=fun s=>FU (p:=p) (by omega) x s
  simp only[rZ]at xJ
  obtain⟨it,qA,xL⟩:=Xc hj (by omega)
  have afu:it.length≤900000:=by
   have e:=congrArg List.length qA
   obtain⟨a,b,e',_,_,e3,e4⟩:=(lR p).2 j g hj
   have e5:=p6 p
   have e6:=congrArg List.length e3
   rw[e4]at e5
   simp only[List.length_map,List.length_append]at e e5 e6
   omega
  rw[← qA]at h2
  repeat' (first
 |simp only[go_sem,hD,hY,hZ,gA,hY]
 |(with_reducible refine CU (xJ _) ?_)
 |(with_reducible refine CU (xL _) ?_)
 | (with_reducible refine aE hQ ?_;exact bo))
  obtain⟨W,hW⟩ : ∃ W,qq p out (it.map Im.s)=W:=⟨_,rfl⟩
  rw[hW]at h2
  have hWR:W.length≤R.length:=by have:=(AJ h rest W).1;rw[h2]at this;exact this
  have Uc:out.length≤W.length:=by have:=(AH p (it.map Im.s) out).1;rw[hW]at this;exact this
  refine fc 1 1 (br.ind (ι:=List Im×Nat×List az×Nat) (fun i=>it.drop i.2.1=i.1∧qq p i.2.2.1 (i.1.map Im.s)=W∧i.2.2.1.length≤W.length∧i.2.2.2=i.2.2.1.length) (fun i=>i.1.length)
   (fun i=> [(2, .ptr 0 0),(5, .dI (fL p) 0),(6, .slice (.tok 0) 1 (i.2.2.1.map encStr)),(21, .slice .shared 1 (N.map encStr)),(22, .int .i64 (N.length:Int)),(23, .int .i64 (k:Int)),(31, .slice .shared 17 (it.map dF)),(32, .int .i64 (it.length:Int)),(33, .int .i64 (i.2.1:Int))]) (fun i=>⟨[cB p],[some i.2.2.2]⟩) ?_ (it,0,out,out.length) ⟨rfl,hW,Uc,rfl⟩)
  rintro⟨xQ,k2,ES,no⟩ ⟨j1,j2,j3,j4⟩ FY
  dsimp only at j1 j2 j3 j4
  subst j4
  cases xQ with
  |nil=>
   have XF:=drop_nil j1
   simp only[List.map_nil,qq]at j2
   subst j2
   repeat' (first
 |simp only[go_sem,hD,hY,hZ,gA,XF]
 | (with_reducible refine aE hQ ?_;exact bo))
   refine fe 1 1 ?_ ?_ (IH (rest,k+1,ES,ES.length) ⟨g2,h2,hWR,rfl⟩ (Nat.lt_succ_self _))
   ·(simp only[go_sem,hD,hY,hZ,gA,aJ bW];try exact cq)
   ·(simp only[go_sem,hD,hY,hZ,gA,aJ bW];try exact cq)
  |cons y xQ=>
   obtain⟨p9,NR,zE,jg4⟩:=drop_cons j1
   have zF:k2<4611686018427387904:=by omega
   have hym:y.s∈Sm.cL g.body:=by rw[← qA];exact List.mem_map_of_mem (List.mem_of_getElem? p9)
   have sT:=h.said Ui _ hym
   have ZY:=fun s=>Cw sT s
   have F6:=Lp _ sT
   simp only[List.map_cons,qq]at j2
   repeat' (first
 |simp only[go_sem,hD,hY,hZ,gA,zE,p9]
 |(with_reducible refine CU (ZY _) ?_)
 | (with_reducible refine aE hQ ?_;exact bo))
   obtain⟨V,hV⟩ : ∃ V,qp p ES y.s.said=V:=⟨_,rfl⟩
   rw[hV]at j2
   have hVW:V.length≤W.length:=by have:=(AH p (xQ.map Im.s) V).1;rw[j2]at this;exact this
   have hoV:ES.length≤V.length:=by have:=(AG p y.s.said ES).1;rw[hV]at this;exact this
   refine fc 1 1 (br.ind (ι:=List az×Nat×List az×Nat) (fun i=>y.s.said.drop i.2.1=i.1∧qp p i.2.2.1 i.1=V∧i.2.2.1.length≤V.length∧i.2.2.2=i.2.2.1.length) (fun i=>i.1.length)
    (fun i=> [(2, .ptr 0 0),(5, .dI (fL p) 0),(6, .slice (.tok 0) 1 (i.2.2.1.map encStr)),(21, .slice .shared 1 (N.map encStr)),(22, .int .i64 (N.length:Int)),(23, .int .i64 (k:Int)),(31, .slice .shared 17 (it.map dF)),(32, .int .i64 (it.length:Int)),(33, .int .i64 (k2:Int)),(39, .slice .shared 1 (y.s.said.map encStr)),(40, .int .i64 (y.s.said.length:Int)),(41, .int .i64 (i.2.1:Int))]) (fun i=>⟨[cB p],[some i.2.2.2]⟩) ?_ (y.s.said,0,ES,ES.length) ⟨rfl,hV,hoV,rfl⟩)
   rintro⟨F9,k3,AL,no⟩ ⟨l1,l2,l3,l4⟩ IH3
   dsimp only at l1 l2 l3 l4
   subst l4
   cases F9 with
   |nil=>
    have aqH:=drop_nil l1
    simp only[qp]at l2
    subst l2
    repeat' (first
 |simp only[go_sem,hD,hY,hZ,gA,aqH]
 | (with_reducible refine aE hQ ?_;exact bo))
    refine fe 1 1 ?_ ?_ (FY (xQ,k2+1,AL,AL.length) ⟨NR,j2,hVW,rfl⟩ (Nat.lt_succ_self _))
    ·(simp only[go_sem,hD,hY,hZ,gA,aJ zF];try exact cq)
    ·(simp only[go_sem,hD,hY,hZ,gA,aJ zF];try exact cq)
   | cons z F9=>
    obtain⟨afF,lg2,llt,lg4⟩:=drop_cons l1
    have II:k3<4611686018427387904:=by omega
    have IG:=fun g s=>jW (l:=p.globals) (by omega) z g s
    simp only[qp]at l2
    rcases Bool.eq_false_or_eq_true (e9 p.globals z)with c1|c1
    ·simp only [c1,if_true]at l2
     have hZ:(AL.length+1)*17≤bx:=by unfold bx;omega
     have hoo:(AL++ [z]).length≤V.length:=by have:=(AG p F9 (AL++ [z])).1;rw[l2]at this;exact this
     repeat' (first
 |simp only[go_sem,hD,hY,hZ,gA,llt,afF,c1]
 |(with_reducible refine CU (IG _ _) ?_)
 | (with_reducible refine aE hQ ?_;exact bo))
     refine fe 1 1 ?_ ?_ (IH3 (F9,k3+1,AL++ [z],AL.length+1) ⟨lg2,l2,hoo,by simp⟩ (Nat.lt_succ_self _))
     ·(simp only[go_sem,hD,hY,hZ,gA,aJ II,List.map_append,List.map_cons,List.map_nil,encStr];try exact cq)
     ·(simp only[go_sem,hD,hY,hZ,gA,aJ II,List.map_append,List.map_cons,List.map_nil,encStr];try exact cq)
    ·simp only [c1,Bool.false_eq_true,if_false]at l2
     repeat' (first
 |simp only[go_sem,hD,hY,hZ,gA,llt,afF,c1]
 |(with_reducible refine CU (IG _ _) ?_)
 |(with_reducible refine aE hQ ?_;exact bo))
     refine fe 1 1 ?_ ?_ (IH3 (F9,k3+1,AL,AL.length) ⟨lg2,l2,l3,rfl⟩ (Nat.lt_succ_self _))
     ·(simp only[go_sem,hD,hY,hZ,gA,aJ II];try exact cq)
     ·(simp only[go_sem,hD,hY,hZ,gA,aJ II];try exact cq)
mutual
def Sm.its (deep cu:Int) (aP:Bool):Sm→List It
 |⟨id,kind,labels,name,proc,x,has,args,bb,e⟩=>⟨⟨id,kind,labels,name,proc,x,has,args,bb,e⟩,deep,cu,aP⟩::(Sm.XG (deep+1) id false bb++Sm.XG (deep+1) id true e)
def Sm.XG (deep cu:Int) (aP:Bool):List Sm→List It
 | []=> []
 |s::l=>s.its deep cu aP++Sm.XG deep cu aP l
end
def fp (l:List Sm) (none:Int):Int:=match l with| []=>none|t::_=>t.id
mutual
def Sm.qB (proc up next loop:Int):Sm→List Im
 |⟨id,kind,labels,name,pc,x,has,args,bb,aP⟩=>⟨⟨id,kind,labels,name,pc,x,has,args,bb,aP⟩,proc,up,next,loop⟩::
  (Sm.iG proc id (if kind==6 then id else next) (if kind==6 then id else loop) bb++Sm.iG proc id (if kind==6 then id else next) (if kind==6 then id else loop) aP)
def Sm.iG (proc up next loop:Int):List Sm→List Im
 | []=> []
 |s::l=>s.qB proc up (fp l next) loop++Sm.iG proc up next loop l
end
def px (n:Nat) (l:List Sm):Prop:=∀ (i:Nat) (v:Sm),l[i]? = some v→v.id=((n+i+1:Nat):Int)
theorem px.head {n:Nat} {v:Sm} {l:List Sm} (h:px n (v::l)):v.id=((n+1:Nat):Int):=h 0 v rfl
theorem px.tail {n:Nat} {v:Sm} {l:List Sm} (h:px n (v::l)):px (n+1) l:=fun i w hw=>by
 rw[h (i+1) w (by simpa using hw)];congr 1;omega
theorem px.left {n:Nat} {a b:List Sm} (h:px n (a++b)):px n a:=fun i w hw=>h i w (by rw[List.getElem?_append_left (List.getElem?_eq_some_iff.1 hw).1];exact hw)
theorem px.right {n:Nat} {a b:List Sm} (h:px n (a++b)):px (n+a.length) b:=fun i w hw=>by
 rw[h (a.length+i) w (by rw[List.getElem?_append_right (by omega)];simpa using hw)];congr 1;omega
theorem XH (s:Sm):s.pre=s::(Sm.cL s.bb++Sm.cL s.aP):=Sm.nS s
mutual
theorem NW : ∀ s:Sm,s.jQ=s.pre.length
 |⟨id,kind,labels,name,proc,x,has,args,bb,aP⟩=>by
  simp only[Sm.jQ,Sm.pre,List.length_cons,List.length_append,AN bb,AN aP];omega
theorem AN : ∀ l:List Sm,Sm.jr l=(Sm.cL l).length
 | []=>rfl
 |s::l=>by simp only[Sm.jr,Sm.cL,List.length_append,NW s,AN l]
end
mutual
theorem Z6 (proc up next loop:Int) : ∀ s:Sm,(s.qB proc up next loop).map Im.s=s.pre
 |⟨id,kind,labels,name,pc,x,has,args,bb,aP⟩=>by
  simp only[Sm.qB,Sm.pre,List.map_cons,List.map_append,sI _ _ _ _ bb,sI _ _ _ _ aP]
theorem sI (proc up next loop:Int) : ∀ l:List Sm,(Sm.iG proc up next loop l).map Im.s=Sm.cL l
 | []=>rfl
 |s::l=>by simp only[Sm.iG,Sm.cL,List.map_append,Z6 _ _ _ _ s,sI _ _ _ _ l]
end
theorem abY (proc up next loop:Int) (s:Sm):(s.qB proc up next loop).length=s.pre.length:=by rw[← Z6 proc up next loop s,List.length_map]
theorem ET (proc up next loop:Int) (l:List Sm):(Sm.iG proc up next loop l).length=(Sm.cL l).length:=by rw[← sI proc up next loop l,List.length_map]
mutual
theorem abZ (proc up next loop:Int) (out:List Im) : ∀ s:Sm,px out.length s.pre→Im.one proc up next loop out s=out++s.qB proc up next loop
 | ⟨id,kind,labels,name,pc,x,has,args,bb,aP⟩,h=>by
  simp only[Sm.pre]at h
  have h0:id=((out.length+1:Nat):Int):=h.head
  have h1:=h.tail.left
  have h2:=h.tail.right
  have e0:((out.length:Int)+1)=id:=by rw[h0];rfl
  simp only[Im.one,Sm.qB,e0]
  rw[wP proc id _ _ (out++ [_]) bb (by rw[List.length_append];exact h1)]
  rw[wP proc id _ _ _ aP (by
   rw[List.length_append,List.length_append,ET];exact h2)]
  simp
theorem wP (proc up next loop:Int) (out:List Im) : ∀ l:List Sm,px out.length (Sm.cL l)→Im.rows proc up next loop out l=out++Sm.iG proc up next loop l
 | [],h=>by simp[Im.rows,Sm.iG]
 | s::l,h=>by
  simp only[Sm.cL]at h
  have e:(if l.length=0 then next else(out.length:Int)+1+(s.jQ:Int))=fp l next:=by
   cases l with
   |nil=>rfl
   |cons t l=>
    have h2:=h.right
    simp only[Sm.cL]at h2
    rw[XH t]at h2
    simp only[List.length_cons,fp]
    rw[if_neg (by omega),h2.head,NW]
    omega
  simp only[Im.rows,Sm.iG,e]
  rw[abZ proc up _ loop out s h.left,wP proc up next loop _ l (by rw[List.length_append,abY];exact h.right)]
  simp
end
def oE (n:Nat):List Pc→List Im
 | []=> []
 |f::l=>Sm.iG n 0 (-1) 0 f.body++oE (n+1) l
theorem Um : ∀ (l:List Pc) (n:Nat) (h:Sh),px h.L.length ((l.map fun f=>Sm.cL f.body).flatten)→(Sh.go n h l).L=h.L++oE n l
 | [],n,h,_=>by simp[Sh.go,oE]
 | f::l,n,h,hi=>by
  simp only[List.map_cons,List.flatten_cons]at hi
  simp only[Sh.go,oE]
  have e:=wP (n:Int) 0 (-1) 0 h.L f.body hi.left
  rw[Um l (n+1) _ (by
   show px (Im.rows (n:Int) 0 (-1) 0 h.L f.body).length _
   rw[e,List.length_append,ET];exact hi.right)]
  show Im.rows (n:Int) 0 (-1) 0 h.L f.body++_=_
  rw[e];simp
theorem NY {p:Pg} (h:p.may=true):px 0 p.pre:=fun i v hv=>by rw[CA h hv];congr 1;omega
theorem CM {p:Pg} (h:p.may=true):p.bg.L=oE 0 p.procs:=by
 have:=Um p.procs 0 ⟨[],[],[]⟩ (NY h)
 simpa[Pg.bg]using this
def Un (l:List It):Nat→Int→Int
 | 0,_=>0
 |n+1,cu=>if cu==0 then 0 else match l[n]? with
  |none=>0
  |some x=>if x.s.id != cu then Un l n cu else if x.s.kind==6 then cu else Un l n x.cu
def Up (L:List It) (k:Nat) (its:List It) (qB:List Im):Prop:=∀ (i:Nat) (a:It) (b:Im),its[i]? = some a→qB[i]? = some b→a.s=b.s∧a.cu=b.up∧Un L (k+i) a.cu=b.loop
def ib (seen:List az):List az→List az×Bool
 | []=>(seen,true)
 |n::l=>if e9 seen n then(seen,false)else ib (seen++ [n]) l
theorem CN : ∀ (l seen:List az),ib seen l=(if pG seen l then((ib seen l).1,false)else(seen++l,true))
 | [],seen=>by simp[ib,pG]
 | n::l,seen=>by
  simp only[ib,pG]
  split
  ·rfl
  ·rw [CN l (seen++ [n])]
   split
   ·rfl
   ·simp
theorem NZ : ∀ (a b seen:List az),pG seen (a++b)=(pG seen a ||pG (seen++a) b)
 | [],b,seen=>by simp[pG]
 |x::a,b,seen=>by
  simp only[List.cons_append,pG]
  split
  ·rfl
  ·rw[NZ a b (seen++ [x])];simp
theorem IJ : ∀ (l seen:List az),seen.length≤(ib seen l).1.length∧(ib seen l).1.length≤seen.length+l.length
 | [],seen=>by simp[ib]
 |n::l,seen=>by
  simp only[ib]
  split
  ·simp
  ·have:=IJ l (seen++ [n]);simp at this ⊢;omega
def oG (qN:List az) (v:Sm) (loop:Int):Bool:=if v.kind==7 ||v.kind==8 then loop != 0 else if v.kind==10 then e9 qN v.name else true
def oH (qN fin seen:List az):List (Sm×Int)→Option Int
 | []=>if(ib seen fin).2 then none else some 0
 |(v,lp)::l=>if(ib seen v.labels).2 then(if oG qN v lp then oH qN fin (ib seen v.labels).1 l else some v.id)else some v.id
def gu:List Sm→List az
 | []=> []
 |v::l=>v.labels++gu l
def Pc.labels (f:Pc):List az:=gu (Sm.cL f.body)++f.fin
def Im.pair (m:Im):Sm×Int:=(m.s,m.loop)
def Pc.qs (f:Pc):List (Sm×Int):=(Sm.iG 0 0 (-1) 0 f.body).map Im.pair
def pI:List Pc→Option Int
 | []=>none
 |f::l=>match oH f.labels f.fin [] f.qs with
  |some id=>some id
  |none=>pI l
def zJ (c:Int):Option Int→Int×Int
 |some id=>(c,id)
 |none=>(0,0)
def Pg.jump (p:Pg):Int×Int:=if p.scope.1==0 then zJ 7 (pI p.procs)else(1,0)
mutual
theorem XI (proc up next vP Uq next' loop:Int) : ∀ s:Sm,(s.qB proc up next loop).map Im.pair=(s.qB vP Uq next' loop).map Im.pair
 |⟨id,kind,labels,name,pc,x,has,args,bb,aP⟩=>by
  simp only[Sm.qB,List.map_cons,List.map_append,Im.pair]
  rw[xR proc id _ vP id (if kind==6 then id else next') _ bb,xR proc id _ vP id (if kind==6 then id else next') _ aP]
theorem xR (proc up next vP Uq next' loop:Int) : ∀ l:List Sm,(Sm.iG proc up next loop l).map Im.pair=(Sm.iG vP Uq next' loop l).map Im.pair
 | []=>rfl
 |s::l=>by
  simp only[Sm.iG,List.map_append]
  rw[XI proc up _ vP Uq (fp l next') loop s,xR proc up next vP Uq next' loop l]
end
theorem LB (n:Int) (f:Pc):(Sm.iG n 0 (-1) 0 f.body).map Im.pair=f.qs:=xR _ _ _ _ _ _ _ _
theorem ab0 (f:Pc):f.qs.map Prod.fst=Sm.cL f.body:=by
 unfold Pc.qs
 rw[List.map_map, ← sI 0 0 (-1) 0 f.body]
 rfl
def N0 (l:List It):Nat→Int→Int
 | 0,_=>0
 |n+1,id=>match l[n]? with
  |none=>0
  |some x=>if x.s.id != id then N0 l n id else if Un l n x.cu != 0 then Un l n x.cu else N0 l n id
theorem N1 : ∀ (l:List Pc) (n:Nat) (h:Sh),h.lo.length=n→h.hi.length=n→px h.L.length ((l.map fun f=>Sm.cL f.body).flatten)→
 ∃ lo hi,Sh.go n h l = ⟨h.L++oE n l,h.lo++lo,h.hi++hi⟩∧lo.length=l.length∧hi.length=l.length∧
  ∀ (i:Nat) (f:Pc),l[i]? = some f→∃ a e:List Im,lo[i]? = some (((h.L++a).length:Int)+1)∧hi[i]? = some (((h.L++a++Sm.iG ((n+i:Nat):Int) 0 (-1) 0 f.body).length:Int)+1)∧oE n l=a++Sm.iG ((n+i:Nat):Int) 0 (-1) 0 f.body++e
 | [],n,h,hl,hh,_=>⟨[],[],by simp[Sh.go,oE],rfl,rfl,fun i f h=>by simp at h⟩
 | f::l,n,h,hl,hh,hi=>by
  simp only[List.map_cons,List.flatten_cons]at hi
  simp only[Sh.go,oE]
  have e1:=wP (n:Int) 0 (-1) 0 h.L f.body hi.left
  obtain⟨lo,iA,h2,h3,h4,h5⟩:=N1 l (n+1) ⟨Im.rows (n:Int) 0 (-1) 0 h.L f.body,h.lo++ [(h.L.length:Int)+1],h.hi++ [((Im.rows (n:Int) 0 (-1) 0 h.L f.body).length:Int)+1]⟩ (by simp[hl]) (by simp[hh]) (by
   show px (Im.rows (n:Int) 0 (-1) 0 h.L f.body).length _
   rw[e1,List.length_append,ET];exact hi.right)
  refine⟨((h.L.length:Int)+1)::lo,(((Im.rows (n:Int) 0 (-1) 0 h.L f.body).length:Int)+1)::iA, ?_,by simp[h3],by simp[h4],fun i g iA=>?_⟩
  ·rw[h2,e1];simp
  ·cases i with
   |zero=>
    simp only[List.getElem?_cons_zero,Option.some.injEq]at iA
    subst iA
    exact⟨[],oE (n+1) l,by simp,by rw[e1];simp,by simp⟩
   |succ i=>
    simp only[List.getElem?_cons_succ]at iA
    obtain⟨a,e,g1,g2,g3⟩:=h5 i g iA
    have en:n+1+i=n+(i+1):=by omega
    rw[en]at g2 g3
    refine⟨Sm.iG n 0 (-1) 0 f.body++a,e, ?_, ?_,by rw[g3];simp⟩
    ·rw[List.getElem?_cons_succ,g1,e1];simp
    ·rw[List.getElem?_cons_succ,g2,e1];simp
theorem afH {p:Pg} (hb:p.may=true) {i:Nat} {f:Pc} (hf:p.procs[i]? = some f) (hs:Pc.a7 p.procs<1000000000) (s:St) :
 aF Tryz.prog gX [.dI (fL p) 0, .int .i64 (i:Int)] s (.slice .shared 17 ((Sm.iG (i:Int) 0 (-1) 0 f.body).map dF)) s:=by
 obtain⟨lo,hi,h1,h2,h3,h4⟩:=N1 p.procs 0 ⟨[],[],[]⟩ rfl rfl (NY hb)
 obtain⟨a,e,g1,g2,g3⟩:=h4 i f hf
 simp only[Nat.zero_add,List.nil_append]at g1 g2 g3 h1
 refine afg hs (a:=a) (e:=e) ?_ ?_ ?_ s
 ·show(Sh.go 0 ⟨[],[],[]⟩ p.procs).lo[i]? = _
  rw[h1];exact g1
 ·show(Sh.go 0 ⟨[],[],[]⟩ p.procs).hi[i]? = _
  rw[h1];exact g2
 ·show(Sh.go 0 ⟨[],[],[]⟩ p.procs).L=_
  rw[h1];exact g3
theorem aF.aqI {P:Program} {f:FuncId} {pre post:List D} {rows pz:List (List D)} {z z' k k':Nat} {b:Bool} (h:aF P f (pre++ .slice (.tok 0) z rows::post) ⟨[],[some k]⟩ (.tuple [.slice (.tok 0) z' pz, .bool b]) ⟨[],[some k']⟩)
 (hp:D.bJ 0 0 pre=true) (ha:D.bJ 0 0 post=true) (hw:D.gL 0 0 rows=true) (hw':D.gL 0 0 pz=true)
 {s:St} {t:Nat} (ht:s.ay[t]? = some (some k)):aF P f (pre++ .slice (.tok t) z rows::post) s (.tuple [.slice (.tok t) z' pz, .bool b]) ⟨s.ah,s.ay.set t (some k')⟩:=by
 refine bP.frame [] [t] h (by simp) (by simp) (by simp) (by simpa using (List.getElem?_eq_some_iff.1 ht).1) rfl (fun i o' ds e1 e2=>by simp at e1) rfl (fun i t' e1=>?_)
  ?_ ?_ ?_
 ·cases i with
  |zero=>simp at e1;subst e1;simp[ht]
  |succ i=>simp at e1
 ·have h1:=fM [] [t] _ hp
  have h2:=fM [] [t] _ ha
  rw[fZ]at h1 h2
  simp[fZ,D.dh,Tag.dh,h1,h2,jB _ _ _ hw]
 ·have h1:=iQ (n':=0) (m':=1) (Nat.le_refl 0) (Nat.zero_le 1) _ hp
  have h2:=iQ (n':=0) (m':=1) (Nat.le_refl 0) (Nat.zero_le 1) _ ha
  rw[zf]at h1 h2 ⊢
  simp only[List.length_nil,List.length_cons,List.all_append,h1,Bool.true_and,List.all_cons,h2,Bool.and_true,D.ok,Tag.ok,ng (Nat.zero_le 0) (Nat.zero_le 1) _ hw]
  rfl
 ·rintro _ _ ⟨rfl,rfl⟩
  refine⟨by simp[D.back,D.dh,D.fk,Tag.dh,k8,jB _ _ _ hw'], ?_⟩
  simp[St.back,lg]
theorem afI {seen l:List az} (hl:seen.length+l.length<1000000000):aF Tryz.prog qU [.slice (.tok 0) 1 (seen.map encStr), .slice .shared 1 (l.map encStr)] ⟨[],[some seen.length]⟩
 (.tuple [.slice (.tok 0) 1 ((ib seen l).1.map encStr), .bool (ib seen l).2]) ⟨[],[some (ib seen l).1.length]⟩:=by
 generalize hR:ib seen l=R
 refine aF.go Jx rfl fun B Q hB hQ=>?_
 have⟨hD,hY,hZ,gA⟩:=bN
 repeat' (first
 |simp only[go_sem,hD,hY,hZ,gA]
 |(with_reducible refine aE hQ ?_;exact bo))
 refine fc 0 1 (br.ind (ι:=List az×Nat×List az×Nat) (fun i=>l.drop i.2.1=i.1∧ib i.2.2.1 i.1=R∧i.2.2.2=i.2.2.1.length∧i.2.2.1.length+i.1.length<1000000000) (fun i=>i.1.length)
  (fun i=> [(0, .slice (.tok 0) 1 (i.2.2.1.map encStr)),(8, .slice .shared 1 (l.map encStr)),(9, .int .i64 (l.length:Int)),(10, .int .i64 (i.2.1:Int))]) (fun i=>⟨[],[some i.2.2.2]⟩) ?_ (l,0,seen,seen.length) ⟨rfl,hR,rfl,hl⟩)
 clear hR
 rintro⟨rest,k,out,n⟩ ⟨h1,h2,h3,h4⟩ IH
 dsimp only at h1 h2 h3 h4
 subst h3
 cases rest with
 |nil=>
  have hD:=drop_nil h1
  simp only[ib]at h2
  subst h2
  repeat' (first
 |simp only[go_sem,hD,hY,hZ,gA]
 |(with_reducible refine aE hQ ?_;exact bo))
 | cons x rest=>
  obtain⟨hY,g2,hD,g4⟩:=drop_cons h1
  have bW:k<4611686018427387904:=by omega
  simp only[List.length_cons]at h4
  have hZ:(out.length+1)*17≤bx:=by unfold bx;omega
  have IG:=fun g s=>jW (l:=out) (by omega) x g s
  simp only[ib]at h2
  rcases Bool.eq_false_or_eq_true (e9 out x)with c1|c1
  ·simp only [c1,if_true]at h2
   subst h2
   repeat' (first
 |simp only[go_sem,hD,hY,hZ,gA,c1]
 |(with_reducible refine CU (IG _ _) ?_)
 | (with_reducible refine aE hQ ?_;exact bo))
  ·simp only [c1,Bool.false_eq_true,if_false]at h2
   repeat' (first
 |simp only[go_sem,hD,hY,hZ,gA,c1]
 |(with_reducible refine CU (IG _ _) ?_)
 | (with_reducible refine aE hQ ?_;exact bo))
   refine fe 0 1 ?_ ?_ (IH (rest,k+1,out++ [x],out.length+1) ⟨g2,h2,by simp,by simp;omega⟩ (Nat.lt_succ_self _))
   ·(simp only[go_sem,hD,hY,hZ,gA,aJ bW,List.map_append,List.map_cons,List.map_nil,encStr];try exact cq)
   ·(simp only[go_sem,hD,hY,hZ,gA,aJ bW,List.map_append,List.map_cons,List.map_nil,encStr];try exact cq)
theorem Ur {seen l:List az} (hl:seen.length+l.length<1000000000) {s:St} {t:Nat} (ht:s.ay[t]? = some (some seen.length)):aF Tryz.prog qU [.slice (.tok t) 1 (seen.map encStr), .slice .shared 1 (l.map encStr)] s
 (.tuple [.slice (.tok t) 1 ((ib seen l).1.map encStr), .bool (ib seen l).2]) ⟨s.ah,s.ay.set t (some (ib seen l).1.length)⟩:=
 (afI hl).aqI (pre:= []) (post:= [_]) rfl (by simp[D.bJ,D.ok,Tag.ok,ff]) (ff _) (ff _) ht
theorem XJ (x:Im):(dF x)[2]? = some (.slice .shared 1 (x.s.labels.map encStr)):=nd rfl
theorem Us (x:Im):(dF x)[3]? = some (.str x.s.name):=nd rfl
attribute [go_sem] XJ Us
def jk (fin:List az) (label:az):List Sm→Int×Bool
 | []=>if e9 fin label then(-1,true)else(0,false)
 |v::l=>if e9 v.labels label then(v.id,true)else jk fin label l
theorem CO (fin:List az) (label:az) : ∀ l:List Sm,(jk fin label l).2=e9 (gu l++fin) label
 | []=>by simp only[jk,gu,List.nil_append];split<;>simp_all
 | v::l=>by
  simp only[jk,gu,List.append_assoc]
  have h:=CO fin label l
  rw[Bool.eq_iff_iff,fP]at h
  split
  ·rename_i c
   exact((fP _ _).2 (List.mem_append.2 (.inl ((fP _ _).1 c)))).symm
  ·rename_i c
   have:label∉v.labels:=fun m=>c ((fP _ _).2 m)
   rw[Bool.eq_iff_iff,h,fP]
   exact⟨fun m=>List.mem_append.2 (.inr m),fun m=>(List.mem_append.1 m).resolve_left this⟩
theorem LC {p:Pg} {v:Sm} (ho:p.iX) {f:Pc} (hf:f∈p.procs) (hv:v∈Sm.cL f.body):v.labels.length≤900000:=by
 have key : ∀ n:Nat,(∀ s:Sm,s.pre.length≤n→∀ v∈s.pre,v.labels.length≤s.size)∧(∀ l:List Sm,(Sm.cL l).length≤n→∀ v∈Sm.cL l,v.labels.length≤Sm.a7 l):=by
  intro n
  induction n with
  |zero=>
   refine⟨fun s h=>by rw[Sm.nS]at h;simp at h,fun l h v m=>?_⟩
   have:=List.eq_nil_of_length_eq_zero (Nat.le_zero.1 h)
   rw[this]at m;cases m
  | succ n ih=>
   have h1 : ∀ s:Sm,s.pre.length≤n+1→∀ v∈s.pre,v.labels.length≤s.size:=by
    intro s h v m
    rw[Sm.nS]at h m
    simp only[List.length_cons,List.length_append]at h
    obtain⟨id,kind,labels,name,proc,x,has,args,bb,aP⟩:=s
    simp only[Sm.size]
    rcases List.mem_cons.1 m with rfl|m
    ·dsimp only;omega
    ·rcases List.mem_append.1 m with m | m
     ·have:=ih.2 bb (by dsimp only at h;omega) v m;omega
     ·have:=ih.2 aP (by dsimp only at h;omega) v m;omega
   refine⟨h1,fun l=>?_⟩
   induction l with
   |nil=>intro _ v m;cases m
   |cons s l LD=>
    intro h v m
    simp only[Sm.cL,List.length_append]at h
    simp only[Sm.cL]at m
    simp only[Sm.a7]
    rcases List.mem_append.1 m with m|m
    ·have:=h1 s (by omega) v m;omega
    ·have:=LD (by omega) v m;omega
 have h1:=(key (Sm.cL f.body).length).2 f.body (Nat.le_refl _) v hv
 have h2:=Pc.df hf
 have h3:=ho.procs.2.1
 simp only[Pc.size]at h2
 omega
theorem IK {p:Pg} (ho:p.iX) {f:Pc} (hf:f∈p.procs):f.fin.length≤900000:=by
 have h2:=Pc.df hf
 have h3:=ho.procs.2.1
 simp only[Pc.size]at h2
 omega
theorem Ga {p:Pg} (ho:p.iX) {f:Pc} (hf:f∈p.procs):(Sm.cL f.body).length≤900000:=by
 rw[← AN]
 have:=oh f.body
 have h2:=Pc.df hf
 have h3:=ho.procs.2.1
 simp only[Pc.size]at h2
 omega
theorem afJ {p:Pg} (ho:p.iX) (hb:p.may=true) {i:Nat} {f:Pc} (hf:p.procs[i]? = some f) (label:az) (s:St) :
 aF Tryz.prog pD [.dI (fL p) 0, .int .i64 (i:Int), .str label] s (.tuple [.int .i64 (jk f.fin label (Sm.cL f.body)).1, .bool (jk f.fin label (Sm.cL f.body)).2]) s:=by
 refine aF.pure ?_ (by simp[D.bJ,D.ok,vb]) rfl s
 obtain⟨sR,sE,sD⟩:=ho.procs
 have Bu:=List.mem_of_getElem? hf
 have xL:=fun s=>afH hb hf (by omega) s
 have qL:=sI (i:Int) 0 (-1) 0 f.body
 have LF:=Ga ho Bu
 have wQ:=IK ho Bu
 have Ee:=fun s=>sC (l:=f.fin) (by omega) label s
 have rG:i<p.procs.length:=(List.getElem?_eq_some_iff.1 hf).1
 generalize hI:Sm.iG (i:Int) 0 (-1) 0 f.body=I at *
 have hIl:I.length≤900000:=by rw[← qL,List.length_map]at LF;exact LF
 obtain⟨R,hR⟩ : ∃ R,jk f.fin label (Sm.cL f.body)=R:=⟨_,rfl⟩
 rw[hR]
 rw[← qL]at hR
 unfold S0
 refine aF.go DN rfl fun B Q hB hQ=>?_
 have⟨hD,hY,hZ,gA⟩:=bN
 repeat' (first
 |simp only[go_sem,hD,hY,hZ,gA]
 |(with_reducible refine CU (xL _) ?_)
 |(with_reducible refine aE hQ ?_;exact bo))
 refine fc 0 0 (br.ind (ι:=List Im×Nat) (fun j=>I.drop j.2=j.1∧jk f.fin label (j.1.map Im.s)=R) (fun j=>j.1.length)
  (fun j=> [(0, .dI (fL p) 0),(1, .int .i64 (i:Int)),(2, .str label),(12, .slice .shared 17 (I.map dF)),(13, .int .i64 (I.length:Int)),(14, .int .i64 (j.2:Int))]) (fun j=>⟨[],[]⟩) ?_ (I,0) ⟨rfl,hR⟩)
 clear hR
 rintro⟨rest,k⟩ ⟨h1,h2⟩ IH
 dsimp only at h1 h2
 cases rest with
 | nil=>
  have hD:=drop_nil h1
  simp only[List.map_nil,jk]at h2
  rcases Bool.eq_false_or_eq_true (e9 f.fin label)with c1|c1
  ·simp only [c1,if_true]at h2
   subst h2
   repeat' (first
 |simp only[go_sem,hD,hY,hZ,gA,oA,hf,c1]
 |(with_reducible refine CU (Ee _) ?_)
 | (with_reducible refine aE hQ ?_;exact bo))
  ·simp only [c1,Bool.false_eq_true,if_false]at h2
   subst h2
   repeat' (first
 |simp only[go_sem,hD,hY,hZ,gA,oA,hf,c1]
 |(with_reducible refine CU (Ee _) ?_)
 |(with_reducible refine aE hQ ?_;exact bo))
 | cons a rest=>
  obtain⟨hY,g2,hD,g4⟩:=drop_cons h1
  have bW:k<4611686018427387904:=by omega
  have F5:a.s∈Sm.cL f.body:=by rw[← qL];exact List.mem_map_of_mem (List.mem_of_getElem? hY)
  have pA:=fun s=>sC (l:=a.s.labels) (by have:=LC ho Bu F5;omega) label s
  simp only[List.map_cons,jk]at h2
  rcases Bool.eq_false_or_eq_true (e9 a.s.labels label)with c1|c1
  ·simp only [c1,if_true]at h2
   subst h2
   repeat' (first
 |simp only[go_sem,hD,hY,hZ,gA,c1]
 |(with_reducible refine CU (pA _) ?_)
 | (with_reducible refine aE hQ ?_;exact bo))
  ·simp only [c1,Bool.false_eq_true,if_false]at h2
   repeat' (first
 |simp only[go_sem,hD,hY,hZ,gA,c1]
 |(with_reducible refine CU (pA _) ?_)
 | (with_reducible refine aE hQ ?_;exact bo))
   refine fe 0 0 ?_ ?_ (IH (rest,k+1) ⟨g2,h2⟩ (Nat.lt_succ_self _))
   ·(simp only[go_sem,hD,hY,hZ,gA,aJ bW];try exact cq)
   ·(simp only[go_sem,hD,hY,hZ,gA,aJ bW];try exact cq)
theorem ab1 {p:Pg} (ho:p.iX) (hb:p.may=true) {i:Nat} {f:Pc} (hf:p.procs[i]? = some f) (m:Im) (hm:m.proc=(i:Int)) (s:St) :
 aF Tryz.prog wA [.dI (fL p) 0, .agg (dF m)] s (.bool (oG f.labels m.s m.loop)) s:=by
 refine aF.pure ?_ (by simp[D.bJ,D.ok,vb,Q8]) rfl s
 have rZ:=fun s=>afJ ho hb hf m.s.name s
 have afK:=CO f.fin m.s.name (Sm.cL f.body)
 rw[← hm]at rZ
 obtain⟨A,hA⟩ : ∃ A,jk f.fin m.s.name (Sm.cL f.body)=A:=⟨_,rfl⟩
 rw[hA]at rZ afK
 obtain⟨R,hR⟩ : ∃ R,oG f.labels m.s m.loop=R:=⟨_,rfl⟩
 rw[hR]
 unfold oG Pc.labels at hR
 unfold S0
 rcases Bool.eq_false_or_eq_true (m.s.kind==7)with c1|c1
 ·simp only [c1,Bool.true_or,if_true]at hR
  subst hR
  refine aF.go ql rfl fun B Q hB hQ=>?_
  have⟨hD,hY,hZ,gA⟩:=bN
  repeat' (first
 |simp only[go_sem,hD,hY,hZ,gA,c1]
 |(with_reducible refine aE hQ ?_;exact bo))
 rcases Bool.eq_false_or_eq_true (m.s.kind==8)with c2|c2
 ·simp only [c1,c2,Bool.or_true,if_true]at hR
  subst hR
  refine aF.go ql rfl fun B Q hB hQ=>?_
  have⟨hD,hY,hZ,gA⟩:=bN
  repeat' (first
 |simp only[go_sem,hD,hY,hZ,gA,c1,c2]
 |(with_reducible refine aE hQ ?_;exact bo))
 rcases Bool.eq_false_or_eq_true (m.s.kind==10)with c3|c3
 ·simp only [c1,c2,c3,Bool.or_self,Bool.false_eq_true,if_false,if_true, ← afK]at hR
  subst hR
  refine aF.go ql rfl fun B Q hB hQ=>?_
  have⟨hD,hY,hZ,gA⟩:=bN
  repeat' (first
 |simp only[go_sem,hD,hY,hZ,gA,c1,c2,c3]
 |(with_reducible refine CU (rZ _) ?_)
 |(with_reducible refine aE hQ ?_;exact bo))
 ·simp only [c1,c2,c3,Bool.or_self,Bool.false_eq_true,if_false]at hR
  subst hR
  refine aF.go ql rfl fun B Q hB hQ=>?_
  have⟨hD,hY,hZ,gA⟩:=bN
  repeat' (first
 |simp only[go_sem,hD,hY,hZ,gA,c1,c2,c3]
 |(with_reducible refine aE hQ ?_;exact bo))
end Go.Abs
namespace Go.Abs
def Gb (x:Int):Int:=IntKind.wrap .i64 x
def vh (b:Bool):Int:=if b then 1 else 0
def Rm (op a:Int):Int×Bool:=if op==3 then(Gb (0 - a),true)else if op==4 then(vh (a==0),true)else(0,false)
def Rn (op a b:Int):Int×Bool:=
 if b==0 then(0,false)
 else if b == -1 then if op==7 then(0,true)else if a == -9223372036854775808 then(a,true)else(Gb (0 - a),true)
 else if op==7 then(a.tmod b,true)else(Gb (a.tdiv b),true)
def Ro (op a b:Int):Int×Bool:=
 if op==10 then(vh (decide (a<b)),true)else if op==11 then(vh (decide (a≤b)),true)else if op==12 then(vh (decide (a > b)),true)
 else if op==13 then(vh (decide (a≥b)),true)else if op==14 then(vh (a==b),true)else if op==15 then(vh (!(a==b)),true)else(0,false)
def Rp (op a b:Int):Int×Bool:=
 if op==8 then(Gb (a+b),true)else if op==9 then(Gb (a - b),true)else if op==5 then(Gb (a*b),true)
 else if op==6 ||op==7 then Rn op a b
 else if op==16 then(vh (!(a==0) && !(b==0)),true)else if op==17 then(vh (!(a==0) || !(b==0)),true)
 else Ro op a b
def Dv (name:az) (names:List az) (bI:List Int):Int:=if iF name 0 names≥0 then bI.getD (iF name 0 names).toNat 0 else 0
def JR (op:Int):List (Int×Bool)→Int×Bool
 | []=>(0,false)
 | [a]=>if a.2 then Rm op a.1 else(0,false)
 |a::b::_=>if !a.2 then(0,false)else if op==16 && a.1==0 then(0,true)else if op==17 && !(a.1==0)then(1,true)else if !b.2 then(0,false)else Rp op a.1 b.1
mutual
def Ex.val (names:List az) (bI:List Int):Ex→Int×Bool
 |⟨op,n,name,kids⟩=>if op==1 then(n,true)else if op==2 then(Dv name names bI,true)else JR op (Ex.CP names bI kids)
def Ex.CP (names:List az) (bI:List Int):List Ex→List (Int×Bool)
 | []=> []
 |x::l=>x.val names bI::Ex.CP names bI l
end
def Ex.bu (x:Ex) (names:List az) (bI:List Int):Int×Bool:=if x.may then x.val names bI else(0,false)
structure Fr where
 proc:Int
 names:List az
 vars:List Nat
 call:Int
structure Mc where
 st:List Fr
 mem:List Int
 fin:Int
 steps:Int
 reads:Int
 out:List Int
 trace:List (Int×List Int)
def Mc.event (W:List Int) (m:Mc) (id:Int) (bI:List Int):Mc:=if W.contains id then {m with trace:=m.trace++ [(id,bI)]}else m
def Mc.top (m:Mc):Fr:=m.st.headD ⟨0,[],[],0⟩
def Mc.bI (m:Mc):List Int:=m.top.vars.map fun c=>m.mem.getD c 0
def Mc.cell (m:Mc) (name:az):Nat:=m.top.vars.getD (iF name 0 m.top.names).toNat 0
def Mc.set (m:Mc) (name:az) (v:Int):Mc:= {m with mem:=m.mem.set (m.cell name) v}
def Mc.bu (m:Mc) (x:Ex):(Int×Bool)×Mc:=
 let r:=x.bu m.top.names m.bI
 (r,if r.2 then m else {m with fin:=4})
def Mc.open (p:Pg) (m:Mc) (i:Int) (params:List Nat) (call:Int):Int×Mc:=
 match p.procs[i.toNat]? with
 |none=>(-1,m)
 |some f=>(fp f.body (-1),{m with st:=⟨i,p.globals++f.own,List.range p.globals.length++params++(List.range f.vars.length).map (m.mem.length + ·),call⟩::m.st,mem:=m.mem++List.replicate f.vars.length 0})
def fa (L:List Im) (id:Int):Im:=L.getD (id - 1).toNat ⟨D9,0,0,0,0⟩
def Mc.close (L:List Im) (m:Mc) (yG:Int):Int×Mc:=
 let call:=m.top.call
 let m:= {m with st:=m.st.tail}
 if call==0 then(-1,{m with fin:=1})
 else
  let it:=fa L call
  (it.next,if it.s.name == []then m else m.set it.s.name yG)
def Mc.fv (W:List Int) (m:Mc) (s:Sm):Int×Mc:=
 if s.has then
  let r:=m.bu s.x
  (r.1.1,if r.1.2 then r.2.event W s.id [r.1.1]else r.2)
 else(0,m.event W s.id [])
def Mc.args:List Ar→Mc→List Nat→Option (List Nat)×Mc
 | [],m,out=>(some out,m)
 | a::l,m,out=>
  if a.ref then Mc.args l m (out++ [m.cell a.name])
  else
   let r:=m.bu a.x
   if r.1.2 then Mc.args l {r.2 with mem:=r.2.mem++ [r.1.1]} (out++ [r.2.mem.length])else(none,r.2)
def Mc.call (p:Pg) (W:List Int) (m:Mc) (s:Sm):Int×Mc:=
 match Mc.args s.args m []with
 |(none,m)=>(-1,m)
 |(some l,m)=>if m.st.length > 100 then(-1,{m with fin:=5})else(m.event W s.id []).open p (p.at s.proc) l s.id
def firstM (l:List Sm) (other:Int):Int:=fp l other
def Mc.do (p:Pg) (L:List Im) (tape W:List Int) (m:Mc) (it:Im):Int×Mc:=
 let s:=it.s
 if s.kind==7 then((fa L it.loop).next,m.event W s.id [])
 else if s.kind==8 then(it.loop,m.event W s.id [])
 else if s.kind==10 then((match p.procs[it.proc.toNat]? with|some f=>(jk f.fin s.name (Sm.cL f.body)).1|none=>0),m.event W s.id [])
 else if s.kind==2 then
  match tape[m.reads.toNat]? with
  |none=>(-1,{m with fin:=3})
  |some n=>(it.next,(({m with reads:=m.reads+1} : Mc).set s.name n).event W s.id [n])
 else
  let r:=m.bu s.x
  if r.1.2 then
   let m:=r.2.event W s.id [r.1.1]
   let n:=r.1.1
   if s.kind==1 then(it.next,m.set s.name n)
   else if s.kind==3 then(it.next,{m with out:=m.out++ [n]})
   else if s.kind==5 then(if n==0 then firstM s.aP it.next else firstM s.bb it.next,m)
   else if s.kind==6 then(if n==0 then it.next else firstM s.bb s.id,m)
   else(it.next,m)
  else(-1,r.2)
def Mc.back (L:List Im) (m:Mc) (yG:Int):Option Int×Mc:=
 let r:=m.close L yG
 (if r.2.fin==0 then some r.1 else none,r.2)
def Mc.next (p:Pg) (L:List Im) (tape W:List Int) (fuel:Int) (at_:Int) (m:Mc):Option Int×Mc:=
 if at_ == -1 then m.back L 0
 else if m.steps==fuel then(none,{m with fin:=2})
 else
  let m:= {m with steps:=m.steps+1}
  let it:=fa L at_
  if it.s.kind==4 then
   let r:=m.call p W it.s
   (if r.2.fin==0 then some r.1 else none,r.2)
  else if it.s.kind==9 then
   let r:=m.fv W it.s
   if r.2.fin==0 then r.2.back L r.1 else(none,r.2)
  else
   let r:=m.do p L tape W it
   (if r.2.fin==0 then some r.1 else none,r.2)
def Mc.go (p:Pg) (L:List Im) (tape W:List Int) (fuel:Int):Nat→Int→Mc→Option Mc
 | 0,_,_=>none
 |N+1,at_,m=>
  match m.next p L tape W fuel at_ with
  |(none,m)=>some m
  |(some a,m)=>Mc.go p L tape W fuel N a m
def jZ (p:Pg):Mc:=⟨[],List.replicate p.globals.length 0,0,0,0,[],[]⟩
def runM (p:Pg) (tape W:List Int) (fuel:Int):Option Mc:=
 let r:=(jZ p).open p (p.at dG) [] 0
 Mc.go p p.bg.L tape W fuel (2*fuel.toNat+3) r.1 r.2
theorem fh (W:List Int) (m:Mc) (id:Int) (bI:List Int):(m.event W id bI).st=m.st∧(m.event W id bI).mem=m.mem∧(m.event W id bI).fin=m.fin∧(m.event W id bI).steps=m.steps∧(m.event W id bI).reads=m.reads∧(m.event W id bI).out=m.out:=by
 unfold Mc.event;split<;>exact⟨rfl,rfl,rfl,rfl,rfl,rfl⟩
theorem gR (m:Mc) (x:Ex):(m.bu x).2.st=m.st∧(m.bu x).2.mem=m.mem∧(m.bu x).2.steps=m.steps∧(m.bu x).2.reads=m.reads∧(m.bu x).2.out=m.out∧(m.bu x).2.trace=m.trace:=by
 unfold Mc.bu;dsimp only;split<;>exact⟨rfl,rfl,rfl,rfl,rfl,rfl⟩
theorem vV : ∀ (l:List Ar) (m:Mc) (out:List Nat),(Mc.args l m out).2.st=m.st∧(Mc.args l m out).2.steps=m.steps
 | [],m,out=>⟨rfl,rfl⟩
 | a::l,m,out=>by
  simp only[Mc.args]
  split
  ·exact vV l m _
  ·have h:=gR m a.x
   split
   ·have:=vV l {(m.bu a.x).2 with mem:=(m.bu a.x).2.mem++ [(m.bu a.x).1.1]} (out++ [(m.bu a.x).2.mem.length])
    exact⟨this.1.trans h.1,this.2.trans h.2.2.1⟩
   ·exact⟨h.1,h.2.2.1⟩
theorem zK (p:Pg) (m:Mc) (i:Int) (l:List Nat) (c:Int):(m.open p i l c).2.st.length≤m.st.length+1∧(m.open p i l c).2.steps=m.steps:=by
 unfold Mc.open;split
 ·exact⟨Nat.le_succ _,rfl⟩
 ·exact⟨Nat.le_refl _,rfl⟩
theorem N2 (p:Pg) (W:List Int) (m:Mc) (s:Sm):(m.call p W s).2.st.length≤m.st.length+1∧(m.call p W s).2.steps=m.steps:=by
 have h:=vV s.args m []
 unfold Mc.call
 generalize Mc.args s.args m [] = r at *
 obtain⟨o,m1⟩:=r
 dsimp only at h
 cases o with
 |none=>dsimp only;rw[h.1,h.2];exact⟨Nat.le_succ _,rfl⟩
 | some l=>
  dsimp only
  split
  ·dsimp only;rw[h.1,h.2];exact⟨Nat.le_succ _,rfl⟩
  ·have h2:=zK p (m1.event W s.id []) (p.at s.proc) l s.id
   rw[(fh ..).1,(fh ..).2.2.2.1,h.1,h.2]at h2
   exact h2
theorem AP (W:List Int) (m:Mc) (s:Sm):(m.fv W s).2.st=m.st∧(m.fv W s).2.steps=m.steps:=by
 have h:=gR m s.x
 unfold Mc.fv
 dsimp only
 split
 ·split
  ·exact⟨(fh ..).1.trans h.1,(fh ..).2.2.2.1.trans h.2.2.1⟩
  ·exact⟨h.1,h.2.2.1⟩
 ·exact⟨(fh ..).1,(fh ..).2.2.2.1⟩
theorem Rq (p:Pg) (L:List Im) (tape W:List Int) (m:Mc) (it:Im):(m.do p L tape W it).2.st=m.st∧(m.do p L tape W it).2.steps=m.steps:=by
 have h:=gR m it.s.x
 have e:=fun(m:Mc) id bI=>(⟨(fh W m id bI).1,(fh W m id bI).2.2.2.1⟩:(m.event W id bI).st=m.st∧(m.event W id bI).steps=m.steps)
 unfold Mc.do
 dsimp only
 repeat' split
 all_goals first
  |exact e ..
  |exact⟨rfl,rfl⟩
  |exact⟨(e ..).1.trans h.1,(e ..).2.trans h.2.2.1⟩
  |exact⟨h.1,h.2.2.1⟩
theorem LG (L:List Im) (m:Mc) (g:Int):(m.close L g).2.st=m.st.tail∧(m.close L g).2.steps=m.steps∧(m.st = []→(m.close L g).2.fin=1):=by
 unfold Mc.close
 dsimp only
 split
 ·exact⟨rfl,rfl,fun _=>rfl⟩
 ·rename_i hc
  refine⟨by split<;>rfl,by split<;>rfl,fun e=>absurd ?_ hc⟩
  simp[Mc.top,e]
theorem back_eq {L:List Im} {m:Mc} {g:Int} {a:Int} {m':Mc} (h:m.back L g=(some a,m')):m'.st.length<m.st.length∧m'.steps=m.steps:=by
 obtain⟨h1,h2,h3⟩:=LG L m g
 unfold Mc.back at h
 dsimp only at h
 split at h
 ·rename_i hf
  simp only[Prod.mk.injEq]at h
  rw[← h.2]
  refine⟨?_,h2⟩
  rw[h1,List.length_tail]
  cases e:m.st with
  |nil=>rw[h3 e]at hf;cases hf
  |cons x l=>simp
 ·simp at h
theorem N3 {p:Pg} {L:List Im} {tape W:List Int} {fuel a a':Int} {m m':Mc} (hs:m.steps≤fuel) (h:m.next p L tape W fuel a=(some a',m')) :
 m'.steps≤fuel∧2*(fuel - m'.steps)+m'.st.length<2*(fuel - m.steps)+m.st.length:=by
 unfold Mc.next at h
 split at h
 ·have:=back_eq h;omega
 split at h
 ·simp at h
 rename_i eW
 have hD:m.steps<fuel:=by(have:m.steps≠fuel:=by simpa using eW);omega
 dsimp only at h
 split at h
 ·have h1:=N2 p W {m with steps:=m.steps+1} (fa L a).s
  simp only[Prod.mk.injEq]at h
  rw[← h.2]
  dsimp only at h1
  omega
 split at h
 ·have h1:=AP W {m with steps:=m.steps+1} (fa L a).s
  dsimp only at h1
  split at h
  ·have h2:=back_eq h
   rw[h1.1,h1.2]at h2
   omega
  ·simp at h
 ·have h1:=Rq p L tape W {m with steps:=m.steps+1} (fa L a)
  simp only[Prod.mk.injEq]at h
  rw[← h.2,h1.1,h1.2]
  dsimp only
  omega
theorem N4 (p:Pg) (L:List Im) (tape W:List Int) (fuel:Int) : ∀ (N:Nat) (a:Int) (m:Mc),m.steps≤fuel→2*(fuel - m.steps)+m.st.length<N→∃ m',Mc.go p L tape W fuel N a m=some m'
 | 0,_,_,_,h=>by omega
 | N+1,a,m,hs,h=>by
  simp only[Mc.go]
  cases e:m.next p L tape W fuel a with
  | mk o m1=>
   cases o with
   |none=>exact⟨m1,rfl⟩
   |some a1=>
    have:=N3 hs e
    exact N4 p L tape W fuel N a1 m1 this.1 (by omega)
theorem IL (p:Pg) (tape W:List Int) {fuel:Int} (h:0≤fuel) : ∃ m,runM p tape W fuel=some m:=by
 unfold runM
 have h1:=zK p (jZ p) (p.at dG) [] 0
 have e1:(jZ p).st.length=0:=rfl
 have e2:(jZ p).steps=0:=rfl
 rw[e1,e2]at h1
 exact N4 p _ tape W fuel _ _ _ (by rw[h1.2];exact h) (by rw[h1.2];omega)
structure Grow (m m':Mc):Prop where
 trace : ∃ t,m'.trace=m.trace++t
 out : ∃ t,m'.out=m.out++t
 reads:m.reads≤m'.reads
 steps:m.steps≤m'.steps
def oI (L:List Im) (a:Int):Prop:=a = -1∨(1≤a∧a≤(L.length:Int))
theorem qa {L:List Im} {a:Int} (h:oI L a) (hn:a≠ -1):fa L a∈L:=by
 rcases h with h|⟨h1,h2⟩
 ·exact absurd h hn
 ·unfold fa
  rw[List.getD_eq_getElem?_getD,List.getElem?_eq_getElem (show(a - 1).toNat<L.length by omega)]
  exact List.getElem_mem _
structure Bw (p:Pg) (L:List Im):Prop where
 id : ∀ x∈L,1≤x.s.id∧x.s.id≤(L.length:Int)
 next : ∀ x∈L,oI L x.next
 loop : ∀ x∈L,x.s.kind=7∨x.s.kind=8→1≤x.loop∧x.loop≤(L.length:Int)
 Hu : ∀ x∈L,x.s.kind=10→∃ f,p.procs[x.proc.toNat]? = some f∧oI L (jk f.fin x.s.name (Sm.cL f.body)).1
 bb : ∀ x∈L,oI L (fp x.s.bb (-1))
 aP : ∀ x∈L,oI L (fp x.s.aP (-1))
 mC : ∀ f∈p.procs,oI L (fp f.body (-1))
def py (L:List Im) (m:Mc):Prop:=∀ fr∈m.st,fr.call=0∨(1≤fr.call∧fr.call≤(L.length:Int))
theorem EU {L:List Im} {l:List Sm} {o:Int} (h:oI L (fp l (-1))) (ho:oI L o):oI L (firstM l o):=by
 cases l with
 |nil=>exact ho
 |cons s l=>exact h
theorem py.of {L:List Im} {m m':Mc} (h:py L m) (e:m'.st=m.st):py L m':=by unfold py;rw[e];exact h
def Told (L:List Im) (r:Option Int×Mc):Prop:=
 match r.1 with
 |some a=>oI L a∧py L r.2∧r.2.fin=0∧(r.2.trace.length:Int)=r.2.steps
 |none=>((r.2.fin=1∨r.2.fin=2)∧(r.2.trace.length:Int)=r.2.steps)∨((r.2.fin=3∨r.2.fin=4∨r.2.fin=5)∧(r.2.trace.length:Int)+1=r.2.steps)
theorem vQ {W:List Int} {m:Mc} {id:Int} {bI:List Int} (h:W.contains id=true):(m.event W id bI).trace=m.trace++ [(id,bI)]∧(m.event W id bI).fin=m.fin:=by
 unfold Mc.event;rw[if_pos h];exact⟨rfl,rfl⟩
theorem CQ (m:Mc) (x:Ex) (h:m.fin=0):((m.bu x).1.2=true→(m.bu x).2.fin=0)∧((m.bu x).1.2=false→(m.bu x).2.fin=4):=by
 unfold Mc.bu
 dsimp only
 constructor
 ·intro e;rw[if_pos e];exact h
 ·intro e;rw[e];rfl
theorem IM {p:Pg} {L:List Im} (hL:Bw p L) {m:Mc} {g:Int} (hs:py L m) (hf:m.fin=0) (ht:(m.trace.length:Int)=m.steps):Told L (m.back L g):=by
 unfold Mc.back Mc.close
 dsimp only
 by_cases hc:(m.top.call==0)=true
 ·rw [if_pos hc]
  exact .inl ⟨.inl rfl,ht⟩
 ·rw [if_neg hc]
  have eW:m.top.call≠0:=by simpa using hc
  have Ri:1≤m.top.call∧m.top.call≤(L.length:Int):=by
   cases e:m.st with
   |nil=>simp[Mc.top,e]at eW
   |cons fr l=>
    have:m.top=fr:=by simp[Mc.top,e]
    rw[this]at eW ⊢
    exact(hs fr (by rw[e];exact List.mem_cons_self ..)).resolve_left eW
  have gN:=qa (L:=L) (.inr Ri) (by omega)
  have jy:py L {m with st:=m.st.tail}:=fun fr sV=>hs fr (List.mem_of_mem_tail sV)
  have e0 : ∀ m1:Mc,m1.fin=0→(m1.fin==0)=true:=fun m1 h=>by rw[h];rfl
  split
  ·rw[if_pos (e0 _ hf)];exact⟨hL.next _ gN,jy,hf,ht⟩
  ·rw[if_pos (e0 _ (by exact hf))];exact⟨hL.next _ gN,jy.of rfl,hf,ht⟩
theorem AQ : ∀ (l:List Ar) (m:Mc) (out:List Nat),m.fin=0→(Mc.args l m out).2.trace=m.trace∧(match (Mc.args l m out).1 with|some _=>(Mc.args l m out).2.fin=0|none=>(Mc.args l m out).2.fin=4)
 | [],m,out,h=>⟨rfl,h⟩
 | a::l,m,out,h=>by
  have hw:=CQ m a.x h
  have he:=gR m a.x
  simp only[Mc.args]
  by_cases c:a.ref=true
  ·rw[if_pos c];exact AQ l m _ h
  ·rw [if_neg c]
   by_cases c2:(m.bu a.x).1.2=true
   ·rw [if_pos c2]
    obtain⟨h1,h2⟩:=AQ l {(m.bu a.x).2 with mem:=(m.bu a.x).2.mem++ [(m.bu a.x).1.1]} (out++ [(m.bu a.x).2.mem.length]) (hw.1 c2)
    exact⟨h1.trans he.2.2.2.2.2,h2⟩
   ·rw [if_neg c2]
    exact⟨he.2.2.2.2.2,hw.2 (by simpa using c2)⟩
def CS (L:List Im) (r:Int×Mc):Prop:=
 (r.2.fin=0∧oI L r.1∧py L r.2∧(r.2.trace.length:Int)=r.2.steps)∨((r.2.fin=3∨r.2.fin=4∨r.2.fin=5)∧(r.2.trace.length:Int)+1=r.2.steps)
theorem CS.told {L:List Im} {r:Int×Mc} (h:CS L r):Told L (if r.2.fin==0 then some r.1 else none,r.2):=by
 obtain⟨a,m⟩:=r
 rcases h with ⟨h1,h2,h3,h4⟩|⟨h1,h2⟩
 ·dsimp only at h1 h2 h3 h4 ⊢
  rw[if_pos (by rw[h1];rfl)]
  exact⟨h2,h3,h1,h4⟩
 ·dsimp only at h1 h2 ⊢
  rw[if_neg (by simp only[beq_iff_eq];omega)]
  exact .inr ⟨h1,h2⟩
theorem Ut {p:Pg} {L:List Im} (hL:Bw p L) {W:List Int} {m:Mc} {x:Im} (hx:x∈L) (hw:W.contains x.s.id=true) (hs:py L m) (hf:m.fin=0) (ht:(m.trace.length:Int)+1=m.steps) :
 CS L (m.call p W x.s):=by
 have h:=vV x.s.args m []
 have h2:=AQ x.s.args m [] hf
 unfold Mc.call
 generalize Mc.args x.s.args m [] = r at *
 obtain⟨o,m1⟩:=r
 dsimp only at h h2
 cases o with
 |none=>
  dsimp only at h2 ⊢
  exact .inr ⟨.inr (.inl h2.2),by dsimp only;rw[h2.1,h.2];exact ht⟩
 | some l=>
  dsimp only at h2 ⊢
  by_cases c:m1.st.length > 100
  ·rw [if_pos c]
   exact .inr ⟨.inr (.inr rfl),by dsimp only;rw[h2.1,h.2];exact ht⟩
  ·rw [if_neg c]
   obtain⟨e1,e2⟩:=vQ (m:=m1) (bI:= []) hw
   have e3:=fh W m1 x.s.id []
   have wa:py L (m1.event W x.s.id []):=hs.of (e3.1.trans h.1)
   have xG:((m1.event W x.s.id []).trace.length:Int)=(m1.event W x.s.id []).steps:=by
    rw[e1,e3.2.2.2.1,h2.1,h.2,List.length_append]
    simp only[List.length_cons,List.length_nil];omega
   have NS:(m1.event W x.s.id []).fin=0:=e2.trans h2.2
   unfold Mc.open
   cases hp:p.procs[(p.at x.s.proc).toNat]? with
   |none=>exact .inl ⟨NS, .inl rfl,wa,xG⟩
   |some f=>
    refine .inl ⟨NS,hL.mC f (List.mem_of_getElem? hp),fun fr sV=>?_,xG⟩
    rcases List.mem_cons.1 sV with rfl|sV
    ·exact .inr (hL.id x hx)
    ·exact wa fr sV
theorem Rr {p:Pg} {L:List Im} (hL:Bw p L) {W:List Int} {m:Mc} {x:Im} (hw:W.contains x.s.id=true) (hs:py L m) (hf:m.fin=0) (ht:(m.trace.length:Int)+1=m.steps) :
 Told L (if(m.fv W x.s).2.fin==0 then(m.fv W x.s).2.back L (m.fv W x.s).1 else(none,(m.fv W x.s).2)):=by
 have he:=AP W m x.s
 have key:((m.fv W x.s).2.fin=0∧((m.fv W x.s).2.trace.length:Int)=(m.fv W x.s).2.steps)∨((m.fv W x.s).2.fin=4∧((m.fv W x.s).2.trace.length:Int)+1=(m.fv W x.s).2.steps):=by
  rw[he.2]
  unfold Mc.fv
  have Uu:=CQ m x.s.x hf
  have IN:=gR m x.s.x
  by_cases c:x.s.has=true
  ·rw [if_pos c]
   dsimp only
   by_cases c2:(m.bu x.s.x).1.2=true
   ·rw [if_pos c2]
    obtain⟨e1,e2⟩:=vQ (m:=(m.bu x.s.x).2) (bI:= [(m.bu x.s.x).1.1]) hw
    refine .inl ⟨e2.trans (Uu.1 c2), ?_⟩
    rw[e1,IN.2.2.2.2.2,List.length_append]
    simp only[List.length_cons,List.length_nil];omega
   ·rw [if_neg c2]
    exact .inr ⟨Uu.2 (by simpa using c2),by rw[IN.2.2.2.2.2];exact ht⟩
  ·rw [if_neg c]
   obtain⟨e1,e2⟩:=vQ (m:=m) (bI:= []) hw
   refine .inl ⟨e2.trans hf, ?_⟩
   dsimp only
   rw[e1,List.length_append]
   simp only[List.length_cons,List.length_nil];omega
 generalize m.fv W x.s=r at *
 rcases key with ⟨k1,k2⟩|⟨k1,k2⟩
 ·rw [if_pos (by rw [k1];rfl)]
  exact IM hL (hs.of he.1) k1 k2
 ·rw [if_neg (by simp only [beq_iff_eq];omega)]
  exact .inr ⟨.inr (.inl k1),k2⟩
theorem ab2 {p:Pg} {L:List Im} (hL:Bw p L) {tape W:List Int} {m:Mc} {x:Im} (hx:x∈L) (hw:W.contains x.s.id=true) (hs:py L m) (hf:m.fin=0) (ht:(m.trace.length:Int)+1=m.steps) :
 CS L (m.do p L tape W x):=by
 have go : ∀ {m1:Mc} {a:Int} {bI:List Int},m1.trace=m.trace→m1.steps=m.steps→m1.st=m.st→m1.fin=0→oI L a→CS L (a,m1.event W x.s.id bI):=fun {m1 a bI} e1 e2 e3 e4 ha=>by
  obtain⟨g1,g2⟩:=vQ (m:=m1) (bI:=bI) hw
  have g3:=fh W m1 x.s.id bI
  refine .inl ⟨g2.trans e4,ha,hs.of (g3.1.trans e3), ?_⟩
  dsimp only
  rw[g1,g3.2.2.2.1,e1,e2,List.length_append]
  simp only[List.length_cons,List.length_nil];omega
 have Uu:=CQ m x.s.x hf
 have IN:=gR m x.s.x
 have hid:=hL.id x hx
 unfold Mc.do
 dsimp only
 split
 ·rename_i c
  have hl:=hL.loop x hx (.inl (by simpa using c))
  exact go rfl rfl rfl hf (hL.next _ (qa (.inr hl) (by omega)))
 split
 ·rename_i c
  exact go rfl rfl rfl hf (.inr (hL.loop x hx (.inr (by simpa using c))))
 split
 ·rename_i c
  obtain⟨f,h1,h2⟩:=hL.Hu x hx (by simpa using c)
  rw[h1]
  exact go rfl rfl rfl hf h2
 split
 ·split
  ·exact .inr ⟨.inl rfl,ht⟩
  ·exact go rfl rfl rfl hf (hL.next x hx)
 ·by_cases c2:(m.bu x.s.x).1.2=true
  ·rw [if_pos c2]
   have base:=fun(a:Int) (ha:oI L a)=>go (m1:=(m.bu x.s.x).2) (a:=a) (bI:= [(m.bu x.s.x).1.1]) IN.2.2.2.2.2 IN.2.2.1 IN.1 (Uu.1 c2) ha
   have same : ∀ {a:Int} {m1 m2:Mc},CS L (a,m1)→m2.fin=m1.fin→m2.st=m1.st→m2.trace=m1.trace→m2.steps=m1.steps→CS L (a,m2):=fun {a m1 m2} h q1 q2 q3 q4=>by
    unfold CS py at *
    dsimp only at *
    rw[q1,q2,q3,q4];exact h
   split
   ·exact same (base _ (hL.next x hx)) rfl rfl rfl rfl
   split
   ·exact same (base _ (hL.next x hx)) rfl rfl rfl rfl
   split
   ·refine base _ ?_
    split
    ·exact EU (hL.aP x hx) (hL.next x hx)
    ·exact EU (hL.bb x hx) (hL.next x hx)
   split
   ·refine base _ ?_
    split
    ·exact hL.next x hx
    ·exact EU (hL.bb x hx) (.inr hid)
   ·exact base _ (hL.next x hx)
  ·rw [if_neg c2]
   exact .inr ⟨.inr (.inl (Uu.2 (by simpa using c2))),by dsimp only;rw[IN.2.2.2.2.2,IN.2.2.1];exact ht⟩
theorem IP {p:Pg} {L:List Im} (hL:Bw p L) {tape W:List Int} (hW : ∀ x∈L,W.contains x.s.id=true) {fuel a:Int} {m:Mc} (ha:oI L a) (hs:py L m) (hf:m.fin=0) (ht:(m.trace.length:Int)=m.steps) :
 Told L (m.next p L tape W fuel a):=by
 unfold Mc.next
 by_cases c1:(a == -1)=true
 ·rw[if_pos c1];exact IM hL hs hf ht
 ·rw [if_neg c1]
  by_cases c2:(m.steps==fuel)=true
  ·rw[if_pos c2];exact .inl ⟨.inr rfl,ht⟩
  ·rw [if_neg c2]
   have hx:=qa ha (by simpa using c1)
   have nJ:py L {m with steps:=m.steps+1}:=hs.of rfl
   have Ft:((({m with steps:=m.steps+1} : Mc).trace.length:Nat):Int)+1=({m with steps:=m.steps+1} : Mc).steps:=by dsimp only;omega
   dsimp only
   split
   ·exact(Ut hL hx (hW _ hx) nJ hf Ft).told
   split
   ·exact Rr hL (hW _ hx) nJ hf Ft
   ·exact(ab2 hL hx (hW _ hx) nJ hf Ft).told
def XK (m:Mc):Prop:=((m.fin=1∨m.fin=2)∧(m.trace.length:Int)=m.steps)∨((m.fin=3∨m.fin=4∨m.fin=5)∧(m.trace.length:Int)+1=m.steps)
theorem N5 {p:Pg} {L:List Im} (hL:Bw p L) {tape W:List Int} (hW : ∀ x∈L,W.contains x.s.id=true) {fuel:Int} : ∀ (N:Nat) (a:Int) (m m':Mc),oI L a→py L m→m.fin=0→(m.trace.length:Int)=m.steps→
 Mc.go p L tape W fuel N a m=some m'→XK m'
 | 0,_,_,_,_,_,_,_,h=>by simp[Mc.go]at h
 |N+1,a,m,m',ha,hs,hf,ht,h=>by
  have hn:=IP (fuel:=fuel) (tape:=tape) hL hW ha hs hf ht
  simp only[Mc.go]at h
  split at h
  ·rename_i m1 e;rw[e]at hn;cases h;exact hn
  ·rename_i a1 m1 e;rw[e]at hn;exact N5 hL hW N a1 m1 m' hn.1 hn.2.1 hn.2.2.1 hn.2.2.2 h
theorem LH {p:Pg} {L:List Im} (hL:Bw p L):oI L ((jZ p).open p (p.at dG) [] 0).1∧py L ((jZ p).open p (p.at dG) [] 0).2∧((jZ p).open p (p.at dG) [] 0).2.fin=0∧
 ((((jZ p).open p (p.at dG) [] 0).2.trace.length:Nat):Int)=((jZ p).open p (p.at dG) [] 0).2.steps:=by
 unfold Mc.open
 cases hp:p.procs[(p.at dG).toNat]? with
 |none=>exact⟨.inl rfl,fun fr h=>by simp[jZ]at h,rfl,rfl⟩
 |some f=>
  refine⟨hL.mC f (List.mem_of_getElem? hp),fun fr h=>?_,rfl,rfl⟩
  rcases List.mem_cons.1 h with rfl|h
  ·exact .inl rfl
  ·simp[jZ]at h
theorem Uv {p:Pg} (hL:Bw p p.bg.L) {tape W:List Int} (hW : ∀ x∈p.bg.L,W.contains x.s.id=true) {fuel:Int} {m:Mc} (h:runM p tape W fuel=some m):XK m:=by
 obtain⟨h1,h2,h3,h4⟩:=LH hL
 exact N5 hL hW _ _ _ _ h1 h2 h3 h4 h
theorem LI (p:Pg) (L:List Im) (tape W:List Int) {fuel:Int} : ∀ (N:Nat) (a:Int) (m m':Mc),m.steps≤fuel→Mc.go p L tape W fuel N a m=some m'→m'.steps≤fuel
 | 0,_,_,_,_,h=>by simp[Mc.go]at h
 | N+1,a,m,m',hs,h=>by
  simp only[Mc.go]at h
  cases e:m.next p L tape W fuel a with
  | mk o m1=>
   rw[e]at h
   cases o with
   |some a1=>exact LI p L tape W N a1 m1 m' (N3 hs e).1 h
   | none=>
    cases h
    unfold Mc.next at e
    have hb : ∀ {m:Mc} {g:Int} {o:Option Int} {m2:Mc},m.back L g=(o,m2)→m2.steps=m.steps:=fun {m g o m2} h=>by
     have:=(LG L m g).2.1
     unfold Mc.back at h
     simp only[Prod.mk.injEq]at h
     rw[← h.2];exact this
    split at e
    ·rw[hb e];exact hs
    split at e
    ·simp only[Prod.mk.injEq,true_and]at e;rw[← e];exact hs
    rename_i eW
    have hD:m.steps<fuel:=by(have:m.steps≠fuel:=by simpa using eW);omega
    dsimp only at e
    split at e
    ·have h1:=(N2 p W {m with steps:=m.steps+1} (fa L a).s).2
     simp only[Prod.mk.injEq]at e
     rw[← e.2,h1];dsimp only;omega
    split at e
    ·have h1:=(AP W {m with steps:=m.steps+1} (fa L a).s).2
     split at e
     ·rw[hb e,h1];dsimp only;omega
     ·simp only[Prod.mk.injEq,true_and]at e;rw[← e,h1];dsimp only;omega
    ·have h1:=(Rq p L tape W {m with steps:=m.steps+1} (fa L a)).2
     simp only[Prod.mk.injEq]at e
     rw[← e.2,h1];dsimp only;omega
def cj (a b t:az):az:=if t==a then b else if t==b then a else t
mutual
def Ex.swap (a b:az):Ex→Ex
 |⟨op,n,name,kids⟩=>⟨op,n,cj a b name,Ex.dn a b kids⟩
def Ex.dn (a b:az):List Ex→List Ex
 | []=> []
 |x::l=>x.swap a b::Ex.dn a b l
end
def Ar.swap (a b:az) (x:Ar):Ar:=⟨x.ref,cj a b x.name,x.x.swap a b⟩
mutual
def Sm.swap (a b:az):Sm→Sm
 |⟨id,kind,labels,name,proc,x,has,args,bb,aP⟩=>⟨id,kind,labels.map (cj a b),cj a b name,cj a b proc,x.swap a b,has,args.map (Ar.swap a b),Sm.dn a b bb,Sm.dn a b aP⟩
def Sm.dn (a b:az):List Sm→List Sm
 | []=> []
 |s::l=>s.swap a b::Sm.dn a b l
end
def Pm.swap (a b:az) (x:Pm):Pm:=⟨cj a b x.name,x.ref⟩
def Pc.swap (a b:az) (f:Pc):Pc:=⟨cj a b f.name,f.params.map (Pm.swap a b),f.vars.map (cj a b),Sm.dn a b f.body,f.fin.map (cj a b)⟩
def Pg.swap (a b:az) (p:Pg):Pg:=⟨p.globals.map (cj a b),p.procs.map (Pc.swap a b)⟩
theorem CT (a b:az) : ∀ l:List Ex,Ex.dn a b l=l.map (Ex.swap a b)
 | []=>rfl
 |x::l=>by simp only[Ex.dn,CT a b l,List.map_cons]
theorem jG (a b t:az):cj a b (cj a b t)=t:=by
 simp only[cj,beq_iff_eq]
 by_cases h1:t=a
 ·subst h1
  rw[if_pos rfl]
  by_cases h2:b=t
  ·rw[if_pos h2];exact h2
  ·rw[if_neg h2,if_pos rfl]
 ·rw [if_neg h1]
  by_cases h2:t=b
  ·subst h2
   have e:(if t=t then a else t)=a:=if_pos rfl
   rw[e,if_pos rfl]
  ·rw[if_neg h2,if_neg h1,if_neg h2]
theorem Dw (a b:az) : ∀ l:List az,(l.map (cj a b)).map (cj a b)=l
 | []=>rfl
 |t::l=>by simp only[List.map_cons,jG,Dw a b l]
theorem qt {a b:az} (ha:isName a=true) (hb:isName b=true) (t:az):isName (cj a b t)=isName t:=by
 simp only[cj,beq_iff_eq]
 by_cases h1:t=a
 ·rw[if_pos h1,h1,ha,hb]
 ·rw [if_neg h1]
  by_cases h2:t=b
  ·rw[if_pos h2,h2,ha,hb]
  ·rw[if_neg h2]
theorem tv {a b:az} (ha:isName a=true) (hb:isName b=true) (t:az):(cj a b t == [])=(t == []):=by
 have n0 : ∀ {s:az},isName s=true→(s == [])=false:=by
  intro s h
  cases s with
  |nil=>simp[isName]at h
  |cons c r=>rfl
 simp only[cj,beq_iff_eq]
 by_cases h1:t=a
 ·rw[if_pos h1,h1,n0 ha,n0 hb]
 ·rw [if_neg h1]
  by_cases h2:t=b
  ·rw[if_pos h2,h2,n0 ha,n0 hb]
  ·rw[if_neg h2]
theorem sJ {a b:az} (ha:isName a=true) (hb:isName b=true) : ∀ l:List az,e7 (l.map (cj a b))=e7 l
 | []=>rfl
 |t::l=>by simp only[List.map_cons,e7,qt ha hb,sJ ha hb l]
theorem IQ (a b:az) (l:List Ex):(Ex.dn a b l).length=l.length:=by rw[CT,List.length_map]
mutual
theorem N6 {a b:az} (ha:isName a=true) (hb:isName b=true) : ∀ x:Ex,(x.swap a b).form=x.form
 |⟨op,n,name,kids⟩=>by
  simp only[Ex.swap,Ex.form]
  rw[IQ,qt ha hb,tv ha hb,LJ ha hb kids]
theorem LJ {a b:az} (ha:isName a=true) (hb:isName b=true) : ∀ l:List Ex,Ex.qm (Ex.dn a b l)=Ex.qm l
 | []=>rfl
 |x::l=>by simp only[Ex.dn,Ex.qm,N6 ha hb x,LJ ha hb l]
end
mutual
theorem vW (a b:az) : ∀ x:Ex,(x.swap a b).depth=x.depth∧(x.swap a b).size=x.size∧((x.oV)→(x.swap a b).oV)∧(x.swap a b).swap a b=x
 |⟨op,n,name,kids⟩=>by
  obtain⟨h1,h2,h3,h4⟩:=LK a b kids
  refine⟨?_, ?_,fun h=>?_, ?_⟩
  ·simp only[Ex.swap,Ex.depth,h1]
  ·simp only[Ex.swap,Ex.size,h2]
  ·simp only[Ex.swap,Ex.oV]at h ⊢;exact⟨h.1,h3 h.2⟩
  ·simp only[Ex.swap,jG,h4]
theorem LK (a b:az) : ∀ l:List Ex,Ex.nO (Ex.dn a b l)=Ex.nO l∧Ex.a7 (Ex.dn a b l)=Ex.a7 l∧(Ex.qM l→Ex.qM (Ex.dn a b l))∧Ex.dn a b (Ex.dn a b l)=l
 | []=>⟨rfl,rfl,fun _=>trivial,rfl⟩
 |x::l=>by
  obtain⟨h1,h2,h3,h4⟩:=LK a b l
  obtain⟨k1,k2,k3,k4⟩:=vW a b x
  refine⟨?_, ?_,fun h=>?_, ?_⟩
  ·simp only[Ex.dn,Ex.nO,h1,k1]
  ·simp only[Ex.dn,Ex.a7,h2,k2]
  ·simp only[Ex.dn,Ex.qM]at h ⊢;exact⟨k3 h.1,h3 h.2⟩
  ·simp only[Ex.dn,h4,k4]
end
theorem Gc {a b:az} (ha:isName a=true) (hb:isName b=true) (x:Ex):(x.swap a b).may=x.may:=by unfold Ex.may;rw[(vW a b x).1,N6 ha hb]
theorem N7 {a b:az} (ha:isName a=true) (hb:isName b=true) (x:Ex):(x.swap a b).none=x.none:=by
 obtain⟨op,n,name,kids⟩:=x
 simp only[Ex.swap,Ex.none]
 rw[IQ,tv ha hb]
theorem afM {a b:az} (ha:isName a=true) (hb:isName b=true) (x:Ar):(x.swap a b).may=x.may:=by
 simp only[Ar.swap,Ar.may,qt ha hb,tv ha hb,Gc ha hb,N7 ha hb]
theorem N8 {a b:az} (ha:isName a=true) (hb:isName b=true) : ∀ l:List Ar,Ar.fx (l.map (Ar.swap a b))=Ar.fx l
 | []=>rfl
 |x::l=>by simp only[List.map_cons,Ar.fx,afM ha hb,N8 ha hb l]
theorem N9 (a b:az) : ∀ l:List Ar,(l.map (Ar.swap a b)).map (Ar.swap a b)=l
 | []=>rfl
 |x::l=>by
  have e:Ar.swap a b (Ar.swap a b x)=x:=by simp only[Ar.swap,jG,(vW a b x.x).2.2.2]
  simp only[List.map_cons,e,N9 a b l]
theorem Oa (a b:az) : ∀ l:List Ar,Ar.a7 (l.map (Ar.swap a b))=Ar.a7 l
 | []=>rfl
 |x::l=>by simp only[List.map_cons,Ar.a7,Oa a b l,Ar.swap,(vW a b x.x).2.1]
theorem Gd (a b:az) : ∀ l:List Sm,(Sm.dn a b l).length=l.length
 | []=>rfl
 |x::l=>by simp only[Sm.dn,List.length_cons,Gd a b l]
theorem afN {a b:az} (ha:isName a=true) (hb:isName b=true) (s:Sm):(s.swap a b).one=s.one:=by
 obtain⟨id,kind,labels,name,proc,x,has,args,bb,aP⟩:=s
 simp only[Sm.swap,Sm.one,Sm.Lf,Sm.hasName,Sm.wI,sJ ha hb,Gc ha hb,N7 ha hb,qt ha hb,tv ha hb,N8 ha hb,List.length_map,Gd]
 rfl
def It.swap (a b:az) (i:It):It:=⟨i.s.swap a b,i.deep,i.cu,i.aP⟩
mutual
theorem Rs (a b:az) : ∀ (s:Sm) (deep cu:Int) (aP:Bool) (out:List It),iu deep cu aP (out.map (It.swap a b)) (s.swap a b)=(iu deep cu aP out s).map (It.swap a b)
 | ⟨id,kind,labels,name,proc,x,has,args,bb,e⟩,deep,cu,aP,out=>by
  have e1 : ∀ o:List It,o.map (It.swap a b)++ [(⟨Sm.swap a b ⟨id,kind,labels,name,proc,x,has,args,bb,e⟩,deep,cu,aP⟩:It)] = (o++ [(⟨⟨id,kind,labels,name,proc,x,has,args,bb,e⟩,deep,cu,aP⟩:It)]).map (It.swap a b):=by
   intro o;simp only[List.map_append,List.map_cons,List.map_nil,It.swap]
  have e2:=e1 out
  simp only[Sm.swap]at e2
  simp only[Sm.swap,iu,e2]
  rw[vR a b bb,vR a b e]
  split<;>rfl
theorem vR (a b:az) : ∀ (l:List Sm) (deep cu:Int) (aP:Bool) (out:List It),dN deep cu aP (out.map (It.swap a b)) (Sm.dn a b l)=(dN deep cu aP out l).map (It.swap a b)
 | [],deep,cu,aP,out=>by simp only[Sm.dn,dN]
 |s::l,deep,cu,aP,out=>by
  simp only[Sm.dn,dN,List.length_map]
  split
  ·rw[Rs a b s,vR a b l]
  ·rfl
end
theorem ab3 (a b:az) (f:Pc):(f.swap a b).flat=f.flat.map (It.swap a b):=by
 unfold Pc.flat
 rw[← vR];rfl
theorem EV (a b:az) : ∀ (l:List Pc) (out:List It),allM (out.map (It.swap a b)) (l.map (Pc.swap a b))=(allM out l).map (It.swap a b)
 | [],out=>by simp only[List.map_nil,allM]
 |f::l,out=>by
  simp only[List.map_cons,allM,ab3]
  rw[← List.map_append,List.length_map,EV a b l]
  split<;>rfl
theorem Oc {a b:az} (ha:isName a=true) (hb:isName b=true) : ∀ (l:List It) (n:Nat),It.fx n (l.map (It.swap a b))=It.fx n l
 | [],n=>rfl
 |i::l,n=>by
  have e:(It.swap a b i).s.id=i.s.id:=by obtain⟨⟨id,kind,labels,name,proc,x,has,args,bb,aP⟩,d,cu,e⟩:=i;rfl
  have e2:(It.swap a b i).s.one=i.s.one:=afN ha hb i.s
  simp only[List.map_cons,It.fx,e,e2,Oc ha hb l]
  rfl
theorem Od {a b:az} (ha:isName a=true) (hb:isName b=true) : ∀ l:List Pm,Pm.fx (l.map (Pm.swap a b))=Pm.fx l
 | []=>rfl
 |x::l=>by simp only[List.map_cons,Pm.fx,Pm.swap,qt ha hb,Od ha hb l]
theorem LL {a b:az} (ha:isName a=true) (hb:isName b=true) : ∀ l:List Pc,Pc.mC (l.map (Pc.swap a b))=Pc.mC l
 | []=>rfl
 |f::l=>by simp only[List.map_cons,Pc.mC,Pc.swap,qt ha hb,sJ ha hb,Od ha hb,List.length_map,LL ha hb l]
theorem EW {a b:az} (ha:isName a=true) (hb:isName b=true) (p:Pg):(p.swap a b).may=p.may:=by
 have e:(p.swap a b).all=p.all.map (It.swap a b):=EV a b p.procs []
 unfold Pg.may
 rw[e,Oc ha hb]
 simp only[Pg.swap,List.length_map,sJ ha hb,LL ha hb]
theorem Oe (a b:az) : ∀ l:List Pm,(l.map (Pm.swap a b)).map (Pm.swap a b)=l
 | []=>rfl
 |x::l=>by simp only[List.map_cons,Pm.swap,jG,Oe a b l]
mutual
theorem XL (a b:az) : ∀ s:Sm,(s.swap a b).size=s.size∧(s.oV→(s.swap a b).oV)∧(s.swap a b).swap a b=s
 | ⟨id,kind,labels,name,proc,x,has,args,bb,aP⟩=>by
  obtain⟨h1,h2,h3⟩:=xS a b bb
  obtain⟨k1,k2,k3⟩:=xS a b aP
  obtain⟨_,x1,x2,x3⟩:=vW a b x
  refine⟨?_,fun h=>?_, ?_⟩
  ·simp only[Sm.swap,Sm.size,h1,k1,x1,Oa,List.length_map]
  ·simp only [Sm.swap,Sm.oV]at h ⊢
   refine⟨x2 h.1,fun y hy=>?_,h2 h.2.2.1,k2 h.2.2.2⟩
   obtain⟨z,hz,rfl⟩:=List.mem_map.1 hy
   exact(vW a b z.x).2.2.1 (h.2.1 z hz)
  ·simp only[Sm.swap,Dw,jG,x3,N9,h3,k3]
theorem xS (a b:az) : ∀ l:List Sm,Sm.a7 (Sm.dn a b l)=Sm.a7 l∧(Sm.qM l→Sm.qM (Sm.dn a b l))∧Sm.dn a b (Sm.dn a b l)=l
 | []=>⟨rfl,fun _=>trivial,rfl⟩
 |s::l=>by
  obtain⟨h1,h2,h3⟩:=xS a b l
  obtain⟨k1,k2,k3⟩:=XL a b s
  refine⟨?_,fun h=>?_, ?_⟩
  ·simp only[Sm.dn,Sm.a7,h1,k1]
  ·simp only[Sm.dn,Sm.qM]at h ⊢;exact⟨k2 h.1,h2 h.2⟩
  ·simp only[Sm.dn,h3,k3]
end
theorem Ge (a b:az) (p:Pg):(p.swap a b).size=p.size∧(p.swap a b).swap a b=p:=by
 have : ∀ l:List Pc,Pc.a7 (l.map (Pc.swap a b))=Pc.a7 l∧(l.map (Pc.swap a b)).map (Pc.swap a b)=l:=by
  intro l
  induction l with
  |nil=>exact⟨rfl,rfl⟩
  | cons f l ih=>
   obtain⟨k1,k2,k3⟩:=xS a b f.body
   refine⟨?_, ?_⟩
   ·simp only[List.map_cons,Pc.a7,Pc.size,Pc.swap,List.length_map,k1,ih.1]
   ·simp only [List.map_cons,ih.2]
    simp only[Pc.swap,jG,Oe,Dw,k3]
 obtain⟨h1,h2⟩:=this p.procs
 refine⟨?_, ?_⟩
 ·simp only[Pg.swap,Pg.size,List.length_map,h1]
 ·simp only[Pg.swap,Dw,h2]
theorem Uw {out:List az} {x y:az} : y∈tR out x↔y∈out∨y=x:=by
 unfold tR
 split
 ·rename_i e
  have:=(fP _ _).1 e
  constructor
  ·exact .inl
  ·rintro(h|rfl)<;>assumption
 ·simp
theorem wR {y:az} : ∀ {l out:List az},y∈tu out l↔y∈out∨y∈l
 | [],out=>by simp[tu]
 |x::l,out=>by
  simp only[tu,wR (l:=l),Uw,List.mem_cons,or_assoc]
theorem LM (p:Pg) {y:az} : ∀ (n i:Nat) (out:List az),y∈out→y∈nB p n i out
 | 0,i,out,h=>h
 |n+1,i,out,h=>by
  simp only[nB]
  split
  ·exact LM p n _ _ (wR.2 (.inl h))
  ·exact h
theorem LN : ∀ (l out:List az),∃ e,tu out l=out++e
 | [],out=>⟨[],by simp[tu]⟩
 |x::l,out=>by
  obtain⟨e,h⟩:=LN l (tR out x)
  simp only[tu,h]
  unfold tR
  split
  ·exact⟨e,rfl⟩
  ·exact⟨x::e,by simp⟩
theorem Eh {p:Pg} (kv:(p.scope.1==0)=true) : ∀ (n i:Nat) (out:List az),Good p out→n+i=p.procs.length+1→(∀ (j:Nat) (x:az),j<i→out[j]? = some x→∀ y∈oX p x,y∈out)→
 ∀ x∈nB p n i out,∀ y∈oX p x,y∈nB p n i out
 | 0,i,out,hg,hn,hc,x,hx,y,hy=>by
  simp only[nB]at hx ⊢
  obtain⟨j,hj⟩:=List.getElem?_of_mem hx
  have:=hg.len
  have:=(List.getElem?_eq_some_iff.1 hj).1
  exact hc j x (by omega) hj y hy
 | n+1,i,out,hg,hn,hc,x,hx,y,hy=>by
  simp only[nB]at hx ⊢
  split at hx
  ·rename_i z hz
   obtain⟨g,zc⟩:=hg.2 z (List.mem_of_getElem? hz)
   refine Eh kv n (i+1) _ (hg.add fun y m=>?_) (by omega) (fun j x hj Z7 y hy=>?_) x hx y hy
   ·unfold oX at m
    rw[zc]at m
    exact yF kv (ry zc).1 m
   ·obtain⟨e,he⟩:=LN (oX p z) out
    have hi:=(List.getElem?_eq_some_iff.1 hz).1
    rw[he,List.getElem?_append_left (by omega)]at Z7
    rcases Nat.lt_or_ge j i with h1|h1
    ·exact wR.2 (.inl (hc j x h1 Z7 y hy))
    ·have:j=i:=by omega
     subst this
     rw[hz]at Z7
     cases Z7
     exact wR.2 (.inr hy)
  ·rename_i hz
   obtain⟨j,hj⟩:=List.getElem?_of_mem hx
   have h1:=(List.getElem?_eq_some_iff.1 hj).1
   have h2:=List.getElem?_eq_none_iff.1 hz
   exact hc j x (by omega) hj y hy
theorem Gf {p:Pg} {S:az→Prop} (hS : ∀ x,S x→∀ y∈oX p x,S y) : ∀ (n i:Nat) (out:List az),(∀ x∈out,S x)→∀ x∈nB p n i out,S x
 | 0,i,out,h,x,hx=>h x hx
 | n+1,i,out,h,x,hx=>by
  simp only[nB]at hx
  split at hx
  ·rename_i z hz
   exact Gf hS n _ _ (fun y hy=>(wR.1 hy).elim (h y) (hS z (h z (List.mem_of_getElem? hz)) y)) x hx
  ·exact h x hx
theorem IS {p:Pg} {x:az} : ∀ {l out:List az},x∈qp p out l↔x∈out∨(x∈l∧x∈p.globals)
 | [],out=>by simp[qp]
 | v::l,out=>by
  simp only[qp,IS (l:=l),List.mem_cons]
  cases e:e9 p.globals v
  ·have:v∉p.globals:=fun m=>by rw [(fP _ _).2 m]at e;cases e
   simp only[Bool.false_eq_true,if_false]
   constructor
   ·rintro(h | ⟨h,k⟩)
    ·exact .inl h
    ·exact .inr ⟨.inr h,k⟩
   ·rintro(h | ⟨rfl | h,k⟩)
    ·exact .inl h
    ·exact absurd k this
    ·exact .inr ⟨h,k⟩
  ·have:v∈p.globals:=(fP _ _).1 e
   simp only[if_true,List.mem_append,List.mem_singleton]
   constructor
   ·rintro((h | rfl) | ⟨h,k⟩)
    ·exact .inl h
    ·exact .inr ⟨.inl rfl,this⟩
    ·exact .inr ⟨.inr h,k⟩
   ·rintro(h | ⟨rfl | h,k⟩)
    ·exact .inl (.inl h)
    ·exact .inl (.inr rfl)
    ·exact .inr ⟨h,k⟩
def tT:List Sm→List az
 | []=> []
 |v::l=>v.said++tT l
theorem IT {p:Pg} {x:az} : ∀ {l:List Sm} {out:List az},x∈qq p out l↔x∈out∨(x∈tT l∧x∈p.globals)
 | [],out=>by simp[qq,tT]
 | v::l,out=>by
  simp only[qq,IT (l:=l),IS,tT,List.mem_append]
  constructor
  ·rintro((h | ⟨h,k⟩) | ⟨h,k⟩)
   ·exact .inl h
   ·exact .inr ⟨.inl h,k⟩
   ·exact .inr ⟨.inr h,k⟩
  ·rintro(h | ⟨h | h,k⟩)
   ·exact .inl (.inl h)
   ·exact .inl (.inr ⟨h,k⟩)
   ·exact .inr ⟨h,k⟩
def AR (p:Pg):List az→List az
 | []=> []
 |n::l=>tT (lA p n)++AR p l
theorem IU {p:Pg} {x:az} : ∀ {l:List az},x∈AR p l↔∃ n∈l,x∈tT (lA p n)
 | []=>by simp[AR]
 |n::l=>by simp[AR,IU (l:=l)]
theorem IV {p:Pg} {x:az} : ∀ {l out:List az},x∈q9 p out l↔x∈out∨(x∈AR p l∧x∈p.globals)
 | [],out=>by simp[q9,AR]
 | v::l,out=>by
  simp only[q9,IV (l:=l),IT,AR,List.mem_append]
  constructor
  ·rintro((h | ⟨h,k⟩) | ⟨h,k⟩)
   ·exact .inl h
   ·exact .inr ⟨.inl h,k⟩
   ·exact .inr ⟨.inr h,k⟩
  ·rintro(h | ⟨h | h,k⟩)
   ·exact .inl (.inl h)
   ·exact .inl (.inr ⟨h,k⟩)
   ·exact .inr ⟨h,k⟩
theorem IW {p:Pg} {nm x:az} {f:Pc} (h:p.sH nm=some f):x∈p.mA nm↔(∃ n∈p.work nm,x∈tT (lA p n))∧x∈p.globals:=by
 unfold Pg.mA
 rw[h]
 dsimp only
 rw[(jE _).2]
 unfold Pg.rz
 rw[IV,IU]
 simp only[(jE _).2,List.not_mem_nil,false_or]
set_option maxRecDepth 8000
open Go.Proofs
def l8 (nm:az) (T:List az) (seen:List az):List Ar→Bool
 | []=>true
 |a::l=>if a.ref then(if e9 seen a.name ||(a.name==nm ||e9 T a.name)then false else l8 nm T (seen++ [a.name]) l)else l8 nm T seen l
def apM (T:List az) (seen:List az):List Ar→Bool
 | []=>true
 |a::l=>if a.ref then(if e9 seen a.name ||e9 T a.name then false else apM T (seen++ [a.name]) l)else apM T seen l
def Sm.aqK (v:Sm):List az:=if v.name != []then [v.name]else []
theorem XM {v:Sm} (vw:v.args.length<1000000000) {T:List az} (hT:T.length<4611686018427387904) (s:St) :
 aF Tryz.prog tf [.agg (bj v), .slice .shared 1 (T.map encStr)] s (.bool (l8 v.name T [] v.args)) s:=by
 refine aF.pure ?_ (by simp[D.bJ,D.ok,sf,Tag.ok,ff]) rfl s
 generalize hR:l8 v.name T [] v.args=R
 have Z8:=fun x s=>sC hT x s
 unfold S0
 refine aF.go EJ rfl fun B Q hB hQ=>?_
 have⟨hD,hY,hZ,gA⟩:=bN
 repeat' (first
 |simp only[go_sem,hD,hY,hZ,gA]
 |(with_reducible refine aE hQ ?_;exact bo))
 refine br.rn 5 1 rfl ?_
 simp only[go_sem,hD,hY,hZ,gA]
 refine fc 1 1 (br.ind (ι:=List Ar×Nat×List az×Nat) (fun i=>v.args.drop i.2.1=i.1∧l8 v.name T i.2.2.1 i.1=R∧i.2.2.1.length≤i.2.1∧i.2.2.2=i.2.2.1.length) (fun i=>i.1.length)
  (fun i=> [(1, .slice .shared 1 (T.map encStr)),(2, .ptr 0 0),(5, .slice (.tok 0) 1 (i.2.2.1.map encStr)),(9, .slice .shared 6 (v.args.map eC)),(10, .int .i64 (v.args.length:Int)),(11, .int .i64 (i.2.1:Int))]) (fun i=>⟨[bj v],[some i.2.2.2]⟩) ?_ (v.args,0,[],0) ⟨rfl,hR,Nat.le_refl _,rfl⟩)
 clear hR
 rintro⟨rest,k,seen,n'⟩ ⟨h1,h2,h3,h4⟩ IH
 dsimp only at h1 h2 h3 h4
 subst h4
 cases rest with
 |nil=>
  have hD:=drop_nil h1
  simp only[l8]at h2
  subst h2
  repeat' (first
 |simp only[go_sem,hD,hY,hZ,gA]
 |(with_reducible refine aE hQ ?_;exact bo))
 | cons a rest=>
  obtain⟨hY,g2,hD,g4⟩:=drop_cons h1
  have bW:k<4611686018427387904:=by omega
  have hZ:(seen.length+1)*17≤bx:=by unfold bx;omega
  have oe:=fun g s=>jW (l:=seen) (by omega) a.name g s
  simp only[l8]at h2
  rcases Bool.eq_false_or_eq_true a.ref with c1|c1
  case inr=>
   simp only[c1,Bool.false_eq_true,if_false]at h2
   repeat' (first
 |simp only[go_sem,hD,hY,hZ,gA,c1,Bool.not_false]
 | (with_reducible refine aE hQ ?_;exact bo))
   refine fe 1 1 ?_ ?_ (IH (rest,k+1,seen,_) ⟨g2,h2,by dsimp only;omega,rfl⟩ (Nat.lt_succ_self _))
   ·(simp only[go_sem,hD,hY,hZ,gA,aJ bW];try exact cq)
   ·(simp only[go_sem,hD,hY,hZ,gA,aJ bW];try exact cq)
  simp only[c1,if_true]at h2
  rcases Bool.eq_false_or_eq_true (e9 seen a.name)with c2|c2
  ·simp only [c2,Bool.true_or,if_true]at h2
   subst h2
   repeat' (first
 |simp only[go_sem,hD,hY,hZ,gA,c1,c2,Bool.not_true]
 |(with_reducible refine CU (oe _ _) ?_)
 |(with_reducible refine CU (Z8 _ _) ?_)
 | (with_reducible refine aE hQ ?_;exact bo))
  rcases Bool.eq_false_or_eq_true (a.name==v.name)with c3|c3
  ·simp only [c2,c3,Bool.false_or,Bool.true_or,if_true]at h2
   subst h2
   repeat' (first
 |simp only[go_sem,hD,hY,hZ,gA,c1,c2,c3,Bool.not_true]
 |(with_reducible refine CU (oe _ _) ?_)
 |(with_reducible refine CU (Z8 _ _) ?_)
 | (with_reducible refine aE hQ ?_;exact bo))
  rcases Bool.eq_false_or_eq_true (e9 T a.name)with c4|c4
  ·simp only [c2,c3,c4,Bool.false_or,if_true]at h2
   subst h2
   repeat' (first
 |simp only[go_sem,hD,hY,hZ,gA,c1,c2,c3,c4,Bool.not_true]
 |(with_reducible refine CU (oe _ _) ?_)
 |(with_reducible refine CU (Z8 _ _) ?_)
 | (with_reducible refine aE hQ ?_;exact bo))
  ·simp only [c2,c3,c4,Bool.false_or,Bool.false_eq_true,if_false]at h2
   repeat' (first
 |simp only[go_sem,hD,hY,hZ,gA,c1,c2,c3,c4,Bool.not_true]
 |(with_reducible refine CU (oe _ _) ?_)
 |(with_reducible refine CU (Z8 _ _) ?_)
 | (with_reducible refine aE hQ ?_;exact bo))
   refine fe 1 1 ?_ ?_ (IH (rest,k+1,seen++ [a.name],seen.length+1) ⟨g2,h2,by simp;omega,by simp⟩ (Nat.lt_succ_self _))
   ·(simp only[go_sem,hD,hY,hZ,gA,aJ bW,List.map_append,List.map_cons,List.map_nil,encStr];try exact cq)
   ·(simp only[go_sem,hD,hY,hZ,gA,aJ bW,List.map_append,List.map_cons,List.map_nil,encStr];try exact cq)
def nX (p:Pg):List Pc→List D
 | []=> []
 |f::l=> .str f.name:: .slice .shared 1 ((p.mA f.name).map encStr)::nX p l
theorem Ux (p:Pg) : ∀ l,D.bJ 0 0 (nX p l)=true
 | []=>rfl
 |f::l=>by simp only[nX,D.bJ,D.ok,Tag.ok,ff,Ux p l];rfl
theorem ab4 (n m:Nat) (p:Pg) (l:List Pc):D.gH n m (nX p l)=nX p l:=iC n m _ (Ux p l)
attribute [go_sem] ab4
theorem LO (p:Pg) : ∀ l m,nX p (l++m)=nX p l++nX p m
 | [],m=>rfl
 |f::l,m=>by simp only[List.cons_append,nX,LO p l m]
theorem LP {p:Pg} {nm:az} {d:D} : ∀ {l:List Pc},nm∉l.map (·.name)→xZ nm d (nX p l)=some (nX p l++ [.str nm,d])
 | [],_=>rfl
 |f::l,h=>by
  simp only[List.map_cons,List.mem_cons,not_or]at h
  have:(f.name==nm)=false:=by simpa using fun e=>h.1 e.symm
  simp only[nX,xZ,this,Bool.false_eq_true,if_false,LP h.2,List.cons_append]
theorem LQ {p:Pg} {nm:az} {z:D} : ∀ {l:List Pc} {f:Pc},iw nm l=some f→zS nm z (nX p l)=some (.slice .shared 1 ((p.mA nm).map encStr))
 | g::l,f,h=>by
  simp only[iw]at h
  simp only[nX,zS]
  split at h
  ·rename_i e
   rw[if_pos e,eq_of_beq e]
  ·rename_i e
   rw[if_neg e]
   exact LQ h
theorem ab5 (l:List az) : ∀ (s:List az),pG s l=false→∀ a x b,l=a++x::b→x∉s++a:=by
 induction l with
 |nil=>intro s _ a x b e;cases a<;>cases e
 | cons y l ih=>
  intro s h a x b e
  simp only[pG]at h
  split at h
  ·cases h
  ·rename_i hy
   cases a with
   |nil=>cases e;simpa[← fP]using hy
   |cons z a=>
    cases e
    have:=ih (s++ [y]) h a x b rfl
    simpa using this
end Go.Abs
namespace Go.Abs
set_option maxRecDepth 8000
open Go.Proofs
theorem LR {p:Pg} (h:(p.arity.1==0)=true):(p.scope.1==0)=true∧∀ v∈p.pre,(v.kind==4)=true→v.oD p=true:=by
 unfold Pg.arity at h
 split at h
 ·rename_i e
  refine⟨e,fun v hv hk=>?_⟩
  have : ∀ l:List Sm,((oW 6 (Ef p l)).1==0)=true→∀ v∈l,(v.kind==4)=true→v.oD p=true:=by
   intro l
   induction l with
   |nil=>intro _ v m;cases m
   | cons a l ih=>
    intro h v m hk
    simp only[Ef]at h
    split at h
    ·cases h
    ·rename_i c
     rcases List.mem_cons.1 m with rfl|m
     ·simpa[hk]using c
     ·exact ih h v m hk
  exact this _ h v hv hk
 ·cases h
theorem IX {p:Pg} {v:Sm} (h:v.oD p=true) : ∃ f,p.find v.proc=some f:=by
 unfold Sm.oD at h
 cases e:p.find v.proc with
 |some f=>exact⟨f,rfl⟩
 |none=>rw[e]at h;simp at h
theorem LS : ∀ {l:List It} {n:Nat} {i:It},It.fx n l=true→i∈l→i.s.one=true
 | j::l,n,i,h,m=>by
  simp only[It.fx]at h
  split at h
  ·cases h
  ·rename_i c
   simp only[Bool.or_eq_true,not_or,Bool.not_eq_true',Bool.not_eq_false]at c
   rcases List.mem_cons.1 m with rfl|m
   ·exact c.2
   ·exact LS h m
theorem Og {p:Pg} (h:p.may=true) : ∀ v∈p.pre,v.one=true:=fun v m=>by
 rw[← (AA h).2,List.mem_map]at m
 obtain⟨i,hi,rfl⟩:=m
 exact LS (zD h).2 hi
def Sm.rK (p:Pg) (v:Sm):Bool:=l8 v.name (p.mA v.proc) [] v.args
def Ei (p:Pg):List Sm→Option Sm
 | []=>none
 |v::l=>if v.kind==4 && !(v.rK p)then some v else Ei p l
def Pg.alias (p:Pg):Int×Int:=if p.arity.1==0 then oW 8 (Ei p p.pre)else(1,0)
theorem LU {p:Pg} (h:p.iX) (nm:az):(p.mA nm).length<4611686018427387904:=by
 unfold Pg.mA
 cases hs:p.sH nm with
 |none=>dsimp only;decide
 |some f=>
  obtain⟨kv,hf⟩:=CJ hs
  have h1:=(LA kv hf).len
  have h2:=h.procs
  have h3:=(AJ h (jY (p.work nm)) []).2
  have h4:(jY (p.work nm)).length*1800000≤900000*1800000:=Nat.mul_le_mul_right _ (by omega)
  have h5:(jY (p.rz nm)).length≤(p.rz nm).length:=xP _ _ (vN (jE _).1) fun x m=>((jE _).2 x).1 m
  dsimp only
  unfold Pg.rz at *
  simp only[List.length_nil]at h3
  omega
theorem Rt {v:Sm} (hv:v.nU):v.args.length<1000000000:=by have:=Ar.dS v.args;have:=hv.2.2;omega
theorem Uy {p:Pg} (h:p.iX) (s:St):aF Tryz.prog uU [.agg (cB p)] s (.agg [.int .i64 p.alias.1, .int .i64 p.alias.2]) s:=by
 refine aF.pure ?_ (by simp[D.bJ,D.ok,jq]) rfl s
 obtain⟨sR,sE,sD⟩:=h.procs
 have qv:=fun s=>Lt h s
 have dw:=fun s=>Dp (p:=p) (by omega) s
 have hL:=(lR p).1
 have xO:=p6 p
 generalize hR:p.alias=R
 simp only[Pg.alias]at hR
 unfold S0
 have b0:(p.arity.1 != 0) = !(p.arity.1==0):=rfl
 rcases Bool.eq_false_or_eq_true (p.arity.1==0)with b1|b1
 case inr=>
  rw[b1]at b0
  simp only[b1,Bool.false_eq_true,if_false]at hR
  subst hR
  refine aF.go xB rfl fun B Q hB hQ=>?_
  have⟨hD,hY,hZ,gA⟩:=bN
  repeat' (first
 |simp only[go_sem,hD,hY,hZ,gA,b0,Bool.not_false]
 |(with_reducible refine CU (qv _) ?_)
 |(with_reducible refine aE hQ ?_;exact bo))
 rw[b1]at b0
 obtain⟨kv,jI⟩:=LR b1
 have htw:=(ER kv).2.1
 simp only[b1,if_true, ← hL]at hR
 refine aF.go xB rfl fun B Q hB hQ=>?_
 have⟨hD,hY,hZ,gA⟩:=bN
 repeat' (first
 |simp only[go_sem,hD,hY,hZ,gA,b0,Bool.not_true]
 |(with_reducible refine CU (qv _) ?_)
 |(with_reducible refine aE hQ ?_;exact bo))
 refine fe 3 0 ?_ ?_ (br.ind (ι:=List Pc×Nat×List Pc) (fun i=>p.procs.drop i.2.1=i.1∧p.procs=i.2.2++i.1) (fun i=>i.1.length)
  (fun i=> [(1, .ptr 0 0),(2, .ptr 1 0),(3, .gb 2),(15, .slice .shared 5 (p.procs.map cy)),(16, .int .i64 (p.procs.length:Int)),(17, .int .i64 (i.2.1:Int))]) (fun i=>⟨[cB p,[.int .i64 0, .int .i64 0],nX p i.2.2],[]⟩) ?_ (p.procs,0,[]) ⟨rfl,rfl⟩)
 ·(simp only[go_sem,hD,hY,hZ,gA,nX];try exact cq)
 ·(simp only[go_sem,hD,hY,hZ,gA,nX];try exact cq)
 rintro⟨rest,k,done⟩ ⟨h1,h2⟩ IH
 dsimp only at h1 h2
 cases rest with
 | cons a rest=>
  obtain⟨hY,g2,hD,g4⟩:=drop_cons h1
  have bW:k<4611686018427387904:=by omega
  have yX:=fun s=>Ul h a.name s
  have hnm:a.name∉done.map (·.name):=by
   have:=ab5 _ [] htw (done.map (·.name)) a.name (rest.map (·.name)) (by simp[Pg.pn,h2])
   simpa using this
  have hmp:xZ a.name (.slice .shared 1 ((p.mA a.name).map encStr)) (nX p done)=some (nX p (done++ [a])):=by
   rw[LP hnm,LO];rfl
  repeat' (first
 |simp only[go_sem,hD,hY,hZ,gA,hmp]
 |(with_reducible refine CU (yX _) ?_)
 |(with_reducible refine aE hQ ?_;exact bo))
  refine fe 3 0 ?_ ?_ (IH (rest,k+1,done++ [a]) ⟨g2,by rw[h2];simp⟩ (Nat.lt_succ_self _))
  ·(simp only[go_sem,hD,hY,hZ,gA,aJ bW];try exact cq)
  ·(simp only[go_sem,hD,hY,hZ,gA,aJ bW];try exact cq)
 |nil=>
  have hD:=drop_nil h1
  rw[List.append_nil]at h2
  subst h2
  repeat' (first
 |simp only[go_sem,hD,hY,hZ,gA,oA]
 |(with_reducible refine CU (dw _) ?_)
 | (with_reducible refine aE hQ ?_;exact bo))
  refine fc 3 0 (br.ind (ι:=List Im×Nat) (fun i=>p.bg.L.drop i.2=i.1∧oW 8 (Ei p (i.1.map Im.s))=R) (fun i=>i.1.length)
   (fun i=> [(1, .ptr 0 0),(2, .ptr 1 0),(3, .gb 2),(33, .slice .shared 17 (p.bg.L.map dF)),(34, .int .i64 (p.bg.L.length:Int)),(35, .int .i64 (i.2:Int))]) (fun i=>⟨[cB p,[.int .i64 0, .int .i64 0],nX p p.procs],[]⟩) ?_ (p.bg.L,0) ⟨rfl,hR⟩)
  clear hR
  rintro⟨rest,k⟩ ⟨h1,hR⟩ IH
  dsimp only at h1 hR
  cases rest with
  |nil=>
   have hD:=drop_nil h1
   simp only[List.map_nil,Ei,oW]at hR
   subst hR
   repeat' (first
 |simp only[go_sem,hD,hY,hZ,gA]
 | (with_reducible refine aE hQ ?_;exact bo))
  | cons a rest=>
   obtain⟨hY,g2,hD,g4⟩:=drop_cons h1
   have bW:k<4611686018427387904:=by omega
   have F5:a.s∈p.pre:=by rw[← hL];exact List.mem_map_of_mem (List.mem_of_getElem? hY)
   have wa:=fun s=>XM (Rt (h.pre _ F5)) (LU h a.s.proc) s
   simp only[List.map_cons,Ei,Sm.rK]at hR
   rcases Bool.eq_false_or_eq_true (a.s.kind==4)with c1|c1
   ·obtain⟨f,hf⟩:=IX (jI _ F5 c1)
    have hmg:=fun z=>LQ (p:=p) (z:=z) hf
    rcases Bool.eq_false_or_eq_true (l8 a.s.name (p.mA a.s.proc) [] a.s.args)with c2|c2
    ·simp only [c1,c2,Bool.not_true,Bool.and_false,Bool.false_eq_true,if_false]at hR
     repeat' (first
 |simp only[go_sem,hD,hY,hZ,gA,c1,c2,hmg]
 |(with_reducible refine CU (wa _) ?_)
 | (with_reducible refine aE hQ ?_;exact bo))
     refine fe 3 0 ?_ ?_ (IH (rest,k+1) ⟨g2,hR⟩ (Nat.lt_succ_self _))
     ·(simp only[go_sem,hD,hY,hZ,gA,aJ bW];try exact cq)
     ·(simp only[go_sem,hD,hY,hZ,gA,aJ bW];try exact cq)
    ·simp only [c1,c2,Bool.not_false,Bool.and_true,if_true,oW]at hR
     subst hR
     repeat' (first
 |simp only[go_sem,hD,hY,hZ,gA,c1,c2,hmg]
 |(with_reducible refine CU (wa _) ?_)
 | (with_reducible refine aE hQ ?_;exact bo))
   ·simp only [c1,Bool.false_and,Bool.false_eq_true,if_false]at hR
    repeat' (first
 |simp only[go_sem,hD,hY,hZ,gA,c1]
 |(with_reducible refine CU (wa _) ?_)
 | (with_reducible refine aE hQ ?_;exact bo))
    refine fe 3 0 ?_ ?_ (IH (rest,k+1) ⟨g2,hR⟩ (Nat.lt_succ_self _))
    ·(simp only[go_sem,hD,hY,hZ,gA,aJ bW];try exact cq)
    ·(simp only[go_sem,hD,hY,hZ,gA,aJ bW];try exact cq)
def Sm.afQ (p:Pg) (v:Sm):Bool:=v.oD p && apM (p.mA v.proc) v.aqK v.args
def apF (p:Pg):List Sm→Option Sm
 | []=>none
 |v::l=>if v.kind==4 && !(v.afQ p)then some v else apF p l
def rd0 (l:List qR):Rd:=⟨l,0,0,0,0⟩
def axF (m:Nat) (text:az):Option (Pg×Int×Int):=
 if(zz text).2.1 != 0 then some (Ts,(zz text).2)
 else(Rd.program m (rd0 (zz text).1)).bind fun p=>if p.2.code != 0 then some (Ts,p.2.code,p.2.K1)else(p.1.abx).bind fun q=>some (q,0,0)
def ayD (m:Nat) (text:az):Option (Ex×Int×Int):=
 if(zz text).2.1 != 0 then some (qS,(zz text).2)
 else(Rd.whole m (rd0 (zz text).1)).bind fun x=>x.2.TH.bind fun b=>
  if b then(x.2.bad 3).bind fun r=>if !r.good then some (qS,r.code,r.K1)else some (x.1,0,0)
  else if !x.2.good then some (qS,x.2.code,x.2.K1)else some (x.1,0,0)
def afR (n k:Int):Int:=if Int.tmod n k<0 then Int.tmod n k+k else Int.tmod n k
def ajG (t:az):Nat→az
 | 0=> []
 |n+1=>ajG t n++t
def two (i:Nat):az:= [UInt8.ofNat (48+i / 10),UInt8.ofNat (48+i % 10)]
def afS (ahead:az):Nat→az
 | 0=> []
 |n+1=>(if n=0 then afS ahead n else afS ahead n++ [44])++(ahead++ [97]++two n)
def afT:Nat→az
 | 0=> []
 |n+1=>afT n++([112,114,111,99,32,112]++two n++ [40,41,123,125])
def nY (k:Int):List It→List Int
 | []=> []
 |i::l=>if k==0 ||i.s.kind==k then i.s.id::nY k l else nY k l
theorem EX (k:Int) : ∀ l,(nY k l).length≤l.length
 | []=>Nat.le_refl _
 |i::l=>by
  have:=EX k l
  simp only[nY]
  split<;>simp<;>omega
theorem ajH {p:Pg} (hs:Pc.a7 p.procs<4611686018427387000) (xO:p.all.length≤1000) (kd:Int) (s:St):aF Tryz.prog Ah [.agg (cB p), .int .i64 kd] s (.slice .shared 1 ((nY kd p.all).map cz)) s:=by
 refine aF.pure ?_ (by simp[D.bJ,D.ok,jq]) (by simp only[D.ok,Tag.ok,je];rfl) s
 have vw:=fun s=>ajz hs s
 obtain⟨R,hR⟩ : ∃ R,nY kd p.all=R:=⟨_,rfl⟩
 rw[hR]
 have hRl:R.length≤1000:=by rw[← hR];exact Nat.le_trans (EX kd p.all) xO
 unfold S0
 refine aF.go K4 rfl fun B Q hB hQ=>?_
 have⟨hD,hY,hZ,gA⟩:=bN
 repeat' (first
 |simp only[go_sem,hD,hY,hZ,gA]
 |(with_reducible refine CU (vw _) ?_)
 |(with_reducible refine aE hQ ?_;exact bo))
 refine br.rn 5 1 rfl ?_
 simp only[go_sem,hD,hY,hZ,gA]
 refine fc 1 1 (br.ind (ι:=List It×Nat×List Int×Nat) (fun i=>p.all.drop i.2.1=i.1∧i.2.2.1++nY kd i.1=R∧i.2.2.2=i.2.2.1.length) (fun i=>i.1.length)
  (fun i=> [(1, .int .i64 kd),(2, .ptr 0 0),(5, .slice (.tok 0) 1 (i.2.2.1.map cz)),(9, .slice .shared 16 (p.all.map fW)),(10, .int .i64 (p.all.length:Int)),(11, .int .i64 (i.2.1:Int))]) (fun i=>⟨[cB p],[some i.2.2.2]⟩) ?_ (p.all,0,[],0) ⟨rfl,hR,rfl⟩)
 clear hR
 rintro⟨rest,k,out,n'⟩ ⟨h1,h2,h3⟩ IH
 dsimp only at h1 h2 h3
 subst h3
 have jA:out.length≤1000:=by have:=congrArg List.length h2;rw[List.length_append]at this;omega
 cases rest with
 |nil=>
  have hD:=drop_nil h1
  simp only[nY,List.append_nil]at h2
  subst h2
  repeat' (first
 |simp only[go_sem,hD,hY,hZ,gA]
 |(with_reducible refine aE hQ ?_;exact bo))
 | cons a rest=>
  obtain⟨hY,g2,hD,g4⟩:=drop_cons h1
  have bW:k<4611686018427387904:=by omega
  have hZ:(out.length+1)*9≤bx:=by unfold bx;omega
  simp only[nY]at h2
  rcases Bool.eq_false_or_eq_true (kd==0)with c1|c1
  ·simp only [c1,Bool.true_or,if_true]at h2
   repeat' (first
 |simp only[go_sem,hD,hY,hZ,gA,c1]
 | (with_reducible refine aE hQ ?_;exact bo))
   refine fe 1 1 ?_ ?_ (IH (rest,k+1,out++ [a.s.id],out.length+1) ⟨g2,by rw[← h2];simp,by simp⟩ (Nat.lt_succ_self _))
   ·(simp only[go_sem,hD,hY,hZ,gA,aJ bW,List.map_append,List.map_cons,List.map_nil,cz];try exact cq)
   ·(simp only[go_sem,hD,hY,hZ,gA,aJ bW,List.map_append,List.map_cons,List.map_nil,cz];try exact cq)
  rcases Bool.eq_false_or_eq_true (a.s.kind==kd)with c2|c2
  ·simp only [c1,c2,Bool.or_true,if_true]at h2
   repeat' (first
 |simp only[go_sem,hD,hY,hZ,gA,c1,c2]
 | (with_reducible refine aE hQ ?_;exact bo))
   refine fe 1 1 ?_ ?_ (IH (rest,k+1,out++ [a.s.id],out.length+1) ⟨g2,by rw[← h2];simp,by simp⟩ (Nat.lt_succ_self _))
   ·(simp only[go_sem,hD,hY,hZ,gA,aJ bW,List.map_append,List.map_cons,List.map_nil,cz];try exact cq)
   ·(simp only[go_sem,hD,hY,hZ,gA,aJ bW,List.map_append,List.map_cons,List.map_nil,cz];try exact cq)
  ·simp only [c1,c2,Bool.or_false,Bool.false_eq_true,if_false]at h2
   repeat' (first
 |simp only[go_sem,hD,hY,hZ,gA,c1,c2]
 | (with_reducible refine aE hQ ?_;exact bo))
   refine fe 1 1 ?_ ?_ (IH (rest,k+1,out,_) ⟨g2,h2,rfl⟩ (Nat.lt_succ_self _))
   ·(simp only[go_sem,hD,hY,hZ,gA,aJ bW];try exact cq)
   ·(simp only[go_sem,hD,hY,hZ,gA,aJ bW];try exact cq)
def ayE (l:List Int) (n:Int):Int:=match l[(afR n l.length).toNat]? with|some x=>x|none=>0
def Dx (id:Int):List It→Option It
 | []=>none
 |i::l=>if i.s.id==id then some i else Dx id l
def AS (id:Int):List Pc→Option (It×az)
 | []=>none
 |f::l=>match Dx id f.flat with|some i=>some (i,f.name)|none=>AS id l
def it0:It:=⟨D9,0,0,false⟩
def aqL (r:Option (It×az)):D:=match r with
 |some (i,nm)=> .tuple [.agg (fW i), .str nm, .bool true]
 |none=> .tuple [.agg (fW it0), .str [], .bool false]
def Pg.Dy (p:Pg) (id:Int):Sm:=match AS id p.procs with|some (i,_)=>i.s|none=>D9
def dm (t:az) (n:Int):Int:=if n > 20000 then 20001 else if(t.length:Int)≥20000 - n then 20001 else n+1+t.length
mutual
def fq:Ex→Int→Int
 |⟨_,_,name,kids⟩,n=>nZ kids (dm name n)
def nZ:List Ex→Int→Int
 | [],n=>n
 |x::l,n=>if n≤20000 then nZ l (fq x n)else n
end
theorem mX {t:az} {n:Int} (h0:0≤n):dm t n≤20001∧(n≤20000→n+1≤dm t n)∧0≤dm t n∧(dm t n≤20000→n+1+t.length=dm t n):=by
 unfold dm;split
 ·omega
 ·split<;>omega
theorem wS : ∀ (m:Nat) (x:Ex),x.size≤m→∀ n:Int,0≤n→fq x n≤20001∧(n≤20000→n+1≤fq x n)∧0≤fq x n∧(fq x n≤20000→(x.size:Int)+1≤2*(fq x n - n)∧x.texts):=by
 intro m
 induction m with
 |zero=>rintro⟨op,v,name,kids⟩ h;simp only[Ex.size]at h;omega
 | succ m ih=>
  rintro⟨op,v,name,kids⟩ h n h0
  simp only[Ex.size]at h
  obtain⟨t1,t2,t3,t4⟩:=mX (t:=name) h0
  have go : ∀ (l:List Ex),Ex.a7 l≤m→∀ c:Int,0≤c→c≤20001→nZ l c≤20001∧c≤nZ l c∧(nZ l c≤20000→(Ex.a7 l:Int)≤2*(nZ l c - c)∧Ex.wH l):=by
   intro l
   induction l with
   |nil=>intro _ c h0 h1;simp only[nZ,Ex.a7];exact⟨h1,Int.le_refl _,fun _=>⟨by omega,trivial⟩⟩
   | cons y l LD=>
    intro hs c h0 h1
    simp only[Ex.a7]at hs ⊢
    simp only[nZ]
    split
    ·rename_i hc
     obtain⟨a1,a2,a3,a4⟩:=ih y (by omega) c h0
     obtain⟨b1,b2,b3⟩:=LD (by omega) (fq y c) a3 a1
     have:=a2 hc
     refine⟨b1,by omega,fun hw=>?_⟩
     obtain⟨c1,c2⟩:=b3 hw
     obtain⟨d1,d2⟩:=a4 (by omega)
     exact⟨by omega,d2,c2⟩
    ·exact⟨h1,Int.le_refl _,fun hw=>by omega⟩
  obtain⟨g1,g2,g3⟩:=go kids (by omega) (dm name n) t3 t1
  simp only[fq,Ex.size]
  refine⟨g1,fun hn=>by have:=t2 hn;omega,by omega,fun hw=>?_⟩
  obtain⟨k1,k2⟩:=g3 hw
  have:=t4 (by omega)
  exact⟨by omega,by omega,k2⟩
theorem rA (t:az) {n:Int} (h0:0≤n) (h1:n≤20001) (s:St):aF Tryz.prog gE [.str t, .int .i64 n] s (.int .i64 (dm t n)) s:=by
 refine aF.pure ?_ rfl rfl s
 unfold S0
 have w1:IntKind.wrap .i64 (20000 - n)=20000 - n:=ek (by omega) (by omega)
 have w2:IntKind.wrap .i64 (n+1)=n+1:=ek (by omega) (by omega)
 by_cases c:n > 20000
 ·have c1:decide (n > 20000)=true:=by simp;omega
  have e:dm t n=20001:=by simp[dm,c]
  rw[e]
  refine aF.go pY rfl fun B Q hB hQ=>?_
  have⟨hD,hY,hZ,gA⟩:=bN
  repeat' (first
 |simp only[go_sem,hD,hY,hZ,gA,c1,w1,w2]
 |(with_reducible refine aE hQ ?_;exact bo))
 ·have c1:decide (n > 20000)=false:=by simp;omega
  by_cases d:(t.length:Int)≥20000 - n
  ·have d1:decide ((t.length:Int)≥20000 - n)=true:=by simp;omega
   have e:dm t n=20001:=by unfold dm;rw[if_neg c,if_pos d]
   rw[e]
   refine aF.go pY rfl fun B Q hB hQ=>?_
   have⟨hD,hY,hZ,gA⟩:=bN
   repeat' (first
 |simp only[go_sem,hD,hY,hZ,gA,c1,d1,w1,w2]
 | (with_reducible refine aE hQ ?_;exact bo))
  ·have d1:decide ((t.length:Int)≥20000 - n)=false:=by simp;omega
   have e:dm t n=n+1+t.length:=by unfold dm;rw[if_neg c,if_neg d]
   have w3:IntKind.wrap .i64 (n+1+t.length)=n+1+t.length:=ek (by omega) (by omega)
   rw[e]
   refine aF.go pY rfl fun B Q hB hQ=>?_
   have⟨hD,hY,hZ,gA⟩:=bN
   repeat' (first
 |simp only[go_sem,hD,hY,hZ,gA,c1,d1,w1,w2,w3]
 |(with_reducible refine aE hQ ?_;exact bo))
theorem LV : ∀ (m:Nat) (x:Ex),x.size≤m→∀ {n:Int},0≤n→n≤20000→∀ s:St,aF Tryz.prog kB [.agg (bS x), .int .i64 n] s (.int .i64 (fq x n)) s:=by
 intro m
 induction m with
 |zero=>rintro⟨op,v,name,kids⟩ h;simp only[Ex.size]at h;omega
 |succ m ih=>
  rintro⟨op,v,name,kids⟩ dP n h0 h1 s
  refine aF.pure ?_ (by simp[D.bJ,D.ok,kV]) rfl s
  simp only[Ex.size]at dP
  have hk : ∀ y∈kids,∀ {n:Int},0≤n→n≤20000→∀ s:St,aF Tryz.prog kB [.agg (bS y), .int .i64 n] s (.int .i64 (fq y n)) s:=fun y hy=>ih y (by have:=Ex.df hy;omega)
  have ht:=fun s=>rA name h0 (by omega) s
  obtain⟨t1,t2,t3,t4⟩:=mX (t:=name) h0
  unfold S0
  generalize h:fq ⟨op,v,name,kids⟩ n=p
  simp only[fq]at h
  refine aF.go Cq rfl fun B Q hB hQ=>?_
  have⟨hD,hY,hZ,gA⟩:=bN
  repeat' (first
 |simp only[go_sem,hD,hY,hZ,gA]
 |(with_reducible refine CU (ht _) ?_)
 |(with_reducible first|refine bk fun hc=>?_|refine bl fun hc=>?_|refine bm (fun hc=>?_) fun hc=>?_)<;>(try simp only[hc,bs,↓reduceIte]at h)<;>try simp only[hc]
 | (with_reducible refine aE hQ ?_;exact fD))
  refine fc 1 0 (br.ind (ι:=List Ex×Nat×Int) (fun i=>kids.drop i.2.1=i.1∧nZ i.1 i.2.2=p∧(i.2.1:Int)≤i.2.2∧i.2.2≤20001) (fun i=>i.1.length)
   (fun i=> [(1, .int .i64 i.2.2),(2, .ptr 0 0),(5, .int .i64 (i.2.1:Int))]) (fun i=>⟨[bS ⟨op,v,name,kids⟩],[]⟩) ?_ (kids,0,dm name n) ⟨rfl,h,t3,t1⟩)
  rintro⟨rest,k,c⟩ ⟨g1,h,g3,g4⟩ IH
  dsimp only at g1 h g3 g4
  cases rest with
  |nil=>
   have hD:=drop_nil g1
   simp only[nZ]at h
   repeat' (first
 |simp only[go_sem,hD,hY,hZ,gA]
 |(with_reducible first|refine bk fun hc=>?_|refine bl fun hc=>?_|refine bm (fun hc=>?_) fun hc=>?_)<;>(try simp only[hc,bs,↓reduceIte]at h)<;>try simp only[hc]
 | (with_reducible refine aE hQ ?_;exact fD))
  | cons y rest=>
   obtain⟨hY,g2,hD,g5⟩:=drop_cons g1
   simp only[nZ]at h
   by_cases hc:c≤20000
   ·have c1:decide (c≤20000)=true:=by simp;omega
    have hy:=fun s=>hk y (List.mem_of_getElem? hY) (n:=c) (by omega) hc s
    obtain⟨a1,a2,a3,a4⟩:=wS _ y (Nat.le_refl _) c (by omega)
    have:=a2 hc
    have w3:IntKind.wrap .i64 ((k:Int)+1)=((k+1:Nat):Int):=by rw[ek]<;>omega
    rw[if_pos hc]at h
    repeat' (first
 |simp only[go_sem,hD,hY,hZ,gA,c1,w3]
 |(with_reducible refine CU (hy _) ?_)
 |(with_reducible first|refine bk fun hc=>?_|refine bl fun hc=>?_|refine bm (fun hc=>?_) fun hc=>?_)<;>(try simp only[hc,bs,↓reduceIte]at h)<;>try simp only[hc]
 | (with_reducible refine aE hQ ?_;(try cases h);simp only [aT,aV,bE,bF,go_sem,hD,hY,hZ,gA,c1,w3];try exact cf))
    refine fc 1 0 (IH (rest,k+1,fq y c) ⟨g2,h,by dsimp only;omega,a1⟩ (Nat.lt_succ_self _))
   ·have c1:decide (c≤20000)=false:=by simp;omega
    rw[if_neg hc]at h
    repeat' (first
 |simp only[go_sem,hD,hY,hZ,gA,c1]
 |(with_reducible first|refine bk fun hc=>?_|refine bl fun hc=>?_|refine bm (fun hc=>?_) fun hc=>?_)<;>(try simp only[hc,bs,↓reduceIte]at h)<;>try simp only[hc]
 |(with_reducible refine aE hQ ?_;(try cases h);simp only[aT,aV,bE,bF,go_sem,hD,hY,hZ,gA,c1];try exact cf))
def dW:List az→Int→Int
 | [],n=>n
 |t::l,n=>if n≤20000 then dW l (dm t n)else n
def ja:List Ar→Int→Int
 | [],n=>n
 |a::l,n=>if n≤20000 then ja l (dm a.name (fq a.x n))else n
def lb:List Pm→Int→Int
 | [],n=>n
 |a::l,n=>if n≤20000 then lb l (dm a.name n)else n
mutual
def sK:Sm→Int→Int
 |⟨_,_,labels,name,proc,x,_,args,bb,aP⟩,n=>fN aP (fN bb (ja args (dm proc (dm name (dW labels (fq x n))))))
def fN:List Sm→Int→Int
 | [],n=>n
 |s::l,n=>if n≤20000 then fN l (sK s n)else n
end
theorem UA (s:Sm) (n:Int):sK s n=fN s.aP (fN s.bb (ja s.args (dm s.proc (dm s.name (dW s.labels (fq s.x n)))))):=by cases s;simp only[sK]
def uA (f:Pc) (n:Int):Int:=fN f.body (lb f.params (dW f.fin (dW f.vars (dm f.name n))))
def n6:List Pc→Int→Int
 | [],n=>n
 |f::l,n=>if n≤20000 then n6 l (uA f n)else n
def Pg.Dz (p:Pg):Int:=n6 p.procs (dW p.globals 0)
theorem lM : ∀ (l:List az) {n:Int},0≤n→n≤20001→dW l n≤20001∧n≤dW l n∧(dW l n≤20000→n+l.length≤dW l n∧∀ t∈l,t.length<4611686018427387904)
 | [],n,h0,h1=>by simp only[dW];exact⟨h1,Int.le_refl _,fun _=>⟨by simp,by simp⟩⟩
 | t::l,n,h0,h1=>by
  simp only[dW]
  split
  ·rename_i hc
   obtain⟨a1,a2,a3,a4⟩:=mX (t:=t) h0
   obtain⟨b1,b2,b3⟩:=lM l (n:=dm t n) a3 a1
   have:=a2 hc
   refine⟨b1,by omega,fun hw=>?_⟩
   obtain⟨c1,c2⟩:=b3 hw
   have:=a4 (by omega)
   refine⟨by simp only[List.length_cons];omega,fun s m=>?_⟩
   rcases List.mem_cons.1 m with rfl|m
   ·omega
   ·exact c2 s m
  ·exact⟨h1,Int.le_refl _,fun hw=>by omega⟩
theorem AT : ∀ (l:List Pm) {n:Int},0≤n→n≤20001→lb l n≤20001∧n≤lb l n∧(lb l n≤20000→n+l.length≤lb l n∧∀ t∈l,t.name.length<4611686018427387904)
 | [],n,h0,h1=>by simp only[lb];exact⟨h1,Int.le_refl _,fun _=>⟨by simp,by simp⟩⟩
 | t::l,n,h0,h1=>by
  simp only[lb]
  split
  ·rename_i hc
   obtain⟨a1,a2,a3,a4⟩:=mX (t:=t.name) h0
   obtain⟨b1,b2,b3⟩:=AT l (n:=dm t.name n) a3 a1
   have:=a2 hc
   refine⟨b1,by omega,fun hw=>?_⟩
   obtain⟨c1,c2⟩:=b3 hw
   have:=a4 (by omega)
   refine⟨by simp only[List.length_cons];omega,fun s m=>?_⟩
   rcases List.mem_cons.1 m with rfl|m
   ·omega
   ·exact c2 s m
  ·exact⟨h1,Int.le_refl _,fun hw=>by omega⟩
theorem AU : ∀ (l:List Ar) {n:Int},0≤n→n≤20001→ja l n≤20001∧n≤ja l n∧
 (ja l n≤20000→(Ar.a7 l:Int)≤2*(ja l n - n)∧∀ a∈l,a.x.size<4611686018427387904∧a.x.texts∧a.name.length<4611686018427387904)
 | [],n,h0,h1=>by simp only[ja];exact⟨h1,Int.le_refl _,fun _=>⟨by simp[Ar.a7],by simp⟩⟩
 | a::l,n,h0,h1=>by
  simp only[ja]
  split
  ·rename_i hc
   obtain⟨a1,a2,a3,a4⟩:=wS _ a.x (Nat.le_refl _) n h0
   obtain⟨e1,e2,e3,e4⟩:=mX (t:=a.name) a3
   obtain⟨b1,b2,b3⟩:=AU l (n:=dm a.name (fq a.x n)) e3 e1
   have:=a2 hc
   have:fq a.x n≤dm a.name (fq a.x n):=by
    by_cases h:fq a.x n≤20000
    ·have:=e2 h;omega
    ·have:dm a.name (fq a.x n)=20001:=by unfold dm;rw [if_pos (by omega)]
     omega
   refine⟨b1,by omega,fun hw=>?_⟩
   obtain⟨c1,c2⟩:=b3 hw
   have:=e4 (by omega)
   obtain⟨d1,d2⟩:=a4 (by omega)
   refine⟨by simp only[Ar.a7];omega,fun s m=>?_⟩
   rcases List.mem_cons.1 m with rfl|m
   ·exact⟨by omega,d2,by omega⟩
   ·exact c2 s m
  ·exact⟨h1,Int.le_refl _,fun hw=>by omega⟩
theorem lU {t:az} {n:Int} (h0:0≤n) (h1:n≤20001):n≤dm t n∧dm t n≤20001∧(dm t n≤20000→n+1≤dm t n∧t.length<4611686018427387904):=by
 obtain⟨e1,e2,e3,e4⟩:=mX (t:=t) h0
 by_cases h:n≤20000
 ·have:=e2 h
  exact⟨by omega,e1,fun hw=>⟨by omega,by have:=e4 hw;omega⟩⟩
 ·have:dm t n=20001:=by unfold dm;rw [if_pos (by omega)]
  exact⟨by omega,e1,fun hw=>by omega⟩
mutual
theorem IY : ∀ (s:Sm) {n:Int},0≤n→n≤20000→sK s n≤20001∧n+1≤sK s n∧(sK s n≤20000→(s.size:Int)+1≤2*(sK s n - n)∧s.xE)
 |⟨id,kind,labels,name,proc,x,has,args,bb,aP⟩,n,h0,h1=>by
  obtain⟨a1,a2,a3,a4⟩:=wS _ x (Nat.le_refl _) n h0
  have a2:=a2 h1
  obtain⟨b1,b2,b3⟩:=lM labels a3 a1
  obtain⟨c1,c2,c3⟩:=lU (t:=name) (n:=dW labels (fq x n)) (by omega) b1
  obtain⟨d1,d2,d3⟩:=lU (t:=proc) (n:=dm name (dW labels (fq x n))) (by omega) c2
  obtain⟨e1,e2,e3⟩:=AU args (n:=dm proc (dm name (dW labels (fq x n)))) (by omega) d2
  obtain⟨f1,f2,f3⟩:=sL bb (n:=ja args (dm proc (dm name (dW labels (fq x n))))) (by omega) e1
  obtain⟨g1,g2,g3⟩:=sL aP (n:=fN bb (ja args (dm proc (dm name (dW labels (fq x n)))))) (by omega) f1
  simp only[sK,Sm.size]
  refine⟨g1,by omega,fun hw=>?_⟩
  obtain⟨g4,g5⟩:=g3 hw
  obtain⟨f4,f5⟩:=f3 (by omega)
  obtain⟨e4,e5⟩:=e3 (by omega)
  obtain⟨d4,d5⟩:=d3 (by omega)
  obtain⟨c4,c5⟩:=c3 (by omega)
  obtain⟨b4,b5⟩:=b3 (by omega)
  obtain⟨a5,a6⟩:=a4 (by omega)
  have:=Ar.dS args
  refine⟨by omega, ?_⟩
  rw[EL]
  exact⟨⟨b5,by dsimp only;omega,c5,d5,by dsimp only;omega,a6,by dsimp only;omega,e5⟩,f5,g5⟩
theorem sL : ∀ (l:List Sm) {n:Int},0≤n→n≤20001→fN l n≤20001∧n≤fN l n∧(fN l n≤20000→(Sm.a7 l:Int)≤2*(fN l n - n)∧Sm.kX l)
 | [],n,h0,h1=>by simp only[fN];exact⟨h1,Int.le_refl _,fun _=>⟨by simp[Sm.a7],by simp only[Sm.kX]⟩⟩
 | s::l,n,h0,h1=>by
  simp only[fN]
  split
  ·rename_i hc
   obtain⟨a1,a2,a3⟩:=IY s h0 hc
   obtain⟨b1,b2,b3⟩:=sL l (n:=sK s n) (by omega) a1
   refine⟨b1,by omega,fun hw=>?_⟩
   obtain⟨c1,c2⟩:=b3 hw
   obtain⟨d1,d2⟩:=a3 (by omega)
   exact⟨by simp only[Sm.a7];omega,d2,c2⟩
  ·exact⟨h1,Int.le_refl _,fun hw=>by omega⟩
end
theorem IZ (f:Pc) {n:Int} (h0:0≤n) (h1:n≤20000):uA f n≤20001∧n+1≤uA f n∧(uA f n≤20000→(f.size:Int)+1≤2*(uA f n - n)∧
 (f.name.length<4611686018427387904∧(∀ t∈f.vars,t.length<4611686018427387904)∧(∀ t∈f.fin,t.length<4611686018427387904)∧∀ a∈f.params,a.name.length<4611686018427387904)∧Sm.kX f.body):=by
 obtain⟨c1,c2,c3⟩:=lU (t:=f.name) h0 (by omega:n≤20001)
 have c4:=(mX (t:=f.name) h0).2.1 h1
 obtain⟨d1,d2,d3⟩:=lM f.vars (n:=dm f.name n) (by omega) c2
 obtain⟨e1,e2,e3⟩:=lM f.fin (n:=dW f.vars (dm f.name n)) (by omega) d1
 obtain⟨g1,g2,g3⟩:=AT f.params (n:=dW f.fin (dW f.vars (dm f.name n))) (by omega) e1
 obtain⟨k1,k2,k3⟩:=sL f.body (n:=lb f.params (dW f.fin (dW f.vars (dm f.name n)))) (by omega) g1
 unfold uA Pc.size
 refine⟨k1,by omega,fun hw=>?_⟩
 obtain⟨k4,k5⟩:=k3 hw
 obtain⟨g4,g5⟩:=g3 (by omega)
 obtain⟨e4,e5⟩:=e3 (by omega)
 obtain⟨d4,d5⟩:=d3 (by omega)
 obtain⟨_,c5⟩:=c3 (by omega)
 exact⟨by omega,⟨c5,d5,e5,g5⟩,k5⟩
theorem Gg : ∀ (l:List Pc) {n:Int},0≤n→n≤20001→n6 l n≤20001∧n≤n6 l n∧(n6 l n≤20000→(Pc.a7 l:Int)≤2*(n6 l n - n)∧∀ f∈l,
 (f.name.length<4611686018427387904∧(∀ t∈f.vars,t.length<4611686018427387904)∧(∀ t∈f.fin,t.length<4611686018427387904)∧∀ a∈f.params,a.name.length<4611686018427387904)∧Sm.kX f.body)
 | [],n,h0,h1=>by simp only[n6];exact⟨h1,Int.le_refl _,fun _=>⟨by simp[Pc.a7],by simp⟩⟩
 | f::l,n,h0,h1=>by
  simp only[n6]
  split
  ·rename_i hc
   obtain⟨a1,a2,a3⟩:=IZ f h0 hc
   obtain⟨b1,b2,b3⟩:=Gg l (n:=uA f n) (by omega) a1
   refine⟨b1,by omega,fun hw=>?_⟩
   obtain⟨c1,c2⟩:=b3 hw
   obtain⟨d1,d2⟩:=a3 (by omega)
   refine⟨by simp only[Pc.a7];omega,fun s m=>?_⟩
   rcases List.mem_cons.1 m with rfl|m
   ·exact d2
   ·exact c2 s m
  ·exact⟨h1,Int.le_refl _,fun hw=>by omega⟩
theorem Ru {p:Pg} (h:p.Dz≤20000):p.size≤40001∧p.JQ:=by
 unfold Pg.Dz at h
 obtain⟨a1,a2,a3⟩:=lM p.globals (n:=0) (by omega) (by omega)
 obtain⟨b1,b2,b3⟩:=Gg p.procs (n:=dW p.globals 0) (by omega) a1
 obtain⟨c1,c2⟩:=b3 h
 obtain⟨d1,d2⟩:=a3 (by omega)
 have:p.size≤40001:=by unfold Pg.size;omega
 exact⟨this,by omega,d2,fun f m=>(c2 f m).1,fun f m=>(c2 f m).2⟩
theorem xT {l:List az} {n:Int} (h0:0≤n) (h1:n≤20001) (s:St):aF Tryz.prog kb [.slice .shared 1 (l.map encStr), .int .i64 n] s (.int .i64 (dW l n)) s:=by
 refine aF.pure ?_ (by simp[D.bJ,D.ok,ff,Tag.ok]) rfl s
 unfold S0
 generalize h:dW l n=p
 refine aF.go By rfl fun B Q hB hQ=>?_
 have⟨hD,hY,hZ,gA⟩:=bN
 repeat' (first
 |simp only[go_sem,hD,hY,hZ,gA]
 |(with_reducible refine aE hQ ?_;exact bo))
 refine fc 0 0 (br.ind (ι:=List az×Nat×Int) (fun i=>l.drop i.2.1=i.1∧dW i.1 i.2.2=p∧(i.2.1:Int)≤i.2.2∧i.2.2≤20001) (fun i=>i.1.length)
  (fun i=> [(0, .slice .shared 1 (l.map encStr)),(1, .int .i64 i.2.2),(5, .int .i64 (i.2.1:Int))]) (fun i=>⟨[],[]⟩) ?_ (l,0,n) ⟨rfl,h,h0,h1⟩)
 rintro⟨rest,k,c⟩ ⟨g1,h,g3,g4⟩ IH
 dsimp only at g1 h g3 g4
 cases rest with
 |nil=>
  have hD:=drop_nil g1
  simp only[dW]at h
  subst h
  repeat' (first
 |simp only[go_sem,hD,hY,hZ,gA]
 |(with_reducible refine aE hQ ?_;exact bo))
 | cons y rest=>
  obtain⟨hY,g2,hD,g5⟩:=drop_cons g1
  simp only[dW]at h
  by_cases hc:c≤20000
  ·have c1:decide (c≤20000)=true:=by simp;omega
   have hy:=fun s=>rA y (n:=c) (by omega) g4 s
   obtain⟨a1,a2,a3,a4⟩:=mX (t:=y) (n:=c) (by omega)
   have:=a2 hc
   have w3:IntKind.wrap .i64 ((k:Int)+1)=((k+1:Nat):Int):=by rw[ek]<;>omega
   rw[if_pos hc]at h
   repeat' (first
 |simp only[go_sem,hD,hY,hZ,gA,c1,w3]
 |(with_reducible refine CU (hy _) ?_)
 | (with_reducible refine aE hQ ?_;exact bo))
   refine fc 0 0 (IH (rest,k+1,dm y c) ⟨g2,h,by dsimp only;omega,a1⟩ (Nat.lt_succ_self _))
  ·have c1:decide (c≤20000)=false:=by simp;omega
   rw[if_neg hc]at h
   subst h
   repeat' (first
 |simp only[go_sem,hD,hY,hZ,gA,c1]
 |(with_reducible refine aE hQ ?_;exact bo))
theorem UB : ∀ (m:Nat) (l:List Sm),Sm.a7 l≤m→∀ {n:Int},0≤n→n≤20001→∀ s:St,aF Tryz.prog ly [.slice .shared 13 (l.map bj), .int .i64 n] s (.int .i64 (fN l n)) s:=by
 intro m
 induction m with
 | zero=>
  intro l h n h0 h1 s
  cases l with
  |nil=>
   have z:decide ((0:Int)<0)=false:=rfl
   refine aF.pure ?_ (by simp[D.bJ,D.ok,D.gL,Tag.ok]) rfl s
   unfold S0
   simp only[fN]
   refine aF.go sW rfl fun B Q hB hQ=>?_
   have⟨hD,hY,hZ,gA⟩:=bN
   repeat' (first
 |simp only[go_sem,hD,hY,hZ,gA,z]
 |(with_reducible refine br.lE ?_)
 |(with_reducible refine aE hQ ?_;exact bo))
  |cons s l=>simp only[Sm.a7]at h;omega
 |succ m ih=>
  intro l h n h0 h1 s
  refine aF.pure ?_ (by simp[D.bJ,D.ok,oy,Tag.ok]) rfl s
  unfold S0
  generalize hp:fN l n=p
  refine aF.go sW rfl fun B Q hB hQ=>?_
  have⟨hD,hY,hZ,gA⟩:=bN
  repeat' (first
 |simp only[go_sem,hD,hY,hZ,gA]
 | (with_reducible refine aE hQ ?_;exact bo))
  refine fc 0 0 (br.ind (ι:=List Sm×Nat×Int) (fun i=>l.drop i.2.1=i.1∧fN i.1 i.2.2=p∧(i.2.1:Int)≤i.2.2∧i.2.2≤20001) (fun i=>i.1.length)
   (fun i=> [(0, .slice .shared 13 (l.map bj)),(1, .int .i64 i.2.2),(5, .int .i64 (i.2.1:Int))]) (fun i=>⟨[],[]⟩) ?_ (l,0,n) ⟨rfl,hp,h0,h1⟩)
  rintro⟨rest,k,c⟩ ⟨g1,hp,g3,g4⟩ IH
  dsimp only at g1 hp g3 g4
  cases rest with
  |nil=>
   have hD:=drop_nil g1
   simp only[fN]at hp
   subst hp
   repeat' (first
 |simp only[go_sem,hD,hY,hZ,gA]
 | (with_reducible refine aE hQ ?_;exact bo))
  | cons y rest=>
   obtain⟨hY,g2,hD,g5⟩:=drop_cons g1
   simp only[fN]at hp
   by_cases hc:c≤20000
   ·have c1:decide (c≤20000)=true:=by simp;omega
    have gN:=List.mem_of_getElem? hY
    have dP:=Sm.df gN
    have VC:s.ah.length≤s.ah.length∧Sm.a7 y.bb<y.size∧Sm.a7 y.aP<y.size:=by cases y;simp only[Sm.size];omega
    have w3:IntKind.wrap .i64 ((k:Int)+1)=((k+1:Nat):Int):=by rw[ek]<;>omega
    rw[if_pos hc]at hp
    obtain⟨a1,a2,a3,a4⟩:=wS _ y.x (Nat.le_refl _) c (by omega)
    have a2:=a2 hc
    obtain⟨b1,b2,b3⟩:=lM y.labels a3 a1
    obtain⟨c1',c2,c3⟩:=lU (t:=y.name) (n:=dW y.labels (fq y.x c)) (by omega) b1
    obtain⟨d1,d2,d3⟩:=lU (t:=y.proc) (n:=dm y.name (dW y.labels (fq y.x c))) (by omega) c2
    have eE:=fun s=>LV _ y.x (Nat.le_refl _) (n:=c) (by omega) hc s
    have eL:=fun s=>xT (l:=y.labels) (n:=fq y.x c) (by omega) a1 s
    have eN:=fun s=>rA y.name (n:=dW y.labels (fq y.x c)) (by omega) b1 s
    have eP:=fun s=>rA y.proc (n:=dm y.name (dW y.labels (fq y.x c))) (by omega) c2 s
    obtain⟨r1,r2,r3⟩:=IY y (n:=c) (by omega) hc
    rw[UA]at hp r1 r2
    generalize hC:dm y.proc (dm y.name (dW y.labels (fq y.x c)))=C at *
    obtain⟨s1,s2,s3⟩:=AU y.args (n:=C) (by omega) d2
    obtain⟨t1,t2,t3⟩:=sL y.bb (n:=ja y.args C) (by omega) s1
    have eT:=fun s=>ih y.bb (by omega) (n:=ja y.args C) (by omega) s1 s
    have eS:=fun s=>ih y.aP (by omega) (n:=fN y.bb (ja y.args C)) (by omega) t1 s
    generalize hW:ja y.args C=W at *
    repeat' (first
 |simp only[go_sem,hD,hY,hZ,gA,c1,w3]
 |(with_reducible refine CU (eE _) ?_)
 |(with_reducible refine CU (eL _) ?_)
 |(with_reducible refine CU (eN _) ?_)
 |(with_reducible refine CU (eP _) ?_)
 | (with_reducible refine aE hQ ?_;exact bo))
    refine fc 1 0 (br.ind (ι:=List Ar×Nat×Int) (fun i=>y.args.drop i.2.1=i.1∧ja i.1 i.2.2=W∧(i.2.1:Int)≤i.2.2∧i.2.2≤20001) (fun i=>i.1.length)
     (fun i=> [(0, .slice .shared 13 (l.map bj)),(1, .int .i64 i.2.2),(5, .int .i64 (k:Int)),(6, .ptr 0 0),(7, .int .i64 (i.2.1:Int))]) (fun i=>⟨[bj y],[]⟩) ?_ (y.args,0,C) ⟨rfl,hW,by dsimp only;omega,d2⟩)
    rintro⟨ars,j,e⟩ ⟨k1,hw,k3,k4⟩ FY
    dsimp only at k1 hw k3 k4
    cases ars with
    |nil=>
     have hD:=drop_nil k1
     simp only[ja]at hw
     subst hw
     repeat' (first
 |simp only[go_sem,hD,hY,hZ,gA,w3]
 |(with_reducible refine CU (eT _) ?_)
 |(with_reducible refine CU (eS _) ?_)
 | (with_reducible refine aE hQ ?_;exact bo))
     refine fc 0 0 (IH (rest,k+1,fN y.aP (fN y.bb e)) ⟨g2,hp,by dsimp only;omega,r1⟩ (Nat.lt_succ_self _))
    | cons a ars=>
     obtain⟨hY,k2,hD,k5⟩:=drop_cons k1
     simp only[ja]at hw
     by_cases he:e≤20000
     ·have e1:decide (e≤20000)=true:=by simp;omega
      have w4:IntKind.wrap .i64 ((j:Int)+1)=((j+1:Nat):Int):=by rw[ek]<;>omega
      rw[if_pos he]at hw
      obtain⟨u1,u2,u3,u4⟩:=wS _ a.x (Nat.le_refl _) e (by omega)
      have u2:=u2 he
      obtain⟨v1,v2,v3⟩:=lU (t:=a.name) (n:=fq a.x e) u3 u1
      have eX:=fun s=>LV _ a.x (Nat.le_refl _) (n:=e) (by omega) he s
      have eM:=fun s=>rA a.name (n:=fq a.x e) u3 u1 s
      repeat' (first
 |simp only[go_sem,hD,hY,hZ,gA,e1,w4]
 |(with_reducible refine CU (eX _) ?_)
 |(with_reducible refine CU (eM _) ?_)
 |(with_reducible refine aE hQ ?_;exact bo))
      refine fc 1 0 (FY (ars,j+1,dm a.name (fq a.x e)) ⟨k2,hw,by dsimp only;omega,v2⟩ (Nat.lt_succ_self _))
     ·have e1:decide (e≤20000)=false:=by simp;omega
      rw[if_neg he]at hw
      subst hw
      repeat' (first
 |simp only[go_sem,hD,hY,hZ,gA,e1,w3]
 |(with_reducible refine CU (eT _) ?_)
 |(with_reducible refine CU (eS _) ?_)
 | (with_reducible refine aE hQ ?_;exact bo))
      refine fc 0 0 (IH (rest,k+1,fN y.aP (fN y.bb e)) ⟨g2,hp,by dsimp only;omega,r1⟩ (Nat.lt_succ_self _))
   ·have c1:decide (c≤20000)=false:=by simp;omega
    rw[if_neg hc]at hp
    subst hp
    repeat' (first
 |simp only[go_sem,hD,hY,hZ,gA,c1]
 |(with_reducible refine aE hQ ?_;exact bo))
theorem afW (p:Pg) (s:St):aF Tryz.prog yl [.agg (cB p)] s (.bool (decide (p.Dz≤20000))) s:=by
 refine aF.pure ?_ (by simp only[D.bJ,D.ok,jq];rfl) rfl s
 unfold S0
 generalize hp:p.Dz=W
 unfold Pg.Dz at hp
 obtain⟨a1,a2,a3⟩:=lM p.globals (n:=0) (by omega) (by omega)
 have eG:=fun s=>xT (l:=p.globals) (n:=0) (by omega) (by omega) s
 refine aF.go Jl rfl fun B Q hB hQ=>?_
 have⟨hD,hY,hZ,gA⟩:=bN
 repeat' (first
 |simp only[go_sem,hD,hY,hZ,gA]
 |(with_reducible refine CU (eG _) ?_)
 |(with_reducible refine aE hQ ?_;exact bo))
 refine fc 1 0 (br.ind (ι:=List Pc×Nat×Int) (fun i=>p.procs.drop i.2.1=i.1∧n6 i.1 i.2.2=W∧(i.2.1:Int)≤i.2.2∧i.2.2≤20001) (fun i=>i.1.length)
  (fun i=> [(1, .ptr 0 0),(3, .int .i64 i.2.2),(4, .int .i64 (i.2.1:Int))]) (fun i=>⟨[cB p],[]⟩) ?_ (p.procs,0,dW p.globals 0) ⟨rfl,hp,a2,a1⟩)
 rintro⟨rest,k,c⟩ ⟨g1,hp,g3,g4⟩ IH
 dsimp only at g1 hp g3 g4
 cases rest with
 |nil=>
  have hD:=drop_nil g1
  simp only[n6]at hp
  subst hp
  repeat' (first
 |simp only[go_sem,hD,hY,hZ,gA]
 |(with_reducible refine aE hQ ?_;exact bo))
 | cons f rest=>
  obtain⟨hY,g2,hD,g5⟩:=drop_cons g1
  simp only[n6]at hp
  by_cases hc:c≤20000
  ·have c1:decide (c≤20000)=true:=by simp;omega
   have w3:IntKind.wrap .i64 ((k:Int)+1)=((k+1:Nat):Int):=by rw[ek]<;>omega
   rw[if_pos hc]at hp
   obtain⟨r1,r2,r3⟩:=IZ f (n:=c) (by omega) hc
   unfold uA at hp r1 r2
   obtain⟨c1',c2,c3⟩:=lU (t:=f.name) (n:=c) (by omega) g4
   obtain⟨d1,d2,d3⟩:=lM f.vars (n:=dm f.name c) (by omega) c2
   obtain⟨e1,e2,e3⟩:=lM f.fin (n:=dW f.vars (dm f.name c)) (by omega) d1
   have eN:=fun s=>rA f.name (n:=c) (by omega) g4 s
   have eV:=fun s=>xT (l:=f.vars) (n:=dm f.name c) (by omega) c2 s
   have eF:=fun s=>xT (l:=f.fin) (n:=dW f.vars (dm f.name c)) (by omega) d1 s
   generalize hC:dW f.fin (dW f.vars (dm f.name c))=C at *
   obtain⟨s1,s2,s3⟩:=AT f.params (n:=C) (by omega) e1
   have eT:=fun s=>UB _ f.body (Nat.le_refl _) (n:=lb f.params C) (by omega) s1 s
   generalize hM:lb f.params C=M at *
   repeat' (first
 |simp only[go_sem,hD,hY,hZ,gA,c1,w3]
 |(with_reducible refine CU (eN _) ?_)
 |(with_reducible refine CU (eV _) ?_)
 |(with_reducible refine CU (eF _) ?_)
 | (with_reducible refine aE hQ ?_;exact bo))
   refine fc 2 0 (br.ind (ι:=List Pm×Nat×Int) (fun i=>f.params.drop i.2.1=i.1∧lb i.1 i.2.2=M∧(i.2.1:Int)≤i.2.2∧i.2.2≤20001) (fun i=>i.1.length)
    (fun i=> [(1, .ptr 0 0),(3, .int .i64 i.2.2),(4, .int .i64 (k:Int)),(5, .ptr 1 0),(6, .int .i64 (i.2.1:Int))]) (fun i=>⟨[cB p,cy f],[]⟩) ?_ (f.params,0,C) ⟨rfl,hM,by dsimp only;omega,e1⟩)
   rintro⟨ms,j,e⟩ ⟨k1,hw,k3,k4⟩ FY
   dsimp only at k1 hw k3 k4
   cases ms with
   |nil=>
    have hD:=drop_nil k1
    simp only[lb]at hw
    subst hw
    repeat' (first
 |simp only[go_sem,hD,hY,hZ,gA,w3]
 |(with_reducible refine CU (eT _) ?_)
 | (with_reducible refine aE hQ ?_;exact bo))
    refine fc 1 0 (IH (rest,k+1,fN f.body e) ⟨g2,hp,by dsimp only;omega,r1⟩ (Nat.lt_succ_self _))
   | cons a ms=>
    obtain⟨hY,k2,hD,k5⟩:=drop_cons k1
    simp only[lb]at hw
    by_cases he:e≤20000
    ·have e1:decide (e≤20000)=true:=by simp;omega
     have w4:IntKind.wrap .i64 ((j:Int)+1)=((j+1:Nat):Int):=by rw[ek]<;>omega
     rw[if_pos he]at hw
     obtain⟨v1,v2,v3⟩:=lU (t:=a.name) (n:=e) (by omega) k4
     have v4:=(mX (t:=a.name) (n:=e) (by omega)).2.1 he
     have eM:=fun s=>rA a.name (n:=e) (by omega) k4 s
     repeat' (first
 |simp only[go_sem,hD,hY,hZ,gA,e1,w4]
 |(with_reducible refine CU (eM _) ?_)
 | (with_reducible refine aE hQ ?_;exact bo))
     refine fc 2 0 (FY (ms,j+1,dm a.name e) ⟨k2,hw,by dsimp only;omega,v2⟩ (Nat.lt_succ_self _))
    ·have e1:decide (e≤20000)=false:=by simp;omega
     rw[if_neg he]at hw
     subst hw
     repeat' (first
 |simp only[go_sem,hD,hY,hZ,gA,e1,w3]
 |(with_reducible refine CU (eT _) ?_)
 |(with_reducible first|refine bk fun hc=>?_|refine bl fun hc=>?_|refine bm (fun hc=>?_) fun hc=>?_)<;>(try simp only[hc,bs,↓reduceIte]at h)<;>try simp only[hc]
 | (with_reducible refine aE hQ ?_;simp only [aT,aV,bE,bF,go_sem,hD,hY,hZ,gA,e1,w3];try exact cf))
     refine fc 1 0 (IH (rest,k+1,fN f.body e) ⟨g2,hp,by dsimp only;omega,r1⟩ (Nat.lt_succ_self _))
  ·have c1:decide (c≤20000)=false:=by simp;omega
   rw[if_neg hc]at hp
   subst hp
   repeat' (first
 |simp only[go_sem,hD,hY,hZ,gA,c1]
 |(with_reducible first|refine bk fun hc=>?_|refine bl fun hc=>?_|refine bm (fun hc=>?_) fun hc=>?_)<;>(try simp only[hc,bs,↓reduceIte]at h)<;>try simp only[hc]
 |(with_reducible refine aE hQ ?_;simp only[aT,aV,bE,bF,go_sem,hD,hY,hZ,gA,c1];try exact cf))
def afX:List az→List az→Bool
 | [],_=>true
 |_::_,[]=>true
 |x::l,y::l'=>if !(x==y)then false else afX l l'
def Z9 (l l':List az):Bool:=if(l.length:Int) != (l'.length:Int)then false else afX l l'
def Ar.qF:List Ar→List Ar→Bool
 | [],_=>true
 |_::_,[]=>true
 |a::l,b::l'=>if !(a.ref==b.ref) || !(a.name==b.name) || !(Ex.beq a.x b.x)then false else Ar.qF l l'
mutual
def Sm.beq:Sm→Sm→Bool
 |⟨id,kind,labels,name,proc,x,has,args,bb,aP⟩,⟨id',ajI,DA,QY,vP,x',aqQ,Fv,afY,afZ⟩=>
  if id != id' ||kind != ajI || !(name==QY) || !(proc==vP) || !(has==aqQ) || !(Z9 labels DA) || !(Ex.beq x x') ||(args.length:Int) != (Fv.length:Int)then false
  else if !(Ar.qF args Fv)then false
  else if(if(bb.length:Int) != (afY.length:Int)then false else Sm.qF bb afY)then(if(aP.length:Int) != (afZ.length:Int)then false else Sm.qF aP afZ)else false
def Sm.qF:List Sm→List Sm→Bool
 | [],_=>true
 |_::_,[]=>true
 |s::l,t::l'=>if !(Sm.beq s t)then false else Sm.qF l l'
end
def Sm.aqR (l l':List Sm):Bool:=if(l.length:Int) != (l'.length:Int)then false else Sm.qF l l'
def Pm.qF:List Pm→List Pm→Bool
 | [],_=>true
 |_::_,[]=>true
 |a::l,b::l'=>if !((a.name==b.name) && (a.ref==b.ref))then false else Pm.qF l l'
def Pc.qF:List Pc→List Pc→Bool
 | [],_=>true
 |_::_,[]=>true
 |f::l,g::l'=>
  if !(f.name==g.name) ||(f.params.length:Int) != (g.params.length:Int) || !(Z9 f.vars g.vars) || !(Z9 f.fin g.fin) || !(Sm.aqR f.body g.body)then false
  else if !(Pm.qF f.params g.params)then false else Pc.qF l l'
def Pg.beq (p q:Pg):Bool:=if !(Z9 p.globals q.globals) ||(p.procs.length:Int) != (q.procs.length:Int)then false else Pc.qF p.procs q.procs
def DB (n:Int):Ex:=⟨1,n,[],[]⟩
def sM (s:az):Ex:=⟨2,0,s,[]⟩
def Gh (op:Int) (a b:Ex):Ex:=⟨op,0,[],[a,b]⟩
theorem ajJ (n:Int) (s:St):aF Tryz.prog sk [.int .i64 n] s (.agg (bS (DB n))) s:=by
 refine aF.pure ?_ rfl (by simp[D.ok,kV]) s
 unfold S0
 refine aF.go K8 rfl fun B Q hB hQ=>?_
 have⟨hD,hY,hZ,gA⟩:=bN
 repeat' (first
 |simp only[go_sem,hD,hY,hZ,gA,DB]
 |(with_reducible first|refine bk fun hc=>?_|refine bl fun hc=>?_|refine bm (fun hc=>?_) fun hc=>?_)<;>(try simp only[hc,bs,↓reduceIte]at h)<;>try simp only[hc]
 |(with_reducible refine aE hQ ?_;simp only[aT,aV,bE,bF,go_sem,hD,hY,hZ,gA,DB];try exact cf))
theorem Rv (t:az) (s:St):aF Tryz.prog lP [.str t] s (.agg (bS (sM t))) s:=by
 refine aF.pure ?_ rfl (by simp[D.ok,kV]) s
 unfold S0
 refine aF.go Jq rfl fun B Q hB hQ=>?_
 have⟨hD,hY,hZ,gA⟩:=bN
 repeat' (first
 |simp only[go_sem,hD,hY,hZ,gA,sM]
 |(with_reducible first|refine bk fun hc=>?_|refine bl fun hc=>?_|refine bm (fun hc=>?_) fun hc=>?_)<;>(try simp only[hc,bs,↓reduceIte]at h)<;>try simp only[hc]
 |(with_reducible refine aE hQ ?_;simp only[aT,aV,bE,bF,go_sem,hD,hY,hZ,gA,sM];try exact cf))
theorem UC (op:Int) (a b:Ex) (s:St):aF Tryz.prog vJ [.int .i64 op, .agg (bS a), .agg (bS b)] s (.agg (bS (Gh op a b))) s:=by
 refine aF.pure ?_ (by simp[D.bJ,D.ok,kV]) (by simp[D.ok,kV]) s
 unfold S0
 refine aF.go K9 rfl fun B Q hB hQ=>?_
 have⟨hD,hY,hZ,gA⟩:=bN
 repeat' (first
 |simp only[go_sem,hD,hY,hZ,gA,Gh]
 |(with_reducible first|refine bk fun hc=>?_|refine bl fun hc=>?_|refine bm (fun hc=>?_) fun hc=>?_)<;>(try simp only[hc,bs,↓reduceIte]at h)<;>try simp only[hc]
 |(with_reducible refine aE hQ ?_;simp only[aT,aV,bE,bF,go_sem,hD,hY,hZ,gA,Gh];try exact cf))
def source:az:= [103,108,111,98,97,108,32,103,59,10,112,114,111,99,32,109,97,105,110,40,41,32,123,10,32,118,97,114,32,118,59,10,32,118,32,61,32,50,59,10,32,103,32,61,32,112,40,51,44,32,114,101,102,32,118,41,59,10,32,112,114,105,110,116,32,118,59,10,32,112,114,105,110,116,32,103,59,10,125,10,112,114,111,99,32,112,40,120,44,32,114,101,102,32,121,41,32,123,10,32,121,32,61,32,121,32,43,32,120,59,10,32,105,102,32,40,121,32,62,32,57,41,32,123,10,32,32,103,111,116,111,32,101,59,10,32,125,10,32,114,101,116,117,114,110,32,121,59,10,101,58,32,125,10]
def sN:Pg:=⟨[[103]],[
 ⟨[109,97,105,110],[],[[118]],[
  ⟨1,1,[],[118],[],DB 2,false,[],[],[]⟩,
  ⟨2,4,[],[103],[112],qS,false,[⟨false,[],DB 3⟩,⟨true,[118],qS⟩],[],[]⟩,
  ⟨3,3,[],[],[],sM [118],false,[],[],[]⟩,
  ⟨4,3,[],[],[],sM [103],false,[],[],[]⟩],[]⟩,
 ⟨[112],[⟨[120],false⟩,⟨[121],true⟩],[],[
  ⟨5,1,[],[121],[],Gh 8 (sM [121]) (sM [120]),false,[],[],[]⟩,
  ⟨6,5,[],[],[],Gh 12 (sM [121]) (DB 9),false,[],[⟨7,10,[],[101],[],qS,false,[],[],[]⟩],[]⟩,
  ⟨8,9,[],[],[],sM [121],true,[],[],[]⟩],[[101]]⟩]⟩
theorem af0 (s:St):aF Tryz.prog yo [] s (.agg (cB sN)) s:=by
 refine aF.pure ?_ rfl (by simp[D.ok,jq]) s
 unfold S0
 refine aF.go Jp rfl fun B Q hB hQ=>?_
 have⟨hD,hY,hZ,gA⟩:=bN
 repeat' (first
 |simp only[go_sem,hD,hY,hZ,gA,sN]
 |(with_reducible refine CU (ajJ _ _) ?_)
 |(with_reducible refine CU (Rv _ _) ?_)
 |(with_reducible refine CU (UC _ _ _ _) ?_)
 |(with_reducible refine aE hQ ?_;simp only[aT,aV,bE,bF,go_sem,hD,hY,hZ,gA];repeat' (first|exact Ok.out|with_reducible refine jn ?_ ?_|(simp;done))))
 repeat' (first|exact Ok.out|with_reducible refine Wk.agg ?_|with_reducible refine Wk.rows ?_|with_reducible refine Wk.slice ?_|with_reducible refine gM.cons ?_ ?_|with_reducible refine jK.cons ?_ ?_)
def Pg.axM (p:Pg) (n:Int):az:=match p.procs[(afR n p.procs.length).toNat]? with|some f=>f.name|none=> []
theorem Gi {id:Int} : ∀ {l:List It},Dx id l=none→∀ i∈l,i.s.id≠id
 | a::l,h,i,m=>by
  simp only[Dx]at h
  split at h
  ·cases h
  ·rename_i c
   rcases List.mem_cons.1 m with rfl|m
   ·simpa using c
   ·exact Gi h i m
theorem Gj {id:Int} {i:It} : ∀ {l:List It},Dx id l=some i→i∈l∧i.s.id=id
 | a::l,h=>by
  simp only[Dx]at h
  split at h
  ·rename_i c
   cases h
   exact⟨List.mem_cons_self ..,eq_of_beq c⟩
  ·obtain⟨h1,h2⟩:=Gj h
   exact⟨List.mem_cons_of_mem _ h1,h2⟩
theorem Gk {id:Int} {r:It×az} : ∀ {l:List Pc},AS id l=some r→∃ f∈l,r.1∈f.flat∧r.1.s.id=id∧r.2=f.name
 | f::l,h=>by
  simp only[AS]at h
  split at h
  ·rename_i i e
   cases h
   obtain⟨h1,h2⟩:=Gj e
   exact⟨f,List.mem_cons_self ..,h1,h2,rfl⟩
  ·obtain⟨g,h1,h2⟩:=Gk h
   exact⟨g,List.mem_cons_of_mem _ h1,h2⟩
theorem Gl {id:Int} : ∀ {l:List Pc},AS id l=none→∀ f∈l,∀ i∈f.flat,i.s.id≠id
 | f::l,h,g,m,i,hi=>by
  simp only[AS]at h
  split at h
  ·cases h
  ·rename_i e
   rcases List.mem_cons.1 m with rfl|m
   ·exact Gi e i hi
   ·exact Gl h g m i hi
theorem XN {p:Pg} (hb:p.may=true) {id:Int} (h : ∃ v∈p.pre,v.id=id):p.Dy id∈p.pre∧(p.Dy id).id=id:=by
 obtain⟨v,hv,hid⟩:=h
 have iJ:=(AA hb).1
 unfold Pg.Dy
 cases e:AS id p.procs with
 |some r=>
  obtain⟨f,h1,h2,h3,_⟩:=Gk e
  refine⟨?_,h3⟩
  simp only[Pg.pre,List.mem_flatten,List.mem_map]
  exact⟨_,⟨f,h1,rfl⟩,by rw[← iJ f h1];exact List.mem_map_of_mem h2⟩
 |none=>
  simp only[Pg.pre,List.mem_flatten,List.mem_map]at hv
  obtain⟨l,⟨f,hf,rfl⟩,m⟩:=hv
  rw[← iJ f hf,List.mem_map]at m
  obtain⟨i,hi,rfl⟩:=m
  exact absurd hid (Gl e f hf i hi)
theorem XO {p:Pg} (h:(p.arity.1==0)=true) (h2:(p.alias.1==0)=true) : ∀ v∈p.pre,(v.kind==4)=true→v.rK p=true:=by
 unfold Pg.alias at h2
 rw[if_pos h]at h2
 intro v hv hk
 have : ∀ l:List Sm,((oW 8 (Ei p l)).1==0)=true→∀ v∈l,(v.kind==4)=true→v.rK p=true:=by
  intro l
  induction l with
  |nil=>intro _ v m;cases m
  | cons a l ih=>
   intro h v m hk
   simp only[Ei]at h
   split at h
   ·cases h
   ·rename_i c
    rcases List.mem_cons.1 m with rfl|m
    ·simpa[hk]using c
    ·exact ih h v m hk
 exact this _ h2 v hv hk
section
variable {a b:az}
theorem zL {x y:az} : (cj a b x==cj a b y)=(x==y):=by
 rw[Bool.eq_iff_iff,beq_iff_eq,beq_iff_eq]
 exact⟨fun h=>by rw[← jG a b x,h,jG],fun h=>by rw[h]⟩
theorem zM {x:az} {l:List az} : cj a b x∈l.map (cj a b)↔x∈l:=by
 rw[List.mem_map]
 exact⟨fun⟨y,hy,e⟩=>by rw[← jG a b x, ← e,jG];exact hy,fun h=>⟨x,h,rfl⟩⟩
theorem oJ (l:List az) (x:az):e9 (l.map (cj a b)) (cj a b x)=e9 l x:=by
 rw[Bool.eq_iff_iff,fP,fP,zM]
theorem Oh : ∀ (l pre:List az),pG (pre.map (cj a b)) (l.map (cj a b))=pG pre l
 | [],_=>rfl
 |x::l,pre=>by
  have:=Oh l (pre++ [x])
  simp only[List.map_append,List.map_cons,List.map_nil]at this
  simp only[List.map_cons,pG,oJ,this]
theorem CW (l:List az):fJ (l.map (cj a b))=fJ l:=Oh l []
mutual
theorem LW : ∀ (x:Ex) (out:List az),Ex.lK (out.map (cj a b)) (x.swap a b)=(x.lK out).map (cj a b)
 |⟨op,n,name,kids⟩,out=>by
  simp only[Ex.swap,Ex.lK,oJ]
  rw[← I0 kids]
  split<;>simp
theorem I0 : ∀ (l:List Ex) (out:List az),Ex.kQ (out.map (cj a b)) (Ex.dn a b l)=(Ex.kQ out l).map (cj a b)
 | [],out=>rfl
 |x::l,out=>by simp only[Ex.dn,Ex.kQ,LW x out,I0 l]
end
theorem XP (proc up next loop:Int) : ∀ s:Sm,(s.swap a b).qB proc up next loop=(s.qB proc up next loop).map fun m=> {m with s:=m.s.swap a b}
 | s=>by
  have key : ∀ n:Nat,(∀ (s:Sm) (proc up next loop:Int),s.pre.length≤n→(s.swap a b).qB proc up next loop=(s.qB proc up next loop).map fun m=> {m with s:=m.s.swap a b})∧
   (∀ (l:List Sm) (proc up next loop:Int),(Sm.cL l).length≤n→Sm.iG proc up next loop (Sm.dn a b l)=(Sm.iG proc up next loop l).map fun m=> {m with s:=m.s.swap a b}):=by
   intro n
   induction n with
   | zero=>
    refine⟨fun s _ _ _ _ h=>?_,fun l _ _ _ _ h=>?_⟩
    ·rw[Sm.nS]at h;simp at h
    ·cases l with
     |nil=>rfl
     |cons s l=>simp only[Sm.cL]at h;rw[Sm.nS]at h;simp at h
   | succ n ih=>
    have h1 : ∀ (s:Sm) (proc up next loop:Int),s.pre.length≤n+1→(s.swap a b).qB proc up next loop=(s.qB proc up next loop).map fun m=> {m with s:=m.s.swap a b}:=by
     rintro⟨id,kind,labels,name,pc,x,has,args,bb,aP⟩ proc up next loop h
     rw[Sm.nS]at h
     simp only[List.length_cons,List.length_append]at h
     have e1:=ih.2 bb proc id (if kind==6 then id else next) (if kind==6 then id else loop) (by omega)
     have e2:=ih.2 aP proc id (if kind==6 then id else next) (if kind==6 then id else loop) (by omega)
     simp only[Sm.swap,Sm.qB,e1,e2,List.map_cons,List.map_append]
    refine⟨h1,fun l=>?_⟩
    induction l with
    |nil=>intro _ _ _ _ _;rfl
    | cons s l LD=>
     intro proc up next loop h
     simp only[Sm.cL,List.length_append]at h
     have e:fp (Sm.dn a b l) next=fp l next:=by
      cases l with
      |nil=>rfl
      |cons t l=>obtain⟨_,_,_,_,_,_,_,_,_,_⟩:=t;rfl
     simp only[Sm.dn,Sm.iG,e,h1 s proc up (fp l next) loop (by omega),LD proc up next loop (by omega),List.map_append]
  exact(key s.pre.length).1 s proc up next loop (Nat.le_refl _)
mutual
theorem XQ : ∀ s:Sm,(s.swap a b).pre=s.pre.map (Sm.swap a b)
 |⟨id,kind,labels,name,proc,x,has,args,bb,aP⟩=>by
  simp only[Sm.swap,Sm.pre,List.map_cons,List.map_append,lV bb,lV aP]
theorem lV : ∀ l:List Sm,Sm.cL (Sm.dn a b l)=(Sm.cL l).map (Sm.swap a b)
 | []=>rfl
 |s::l=>by simp only[Sm.dn,Sm.cL,List.map_append,XQ s,lV l]
end
theorem CX (proc up next loop:Int) : ∀ l:List Sm,Sm.iG proc up next loop (Sm.dn a b l)=(Sm.iG proc up next loop l).map fun m=> {m with s:=m.s.swap a b}
 | []=>rfl
 | s::l=>by
  have e:fp (Sm.dn a b l) next=fp l next:=by
   cases l with
   |nil=>rfl
   |cons t l=>obtain⟨_,_,_,_,_,_,_,_,_,_⟩:=t;rfl
  simp only[Sm.dn,Sm.iG,e,XP,CX proc up next loop l,List.map_append]
theorem Rw (f:Pc):(f.swap a b).qs=f.qs.map fun q=>(q.1.swap a b,q.2):=by
 unfold Pc.qs
 show(Sm.iG 0 0 (-1) 0 (Sm.dn a b f.body)).map Im.pair=_
 rw[CX,List.map_map,List.map_map]
 rfl
theorem qu (s:Sm):(s.swap a b).id=s.id:=by cases s;rfl
theorem mY (s:Sm):(s.swap a b).kind=s.kind:=by cases s;rfl
theorem uB (s:Sm):(s.swap a b).name=cj a b s.name:=by cases s;rfl
theorem uC (s:Sm):(s.swap a b).proc=cj a b s.proc:=by cases s;rfl
theorem xU (s:Sm):(s.swap a b).args=s.args.map (Ar.swap a b):=by cases s;rfl
theorem yH (s:Sm):(s.swap a b).labels=s.labels.map (cj a b):=by cases s;rfl
theorem LX (s:Sm):(s.swap a b).x=s.x.swap a b:=by cases s;rfl
theorem CY : ∀ (l seen:List az),ib (seen.map (cj a b)) (l.map (cj a b))=((ib seen l).1.map (cj a b),(ib seen l).2)
 | [],seen=>rfl
 |n::l,seen=>by
  have:=CY l (seen++ [n])
  simp only[List.map_append,List.map_cons,List.map_nil]at this
  simp only[List.map_cons,ib,oJ,this]
  split<;>rfl
theorem UD (qN:List az) (v:Sm) (lp:Int):oG (qN.map (cj a b)) (v.swap a b) lp=oG qN v lp:=by
 unfold oG
 rw[mY,uB,oJ]
theorem I1 (qN fin:List az) : ∀ (l:List (Sm×Int)) (seen:List az),oH (qN.map (cj a b)) (fin.map (cj a b)) (seen.map (cj a b)) (l.map fun q=>(q.1.swap a b,q.2))=oH qN fin seen l
 | [],seen=>by simp only[List.map_nil,oH,CY]
 |(v,lp)::l,seen=>by
  simp only[List.map_cons,oH,yH,CY,UD,qu,I1 qN fin l]
theorem CZ : ∀ l:List Sm,gu (l.map (Sm.swap a b))=(gu l).map (cj a b)
 | []=>rfl
 |v::l=>by simp only[List.map_cons,gu,yH,CZ l,List.map_append]
theorem LY (f:Pc):(f.swap a b).labels=f.labels.map (cj a b):=by
 unfold Pc.labels
 show gu (Sm.cL (Sm.dn a b f.body))++f.fin.map (cj a b)=_
 rw[lV,CZ,List.map_append]
theorem Gm : ∀ l:List Pc,pI (l.map (Pc.swap a b))=pI l
 | []=>rfl
 |f::l=>by
  have:=I1 (a:=a) (b:=b) f.labels f.fin f.qs []
  simp only[List.map_nil]at this
  simp only[List.map_cons,pI,LY,Rw,Gm l]
  show(match oH (f.labels.map (cj a b)) (f.fin.map (cj a b)) [] (f.qs.map fun q=>(q.1.swap a b,q.2))with|some id=>some id|none=>pI l)=_
  rw[this]<;>rfl
theorem I2 (n:az) : ∀ l:List Pc,iw (cj a b n) (l.map (Pc.swap a b))=(iw n l).map (Pc.swap a b)
 | []=>rfl
 |f::l=>by
  simp only[List.map_cons,iw,I2 n l]
  show(if cj a b f.name==cj a b n then _ else _)=_
  rw[zL]
  split<;>rfl
theorem rB (p:Pg) (n:az):(p.swap a b).find (cj a b n)=(p.find n).map (Pc.swap a b):=I2 n p.procs
theorem af1 (p:Pg):(p.swap a b).pn=p.pn.map (cj a b):=by
 simp only[Pg.pn,Pg.swap,List.map_map];rfl
theorem Oi (f:Pc):(f.swap a b).own=f.own.map (cj a b):=by
 simp only[Pc.own,Pc.sG,Pc.swap,List.map_append,List.map_map];rfl
theorem I3 (vars globals:List az) (n:az) : ∀ l:List Pm,q8 (vars.map (cj a b)) (globals.map (cj a b)) (cj a b n) (l.map (Pm.swap a b))=q8 vars globals n l
 | []=>by simp only[List.map_nil,q8,oJ]
 |m::l=>by
  simp only[List.map_cons,q8,I3 vars globals n l]
  simp only[Pm.swap,zL]<;>rfl
theorem Rx (p:Pg) (f:Pc) (n:az):(f.swap a b).kp (p.swap a b) (cj a b n)=f.kp p n:=I3 _ _ _ _
theorem I4 : ∀ (l:List Pm) (m:List Ar),xM (l.map (Pm.swap a b)) (m.map (Ar.swap a b))=xM l m
 | [],_=>rfl
 |x::l,[]=>rfl
 |x::l,y::m=>by simp only[List.map_cons,xM,I4 l m];rfl
theorem XR (p:Pg) (v:Sm):(v.swap a b).oD (p.swap a b)=v.oD p:=by
 unfold Sm.oD
 rw[mY,uC,rB,xU]
 cases p.find v.proc with
 |none=>rfl
 |some q=>
  show(v.kind==4 && xN (q.params.map (Pm.swap a b)) (v.args.map (Ar.swap a b)))=_
  unfold xN
  rw[List.length_map,List.length_map,I4]
theorem I5 (p:Pg):(p.swap a b).pre=p.pre.map (Sm.swap a b):=by
 simp only[Pg.pre,Pg.swap,List.map_map,List.map_flatten]
 congr 1
 apply List.map_congr_left
 intro f _
 show Sm.cL (Sm.dn a b f.body)=_
 rw[lV];rfl
theorem Oj (p:Pg) : ∀ l:List Sm,Ef (p.swap a b) (l.map (Sm.swap a b))=(Ef p l).map (Sm.swap a b)
 | []=>rfl
 |v::l=>by
  simp only[List.map_cons,Ef,mY,XR,Oj p l]
  split<;>rfl
theorem Gn (c:Int) (r:Option Sm):oW c (r.map (Sm.swap a b))=oW c r:=by
 cases r with
 |none=>rfl
 |some v=>show(c,(v.swap a b).id)=_;rw[qu];rfl
theorem AV {T T':List az} (hT : ∀ x,e9 T' (cj a b x)=e9 T x) (nm:az) : ∀ (l:List Ar) (seen:List az),l8 (cj a b nm) T' (seen.map (cj a b)) (l.map (Ar.swap a b))=l8 nm T seen l
 | [],_=>rfl
 |r::l,seen=>by
  have:=AV hT nm l (seen++ [r.name])
  simp only[List.map_append,List.map_cons,List.map_nil]at this
  simp only[List.map_cons,l8,AV hT nm l seen]
  show(if r.ref then(if e9 (seen.map (cj a b)) (cj a b r.name) ||(cj a b r.name==cj a b nm ||e9 T' (cj a b r.name))then false else l8 (cj a b nm) T' (seen.map (cj a b)++ [cj a b r.name]) (l.map (Ar.swap a b)))else _)=_
  rw[oJ,zL,hT,this]
end
section
variable {a b:az} (ha:isName a=true) (hb:isName b=true)
include ha hb
theorem I6 (x:Ex):(x.swap a b).names=x.names.map (cj a b):=by
 unfold Ex.names
 rw[Gc ha hb]
 split
 ·exact LW x []
 ·rfl
theorem AW : ∀ (l:List Ar) (out:List az),Ar.said (out.map (cj a b)) (l.map (Ar.swap a b))=(Ar.said out l).map (cj a b)
 | [],_=>rfl
 |r::l,out=>by
  have h1:=AW l (out++ [r.name]++r.x.names)
  have h2:=AW l (out++r.x.names)
  simp only[List.map_append,List.map_cons,List.map_nil]at h1 h2
  simp only[List.map_cons,Ar.said,Ar.swap,I6 ha hb]
  split
  ·exact h1
  ·exact h2
theorem LZ (v:Sm):(v.swap a b).said=v.said.map (cj a b):=by
 unfold Sm.said
 rw[xU, ← AW ha hb,LX,I6 ha hb,List.map_append]
 congr 2
 unfold Sm.sF
 rw[mY,uB]
 have:(cj a b v.name != [])=(v.name != []):=by simp only[bne,tv ha hb]
 rw[this]
 split<;>rfl
theorem UE (h1:a≠dG) (h2:b≠dG) (p:Pg) (f:Pc) (procs:List az) (v:Sm):(v.swap a b).known (p.swap a b) (f.swap a b) (procs.map (cj a b))=v.known p f procs:=by
 have hm:cj a b dG=dG:=by simp only[cj,beq_iff_eq];rw[if_neg (Ne.symm h1),if_neg (Ne.symm h2)]
 unfold Sm.known
 rw[LZ ha hb,mY,uC,oJ,List.any_map]
 have e1:(cj a b v.proc != dG)=(v.proc != dG):=by
  simp only[bne]
  rw[show(cj a b v.proc==dG)=(v.proc==dG)from by rw[← hm,zL,hm]]
 rw[e1]
 congr 2
 apply congrArg
 funext n
 show(((f.swap a b).kp (p.swap a b) (cj a b n))==0)=_
 rw[Rx]
theorem uD (h1:a≠dG) (h2:b≠dG) (p:Pg):(p.swap a b).scope=p.scope:=by
 have hm:cj a b dG=dG:=by simp only[cj,beq_iff_eq];rw[if_neg (Ne.symm h1),if_neg (Ne.symm h2)]
 have EZ : ∀ (f:Pc) (l:List Sm),vf (p.swap a b) (f.swap a b) (p.pn.map (cj a b)) (l.map (Sm.swap a b))=(vf p f p.pn l).map (Sm.swap a b):=by
  intro f l
  induction l with
  |nil=>rfl
  |cons v l ih=>
   simp only[List.map_cons,vf,UE ha hb h1 h2,ih]
   split<;>rfl
 have hG : ∀ l:List Pc,qV (p.swap a b) (p.pn.map (cj a b)) (l.map (Pc.swap a b))=qV p p.pn l:=by
  intro l
  induction l with
  |nil=>rfl
  | cons f l ih=>
   simp only[List.map_cons,qV,Oi,ih]
   rw[show(p.swap a b).globals=p.globals.map (cj a b)from rfl, ← List.map_append,CW,
    show Sm.cL (f.swap a b).body=(Sm.cL f.body).map (Sm.swap a b)from lV f.body,EZ]
   cases vf p f p.pn (Sm.cL f.body)with
   |none=>rfl
   |some v=>simp only[Option.map_some,qu]
 unfold Pg.scope
 rw[EW ha hb,af1,CW,show(p.swap a b).globals=p.globals.map (cj a b)from rfl,CW,
  show(p.swap a b).procs=p.procs.map (Pc.swap a b)from rfl,hG]
 have hn:(p.swap a b).p8=p.p8:=by
  unfold Pg.p8
  have:=rB (a:=a) (b:=b) p dG
  rw[hm]at this
  rw[this]
  cases p.find dG with
  |none=>rfl
  |some m=>
   show decide (((m.params.map (Pm.swap a b)).length:Int) > 0)=_
   rw[List.length_map]
 rw[hn]
theorem I7 (h1:a≠dG) (h2:b≠dG) (p:Pg):(p.swap a b).arity=p.arity:=by
 unfold Pg.arity
 rw[uD ha hb h1 h2,I5,Oj,Gn]
theorem XS (h1:a≠dG) (h2:b≠dG) (p:Pg):(p.swap a b).jump=p.jump:=by
 unfold Pg.jump
 rw[uD ha hb h1 h2,show(p.swap a b).procs=p.procs.map (Pc.swap a b)from rfl,Gm]
theorem C0 : ∀ l:List Sm,tT (l.map (Sm.swap a b))=(tT l).map (cj a b)
 | []=>rfl
 |v::l=>by simp only[List.map_cons,tT,LZ ha hb,C0 l,List.map_append]
omit ha hb in
theorem Ej : ∀ l:List Sm,jF (l.map (Sm.swap a b))=(jF l).map (cj a b)
 | []=>rfl
 |v::l=>by
  simp only[List.map_cons,jF,mY,uC,Ej l]
  split<;>rfl
omit ha hb in
theorem Ry (p:Pg) (x y:az):cj a b y∈oX (p.swap a b) (cj a b x)↔y∈oX p x:=by
 unfold oX
 rw[rB]
 cases p.find x with
 |none=>simp
 |some f=>
  show cj a b y∈jY (jF (Sm.cL (Sm.dn a b f.body)))↔y∈jY (jF (Sm.cL f.body))
  rw[(jE _).2,(jE _).2,lV,Ej,zM]
omit ha hb in
theorem C1 (h1:a≠dG) (h2:b≠dG) {p:Pg} (kv:(p.scope.1==0)=true) {nm:az} {f:Pc} (hf:p.find nm=some f) : ∀ x∈(p.swap a b).work (cj a b nm),cj a b x∈p.work nm:=by
 refine Gf (S:=fun x=>cj a b x∈p.work nm) (fun x hx y hy=>?_) _ _ _ fun x hx=>?_
 ·have e1:y=cj a b (cj a b y):=(jG a b y).symm
  have e2:x=cj a b (cj a b x):=(jG a b x).symm
  rw[e1,e2,Ry]at hy
  exact Eh kv _ _ _ (AE hf) (by omega) (fun j x hj=>absurd hj (Nat.not_lt_zero _)) _ hx _ hy
 ·have:x=cj a b nm:=by simpa using hx
  rw[this,jG]
  exact LM p _ _ _ (by simp)
theorem L0 (h1:a≠dG) (h2:b≠dG) {p:Pg} (kv:(p.scope.1==0)=true) {nm:az} {f:Pc} (hf:p.find nm=some f) (x:az):cj a b x∈(p.swap a b).work (cj a b nm)↔x∈p.work nm:=by
 constructor
 ·intro h
  have:=C1 h1 h2 kv hf _ h
  rwa [jG]at this
 ·intro h
  have aqS:((p.swap a b).scope.1==0)=true:=by rw[uD ha hb h1 h2];exact kv
  have:=C1 h1 h2 (p:=p.swap a b) aqS (nm:=cj a b nm) (f:=f.swap a b) (by rw[rB,hf];rfl) x (by
   rw[(Ge a b p).2,jG];exact h)
  exact this
theorem UF (h1:a≠dG) (h2:b≠dG) {p:Pg} (nm x:az):e9 ((p.swap a b).mA (cj a b nm)) (cj a b x)=e9 (p.mA nm) x:=by
 have JS:(p.swap a b).sH (cj a b nm)=(p.sH nm).map (Pc.swap a b):=by
  unfold Pg.sH
  rw[uD ha hb h1 h2,rB]
  split<;>rfl
 cases hs:p.sH nm with
 |none=>
  rw[hs]at JS
  unfold Pg.mA
  rw[hs,JS]
  rfl
 | some f=>
  rw[hs]at JS
  obtain⟨kv,hf⟩:=CJ hs
  rw[Bool.eq_iff_iff,fP,fP,IW JS,IW hs]
  refine and_congr ⟨fun⟨n,hn,hx⟩=>⟨cj a b n, ?_, ?_⟩,fun⟨n,hn,hx⟩=>⟨cj a b n,(L0 ha hb h1 h2 kv hf n).2 hn, ?_⟩⟩ zM
  ·rw[← L0 ha hb h1 h2 kv hf,jG];exact hn
  ·have Sw:lA (p.swap a b) n=(lA p (cj a b n)).map (Sm.swap a b):=by
    unfold lA
    have:=rB (a:=a) (b:=b) p (cj a b n)
    rw[jG]at this
    rw[this]
    cases p.find (cj a b n)with
    |none=>rfl
    |some q=>exact lV q.body
   rw[Sw,C0 ha hb,zM]at hx
   exact hx
  ·have Sw:lA (p.swap a b) (cj a b n)=(lA p n).map (Sm.swap a b):=by
    unfold lA
    rw[rB]
    cases p.find n with
    |none=>rfl
    |some q=>exact lV q.body
   rw[Sw,C0 ha hb,zM]
   exact hx
theorem UG (h1:a≠dG) (h2:b≠dG) (p:Pg):(p.swap a b).alias=p.alias:=by
 have vw : ∀ l:List Sm,Ei (p.swap a b) (l.map (Sm.swap a b))=(Ei p l).map (Sm.swap a b):=by
  intro l
  induction l with
  |nil=>rfl
  | cons v l ih=>
   have e:(v.swap a b).rK (p.swap a b)=v.rK p:=by
    unfold Sm.rK
    rw[uB,uC,xU]
    exact AV (UF ha hb h1 h2 v.proc) v.name v.args []
   simp only[List.map_cons,Ei,mY,e,ih]
   split<;>rfl
 unfold Pg.alias
 rw[I7 ha hb h1 h2,I5,vw,Gn]
end
def Pg.check (p:Pg):Int×Int:=if p.scope.1==0 then(if p.arity.1==0 then(if p.jump.1==0 then p.alias else p.jump)else p.arity)else p.scope
theorem UH {a b:az} (ha:isName a=true) (hb:isName b=true) (h1:a≠dG) (h2:b≠dG) (p:Pg):(p.swap a b).check=p.check:=by
 unfold Pg.check
 rw[uD ha hb h1 h2,I7 ha hb h1 h2,XS ha hb h1 h2,UG ha hb h1 h2]
end Go.Abs
namespace Go.Abs
mutual
def Sm.Hv (g:Sm→Sm):Sm→Sm
 |⟨id,kind,labels,name,proc,x,has,args,bb,aP⟩=> {g ⟨id,kind,labels,name,proc,x,has,args,bb,aP⟩with bb:=Sm.JT g bb,aP:=Sm.JT g aP}
def Sm.JT (g:Sm→Sm):List Sm→List Sm
 | []=> []
 |s::l=>s.Hv g::Sm.JT g l
end
def It.Hv (g:Sm→Sm) (i:It):It:= {i with s:=i.s.Hv g}
def Pc.Hv (g:Sm→Sm) (f:Pc):Pc:= {f with body:=Sm.JT g f.body}
def Pg.Hv (g:Sm→Sm) (p:Pg):Pg:= {p with procs:=p.procs.map (Pc.Hv g)}
def ay3 (t:Sm) (v:Sm):Sm:=if v.id==t.id then t else v
theorem Gp {qN fin:List az} : ∀ {l:List (Sm×Int)} {seen:List az},oH qN fin seen l=none↔pG seen (gu (l.map Prod.fst)++fin)=false∧∀ q∈l,oG qN q.1 q.2=true
 | [],seen=>by
  simp only[oH,List.map_nil,gu,List.nil_append,List.not_mem_nil,false_imp_iff,implies_true,and_true]
  rw[CN]
  cases pG seen fin<;>simp
 | (v,lp)::l,seen=>by
  simp only[oH,List.map_cons,gu,List.append_assoc]
  rw[CN,NZ v.labels]
  cases h:pG seen v.labels
  ·simp only [Bool.false_eq_true,if_false,if_true,Bool.false_or]
   cases h2:oG qN v lp
   ·simp only [Bool.false_eq_true,if_false,reduceCtorEq,false_iff,not_and]
    intro _ h3
    have:=h3 (v,lp) (List.mem_cons_self ..)
    rw[h2]at this;cases this
   ·simp only [if_true,Gp (l:=l),List.mem_cons]
    constructor
    ·rintro⟨h3,h4⟩
     refine⟨h3,fun q hq=>?_⟩
     rcases hq with rfl|hq
     ·exact h2
     ·exact h4 q hq
    ·rintro⟨h3,h4⟩
     exact⟨h3,fun q hq=>h4 q (.inr hq)⟩
  ·simp
theorem Gq : ∀ {l:List Pc},pI l=none↔∀ f∈l,fJ f.labels=false∧∀ q∈f.qs,oG f.labels q.1 q.2=true
 | []=>by simp[pI]
 | f::l=>by
  have e:oH f.labels f.fin [] f.qs=none↔fJ f.labels=false∧∀ q∈f.qs,oG f.labels q.1 q.2=true:=by
   rw[Gp,ab0];rfl
  simp only[pI,List.mem_cons]
  split
  ·rename_i id h
   simp only[reduceCtorEq,false_iff]
   intro h3
   rw[e.2 (h3 f (.inl rfl))]at h
   cases h
  ·rename_i h
   rw[Gq (l:=l)]
   constructor
   ·intro h3 g hg
    rcases hg with rfl|hg
    ·exact e.1 h
    ·exact h3 g hg
   ·exact fun h3 g hg=>h3 g (.inr hg)
structure Pg.Right (p:Pg):Prop where
 may:p.may=true
 tg:fJ p.globals=false
 tp:fJ p.pn=false
 main:p.p8=false
 own : ∀ f∈p.procs,fJ (p.globals++f.own)=false
 known : ∀ f∈p.procs,∀ v∈Sm.cL f.body,v.known p f p.pn=true
 qN : ∀ f∈p.procs,fJ f.labels=false
 leads : ∀ f∈p.procs,∀ q∈f.qs,oG f.labels q.1 q.2=true
 fits : ∀ v∈p.pre,(v.kind==4)=true→v.oD p=true
 single : ∀ v∈p.pre,(v.kind==4)=true→v.rK p=true
theorem AX {p:Pg} (h:(p.check.1==0)=true):p.Right:=by
 unfold Pg.check at h
 by_cases h1:(p.scope.1==0)=true
 ·rw [if_pos h1]at h
  by_cases h2:(p.arity.1==0)=true
  ·rw [if_pos h2]at h
   by_cases h3:(p.jump.1==0)=true
   ·rw [if_pos h3]at h
    obtain⟨k1,k2,k3,k4⟩:=ER h1
    have hj:pI p.procs=none:=by
     unfold Pg.jump at h3
     rw[if_pos h1]at h3
     cases e:pI p.procs with
     |none=>rfl
     |some id=>rw[e]at h3;cases h3
    rw[Gq]at hj
    exact⟨CC h1,k1,k2,k3,fun f hf=>(k4 f hf).1,fun f hf=>(k4 f hf).2,fun f hf=>(hj f hf).1,fun f hf=>(hj f hf).2,(LR h2).2,XO h2 h⟩
   ·rw[if_neg h3]at h;exact absurd h h3
  ·rw[if_neg h2]at h;exact absurd h h2
 ·rw[if_neg h1]at h;exact absurd h h1
def AtR (R:Int→Prop) (a:Int):Prop:=a = -1∨R a
theorem DC {R:Int→Prop} {l:List Sm} {o:Int} (h : ∀ v∈Sm.cL l,R v.id) (ho:AtR R o):AtR R (fp l o):=by
 cases l with
 |nil=>exact ho
 |cons s l=>exact .inr (h s (by rw[Sm.cL,Sm.nS];exact List.mem_append_left _ (List.mem_cons_self ..)))
mutual
theorem af2 {R:Int→Prop} (proc up next loop:Int) : ∀ s:Sm,(∀ v∈s.pre,R v.id)→AtR R next→(loop=0∨R loop)→
 ∀ x∈s.qB proc up next loop,x.proc=proc∧AtR R x.next∧(x.loop=0∨R x.loop)∧AtR R (fp x.s.bb (-1))∧AtR R (fp x.s.aP (-1))∧x.s∈s.pre
 | ⟨id,kind,labels,name,pc,x,has,args,bb,aP⟩,h,hn,hl,y,m=>by
  have vG:=h _ (by rw[Sm.nS];exact List.mem_cons_self ..)
  have h1 : ∀ v∈Sm.cL bb,R v.id:=fun v m=>h v (by rw[Sm.nS];exact List.mem_cons_of_mem _ (List.mem_append_left _ m))
  have h2 : ∀ v∈Sm.cL aP,R v.id:=fun v m=>h v (by rw[Sm.nS];exact List.mem_cons_of_mem _ (List.mem_append_right _ m))
  have rV:AtR R (if kind==6 then id else next):=by split;exact .inr vG;exact hn
  have mN:(if kind==6 then id else loop)=0∨R (if kind==6 then id else loop):=by split;exact .inr vG;exact hl
  rw[Sm.nS]
  simp only[Sm.qB,List.mem_cons,List.mem_append]at m
  rcases m with rfl|m|m
  ·exact⟨rfl,hn,hl,DC h1 (.inl rfl),DC h2 (.inl rfl),List.mem_cons_self ..⟩
  ·obtain⟨g1,g2,g3,g4,g5,g6⟩:=zN proc id _ _ bb h1 rV mN y m
   exact⟨g1,g2,g3,g4,g5,List.mem_cons_of_mem _ (List.mem_append_left _ g6)⟩
  ·obtain⟨g1,g2,g3,g4,g5,g6⟩:=zN proc id _ _ aP h2 rV mN y m
   exact⟨g1,g2,g3,g4,g5,List.mem_cons_of_mem _ (List.mem_append_right _ g6)⟩
theorem zN {R:Int→Prop} (proc up next loop:Int) : ∀ l:List Sm,(∀ v∈Sm.cL l,R v.id)→AtR R next→(loop=0∨R loop)→
 ∀ x∈Sm.iG proc up next loop l,x.proc=proc∧AtR R x.next∧(x.loop=0∨R x.loop)∧AtR R (fp x.s.bb (-1))∧AtR R (fp x.s.aP (-1))∧x.s∈Sm.cL l
 | [],_,_,_,x,m=>by simp[Sm.iG]at m
 | s::l,h,hn,hl,x,m=>by
  simp only[Sm.cL,List.mem_append]at h
  simp only[Sm.iG,List.mem_append]at m
  simp only[Sm.cL,List.mem_append]
  rcases m with m|m
  ·obtain⟨g1,g2,g3,g4,g5,g6⟩:=af2 proc up _ loop s (fun v m=>h v (.inl m)) (DC (fun v m=>h v (.inr m)) hn) hl x m
   exact⟨g1,g2,g3,g4,g5, .inl g6⟩
  ·obtain⟨g1,g2,g3,g4,g5,g6⟩:=zN proc up next loop l (fun v m=>h v (.inr m)) hn hl x m
   exact⟨g1,g2,g3,g4,g5, .inr g6⟩
end
theorem L1 {x:Im} : ∀ (l:List Pc) (k:Nat),x∈oE k l→∃ i f,l[i]? = some f∧x∈Sm.iG ((k+i:Nat):Int) 0 (-1) 0 f.body
 | [],_,h=>by simp[oE]at h
 | f::l,k,h=>by
  simp only[oE,List.mem_append]at h
  rcases h with h|h
  ·exact⟨0,f,rfl,h⟩
  ·obtain⟨i,g,h1,h2⟩:=L1 l (k+1) h
   exact⟨i+1,g,by simpa using h1,by rw[show k+(i+1)=k+1+i by omega];exact h2⟩
theorem L2 {x:Im} : ∀ (l:List Pc) (k:Nat) {i:Nat} {f:Pc},l[i]? = some f→x∈Sm.iG ((k+i:Nat):Int) 0 (-1) 0 f.body→x∈oE k l
 |f::l,k,0,g,h,m=>by simp at h;subst h;exact List.mem_append_left _ m
 |f::l,k,i+1,g,h,m=>List.mem_append_right _ (L2 l (k+1) (i:=i) (by simpa using h) (by rw[show k+1+i=k+(i+1) by omega];exact m))
theorem UI : ∀ (l:List Pc) (k:Nat),(oE k l).map Im.s=(l.map fun f=>Sm.cL f.body).flatten
 | [],_=>rfl
 |f::l,k=>by simp only[oE,List.map_append,sI,UI l,List.map_cons,List.flatten_cons]
theorem Ol {R:Int→Prop} {fin:List az} {Ig:az} : ∀ {l:List Sm},(∀ v∈l,R v.id)→(jk fin Ig l).2=true→AtR R (jk fin Ig l).1
 | [],_,h=>by
  simp only[jk]at h ⊢
  split at h
  ·rename_i c;rw[if_pos c];exact .inl rfl
  ·cases h
 | v::l,hv,h=>by
  simp only[jk]at h ⊢
  split
  ·exact .inr (hv v (List.mem_cons_self ..))
  ·rename_i c
   rw[if_neg c]at h
   exact Ol (fun w m=>hv w (List.mem_cons_of_mem _ m)) h
def Hm (L:List Im) (k:Int) (a:Int):Prop:=1≤a∧a≤(L.length:Int)∧(fa L a).proc=k
structure C2 (p:Pg) (L:List Im) (x:Im) (f:Pc):Prop where
 self:fa L x.s.id=x∧1≤x.s.id∧x.s.id≤(L.length:Int)
 proc:p.procs[x.proc.toNat]? = some f∧0≤x.proc
 mem:x.s∈Sm.cL f.body
 next:AtR (Hm L x.proc) x.next
 loop:x.s.kind=7∨x.s.kind=8→Hm L x.proc x.loop
 bb:AtR (Hm L x.proc) (fp x.s.bb (-1))
 aP:AtR (Hm L x.proc) (fp x.s.aP (-1))
 Hu:x.s.kind=10→AtR (Hm L x.proc) (jk f.fin x.s.name (Sm.cL f.body)).1
structure UJ (p:Pg) (L:List Im):Prop where
 im : ∀ x∈L,∃ f,C2 p L x f
 head : ∀ (i:Nat) (f:Pc),p.procs[i]? = some f→AtR (Hm L i) (fp f.body (-1))
theorem qb {p:Pg} (h:p.Right):UJ p p.bg.L:=by
 have hL:=CM h.may
 have hs:p.bg.L.map Im.s=p.pre:=by rw[hL,UI];rfl
 have hlen:p.bg.L.length=p.pre.length:=by rw[← hs,List.length_map]
 have self : ∀ x∈p.bg.L,fa p.bg.L x.s.id=x∧1≤x.s.id∧x.s.id≤(p.bg.L.length:Int):=fun x m=>by
  obtain⟨i,hi⟩:=List.getElem?_of_mem m
  have h1:=CA h.may (i:=i) (v:=x.s) (by rw[← hs,List.getElem?_map,hi];rfl)
  have h2:=(List.getElem?_eq_some_iff.1 hi).1
  refine⟨?_,by omega,by omega⟩
  unfold fa
  rw[h1,show(((i+1:Nat):Int) - 1).toNat=i by omega,List.getD_eq_getElem?_getD,hi];rfl
 have there : ∀ (i:Nat) (f:Pc),p.procs[i]? = some f→∀ v∈Sm.cL f.body,Hm p.bg.L i v.id:=fun i f hf v m=>by
  rw[← sI (i:Int) 0 (-1) 0 f.body]at m
  obtain⟨x,hx,rfl⟩:=List.mem_map.1 m
  have hxL:x∈p.bg.L:=by rw[hL];exact L2 p.procs 0 hf (by simpa using hx)
  obtain⟨g1,g2,g3⟩:=self x hxL
  exact⟨g2,g3,by rw[g1];exact(zN (R:=fun _=>True) _ 0 (-1) 0 f.body (fun _ _=>trivial) (.inl rfl) (.inl rfl) x hx).1⟩
 refine⟨fun x m=>?_,fun i f hf=>DC (there i f hf) (.inl rfl)⟩
 have m':=m
 rw[hL]at m'
 obtain⟨i,f,h1,h2⟩:=L1 p.procs 0 m'
 have hf:=List.mem_of_getElem? h1
 rw[Nat.zero_add]at h2
 obtain⟨g1,g2,g3,g4,g5,g6⟩:=zN (R:=Hm p.bg.L i) _ 0 (-1) 0 f.body (there i f h1) (.inl rfl) (.inl rfl) x h2
 have hl:=h.leads f hf (x.s,x.loop) (by rw[← LB (i:Int) f];exact List.mem_map.2 ⟨x,h2,rfl⟩)
 refine⟨f,self x m,⟨by rw[g1];simpa using h1,by rw[g1];exact Int.natCast_nonneg _⟩,g6,by rw[g1];exact g2,fun hk=>?_,by rw[g1];exact g4,by rw[g1];exact g5,fun hk=>?_⟩
 ·rw [g1]
  refine g3.resolve_left fun e=>?_
  unfold oG at hl
  rw[if_pos (by rcases hk with hk|hk<;>simp[hk]),e]at hl
  cases hl
 ·rw [g1]
  refine Ol (there i f h1) ?_
  unfold oG at hl
  rw[if_neg (by simp[hk]),if_pos (by simp[hk])]at hl
  rw[CO];exact hl
theorem Hm.at {L:List Im} {k a:Int} (h:AtR (Hm L k) a):oI L a:=h.imp_right fun h=>⟨h.1,h.2.1⟩
theorem UJ.lok {p:Pg} {L:List Im} (h:UJ p L):Bw p L:=by
 refine⟨fun x m=>?_,fun x m=>?_,fun x m hk=>?_,fun x m hk=>?_,fun x m=>?_,fun x m=>?_,fun f hf=>?_⟩
 ·obtain⟨f,o⟩:=h.im x m;exact o.self.2
 ·obtain⟨f,o⟩:=h.im x m;exact Hm.at o.next
 ·obtain⟨f,o⟩:=h.im x m;exact⟨(o.loop hk).1,(o.loop hk).2.1⟩
 ·obtain⟨f,o⟩:=h.im x m;exact⟨f,o.proc.1,Hm.at (o.Hu hk)⟩
 ·obtain⟨f,o⟩:=h.im x m;exact Hm.at o.bb
 ·obtain⟨f,o⟩:=h.im x m;exact Hm.at o.aP
 ·obtain⟨i,hi⟩:=List.getElem?_of_mem hf
  exact Hm.at (h.head i f hi)
theorem UK {p:Pg} (h:p.Right):Bw p p.bg.L:=(qb h).lok
theorem L3 {vars globals:List az} {n:az} : ∀ {l:List Pm},q8 vars globals n l≠0→n∈l.map (·.name)∨n∈vars∨n∈globals
 | [],h=>by
  simp only[q8]at h
  split at h
  ·rename_i e;exact .inr (.inl ((fP _ _).1 e))
  ·split at h
   ·rename_i e;exact .inr (.inr ((fP _ _).1 e))
   ·exact absurd rfl h
 | a::l,h=>by
  simp only[q8]at h
  split at h
  ·rename_i e;exact .inl (by simp only[List.map_cons,List.mem_cons];exact .inl (by simpa using Eq.symm (by simpa using e)))
  ·rcases L3 h with h | h
   ·exact .inl (List.mem_cons_of_mem _ h)
   ·exact .inr h
theorem XT {p:Pg} {f:Pc} {v:Sm} (h:v.known p f p.pn=true) {n:az} (m:n∈v.said):n∈p.globals++f.own:=by
 simp only[Sm.known,Bool.and_eq_true,Bool.not_eq_true']at h
 have h1:f.kp p n≠0:=fun e=>by
  have:v.said.any (fun n=>f.kp p n==0)=true:=List.any_eq_true.2 ⟨n,m,by simp[e]⟩
  rw[h.1]at this;cases this
 simp only[List.mem_append,Pc.own,Pc.sG]
 rcases L3 h1 with h2|h2|h2
 ·exact .inr (.inl h2)
 ·exact .inr (.inr h2)
 ·exact .inl h2
theorem vS {n:az} : ∀ {l:List Ar} {out:List az},n∈out∨(∃ a∈l,a.ref=true∧a.name=n)→n∈Ar.said out l
 | [],out,h=>by rcases h with h|⟨a,m,_⟩;exact h;cases m
 | b::l,out,h=>by
  simp only[Ar.said]
  refine vS ?_
  rcases h with h|⟨a,m,h1,h2⟩
  ·left;split<;>simp[h]
  ·rcases List.mem_cons.1 m with rfl | m
   ·left;rw[if_pos h1];simp[h2]
   ·exact .inr ⟨a,m,h1,h2⟩
theorem L4 {x:az} : ∀ {l:List az} {k:Nat},x∈l→∃ j:Nat,iF x (k:Int) l=((k+j:Nat):Int)∧j<l.length
 | s::l,k,m=>by
  by_cases e:x=s
  ·subst e;exact⟨0,by simp[iF],by simp⟩
  ·have e':(x==s)=false:=by simp [e]
   obtain⟨j,h1,h2⟩:=L4 (l:=l) (k:=k+1) ((List.mem_cons.1 m).resolve_left e)
   refine⟨j+1, ?_,by simp;omega⟩
   simp only[iF,e',Bool.false_eq_true,if_false]
   rw[show(k:Int)+1=((k+1:Nat):Int) by omega,h1];congr 1;omega
theorem JU {name:az} {f:Pc} : ∀ {l:List Pc} {k:Nat},iw name l=some f→∃ j:Nat,kJ (fun f:Pc=>f.name==name) (k:Int) l=((k+j:Nat):Int)∧l[j]? = some f
 | g::l,k,h=>by
  simp only[iw]at h
  by_cases e:(g.name==name)=true
  ·rw [if_pos e]at h;cases h
   exact⟨0,by simp only[kJ,e,if_true,Nat.add_zero],rfl⟩
  ·have e':(g.name==name)=false:=by simpa using e
   rw[if_neg e]at h
   obtain⟨j,h1,h2⟩:=JU (l:=l) (k:=k+1) h
   refine⟨j+1, ?_,by simpa using h2⟩
   simp only[kJ,e',Bool.false_eq_true,if_false]
   rw[show(k:Int)+1=((k+1:Nat):Int) by omega,h1];congr 1;omega
def E0 (p:Pg) (n:Nat) (fr:Fr):Prop:=∃ f,p.procs[fr.proc.toNat]? = some f∧0≤fr.proc∧fr.names=p.globals++f.own∧fr.vars.length=fr.names.length∧∀ c∈fr.vars,c<n
def DD (L:List Im):List Fr→Prop
 | []=>False
 | [fr]=>fr.call=0
 |fr::vB::l=>(Hm L vB.proc fr.call∧(fa L fr.call).s.kind=4)∧DD L (vB::l)
structure qc (p:Pg) (L:List Im) (a:Int) (m:Mc):Prop where
 st:DD L m.st
 fr : ∀ fr∈m.st,E0 p m.mem.length fr
 at_:AtR (Hm L m.top.proc) a
 ve:p.globals.length≤m.mem.length
theorem E0.mono {p:Pg} {n n':Nat} {fr:Fr} (h:E0 p n fr) (hn:n≤n'):E0 p n' fr:=by
 obtain⟨f,h1,h2,h3,h4,h5⟩:=h
 exact⟨f,h1,h2,h3,h4,fun c m=>Nat.lt_of_lt_of_le (h5 c m) hn⟩
theorem DD.ne {L:List Im} {l:List Fr} (h:DD L l) : ∃ fr r,l=fr::r:=by
 cases l with
 |nil=>exact h.elim
 |cons fr r=>exact⟨fr,r,rfl⟩
theorem Mc.ab6 {L:List Im} {m:Mc} (h:DD L m.st):m.top∈m.st:=by
 obtain⟨fr,r,e⟩:=h.ne
 simp[Mc.top,e]
theorem qc.of {p:Pg} {L:List Im} {a a':Int} {m m':Mc} (h:qc p L a m) (h1:m'.st=m.st) (h2:m.mem.length≤m'.mem.length) (h3:AtR (Hm L m.top.proc) a'):qc p L a' m':=by
 have ht:m'.top=m.top:=by unfold Mc.top;rw[h1]
 exact⟨by rw[h1];exact h.st,fun fr hf=>(h.fr fr (by rw[← h1];exact hf)).mono h2,by rw[ht];exact h3,Nat.le_trans h.ve h2⟩
end Go.Abs
